/- Statements whose order is drawn: operations that only look, in whatever order, between operations that come one behind the other: the text's order serves all orders. -/
import Derived.Test.YtjlnkihkabljbaaSxJ
set_option linter.unusedVariables false
set_option linter.unusedSimpArgs false
namespace Sx
open Go
section
variable {P : Program} {ops : Array Oper} {C : World → Prop} {big : Nat → Bool} {n : Nat}

def pureAt (P : Program) (o : Oper) (a : Act) (w : World) (v : Value) : Prop := (execOp a.eval o).run P w = .ok (.value v) w ∨ ((execOp a.eval o).run P w = .ok .skip w ∧ v = undef)
theorem pureAt_one {o : Oper} {a : Act} {w : World} {v v' : Value} (h : pureAt P o a w v) (h' : pureAt P o a w v') : v = v' := by
  rcases h with h | ⟨h, rfl⟩ <;> rcases h' with h' | ⟨h', rfl⟩ <;> rw [h] at h' <;> cases h' <;> rfl
def bigUpon (P : Program) (next : Value → World → Prop) : Result Next → Prop
  | .ok (.value v) w' => next v w'
  | .ok .skip w' => next undef w'
  | .ok (.enter f args) w' => Calls P f args w' fun e w'' => ∃ v, e = .returned v ∧ next v w''
  | _ => False
def bigAt (P : Program) (o : Oper) (a : Act) (w : World) (next : Value → World → Prop) : Prop := bigUpon P next ((execOp a.eval o).run P w)
theorem bigAt_mono {o : Oper} {a : Act} {w : World} {N N' : Value → World → Prop} (h : bigAt P o a w N) (hn : ∀ v w', N v w' → N' v w') : bigAt P o a w N' := by
  unfold bigAt at *
  generalize (execOp a.eval o).run P w = r at *
  cases r with
  | ok x w' =>
    cases x <;> simp only [bigUpon] at h ⊢
    case value v => exact hn _ _ h
    case skip => exact hn _ _ h
    case enter f args => exact h.mono fun e w'' ⟨v, he, hv⟩ => ⟨v, he, hn _ _ hv⟩
  | halt x w' => simp only [bigUpon] at h
theorem bigAt_some {o : Oper} {a : Act} {w : World} {N : Value → World → Prop} (h : bigAt P o a w N) : ∃ v w', N v w' := by
  unfold bigAt at *
  generalize (execOp a.eval o).run P w = r at *
  cases r with
  | ok x w' =>
    cases x <;> simp only [bigUpon] at h
    case value v => exact ⟨_, _, h⟩
    case skip => exact ⟨_, _, h⟩
    case enter f args =>
      obtain ⟨e, w'', fr, ⟨v, _, hv⟩, _⟩ := h []
      exact ⟨v, w'', hv⟩
  | halt x w' => simp only [bigUpon] at h
theorem bigAt_wp {o : Oper} {a : Act} {w : World} {K : Act → World → Prop} {Q : Exit → Act → World → Prop} (h : bigAt P o a w fun v w' => K (a.put o.dst v) w') : o.wp P a w K Q := by
  unfold bigAt at h
  unfold Oper.wp
  generalize (execOp a.eval o).run P w = r at *
  cases r with
  | ok x w' =>
    cases x <;> simp only [bigUpon] at h <;> simp only [Oper.upon]
    case value v => exact h
    case skip => exact h
    case enter f args => exact h.mono fun e w'' ⟨v, he, hv⟩ => by subst he; exact hv
  | halt x w' => simp only [bigUpon] at h

/-- Operation number i comes up. -/
def mOp (P : Program) (ops : Array Oper) (C : World → Prop) (big : Nat → Bool) (i : Nat) (K : Act → World → Prop) (a : Act) (w : World) : Prop :=
  match ops[i]? with
  | none => False
  | some o => if Region.wanted o (yielded ops a.tmps) then
      (if big i then bigAt P o a w (fun v w' => C w' ∧ K (a.put o.dst v) w') else ∃ v, (∀ w', C w' → pureAt P o a w' v) ∧ K (a.put o.dst v) w)
    else K (a.put o.dst undef) w
theorem mOp_mono {i : Nat} {K K' : Act → World → Prop} {a : Act} {w : World} (h : mOp P ops C big i K a w) (hk : ∀ a w, K a w → K' a w) : mOp P ops C big i K' a w := by
  unfold mOp at *
  split at h
  · exact h.elim
  · split at h
    · rename_i hw
      rw [if_pos hw]
      split at h
      · rename_i hb; rw [if_pos hb]; exact bigAt_mono h fun v w' ⟨h1, h2⟩ => ⟨h1, hk _ _ h2⟩
      · rename_i hb; rw [if_neg hb]; obtain ⟨v, h1, h2⟩ := h; exact ⟨v, h1, hk _ _ h2⟩
    · rename_i hw; rw [if_neg hw]; exact hk _ _ h
def wpM (P : Program) (ops : Array Oper) (C : World → Prop) (big : Nat → Bool) (n : Nat) (L : Array Bool → Act → World → Prop) : Nat → Array Bool → Act → World → Prop
  | 0, listed, a, w => L listed a w
  | f + 1, listed, a, w => Region.ready .any ops listed ≠ [] ∧ ∀ i ∈ Region.ready .any ops listed, i < n ∧ mOp P ops C big i (wpM P ops C big n L f (listed.setIfInBounds i true)) a w
theorem wpAny_of_wpM {g : Nat} {L : Array Bool → Act → World → Prop} {Q : Exit → Act → World → Prop} (hL : ∀ listed a w, C w → L listed a w → wpAny P .any ops Q g listed a w) :
    ∀ (f : Nat) (listed : Array Bool) (a : Act) (w : World), C w → wpM P ops C big n L f listed a w → wpAny P .any ops Q (f + g) listed a w
  | 0, listed, a, w, hc, h => by rw [Nat.zero_add]; exact hL _ _ _ hc h
  | f + 1, listed, a, w, hc, h => by
    rw [show f + 1 + g = (f + g) + 1 by omega]
    refine ⟨fun h0 => absurd h0 h.1, fun i hi => ?_⟩
    have h1 := (h.2 i hi).2
    unfold mOp at h1
    unfold wpOp
    split at h1
    · exact h1.elim
    · rename_i ho
      simp only [ho]
      split at h1
      · rename_i hw
        rw [if_pos hw]
        left
        split at h1
        · exact bigAt_wp (bigAt_mono h1 fun v w' ⟨h2, h3⟩ => wpAny_of_wpM hL f _ _ _ h2 h3)
        · obtain ⟨v, h2, h3⟩ := h1
          have := wpAny_of_wpM hL f _ _ _ hc h3
          unfold Oper.wp
          rcases h2 w hc with h4 | ⟨h4, rfl⟩
          · rw [h4, Oper.upon_value]; exact this
          · rw [h4, Oper.upon_skip]; exact this
      · rename_i hw; rw [if_neg hw]; exact wpAny_of_wpM hL f _ _ _ hc h1
/-- What is known of an operation that only looks, or is passed over. -/
def Yl (P : Program) (ops : Array Oper) (C : World → Prop) (o : Oper) (v : Value) (a : Act) : Prop :=
  (Region.wanted o (yielded ops a.tmps) = true ∧ ∀ w', C w' → pureAt P o a w' v) ∨ (Region.wanted o (yielded ops a.tmps) = false ∧ v = undef)
theorem Yl.of_same {o : Oper} {v : Value} {a a' : Act} (hy : Yl P ops C o v a) (he : execOp a'.eval o = execOp a.eval o)
    (hw : Region.wanted o (yielded ops a'.tmps) = Region.wanted o (yielded ops a.tmps)) : Yl P ops C o v a' := by
  unfold Yl pureAt at *
  rw [he, hw]; exact hy
theorem Yl.mOp {i : Nat} {o : Oper} {v : Value} {a : Act} {w : World} (hi : ops[i]? = some o) (hy : Yl P ops C o v a) (hb : big i = false ∨ Region.wanted o (yielded ops a.tmps) = false) {K : Act → World → Prop} (h : K (a.put o.dst v) w) :
    mOp P ops C big i K a w := by
  unfold Sx.mOp
  simp only [hi]
  rcases hy with ⟨hw, hv⟩ | ⟨hw, rfl⟩
  · rcases hb with hb | hb
    · rw [if_pos hw, if_neg (by simp [hb])]; exact ⟨v, hv, h⟩
    · rw [hw] at hb; cases hb
  · rw [if_neg (by simp [hw])]; exact h
theorem yl_of_mOp {i : Nat} {o : Oper} {a : Act} {w : World} {K : Act → World → Prop} (hi : ops[i]? = some o) (hb : big i = false ∨ Region.wanted o (yielded ops a.tmps) = false) (h : mOp P ops C big i K a w) : ∃ v, Yl P ops C o v a ∧ K (a.put o.dst v) w := by
  unfold mOp at h
  simp only [hi] at h
  by_cases hw : Region.wanted o (yielded ops a.tmps) = true
  · rcases hb with hb | hb
    · rw [if_pos hw, if_neg (by simp [hb])] at h
      obtain ⟨v, h1, h2⟩ := h
      exact ⟨v, .inl ⟨hw, h1⟩, h2⟩
    · rw [hw] at hb; cases hb
  · rw [if_neg hw] at h
    exact ⟨undef, .inr ⟨by simpa using hw, rfl⟩, h⟩
theorem mOp_put {j : Nat} {oi oj : Oper} {v : Value} (hj : ops[j]? = some oj) (hap : oi.apart ops oj = true) (hsi : ∀ cs b, oi.op ≠ .select cs b) (hsj : ∀ cs b, oj.op ≠ .select cs b)
    {K : Act → World → Prop} {a : Act} {w : World} (hy : Yl P ops C oi v a) (h : mOp P ops C big j K (a.put oi.dst v) w) :
    mOp P ops C big j (fun a' w' => Yl P ops C oi v a' ∧ Region.wanted oi (yielded ops a'.tmps) = Region.wanted oi (yielded ops a.tmps) ∧ K (a'.put oi.dst v) w') a w := by
  obtain ⟨h1, h2, h3⟩ := Oper.apart_spec hap
  have keep : ∀ u, Yl P ops C oi v (a.put oj.dst u) := fun u => hy.of_same (execOp_put oi hsi a oj.dst u h3) (wanted_put oi a oj.dst u h3)
  have want : ∀ u, Region.wanted oi (yielded ops (a.put oj.dst u).tmps) = Region.wanted oi (yielded ops a.tmps) := fun u => wanted_put oi a oj.dst u h3
  unfold mOp at *
  simp only [hj] at *
  rw [wanted_put oj a oi.dst v h1] at h
  split
  · rename_i hw
    rw [if_pos hw] at h
    split
    · rename_i hb
      rw [if_pos hb] at h
      unfold bigAt at h
      rw [execOp_put oj hsj a oi.dst v h1] at h
      exact bigAt_mono h fun u w' ⟨hc, hk⟩ => ⟨hc, keep u, want u, by rw [← Act.put_comm a v u h2]; exact hk⟩
    · rename_i hb
      rw [if_neg hb] at h
      obtain ⟨u, hu, hk⟩ := h
      refine ⟨u, fun w' hw' => ?_, keep u, want u, by rw [← Act.put_comm a v u h2]; exact hk⟩
      have := hu w' hw'
      unfold pureAt at *
      rwa [execOp_put oj hsj a oi.dst v h1] at this
  · rename_i hw
    rw [if_neg hw] at h
    exact ⟨keep _, want _, by rw [← Act.put_comm a v undef h2]; exact h⟩
theorem tailB_spec (h : tailB ops n = true) {listed : Array Bool} {i : Nat} (hi : i < n) (hun : listed.getD i true = false) : ∀ j ∈ Region.ready .any ops listed, j < n := by
  intro j hj
  rcases Nat.lt_or_ge j n with hlt | hge
  · exact hlt
  · obtain ⟨_, oj, hoj, hall⟩ := mem_ready.1 hj
    have hjs : j < ops.size := (Array.getElem?_eq_some_iff.1 hoj).1
    have h1 := List.all_eq_true.1 h j (List.mem_range.2 hjs)
    simp only [Bool.or_eq_true, Nat.blt_eq] at h1
    rcases h1 with h1 | h1
    · omega
    · obtain ⟨o', ho', e, he, hb, hon⟩ := Region.waitsFor_spec (List.all_eq_true.1 h1 i (List.mem_range.2 hi))
      have : o' = oj := Option.some.inj (ho'.symm.trans hoj)
      subst this
      have h2 := hall e he hb
      rw [hon, getD_both hun] at h2
      cases h2
/-- A quiet operation may be taken first. -/
theorem wpM_quiet {L : Array Bool → Act → World → Prop} (hL : ∀ listed a w, L listed a w → ∀ j ∈ Region.ready .any ops listed, n ≤ j) (ht : tailB ops n = true) (hsel : ∀ (j : Nat) (o : Oper) cs b, ops[j]? = some o → o.op ≠ .select cs b)
    {i : Nat} {oi : Oper} {v : Value} (hi : ops[i]? = some oi) (hin : i < n) :
    ∀ (f : Nat) (listed : Array Bool) (a : Act) (w : World),
      (∀ j oj, ops[j]? = some oj → j ≠ i → listed.getD j true = false → (∀ e ∈ oj.after, Region.binds .any e = true → e.on ≠ i) → oi.apart ops oj = true) →
      i ∈ Region.ready .any ops listed → Yl P ops C oi v a → (big i = false ∨ Region.wanted oi (yielded ops a.tmps) = false) →
      wpM P ops C big n L f (listed.setIfInBounds i true) (a.put oi.dst v) w → wpM P ops C big n L (f + 1) listed a w := by
  intro f
  induction f with
  | zero =>
    intro listed a w _ hr hy hb H
    have hun := (mem_ready.1 hr).1
    refine ⟨fun h => (by rw [h] at hr; cases hr), fun j hj => ?_⟩
    have hjn := tailB_spec ht hin hun j hj
    refine ⟨hjn, ?_⟩
    by_cases hji : j = i
    · subst hji; exact hy.mOp hi hb H
    · have := hL _ _ _ H j (ready_mono hj hji)
      omega
  | succ f ih =>
    intro listed a w hfree hr hy hb H
    have hun := (mem_ready.1 hr).1
    refine ⟨fun h => (by rw [h] at hr; cases hr), fun j hj => ?_⟩
    have hjn := tailB_spec ht hin hun j hj
    refine ⟨hjn, ?_⟩
    by_cases hji : j = i
    · subst hji; exact hy.mOp hi hb H
    · have h1 := (H.2 j (ready_mono hj hji)).2
      obtain ⟨hjun, oj, hoj, hall⟩ := mem_ready.1 hj
      have hnot : ∀ e ∈ oj.after, Region.binds .any e = true → e.on ≠ i := fun e he hbb heq => by
        have h1 := hall e he hbb
        rw [heq, getD_both hun] at h1
        cases h1
      have h2 := mOp_put hoj (hfree j oj hoj hji hjun hnot) (fun cs b => hsel i oi cs b hi) (fun cs b => hsel j oj cs b hoj) hy h1
      have hfree' : ∀ k ok, ops[k]? = some ok → k ≠ i → (listed.setIfInBounds j true).getD k true = false →
          (∀ e ∈ ok.after, Region.binds .any e = true → e.on ≠ i) → oi.apart ops ok = true := fun k ok hk hki hun hno => by
        refine hfree k ok hk hki ?_ hno
        by_cases hjk : j = k
        · subst hjk; exact hjun
        · rw [getD_set_ne true hjk] at hun; exact hun
      refine mOp_mono h2 fun a' w' h3 => ih (listed.setIfInBounds j true) a' w' hfree' (ready_mono hr (Ne.symm hji)) h3.1 (hb.imp id fun hb => by rw [h3.2.1]; exact hb) ?_
      rw [Array.setIfInBounds_comm _ _ hji]
      exact h3.2.2
/-- So may one of those that come one behind the other, if none ahead of it is left. -/
theorem wpM_big {L : Array Bool → Act → World → Prop} (hL : ∀ listed a w, L listed a w → ∀ j ∈ Region.ready .any ops listed, n ≤ j) (ht : tailB ops n = true) (hsel : ∀ (j : Nat) (o : Oper) cs b, ops[j]? = some o → o.op ≠ .select cs b)
    {i : Nat} {oi : Oper} (hi : ops[i]? = some oi) (hin : i < n) (hbi : big i = true) :
    ∀ (f : Nat) (listed : Array Bool) (a : Act) (w : World), HeadInv .any ops n listed →
      (∀ listed', HeadInv .any ops n listed' → (∀ k, listed.getD k false = true → listed'.getD k false = true) → listed'.getD i true = false → ∀ j ∈ Region.ready .any ops listed', j ≠ i → big j = false) →
      (∀ j oj, ops[j]? = some oj → j ≠ i → listed.getD j true = false → (∀ e ∈ oj.after, Region.binds .any e = true → e.on ≠ i) → oi.apart ops oj = true) →
      i ∈ Region.ready .any ops listed → Region.wanted oi (yielded ops a.tmps) = true →
      bigAt P oi a w (fun u w' => C w' ∧ wpM P ops C big n L f (listed.setIfInBounds i true) (a.put oi.dst u) w') → wpM P ops C big n L (f + 1) listed a w := by
  intro f
  induction f with
  | zero =>
    intro listed a w inv _ _ hr hw H
    have hun := (mem_ready.1 hr).1
    refine ⟨fun h => (by rw [h] at hr; cases hr), fun j hj => ?_⟩
    have hjn := tailB_spec ht hin hun j hj
    refine ⟨hjn, ?_⟩
    by_cases hji : j = i
    · subst hji; unfold mOp; simp only [hi]; rw [if_pos hw, if_pos hbi]; exact H
    · obtain ⟨u, w', _, h1⟩ := bigAt_some H
      have := hL _ _ _ h1 j (ready_mono hj hji)
      omega
  | succ f ih =>
    intro listed a w inv hbig hfree hr hw H
    have hun := (mem_ready.1 hr).1
    refine ⟨fun h => (by rw [h] at hr; cases hr), fun j hj => ?_⟩
    have hjn := tailB_spec ht hin hun j hj
    refine ⟨hjn, ?_⟩
    by_cases hji : j = i
    · subst hji; unfold mOp; simp only [hi]; rw [if_pos hw, if_pos hbi]; exact H
    · obtain ⟨hjun, oj, hoj, hall⟩ := mem_ready.1 hj
      have hbj : big j = false := hbig listed inv (fun _ h => h) hun j hj hji
      have hnot : ∀ e ∈ oj.after, Region.binds .any e = true → e.on ≠ i := fun e he hbb heq => by
        have h1 := hall e he hbb
        rw [heq, getD_both hun] at h1
        cases h1
      obtain ⟨a1, a2, a3⟩ := Oper.apart_spec (hfree j oj hoj hji hjun hnot)
      have hsj : ∀ cs b, oj.op ≠ .select cs b := fun cs b => hsel j oj cs b hoj
      have hsi : ∀ cs b, oi.op ≠ .select cs b := fun cs b => hsel i oi cs b hi
      -- what j yields behind i it yields ahead of it
      have back : ∀ u v, Yl P ops C oj v (a.put oi.dst u) → Yl P ops C oj v a := fun u v hy => hy.of_same (execOp_put oj hsj a oi.dst u a1).symm (wanted_put oj a oi.dst u a1).symm
      obtain ⟨u0, w0, hc0, hk0⟩ := bigAt_some H
      obtain ⟨v, hy0, _⟩ := yl_of_mOp hoj (.inl hbj) (hk0.2 j (ready_mono hj hji)).2
      have hy := back u0 v hy0
      refine hy.mOp hoj (.inl hbj) ?_
      have hfree' : ∀ k ok, ops[k]? = some ok → k ≠ i → (listed.setIfInBounds j true).getD k true = false →
          (∀ e ∈ ok.after, Region.binds .any e = true → e.on ≠ i) → oi.apart ops ok = true := fun k ok hk hki hun hno => by
        refine hfree k ok hk hki ?_ hno
        by_cases hjk : j = k
        · subst hjk; exact hjun
        · rw [getD_set_ne true hjk] at hun; exact hun
      refine ih (listed.setIfInBounds j true) (a.put oj.dst v) w (inv.set hj hjn) (fun l' i1 i2 i3 => hbig l' i1 (fun k hk => i2 k (getD_set_true hk)) i3) hfree' (ready_mono hr (Ne.symm hji)) (by rw [wanted_put oi a oj.dst v a3]; exact hw) ?_
      unfold bigAt
      rw [execOp_put oi hsi a oj.dst v a3]
      refine bigAt_mono H fun u w' ⟨hc, hk⟩ => ⟨hc, ?_⟩
      obtain ⟨v', hy', hk'⟩ := yl_of_mOp hoj (.inl hbj) (hk.2 j (ready_mono hj hji)).2
      have hy' := back u v' hy'
      have : v = v' := by
        rcases hy with ⟨h1, h2⟩ | ⟨h1, rfl⟩ <;> rcases hy' with ⟨h3, h4⟩ | ⟨h3, rfl⟩
        · exact pureAt_one (h2 w' hc) (h4 w' hc)
        · rw [h1] at h3; cases h3
        · rw [h1] at h3; cases h3
        · rfl
      subst this
      rw [Array.setIfInBounds_comm _ _ hji, ← Act.put_comm a u v a2]
      exact hk'
/-! ### The text's order -/
def mList (P : Program) (ops : Array Oper) (C : World → Prop) (big : Nat → Bool) (N : Act → World → Prop) : Nat → Nat → Act → World → Prop
  | 0, _, a, w => N a w
  | m + 1, k, a, w => mOp P ops C big k (mList P ops C big N m (k + 1)) a w
theorem reach_listed {listed : Array Bool} (inv : HeadInv .any ops n listed) {i : Nat} : ∀ (f j : Nat), reach ops f i j = true → (∀ oj, ops[j]? = some oj → ∀ e ∈ oj.after, Region.binds .any e = true → listed.getD e.on false = true) → listed.getD i false = true
  | 0, j, h, _ => by simp [reach] at h
  | f + 1, j, h, hl => by
    simp only [reach] at h
    split at h
    · rename_i oj hoj
      obtain ⟨e, he, h1⟩ := List.any_eq_true.1 h
      simp only [Bool.and_eq_true, Bool.or_eq_true] at h1
      have hle := hl oj hoj e (by simpa using he) h1.1
      rcases h1.2 with h2 | h2
      · rw [← nbt h2]; exact hle
      · exact reach_listed inv f e.on h2.2 fun ok hok e' he' hb' => inv.closed e.on ok hok hle e' he' hb'
    · cases h
theorem seqN_ready {g k : Nat} {listed : Array Bool} (h : Region.seqB .any ops g k listed = true) : ∀ j ∈ Region.ready .any ops listed, k ≤ j := seqB_ready h
theorem wpM_lex {g : Nat} {N : Act → World → Prop} (hsel : Region.noSelect ops = true) (ht : tailB ops n = true) (hline : lineB ops n big = true) :
    ∀ (m k : Nat) (listed : Array Bool) (a : Act) (w : World), k + m = n → HeadInv .any ops n listed → (∀ j, j < k → listed.getD j false = true) → lexN ops g m k listed = true → mList P ops C big N m k a w →
      wpM P ops C big n (fun l' a' w' => Region.seqB .any ops g n l' = true ∧ N a' w') m listed a w
  | 0, k, listed, a, w, hk, inv, hdone, hB, h => by
    have : k = n := by simpa using hk
    subst this
    exact ⟨by simpa [lexN] using hB, h⟩
  | m + 1, k, listed, a, w, hk, inv, hdone, hB, h => by
    simp only [lexN, Bool.and_eq_true] at hB
    obtain ⟨⟨hr, hf⟩, hB'⟩ := hB
    have hr' : k ∈ Region.ready .any ops listed := by simpa using hr
    have hkn : k < n := by omega
    obtain ⟨_, o, ho, _⟩ := mem_ready.1 hr'
    have hL : ∀ (l' : Array Bool) (a' : Act) (w' : World), (Region.seqB .any ops g n l' = true ∧ N a' w') → ∀ j ∈ Region.ready .any ops l', n ≤ j := fun l' a' w' h => seqB_ready h.1
    have hdone' : ∀ j, j < k + 1 → (listed.setIfInBounds k true).getD j false = true := by
      intro j hj
      by_cases e : j = k
      · subst e
        have : j < listed.size := by rw [inv.size]; exact (Array.getElem?_eq_some_iff.1 ho).1
        simp [this]
      · exact getD_set_true (hdone j (by omega))
    have rest : ∀ a' w', mList P ops C big N m (k + 1) a' w' → wpM P ops C big n (fun l' a' w' => Region.seqB .any ops g n l' = true ∧ N a' w') m (listed.setIfInBounds k true) a' w' :=
      fun a' w' h' => wpM_lex hsel ht hline m (k + 1) _ a' w' (by omega) (inv.set hr' hkn) hdone' hB' h'
    simp only [mList] at h
    by_cases hq : big k = false ∨ Region.wanted o (yielded ops a.tmps) = false
    · obtain ⟨v, hy, hK⟩ := yl_of_mOp ho hq h
      exact wpM_quiet hL ht (Region.noSelect_spec hsel) ho hkn m listed a w (Region.free_spec ho hf) hr' hy hq (rest _ _ hK)
    · have hb : big k = true := by
        cases hb : big k with
        | true => rfl
        | false => exact absurd (.inl hb) hq
      have hw : Region.wanted o (yielded ops a.tmps) = true := by
        cases hw : Region.wanted o (yielded ops a.tmps) with
        | true => rfl
        | false => exact absurd (.inr hw) hq
      unfold mOp at h
      simp only [ho] at h
      rw [if_pos hw, if_pos hb] at h
      refine wpM_big hL ht (Region.noSelect_spec hsel) ho hkn hb m listed a w inv ?_ (Region.free_spec ho hf) hr' hw (bigAt_mono h fun u w' ⟨hc, hk'⟩ => ⟨hc, rest _ _ hk'⟩)
      intro l' inv' hsub hun j hj hji
      cases hbj : big j with
      | false => rfl
      | true =>
        exfalso
        have hjn := tailB_spec ht hkn hun j hj
        obtain ⟨hjun, oj, hoj, hall⟩ := mem_ready.1 hj
        rcases Nat.lt_or_ge j k with hlt | hge
        · have := hsub j (hdone j hlt)
          rw [getD_both hjun] at this
          cases this
        · have h1 := List.all_eq_true.1 hline j (List.mem_range.2 hjn)
          simp only [hbj, Bool.not_true, Bool.false_or] at h1
          have h2 := List.all_eq_true.1 h1 k (List.mem_range.2 (by omega))
          simp only [hb, Bool.not_true, Bool.false_or] at h2
          have h3 := reach_listed inv' ops.size j h2 fun ok hok e he hbe => by
            have : ok = oj := Option.some.inj (hok.symm.trans hoj)
            subst this
            exact hall e he hbe
          rw [getD_both hun] at h3
          cases h3
/-- A statement whose order is drawn, from its text's order. -/
theorem wp_region_mix {id : Nat} {Q : Exit → Act → World → Prop} {a : Act} {w : World} (hm : P.follows .mixedOrders = true) (hB : mixB ops n big = true) (hC : C { w with drawn := w.drawn + 1 })
    (h : mList P ops C big (fun a' w' => wpList P ops Q (ops.toList.drop n) a' w') n 0 a { w with drawn := w.drawn + 1 }) : (Code.region id ops true).wp P Q a w := by
  simp only [mixB, Bool.and_eq_true] at hB
  obtain ⟨⟨⟨⟨hsel, hn⟩, ht⟩, hline⟩, hlex⟩ := hB
  have hn' : n ≤ ops.size := Nat.le_of_ble_eq_true hn
  have inv0 : HeadInv .any ops n (Array.replicate ops.size false) :=
    ⟨by simp, fun j oj _ hl => (by rw [getD_replicate_false] at hl; cases hl), fun t _ ht => getD_in (by simpa using ht) (getD_replicate_false _ _)⟩
  have h1 := wpM_lex (g := ops.size - n) hsel ht hline n 0 _ a _ (by omega) inv0 (by omega) hlex h
  refine wp_region_any hm ?_
  have h2 := wpAny_of_wpM (g := ops.size - n) (Q := Q) (L := fun l' a' w' => Region.seqB .any ops (ops.size - n) n l' = true ∧ wpList P ops Q (ops.toList.drop n) a' w') (fun listed a' w' _ hl => by
    have hlen : (ops.toList.drop n).length = ops.size - n := by simp
    rw [← hlen]
    exact wpAny_of_seq (ops.toList.drop n) n listed a' w' (fun j => by simp) (by rw [hlen]; exact hl.1) hl.2) n _ a _ hC h1
  rw [show n + (ops.size - n) = ops.size by omega] at h2
  exact h2
end
end Sx
