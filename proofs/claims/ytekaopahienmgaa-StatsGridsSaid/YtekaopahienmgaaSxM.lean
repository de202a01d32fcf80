/- Statements whose order is drawn: operations that only look, in whatever order, between operations that come one behind the other: the text's order serves all orders. -/
import Derived.Test.YtekaopahienmgaaSxJ
set_option linter.unusedVariables false
set_option linter.unusedSimpArgs false
namespace Sx
open Go
section
variable {P : Program} {ops : Array Oper} {C : World → Prop} {PN : List PanicEntry → Act → World → Prop} {big wr rd : Nat → Bool} {n : Nat}

def pureAt (P : Program) (o : Oper) (a : Act) (w : World) (v : Value) : Prop := (execOp a.eval o).run P w = .ok (.value v) w ∨ ((execOp a.eval o).run P w = .ok .skip w ∧ v = undef)
theorem pureAt_one {o : Oper} {a : Act} {w : World} {v v' : Value} (h : pureAt P o a w v) (h' : pureAt P o a w v') : v = v' := by
  rcases h with h | ⟨h, rfl⟩ <;> rcases h' with h' | ⟨h', rfl⟩ <;> rw [h] at h' <;> cases h' <;> rfl
/-- What an operation does that is no call by value. -/
def bigUpon (P : Program) (pan : List PanicEntry → World → Prop) (next : Value → World → Prop) : Result Next → Prop
  | .ok (.value v) w' => next v w'
  | .ok .skip w' => next undef w'
  | .ok (.enter f args) w' => Calls P f args w' fun e w'' => match e with | .returned v => next v w'' | .panicked c => pan c w'' | .outgrown => False
  | .halt (.panic v) w' => pan [{ v, recovered := false }] w'
  | _ => False
def bigAt (P : Program) (PN : List PanicEntry → Act → World → Prop) (o : Oper) (a : Act) (w : World) (next : Value → World → Prop) : Prop := bigUpon P (fun c w' => PN c a w') next ((execOp a.eval o).run P w)
theorem bigUpon_mono {p p' : List PanicEntry → World → Prop} {N N' : Value → World → Prop} {r : Result Next} (h : bigUpon P p N r) (hn : ∀ v w', N v w' → N' v w') (hp : ∀ c w', p c w' → p' c w') : bigUpon P p' N' r := by
  cases r with
  | ok x w' =>
    cases x <;> simp only [bigUpon] at h ⊢
    case value v => exact hn _ _ h
    case skip => exact hn _ _ h
    case enter f args =>
      refine h.mono fun e w'' hq => ?_
      cases e with
      | returned v => exact hn _ _ hq
      | panicked c => exact hp _ _ hq
      | outgrown => exact hq
  | halt x w' => cases x <;> first | exact h.elim | exact hp _ _ h
theorem bigAt_mono {PN : List PanicEntry → Act → World → Prop} {o : Oper} {a : Act} {w : World} {N N' : Value → World → Prop} (h : bigAt P PN o a w N) (hn : ∀ v w', N v w' → N' v w') : bigAt P PN o a w N' := bigUpon_mono h hn fun _ _ h => h
theorem bigAt_wp {PN : List PanicEntry → Act → World → Prop} {o : Oper} {a : Act} {w : World} {K : Act → World → Prop} {Q : Exit → Act → World → Prop} (hQ : ∀ c a w, PN c a w → Q (.panic c) a w)
    (h : bigAt P PN o a w fun v w' => K (a.put o.dst v) w') : o.wp P a w K Q := by
  unfold bigAt at h
  unfold Oper.wp
  generalize (execOp a.eval o).run P w = r at *
  cases r with
  | ok x w' =>
    cases x <;> simp only [bigUpon] at h <;> simp only [Oper.upon]
    case value v => exact h
    case skip => exact h
    case enter f args =>
      refine h.mono fun e w'' hq => ?_
      cases e with
      | returned v => exact hq
      | panicked c => exact hQ _ _ _ hq
      | outgrown => exact hq.elim
  | halt x w' => cases x <;> first | exact h.elim | exact hQ _ _ _ h

/-- Operation number i comes up. -/
def mOp (P : Program) (ops : Array Oper) (C : World → Prop) (PN : List PanicEntry → Act → World → Prop) (big wr rd : Nat → Bool) (i : Nat) (K : Act → World → Prop) (a : Act) (w : World) : Prop :=
  match ops[i]? with
  | none => False
  | some o => if Region.wanted o (yielded ops a.tmps) then
      (if big i then bigAt P PN o a w (fun v w' => (wr i = false → C w') ∧ K (a.put o.dst v) w') else ∃ v, (∀ w', (rd i = true → C w') → pureAt P o a w' v) ∧ K (a.put o.dst v) w)
    else K (a.put o.dst undef) w
theorem mOp_mono {i : Nat} {K K' : Act → World → Prop} {a : Act} {w : World} (h : mOp P ops C PN big wr rd i K a w) (hk : ∀ a w, K a w → K' a w) : mOp P ops C PN big wr rd i K' a w := by
  unfold mOp at *
  split at h
  · exact h.elim
  · split at h
    · rename_i hw
      rw [if_pos hw]
      split at h
      · rename_i hb; rw [if_pos hb]; exact bigAt_mono h fun v w' ⟨h1, h2⟩ => ⟨h1, hk _ _ h2⟩
      · rename_i hb; rw [if_neg hb]; obtain ⟨v, h1, h2⟩ := h; exact ⟨v, h1, hk _ _ h2⟩
    · rename_i hw; rw [if_neg hw]; exact hk _ _ h
def wpM (P : Program) (ops : Array Oper) (C : World → Prop) (PN : List PanicEntry → Act → World → Prop) (big wr rd : Nat → Bool) (n : Nat) (L : Array Bool → Act → World → Prop) : Nat → Array Bool → Act → World → Prop
  | 0, listed, a, w => L listed a w
  | f + 1, listed, a, w => Region.ready .any ops listed ≠ [] ∧ ∀ i ∈ Region.ready .any ops listed, i < n ∧ mOp P ops C PN big wr rd i (wpM P ops C PN big wr rd n L f (listed.setIfInBounds i true)) a w
/-- Something that looks into memory is still to come. -/
def Left (rd : Nat → Bool) (listed : Array Bool) : Prop := ∃ k, rd k = true ∧ listed.getD k true = false
theorem Left.back {listed : Array Bool} {i : Nat} (h : Left rd (listed.setIfInBounds i true)) : Left rd listed := by
  obtain ⟨k, h1, h2⟩ := h
  refine ⟨k, h1, ?_⟩
  by_cases hik : i = k
  · subst hik
    by_cases hs : i < listed.size
    · simp [hs] at h2
    · simp [Array.setIfInBounds, hs] at h2
  · rw [getD_set_ne true hik] at h2; exact h2
def Closed (ops : Array Oper) (listed : Array Bool) : Prop := ∀ (j : Nat) (oj : Oper), ops[j]? = some oj → listed.getD j false = true → ∀ (e : Edge), e ∈ oj.after → Region.binds .any e = true → listed.getD e.on false = true
theorem Closed.step {ops : Array Oper} {listed : Array Bool} {i : Nat} (h : Closed ops listed) (hi : i ∈ Region.ready .any ops listed) : Closed ops (listed.setIfInBounds i true) := by
  intro j oj hj hl e he hb
  have up : ∀ x, listed.getD x false = true → (listed.setIfInBounds i true).getD x false = true := fun x hx => by
    by_cases hix : i = x
    · subst hix
      by_cases hs : i < listed.size
      · simp [hs]
      · simp [hs] at hx
    · rw [getD_set_ne false hix]; exact hx
  by_cases hij : i = j
  · subst hij
    obtain ⟨_, o, ho, hall⟩ := mem_ready.1 hi
    rw [hj] at ho; cases ho
    exact up _ (hall e he hb)
  · rw [getD_set_ne false hij] at hl
    exact up _ (h j oj hj hl e he hb)
theorem reach_spec {ops : Array Oper} {listed : Array Bool} (h : Closed ops listed) {k : Nat} : ∀ (f j : Nat), reach ops f k j = true → (∀ oj, ops[j]? = some oj → ∀ (e : Edge), e ∈ oj.after → Region.binds .any e = true → listed.getD e.on false = true) → listed.getD k false = true
  | 0, j, hr, _ => by cases hr
  | f + 1, j, hr, hall => by
    unfold reach at hr
    split at hr
    · rename_i oj hoj
      simp only [List.any_eq_true, Bool.and_eq_true, Bool.or_eq_true] at hr
      obtain ⟨e, he, hb, hr⟩ := hr
      have he' : e ∈ oj.after := by simpa using he
      have h1 := hall oj hoj e he' hb
      rcases hr with hr | ⟨_, hr⟩
      · have := nbt hr; rw [← this]; exact h1
      · exact reach_spec h f e.on hr fun o ho e' he' hb' => h _ _ ho h1 e' he' hb'
    · cases hr
theorem wpAny_of_wpM {g : Nat} {L : Array Bool → Act → World → Prop} {Q : Exit → Act → World → Prop} (hwr : ∀ i k, wr i = true → rd k = true → ∀ listed, Closed ops listed → i ∈ Region.ready .any ops listed → listed.getD k false = true)
    (hQ : ∀ c a w, PN c a w → Q (.panic c) a w) (hL : ∀ listed a w, L listed a w → wpAny P .any ops Q g listed a w) :
    ∀ (f : Nat) (listed : Array Bool) (a : Act) (w : World), Closed ops listed → (Left rd listed → C w) → wpM P ops C PN big wr rd n L f listed a w → wpAny P .any ops Q (f + g) listed a w
  | 0, listed, a, w, _, hc, h => by rw [Nat.zero_add]; exact hL _ _ _ h
  | f + 1, listed, a, w, hcl, hc, h => by
    rw [show f + 1 + g = (f + g) + 1 by omega]
    refine ⟨fun h0 => absurd h0 h.1, fun i hi => ?_⟩
    have h1 := (h.2 i hi).2
    unfold mOp at h1
    unfold wpOp
    split at h1
    · exact h1.elim
    · rename_i o ho
      simp only [ho]
      split at h1
      · rename_i hw
        rw [if_pos hw]
        left
        split at h1
        · refine bigAt_wp hQ (bigAt_mono h1 fun v w' ⟨h2, h3⟩ => wpAny_of_wpM hwr hQ hL f _ _ _ (hcl.step hi) ?_ h3)
          intro hl
          cases hwi : wr i with
          | false => exact h2 hwi
          | true =>
            exfalso
            obtain ⟨k, hk1, hk2⟩ := hl.back
            have := hwr i k hwi hk1 listed hcl hi
            rw [getD_both hk2] at this
            cases this
        · obtain ⟨v, h2, h3⟩ := h1
          have := wpAny_of_wpM hwr hQ hL f _ _ _ (hcl.step hi) (fun hl => hc hl.back) h3
          unfold Oper.wp
          rcases h2 w (fun hr => hc ⟨i, hr, (mem_ready.1 hi).1⟩) with h4 | ⟨h4, rfl⟩
          · rw [h4, Oper.upon_value]; exact this
          · rw [h4, Oper.upon_skip]; exact this
      · rename_i hw; rw [if_neg hw]; exact wpAny_of_wpM hwr hQ hL f _ _ _ (hcl.step hi) (fun hl => hc hl.back) h1
/-- What is known of an operation that only looks, or is passed over. -/
def Yl (P : Program) (ops : Array Oper) (C : World → Prop) (r : Bool) (o : Oper) (v : Value) (a : Act) : Prop :=
  (Region.wanted o (yielded ops a.tmps) = true ∧ ∀ w', (r = true → C w') → pureAt P o a w' v) ∨ (Region.wanted o (yielded ops a.tmps) = false ∧ v = undef)
theorem Yl.of_same {r : Bool} {o : Oper} {v : Value} {a a' : Act} (hy : Yl P ops C r o v a) (he : execOp a'.eval o = execOp a.eval o)
    (hw : Region.wanted o (yielded ops a'.tmps) = Region.wanted o (yielded ops a.tmps)) : Yl P ops C r o v a' := by
  unfold Yl pureAt at *
  rw [he, hw]; exact hy
theorem Yl.mOp {i : Nat} {o : Oper} {v : Value} {a : Act} {w : World} (hi : ops[i]? = some o) (hy : Yl P ops C (rd i) o v a) (hb : big i = false ∨ Region.wanted o (yielded ops a.tmps) = false) {K : Act → World → Prop} (h : K (a.put o.dst v) w) :
    mOp P ops C PN big wr rd i K a w := by
  unfold Sx.mOp
  simp only [hi]
  rcases hy with ⟨hw, hv⟩ | ⟨hw, rfl⟩
  · rcases hb with hb | hb
    · rw [if_pos hw, if_neg (by simp [hb])]; exact ⟨v, hv, h⟩
    · rw [hw] at hb; cases hb
  · rw [if_neg (by simp [hw])]; exact h
theorem yl_of_mOp {i : Nat} {o : Oper} {a : Act} {w : World} {K : Act → World → Prop} (hi : ops[i]? = some o) (hb : big i = false ∨ Region.wanted o (yielded ops a.tmps) = false) (h : mOp P ops C PN big wr rd i K a w) : ∃ v, Yl P ops C (rd i) o v a ∧ K (a.put o.dst v) w := by
  unfold mOp at h
  simp only [hi] at h
  by_cases hw : Region.wanted o (yielded ops a.tmps) = true
  · rcases hb with hb | hb
    · rw [if_pos hw, if_neg (by simp [hb])] at h
      obtain ⟨v, h1, h2⟩ := h
      exact ⟨v, .inl ⟨hw, h1⟩, h2⟩
    · rw [hw] at hb; cases hb
  · rw [if_neg hw] at h
    exact ⟨undef, .inr ⟨by simpa using hw, rfl⟩, h⟩
theorem mOp_put {j : Nat} {r : Bool} {oi oj : Oper} {v : Value} (hP : ∀ c (a : Act) w v, PN c (a.put oi.dst v) w → PN c a w) (hj : ops[j]? = some oj) (hap : oi.apart ops oj = true) (hsi : ∀ cs b, oi.op ≠ .select cs b) (hsj : ∀ cs b, oj.op ≠ .select cs b)
    {K : Act → World → Prop} {a : Act} {w : World} (hy : Yl P ops C r oi v a) (h : mOp P ops C PN big wr rd j K (a.put oi.dst v) w) :
    mOp P ops C PN big wr rd j (fun a' w' => Yl P ops C r oi v a' ∧ Region.wanted oi (yielded ops a'.tmps) = Region.wanted oi (yielded ops a.tmps) ∧ K (a'.put oi.dst v) w') a w := by
  obtain ⟨h1, h2, h3⟩ := Oper.apart_spec hap
  have keep : ∀ u, Yl P ops C r oi v (a.put oj.dst u) := fun u => hy.of_same (execOp_put oi hsi a oj.dst u h3) (wanted_put oi a oj.dst u h3)
  have want : ∀ u, Region.wanted oi (yielded ops (a.put oj.dst u).tmps) = Region.wanted oi (yielded ops a.tmps) := fun u => wanted_put oi a oj.dst u h3
  unfold mOp at *
  simp only [hj] at *
  rw [wanted_put oj a oi.dst v h1] at h
  split
  · rename_i hw
    rw [if_pos hw] at h
    split
    · rename_i hb
      rw [if_pos hb] at h
      unfold bigAt at h ⊢
      rw [execOp_put oj hsj a oi.dst v h1] at h
      exact bigUpon_mono h (fun u w' ⟨hc, hk⟩ => ⟨hc, keep u, want u, by rw [← Act.put_comm a v u h2]; exact hk⟩) fun c w' hp => hP c a w' v hp
    · rename_i hb
      rw [if_neg hb] at h
      obtain ⟨u, hu, hk⟩ := h
      refine ⟨u, fun w' hw' => ?_, keep u, want u, by rw [← Act.put_comm a v u h2]; exact hk⟩
      have := hu w' hw'
      unfold pureAt at *
      rwa [execOp_put oj hsj a oi.dst v h1] at this
  · rename_i hw
    rw [if_neg hw] at h
    exact ⟨keep _, want _, by rw [← Act.put_comm a v undef h2]; exact h⟩
theorem tailB_spec (h : tailB ops n = true) {listed : Array Bool} {i : Nat} (hi : i < n) (hun : listed.getD i true = false) : ∀ j ∈ Region.ready .any ops listed, j < n := by
  intro j hj
  rcases Nat.lt_or_ge j n with hlt | hge
  · exact hlt
  · obtain ⟨_, oj, hoj, hall⟩ := mem_ready.1 hj
    have hjs : j < ops.size := (Array.getElem?_eq_some_iff.1 hoj).1
    have h1 := List.all_eq_true.1 h j (List.mem_range.2 hjs)
    simp only [Bool.or_eq_true, Nat.blt_eq] at h1
    rcases h1 with h1 | h1
    · omega
    · obtain ⟨o', ho', e, he, hb, hon⟩ := Region.waitsFor_spec (List.all_eq_true.1 h1 i (List.mem_range.2 hi))
      have : o' = oj := Option.some.inj (ho'.symm.trans hoj)
      subst this
      have h2 := hall e he hb
      rw [hon, getD_both hun] at h2
      cases h2
/-- A quiet operation may be taken first. -/
theorem wpM_quiet {L : Array Bool → Act → World → Prop} (hL : ∀ listed a w, L listed a w → ∀ j ∈ Region.ready .any ops listed, n ≤ j) (ht : tailB ops n = true) (hsel : ∀ (j : Nat) (o : Oper) cs b, ops[j]? = some o → o.op ≠ .select cs b)
    (hP : ∀ (j : Nat) (o : Oper), ops[j]? = some o → ∀ c (a : Act) w v, PN c (a.put o.dst v) w → PN c a w)
    {i : Nat} {oi : Oper} {v : Value} (hi : ops[i]? = some oi) (hin : i < n) :
    ∀ (f : Nat) (listed : Array Bool) (a : Act) (w : World),
      (∀ j oj, ops[j]? = some oj → j ≠ i → listed.getD j true = false → (∀ e ∈ oj.after, Region.binds .any e = true → e.on ≠ i) → oi.apart ops oj = true) →
      i ∈ Region.ready .any ops listed → Yl P ops C (rd i) oi v a → (big i = false ∨ Region.wanted oi (yielded ops a.tmps) = false) →
      wpM P ops C PN big wr rd n L f (listed.setIfInBounds i true) (a.put oi.dst v) w → wpM P ops C PN big wr rd n L (f + 1) listed a w := by
  intro f
  induction f with
  | zero =>
    intro listed a w _ hr hy hb H
    have hun := (mem_ready.1 hr).1
    refine ⟨fun h => (by rw [h] at hr; cases hr), fun j hj => ?_⟩
    have hjn := tailB_spec ht hin hun j hj
    refine ⟨hjn, ?_⟩
    by_cases hji : j = i
    · subst hji; exact hy.mOp hi hb H
    · have := hL _ _ _ H j (ready_mono hj hji)
      omega
  | succ f ih =>
    intro listed a w hfree hr hy hb H
    have hun := (mem_ready.1 hr).1
    refine ⟨fun h => (by rw [h] at hr; cases hr), fun j hj => ?_⟩
    have hjn := tailB_spec ht hin hun j hj
    refine ⟨hjn, ?_⟩
    by_cases hji : j = i
    · subst hji; exact hy.mOp hi hb H
    · have h1 := (H.2 j (ready_mono hj hji)).2
      obtain ⟨hjun, oj, hoj, hall⟩ := mem_ready.1 hj
      have hnot : ∀ e ∈ oj.after, Region.binds .any e = true → e.on ≠ i := fun e he hbb heq => by
        have h1 := hall e he hbb
        rw [heq, getD_both hun] at h1
        cases h1
      have h2 := mOp_put (hP i oi hi) hoj (hfree j oj hoj hji hjun hnot) (fun cs b => hsel i oi cs b hi) (fun cs b => hsel j oj cs b hoj) hy h1
      have hfree' : ∀ k ok, ops[k]? = some ok → k ≠ i → (listed.setIfInBounds j true).getD k true = false →
          (∀ e ∈ ok.after, Region.binds .any e = true → e.on ≠ i) → oi.apart ops ok = true := fun k ok hk hki hun hno => by
        refine hfree k ok hk hki ?_ hno
        by_cases hjk : j = k
        · subst hjk; exact hjun
        · rw [getD_set_ne true hjk] at hun; exact hun
      refine mOp_mono h2 fun a' w' h3 => ih (listed.setIfInBounds j true) a' w' hfree' (ready_mono hr (Ne.symm hji)) h3.1 (hb.imp id fun hb => by rw [h3.2.1]; exact hb) ?_
      rw [Array.setIfInBounds_comm _ _ hji]
      exact h3.2.2
/-! ### One order -/
def mList (P : Program) (ops : Array Oper) (C : World → Prop) (PN : List PanicEntry → Act → World → Prop) (big wr rd : Nat → Bool) (N : Act → World → Prop) : List Nat → Act → World → Prop
  | [], a, w => N a w
  | k :: r, a, w => mOp P ops C PN big wr rd k (mList P ops C PN big wr rd N r) a w
theorem wpM_lex {fin : Array Bool → Bool} {N : Act → World → Prop} (hfin : ∀ l', fin l' = true → ∀ j ∈ Region.ready .any ops l', n ≤ j) (hsel : Region.noSelect ops = true) (ht : tailB ops n = true)
    (hP : ∀ (j : Nat) (o : Oper), ops[j]? = some o → ∀ c (a : Act) w v, PN c (a.put o.dst v) w → PN c a w) :
    ∀ (l : List Nat) (listed : Array Bool) (a : Act) (w : World), HeadInv .any ops n listed → lexB ops n big fin l listed = true → mList P ops C PN big wr rd N l a w →
      wpM P ops C PN big wr rd n (fun l' a' w' => HeadInv .any ops n l' ∧ fin l' = true ∧ N a' w') l.length listed a w
  | [], listed, a, w, inv, hB, h => ⟨inv, by simpa [lexB] using hB, h⟩
  | k :: r, listed, a, w, inv, hB, h => by
    simp only [lexB, Bool.and_eq_true] at hB
    obtain ⟨⟨hkn, hk⟩, hB'⟩ := hB
    have hkn : k < n := by simpa [Nat.blt_eq] using hkn
    have hr' : k ∈ Region.ready .any ops listed := by
      split at hk <;> simp only [Bool.and_eq_true] at hk
      · simpa using hk.2
      · simpa using hk.1
    obtain ⟨_, o, ho, _⟩ := mem_ready.1 hr'
    have hL : ∀ (l' : Array Bool) (a' : Act) (w' : World), (HeadInv .any ops n l' ∧ fin l' = true ∧ N a' w') → ∀ j ∈ Region.ready .any ops l', n ≤ j := fun l' a' w' h => hfin l' h.2.1
    have rest : ∀ a' w', mList P ops C PN big wr rd N r a' w' → wpM P ops C PN big wr rd n (fun l' a' w' => HeadInv .any ops n l' ∧ fin l' = true ∧ N a' w') r.length (listed.setIfInBounds k true) a' w' :=
      fun a' w' h' => wpM_lex hfin hsel ht hP r _ a' w' (inv.set hr' hkn) hB' h'
    simp only [mList] at h
    split at hk
    · rename_i hb
      simp only [Bool.and_eq_true, List.all_eq_true] at hk
      refine ⟨fun h0 => (by rw [h0] at hr'; cases hr'), fun j hj => ?_⟩
      have := nbt (hk.1 j hj)
      subst this
      exact ⟨hkn, mOp_mono h fun a' w' h' => rest a' w' h'⟩
    · rename_i hb
      simp only [Bool.and_eq_true] at hk
      obtain ⟨v, hy, hK⟩ := yl_of_mOp ho (.inl hb) h
      exact wpM_quiet hL ht (Region.noSelect_spec hsel) hP ho hkn r.length listed a w (Region.free_spec ho hk.2) hr' hy (.inl hb) (rest _ _ hK)
theorem tailB_all : tailB ops ops.size = true := by
  simp only [tailB, List.all_eq_true, Bool.or_eq_true]
  intro j hj
  left
  simpa [Nat.blt_eq] using hj
theorem fin2_none {l' : Array Bool} (h : fin2 ops l' = true) : Region.ready .any ops l' = [] := by
  cases hr : Region.ready .any ops l' with
  | nil => rfl
  | cons j r =>
    have hj : j ∈ Region.ready .any ops l' := by rw [hr]; simp
    simp only [fin2, List.all_eq_true] at h
    have h1 := Nat.le_of_ble_eq_true (h j hj)
    obtain ⟨_, o, ho, _⟩ := mem_ready.1 hj
    have := (Array.getElem?_eq_some_iff.1 ho).1
    omega
/-- A statement whose order is drawn, from one order. -/
theorem wp_region_mix {id : Nat} {Q : Exit → Act → World → Prop} {a : Act} {w : World} {l : List Nat} (hm : P.follows .mixedOrders = true) (hsel : Region.noSelect ops = true) (hll : l.length = ops.size)
    (hlex : lexB ops ops.size big (fin2 ops) l (Array.replicate ops.size false) = true) (hwr : ∀ i k, wr i = true → rd k = true → ∀ listed, Closed ops listed → i ∈ Region.ready .any ops listed → listed.getD k false = true) (hC : C { w with drawn := w.drawn + 1 })
    (hQ : ∀ c a w, PN c a w → Q (.panic c) a w) (hP : ∀ (j : Nat) (o : Oper), ops[j]? = some o → ∀ c (a : Act) w v, PN c (a.put o.dst v) w → PN c a w)
    (h : mList P ops C PN big wr rd (Q .normal) l a { w with drawn := w.drawn + 1 }) : (Code.region id ops true).wp P Q a w := by
  have inv0 : HeadInv .any ops ops.size (Array.replicate ops.size false) :=
    ⟨by simp, fun j oj _ hl => (by rw [getD_replicate_false] at hl; cases hl), fun t h1 h2 => by omega⟩
  have h1 := wpM_lex (fun l' hf j hj => by rw [fin2_none hf] at hj; cases hj) hsel tailB_all hP l _ a _ inv0 hlex h
  refine wp_region_any hm ?_
  have h2 := wpAny_of_wpM (g := 0) (Q := Q) hwr hQ (fun listed a' w' hl => ⟨fin2_none hl.2.1, hl.2.2⟩) l.length _ a _ inv0.closed (fun _ => hC) h1
  rw [hll] at h2
  exact h2
end
end Sx
