/- Drawn orders: soundness. -/
import Derived.Test.YtekaopahienmgaaSxO
set_option linter.unusedVariables false
set_option linter.unusedSimpArgs false
namespace Sx
open Go
/-- Blocks that the calls of a statement may write. -/
def Chg (X : Nat → Prop) (Hs G : Heap) (we : World) (b : Nat) : Prop := b < we.heap.size ∧ ((Hs b ≠ none ∧ G b = none) ∨ X b)
abbrev Kept (X : Nat → Prop) (Hs G : Heap) (we w : World) : Prop := Only we w (Chg X Hs G we)
structure Reg (X : Nat → Prop) (C : Ctx) (we : World) (s0 : St) (Hs G : Heap) (V : Vl) (s : St) (H : Heap) (a : Act) (w : World) : Prop where
  rep : Rep C V s H a w
  only : Kept X Hs G we w
  keep : ∀ d o, look s0.objs d = some o → look s.objs d = some o
  low : ∀ d o b, look s0.objs d = some o → privB V d o = some b → b < we.heap.size
  hs : ∀ d o b, look s0.objs d = some o → privB V d o = some b → Hs b = none ∧ ¬ X b
  sub : Hs.sub we
  gs : G ≤ Hs
  le : G ≤ H
  cur : ∀ b, b < we.heap.size → Hs b = none → ¬ X b → H b = none
  base : C.w0.heap.size ≤ we.heap.size
  oth : ∀ b, b < C.w0.heap.size → C.H0 b = none → Hs b = none
  xs : ∀ b, X b → Hs b = none ∧ (C.w0.heap.size ≤ b ∨ C.H0 b ≠ none)
  new : ∀ d o b, look s.objs d = some o → look s0.objs d = none → privB V d o = some b → b < we.heap.size → Chg X Hs G we b
section
variable {P : Program} {X : Nat → Prop} {C : Ctx} {we : World} {s0 : St} {Hs G : Heap} {V : Vl} {s : St} {H : Heap} {a : Act} {w : World}
theorem Kept.trans {w1 w2 w3 : World} (h : Kept X Hs G w1 w2) (h' : Only w2 w3 fun _ => False) : Kept X Hs G w1 w3 :=
  ⟨h'.os.trans h.os, h'.tape.trans h.tape, h'.output.trans h.output, Nat.le_trans h.size h'.size, fun b hn hb => (h'.block b (fun h => h) (Nat.lt_of_lt_of_le hb h.size)).trans (h.block b hn hb)⟩
theorem sub_lt {H : Heap} {w : World} (h : H.sub w) {b : Nat} {o : Obj} (e : H b = some o) : b < w.heap.size := (Array.getElem?_eq_some_iff.1 (h b o e)).1
theorem Reg.there (r : Reg X C we s0 Hs G V s H a w) {w' : World} (hw : Kept X Hs G we w') : Rep C V ⟨s.env, s0.objs, s.dfr⟩ G a w' := by
  have h := r.rep
  have same : ∀ b, b < we.heap.size → ¬ Chg X Hs G we b → w'.heap[b]? = w.heap[b]? := fun b hb hn => (hw.block b hn hb).trans (r.only.block b hn hb).symm
  have nopriv : ∀ d o b, look s0.objs d = some o → privB V d o = some b → ¬ Chg X Hs G we b := fun d o b e hb hc => hc.2.elim (fun q => q.1 (r.hs d o b e hb).1) (r.hs d o b e hb).2
  refine { env := h.env, len := h.len, dfr := h.dfr, sub := ?_, objs := ?_, priv := ?_, dist := fun d o d' o' b e e' => h.dist d o d' o' b (r.keep _ _ e) (r.keep _ _ e'), os := ?_, tape := ?_, output := ?_, size := ?_, other := ?_ }
  · intro b o e
    have hs := r.gs b o e
    rw [hw.block b (fun hc => hc.2.elim (fun q => by rw [q.2] at e; cases e) (fun q => by rw [(r.xs b q).1] at hs; cases hs)) (sub_lt r.sub hs)]
    exact r.sub b o hs
  · intro d o e
    have ho := h.objs d o (r.keep d o e)
    cases o with
    | box ty l =>
      obtain ⟨cs, h1, h2⟩ := ho
      exact ⟨cs, h1, by rw [same _ (r.low d _ _ e rfl) (nopriv d _ _ e rfl)]; exact h2⟩
    | row ty sz es => exact rowIn_same ho fun b hb => same _ (r.low d _ _ e hb) (nopriv d _ _ e hb)
  · intro d o b e hb
    obtain ⟨h1, h2, h3⟩ := h.priv d o b (r.keep d o e) hb
    refine ⟨?_, h2, Nat.lt_of_lt_of_le (r.low d o b e hb) hw.size⟩
    cases hq : G b with
    | none => rfl
    | some x => rw [r.le b x hq] at h1; cases h1
  · rw [hw.os, ← r.only.os]; exact h.os
  · rw [hw.tape, ← r.only.tape]; exact h.tape
  · rw [hw.output, ← r.only.output]; exact h.output
  · exact Nat.le_trans r.base hw.size
  · intro b hb e
    obtain ⟨h1, h2⟩ := h.other b hb e
    refine ⟨?_, ?_⟩
    · rw [← h1]; exact same b (Nat.lt_of_lt_of_le hb r.base) fun hc => hc.2.elim (fun q => q.1 (r.oth b hb e)) (fun q => by rcases (r.xs b q).2 with q | q; omega; exact q e)
    · cases hq : G b with
      | none => rfl
      | some x => rw [r.le b x hq] at h2; cases h2
theorem Reg.put (r : Reg X C we s0 Hs G V s H a w) {x : SV} {y : Value} (hx : x.rep V y) (d : Option Nat) : Reg X C we s0 Hs G V (s.put d x) H (a.put d y) w :=
  { rep := r.rep.put hx d, only := r.only, keep := by cases d <;> exact r.keep, low := r.low, hs := r.hs, sub := r.sub, gs := r.gs, le := r.le, cur := r.cur, base := r.base, oth := r.oth, xs := r.xs, new := by cases d <;> exact r.new }
theorem Reg.set (r : Reg X C we s0 Hs G V s H a w) {g : Nat} {x : SV} (hx : x.rep V (a.tmps.getD g undef)) : Reg X C we s0 Hs G V (s.set g x) H a w :=
  { rep := rep_same r.rep hx, only := r.only, keep := r.keep, low := r.low, hs := r.hs, sub := r.sub, gs := r.gs, le := r.le, cur := r.cur, base := r.base, oth := r.oth, xs := r.xs, new := r.new }
theorem exactK_eq {x : SV} {X : Prop} (h : exactK x X) : exactV x = true ∧ X := by
  unfold exactK at h
  split at h
  · rename_i e; exact ⟨e, h⟩
  · exact h.elim
theorem quiet_sound (r : Reg X C we s0 Hs G V s H a w) {hs : Hints} (hE : ∀ t, memN hs.eqs t = true → EqOK P t) (o : Oper) {K : SV → Prop}
    (hk : valK P ⟨hs.eqs⟩ o.op ⟨s.env, s0.objs, s.dfr⟩ (fun x => exactK x (K x)) ∨ readK P o.op ⟨s.env, s0.objs, s.dfr⟩ G fun x => exactK x (K x)) :
    ∃ v, (∀ w', Kept X Hs G we w' → pureAt P o a w' v) ∧ ∃ x, K x ∧ x.rep V v := by
  have one : ∃ z, exactV z = true ∧ K z ∧ ∀ w', Kept X Hs G we w' → ∃ v, z.rep V v ∧ (execOp a.eval o).run P w' = .ok (.value v) w' := by
    rcases hk with hk | hk
    · obtain ⟨z, h1, h2⟩ := valK_pick hk
      obtain ⟨h1, h3⟩ := exactK_eq h1
      refine ⟨z, h1, h3, fun w' hw' => ?_⟩
      obtain ⟨z', v, rfl, h4, h5⟩ := valK_sound (r.there hw') (cfg := ⟨hs.eqs⟩) hE o (h2 (· = z) rfl)
      exact ⟨v, h4, h5⟩
    · obtain ⟨z, h1, h2⟩ := readK_pick hk
      obtain ⟨h1, h3⟩ := exactK_eq h1
      refine ⟨z, h1, h3, fun w' hw' => ?_⟩
      obtain ⟨z', v, rfl, h4, h5⟩ := readK_sound (r.there hw') (heap_refl _) o (h2 (· = z) rfl)
      exact ⟨v, h4, h5⟩
  obtain ⟨z, h1, h2, h3⟩ := one
  obtain ⟨v, h4, _⟩ := h3 w r.only
  refine ⟨v, fun w' hw' => ?_, z, h2, h4⟩
  obtain ⟨v', h5, h6⟩ := h3 w' hw'
  rw [sv_exact h1 h4 h5]
  exact .inl h6
theorem quiet_slice (r : Reg X C we s0 Hs G V s H a w) {hs : Hints} (o : Oper) (hsl : isSl o.op = true) {K : SV → Prop}
    (hk : valK P ⟨hs.eqs⟩ o.op ⟨s.env, s0.objs, s.dfr⟩ K) : ∃ v, (∀ w', pureAt P o a w' v) ∧ ∃ x, K x ∧ x.rep V v := by
  unfold isSl at hsl
  split at hsl
  · rename_i t x lo hi ho
    rw [ho] at hk
    obtain ⟨z, v, h1, h2, h3⟩ := sliceK_sound (r.there r.only) t x lo hi hk
    refine ⟨v, fun w' => .inl ?_, z, h1, h2⟩
    unfold execOp; rw [ho]
    exact exec_v (h3 w')
  · cases hsl
theorem free_look {d : Nat} (h : s.free d = true) : look s.objs d = none := by
  cases hl : look s.objs d with
  | none => rfl
  | some o => exact absurd rfl (free_obj h d o hl).1
theorem alloc_state {o : Oper} (hop : isAlloc o.op = true) {K : St → Prop} (hk : objK P o s H K) : ∃ d, o.dst = some d ∧ s.free d = true ∧ objK P o s H fun s' => K s' ∧ ∀ x ob, x ≠ d → (look s'.objs x = some ob ↔ look s.objs x = some ob) := by
  have key : ∀ (d : Nat) (ob : AObj) (x : Nat) (ob' : AObj), x ≠ d → (look (objSet s.objs d ob) x = some ob' ↔ look s.objs x = some ob') := by
    intro d ob x ob' h
    rw [look_objSet, if_neg (Ne.symm h)]
  obtain ⟨dst, op, type, pos, after, guard⟩ := o
  cases op <;> simp only [isAlloc] at hop <;> try cases hop
  all_goals (cases dst with
    | none => simp only [objK] at hk
    | some d => ?_)
  all_goals simp only [objK] at hk ⊢
  · split at hk
    · rename_i hf _ _
      split at hk
      · exact ⟨d, rfl, hf, by simp only [*]; exact ⟨trivial, key d _⟩⟩
      · exact hk.elim
    · exact hk.elim
  · split at hk
    · rename_i hf _
      exact ⟨d, rfl, hf, by simp only [*]; exact ⟨trivial, key d _⟩⟩
    · exact hk.elim
  · split at hk
    · rename_i hf _
      split at hk
      · split at hk
        · exact ⟨d, rfl, hf, by simp only [*]; exact ⟨trivial, key d _⟩⟩
        · exact hk.elim
      · exact hk.elim
    · exact hk.elim
  · split at hk
    · rename_i hf _
      split at hk
      · split at hk
        · exact ⟨d, rfl, hf, by simp only [*]; exact ⟨⟨trivial, trivial, trivial⟩, trivial, key d _⟩⟩
        · exact hk.elim
      · exact hk.elim
    · exact hk.elim
theorem alloc_reg (r : Reg X C we s0 Hs G V s H a w) {o : Oper} (hop : isAlloc o.op = true) {K : St → Prop} (hk : objK P o s H K) :
    ∃ V' s' y w', K s' ∧ Reg X C we s0 Hs G V' s' H (a.put o.dst y) w' ∧ ((execOp a.eval o).run P w = .ok (.value y) w' ∨ ((execOp a.eval o).run P w = .ok .skip w' ∧ y = undef)) := by
  obtain ⟨d, hd, hf, hk⟩ := alloc_state hop hk
  obtain ⟨d', hd', V', s', y, w', ⟨hK, hl⟩, hrep, hoff, ho, hnew, hrun⟩ := allocK_sound r.rep (heap_refl _) o hop hk
  rw [hd] at hd'
  cases hd'
  refine ⟨V', s', y, w', hK, ⟨hrep, Kept.trans r.only ho, ?_, ?_, ?_, r.sub, r.gs, r.le, r.cur, r.base, r.oth, r.xs, ?_⟩, hrun⟩
  · intro x ob e
    have hx := r.keep x ob e
    refine (hl x ob ?_).2 hx
    rintro rfl
    rw [free_look hf] at hx
    cases hx
  · intro x ob b e hb
    have hx := r.keep x ob e
    rw [privB_off hoff (by rintro rfl; rw [free_look hf] at hx; cases hx)] at hb
    exact r.low x ob b e hb
  · intro x ob b e hb
    have hx := r.keep x ob e
    rw [privB_off hoff (by rintro rfl; rw [free_look hf] at hx; cases hx)] at hb
    exact r.hs x ob b e hb
  · intro x ob b e e0 hb
    by_cases hx : x = d
    · subst hx
      have := Nat.le_trans r.only.size (hnew ob b e hb)
      exact fun q => absurd q (by omega)
    · rw [privB_off hoff hx] at hb
      exact r.new x ob b ((hl x ob hx).1 e) e0 hb
theorem delLs_sub : ∀ (ls : List Lend) {H : Heap} {b : Nat} {o : Obj}, delLs H ls b = some o → H b = some o
  | [], H, b, o, h => h
  | x :: r, H, b, o, h => by
    have := delLs_sub r h
    cases hq : blockOf x.val with
    | none => rw [hq] at this; exact this
    | some c =>
      rw [hq] at this
      simp only [Heap.delO, Heap.del] at this
      split at this
      · cases this
      · exact this
theorem delLs_mem : ∀ (ls : List Lend) {H : Heap} {x : Lend} {b : Nat}, x ∈ ls → blockOf x.val = some b → delLs H ls b = none
  | y :: r, H, x, b, hx, hb => by
    rcases List.mem_cons.1 hx with rfl | hx
    · cases hq : delLs H (x :: r) b with
      | none => rfl
      | some o =>
        have := delLs_sub r hq
        rw [hb] at this
        simp [Heap.delO, Heap.del] at this
    · exact delLs_mem r hx hb
theorem delLs_keep : ∀ (ls : List Lend) {H : Heap} {b : Nat}, (∀ x ∈ ls, blockOf x.val ≠ some b) → delLs H ls b = H b
  | [], H, b, h => rfl
  | x :: r, H, b, h => by
    unfold delLs
    rw [delLs_keep r fun y hy => h y (List.mem_cons_of_mem _ hy)]
    cases hq : blockOf x.val with
    | none => rfl
    | some c =>
      have : b ≠ c := by rintro rfl; exact h x (List.mem_cons_self ..) hq
      simp [Heap.delO, Heap.del, this]
/-- A call that leaves what is looked at as it was. -/
theorem call_reg (r : Reg X C we s0 Hs G V s H a w) {s1 : St} {Hl H' : Heap} {ls : List Lend} {w' : World} (hl : Rep C V s1 Hl a w) (hL : LendsTo V s H s1 Hl ls) (hs : Step Hl w H' w') (hk : Keep G H Hl H') :
    Reg X C we s0 Hs G V s (delLs H' ls) a w' := by
  have h := r.rep
  have same : ∀ b, b < w.heap.size → (H b = none ∨ G b ≠ none) → w'.heap[b]? = w.heap[b]? := by
    intro b hb hc
    cases hq : Hl b with
    | none => exact hs.other b hb hq
    | some o =>
      rw [hl.sub b o hq]
      refine hs.sub b o (hk b o hq ?_)
      rcases hc with hc | hc
      · exact .inl hc
      · right
        cases hg : G b with
        | none => exact absurd hg hc
        | some o' =>
          have := hL.up b o' (r.le b o' hg)
          rw [hq] at this
          exact this.symm
  have gone : ∀ b, b < w.heap.size → (Hl b = none ∨ ∃ x ∈ ls, blockOf x.val = some b) → delLs H' ls b = none := by
    rintro b hb (hq | ⟨x, hx, hb'⟩)
    · have := hs.fresh b hb hq
      cases hq : delLs H' ls b with
      | none => rfl
      | some o => rw [delLs_sub ls hq] at this; cases this
    · exact delLs_mem ls hx hb'
  have lent0 : ∀ x ∈ ls, ∀ b, blockOf x.val = some b → H b = none := fun x hx b hb => by
    obtain ⟨o, h1, h2⟩ := hL.src x hx
    exact (h.priv _ _ b h1 (by rw [h2, hb])).1
  refine ⟨?_, ⟨hs.os.trans r.only.os, hs.tape.trans r.only.tape, hs.output.trans r.only.output, Nat.le_trans r.only.size hs.size, ?_⟩, r.keep, r.low, r.hs, r.sub, r.gs, ?_, ?_, r.base, r.oth, r.xs, r.new⟩
  · refine { env := h.env, len := h.len, dfr := h.dfr, sub := fun b o e => hs.sub b o (delLs_sub ls e), objs := ?_, priv := ?_, dist := h.dist, os := hs.os.trans h.os, tape := hs.tape.trans h.tape, output := hs.output.trans h.output, size := Nat.le_trans h.size hs.size, other := ?_ }
    · intro d o e
      have ho := h.objs d o e
      have hp : ∀ b, privB V d o = some b → w'.heap[b]? = w.heap[b]? := fun b hb => same b (h.priv d o b e hb).2.2 (.inl (h.priv d o b e hb).1)
      cases o with
      | box ty l =>
        obtain ⟨cs, h1, h2⟩ := ho
        exact ⟨cs, h1, by rw [hp _ rfl]; exact h2⟩
      | row ty sz es => exact rowIn_same ho fun b hb => hp b hb
    · intro d o b e hb
      obtain ⟨h1, h2, h3⟩ := h.priv d o b e hb
      refine ⟨gone b h3 ?_, h2, Nat.lt_of_lt_of_le h3 hs.size⟩
      rcases hL.gone d o e with e1 | ⟨x, hx, rfl⟩
      · exact .inl (hl.priv d o b e1 hb).1
      · obtain ⟨o', g1, g2⟩ := hL.src x hx
        rw [e] at g1; cases g1
        exact .inr ⟨x, hx, by rw [← g2]; exact hb⟩
    · intro b hb e
      obtain ⟨h1, h2⟩ := hl.other b hb e
      have hbw := Nat.lt_of_lt_of_le hb h.size
      exact ⟨(hs.other b hbw h2).trans h1, gone b hbw (.inl h2)⟩
  · intro b hn hb
    rw [← r.only.block b hn hb]
    refine same b (Nat.lt_of_lt_of_le hb r.only.size) ?_
    cases hq : Hs b with
    | none => exact .inl (r.cur b hb hq fun hx => hn ⟨hb, .inr hx⟩)
    | some o => right; intro hg; exact hn ⟨hb, .inl ⟨by rw [hq]; simp, hg⟩⟩
  · intro b o e
    have e1 := r.le b o e
    rw [delLs_keep ls fun y hy hb => by rw [lent0 y hy b hb] at e1; cases e1]
    exact hk b o (hL.up b o e1) (.inr e)
  · intro b hb e hX
    refine gone b (Nat.lt_of_lt_of_le hb r.only.size) ?_
    cases hq : Hl b with
    | none => exact .inl rfl
    | some o =>
      rcases hL.low b o hq with e1 | e1
      · rw [r.cur b hb e hX] at e1; cases e1
      · exact .inr e1
def PanEnv (pk : Option (List Nat)) (s : St) : Prop := ∀ t x, nth s.env t = some x → x = .c .bad ∨ ∃ l, pk = some l ∧ memN l t = true
def PanN (C : Ctx) (hs : Hints) (Q : Exit → St → Heap → Prop) (c : List PanicEntry) (a : Act) (w : World) : Prop := ∃ V s H, PanEnv hs.pk s ∧ Rep C V s H a w ∧ Q (.panic c) s H
theorem panSt_env (pk : Option (List Nat)) (s : St) : PanEnv pk (panSt pk s) := by
  intro t x e
  cases pk with
  | none => simp [panSt, nth] at e
  | some l =>
    simp only [panSt, nth_restrict, Nat.zero_add] at e
    cases hn : nth s.env t with
    | none => rw [hn] at e; simp at e
    | some y =>
      rw [hn] at e
      simp only [Option.map_some, Option.some.injEq] at e
      split at e
      · rename_i hb; exact .inr ⟨l, rfl, hb⟩
      · exact .inl e.symm
theorem panN_put {hs : Hints} {Q : Exit → St → Heap → Prop} {ops : Array Oper} (hd : noDst ops.toList hs.pk = true) : ∀ (j : Nat) (o : Oper), ops[j]? = some o → ∀ c (a : Act) w v, PanN C hs Q c (a.put o.dst v) w → PanN C hs Q c a w := by
  rintro j o ho c a w v ⟨V, s, H, he, h, q⟩
  refine ⟨V, s, H, he, ?_, q⟩
  refine { env := ?_, len := ?_, dfr := ?_, sub := h.sub, objs := h.objs, priv := h.priv, dist := h.dist, os := h.os, tape := h.tape, output := h.output, size := h.size, other := h.other }
  · intro t x hx
    have h1 := h.env t x hx
    rcases he t x hx with rfl | ⟨l, hl, hm⟩
    · trivial
    · cases hod : o.dst with
      | none => rw [hod] at h1; exact h1
      | some d =>
        rw [hod] at h1
        have hdt : d ≠ t := by
          rintro rfl
          rw [hl] at hd
          simp only [noDst, List.all_eq_true] at hd
          have := hd o (by
            obtain ⟨h1, h2⟩ := Array.getElem?_eq_some_iff.1 ho
            rw [← h2]; simp)
          rw [hod] at this
          simp [hm] at this
        have : (a.put (some d) v).tmps.getD t undef = a.tmps.getD t undef := by
          simp only [Act.put, Array.getD_eq_getD_getElem?, Array.getElem?_setIfInBounds, if_neg hdt]
        rw [this] at h1
        exact h1
  · have := h.len
    cases hod : o.dst with
    | none => rw [hod] at this; exact this
    | some d => rw [hod] at this; simpa [Act.put] using this
  · have := h.dfr
    cases hod : o.dst with
    | none => rw [hod] at this; exact this
    | some d => rw [hod] at this; exact this
def KeepPost (X : Nat → Prop) (C : Ctx) (we : World) (s0 : St) (Hs G : Heap) (V : Vl) (hs : Hints) (Q : Exit → St → Heap → Prop) (o : Oper) (a : Act) (K : St → Heap → Prop) : Ending → World → Prop
  | .returned v, w' => Kept X Hs G we w' ∧ ∃ s' H', K s' H' ∧ Reg X C we s0 Hs G V s' H' (a.put o.dst v) w'
  | .panicked c, w' => PanN C hs Q c a w'
  | .outgrown, _ => False
/-- A call of the head. -/
theorem keep_sound (r : Reg X C we s0 Hs G V s H a w) {hs : Hints} {Q : Exit → St → Heap → Prop} (o : Oper) {K : St → Heap → Prop} (hk : keepK P G o s H (panicQ hs Q) K) :
    bigAt P (PanN C hs Q) o a w fun v w' => Kept X Hs G we w' ∧ ∃ s' H', K s' H' ∧ Reg X C we s0 Hs G V s' H' (a.put o.dst v) w' := by
  unfold keepK at hk
  split at hk
  · rename_i f args ats ho
    have post : ∀ (s1 : St) (Hl : Heap) (ls : List Lend), Rep C V s1 Hl a w → LendsTo V s H s1 Hl ls → ∀ (e : Ending) (w' : World), (∃ H', Step Hl w H' w' ∧ keepR P G H Hl o s s1 ls (panicQ hs Q) K e H') →
        KeepPost X C we s0 Hs G V hs Q o a K e w' := by
      rintro s1 Hl ls hrep hL e w' ⟨H', hstep, hR⟩
      have good : (Keep G H Hl H' ∧ retK P o.type e fun x => K (s.put o.dst x) (delLs H' ls)) →
          KeepPost X C we s0 Hs G V hs Q o a K e w' := by
        rintro ⟨hkp, hR⟩
        obtain ⟨v, x, rfl, hx, hb⟩ := retK_sound (V := V) hR
        have hreg := call_reg r hrep hL hstep hkp
        exact ⟨hreg.only, _, _, hb, hreg.put hx o.dst⟩
      unfold keepR at hR
      split at hR
      · exact good hR
      · rename_i kp hkp
        rcases hR with hR | ⟨c, rfl, hR⟩
        · exact good hR
        · unfold panicQ at hkp
          split at hkp
          · cases hkp
            exact ⟨V, _, H', panSt_env _ _, rep_pan (rep_step hrep hstep) _, hR⟩
          · cases hkp
    have hargs : (args.map a.eval) = (args.toList.map a.eval).toArray := by apply Array.ext'; simp
    unfold bigAt
    split at hk
    · rename_i g
      obtain ⟨s1, Hl, ls, hk, hrep, hL⟩ := lendK_sound _ _ s H r.rep (evs_rep r.rep args.toList).1 (evs_rep r.rep args.toList).2 hk
      obtain ⟨hc, hk⟩ := hk
      have hrun : (execOp a.eval o).run P w = .ok (.enter g (args.toList.map a.eval).toArray) w := by
        unfold execOp
        rw [ho]
        simp only [resolve, Sem.run_bind, Act.eval, Deferred.ofValue, Sem.run_pure, Result.andThen_ok, invoke]
        rw [hargs]
        have e1 : (#[] : Array Value) ++ (args.toList.map a.eval).toArray ++ #[] = (args.toList.map a.eval).toArray := by apply Array.ext'; simp
        rw [e1]
        exact callable_run hc _
      rw [hrun]
      refine (hk w hrep.sub).mono fun e w' hq => ?_
      have hp := post _ _ _ hrep hL e w' hq
      cases e <;> exact hp
    · rename_i f' _
      obtain ⟨s1, H1, l1, hk, hrep1, hL1⟩ := lendV_sound r.rep (r.rep.ev f) hk
      have hev : (args.toList.map (ev s)) = args.toList.map (ev s1) := by
        refine List.map_congr_left fun x _ => ?_
        cases x <;> simp [ev, St.get, hL1.env]
      rw [hev] at hk
      obtain ⟨s2, Hl, ls, hk, hrep, hL⟩ := lendK_sound _ _ s1 H1 hrep1 (evs_rep hrep1 args.toList).1 (evs_rep hrep1 args.toList).2 hk
      generalize hfv : a.eval f = fv at hk
      unfold MeetsV at hk
      split at hk
      · rename_i g first cap
        obtain ⟨hc, hk⟩ := hk
        have hrun : (execOp a.eval o).run P w = .ok (.enter g (first.toList ++ args.toList.map a.eval ++ cap.toList).toArray) w := by
          unfold execOp
          rw [ho]
          simp only [resolve, Sem.run_bind, hfv, Deferred.ofValue, Sem.run_pure, Result.andThen_ok, invoke]
          have : first ++ Array.map a.eval args ++ cap = (first.toList ++ args.toList.map a.eval ++ cap.toList).toArray := by apply Array.ext'; simp
          rw [this]
          exact callable_run hc _
        rw [hrun]
        refine (hk w hrep.sub).mono fun e w' hq => ?_
        have hp := post _ _ _ hrep (hL1.trans hL) e w' hq
        cases e <;> exact hp
      · exact hk.elim
  · exact hk.elim
theorem lsOff_eq {O : List (Nat × AObj)} : ∀ {ls : List Lend}, lsOff O ls = true → ∀ x ∈ ls, look O x.site = none
  | [], _, x, hx => by cases hx
  | y :: r, h, x, hx => by
    simp only [lsOff, Bool.and_eq_true] at h
    rcases List.mem_cons.1 hx with rfl | hx
    · have h1 := h.1
      split at h1
      · assumption
      · cases h1
    · exact lsOff_eq h.2 x hx
/-- A call that keeps what it is given. -/
theorem give_sound (r : Reg X C we s0 Hs G V s H a w) {hs : Hints} {Q : Exit → St → Heap → Prop} (o : Oper) {K : St → Heap → Prop} (hk : giveK P s0.objs G o s H (panicQ hs Q) K) :
    bigAt P (PanN C hs Q) o a w fun v w' => Kept X Hs G we w' ∧ ∃ s' H', K s' H' ∧ Reg X C we s0 Hs G V s' H' (a.put o.dst v) w' := by
  unfold giveK at hk
  split at hk
  · rename_i g args ats ho
    have hargs : (args.map a.eval) = (args.toList.map a.eval).toArray := by apply Array.ext'; simp
    unfold bigAt
    obtain ⟨s1, Hl, ls, hk, hrep, hL⟩ := lendK_sound _ _ s H r.rep (evs_rep r.rep args.toList).1 (evs_rep r.rep args.toList).2 hk
    obtain ⟨hc, hk⟩ := hk
    have hrun : (execOp a.eval o).run P w = .ok (.enter g (args.toList.map a.eval).toArray) w := by
      unfold execOp
      rw [ho]
      simp only [resolve, Sem.run_bind, Act.eval, Deferred.ofValue, Sem.run_pure, Result.andThen_ok, invoke]
      rw [hargs]
      have e1 : (#[] : Array Value) ++ (args.toList.map a.eval).toArray ++ #[] = (args.toList.map a.eval).toArray := by apply Array.ext'; simp
      rw [e1]
      exact callable_run hc _
    rw [hrun]
    refine (hk w hrep.sub).mono fun e w' ⟨H', hstep, hR⟩ => ?_
    have hrep' := rep_step hrep hstep
    have good : lsOff s0.objs ls = true → (G ≤ H' ∧ retK P o.type e fun x => K (s1.put o.dst x) H') → KeepPost X C we s0 Hs G V hs Q o a K e w' := by
      rintro hoff ⟨hG, hR⟩
      obtain ⟨v, x, rfl, hx, hb⟩ := retK_sound (V := V) hR
      have priv : ∀ x ∈ ls, ∀ b, blockOf x.val = some b → b < we.heap.size → Chg X Hs G we b := fun x hx b hb hlt => by
        obtain ⟨ob, h1, h2⟩ := hL.src x hx
        exact r.new x.site ob b h1 (lsOff_eq hoff x hx) (by rw [h2, hb]) hlt
      have hreg : Reg X C we s0 Hs G V s1 H' a w' := by
        refine ⟨hrep', ⟨hstep.os.trans r.only.os, hstep.tape.trans r.only.tape, hstep.output.trans r.only.output, Nat.le_trans r.only.size hstep.size, fun b hn hlt => ?_⟩, fun d ob e => ?_, r.low, r.hs, r.sub, r.gs, hG, fun b hlt e hX => ?_, r.base, r.oth, r.xs, fun d ob b e e0 hb hlt => ?_⟩
        · rw [← r.only.block b hn hlt]
          have hlt' := Nat.lt_of_lt_of_le hlt r.only.size
          cases hq : Hl b with
          | none => exact hstep.other b hlt' hq
          | some ob =>
            rcases hL.low b ob hq with e | ⟨x, hx, hbx⟩
            · cases hg : G b with
              | none =>
                refine absurd ⟨hlt, ?_⟩ hn
                by_cases hX : X b
                · exact .inr hX
                · refine .inl ⟨fun h0 => ?_, hg⟩
                  rw [r.cur b hlt h0 hX] at e; cases e
              | some o' =>
                have e1 := hG b o' hg
                have e2 := r.le b o' hg
                rw [e] at e2
                cases e2
                rw [hstep.sub b _ e1, r.rep.sub b _ e]
            · exact absurd (priv x hx b hbx hlt) hn
        · rcases hL.gone d ob (r.keep d ob e) with h | ⟨x, hx, rfl⟩
          · exact h
          · rw [lsOff_eq hoff x hx] at e; cases e
        · have hlt' := Nat.lt_of_lt_of_le hlt r.only.size
          have hl : Hl b = none := by
            cases hq : Hl b with
            | none => rfl
            | some ob =>
              rcases hL.low b ob hq with e' | ⟨x, hx, hbx⟩
              · rw [r.cur b hlt e hX] at e'; cases e'
              · rcases (priv x hx b hbx hlt).2 with h | h
                · exact absurd e h.1
                · exact absurd h hX
          exact hstep.fresh b hlt' hl
        · exact r.new d ob b (hL.sub d ob e) e0 hb hlt
      exact ⟨hreg.only, _, _, hb, hreg.put hx o.dst⟩
    have hp : KeepPost X C we s0 Hs G V hs Q o a K e w' := by
      unfold giveR at hR
      split at hR
      · rename_i hoff
        split at hR
        · exact good hoff hR
        · rename_i kp hkp
          rcases hR with hR | ⟨c, rfl, hR⟩
          · exact good hoff hR
          · unfold panicQ at hkp
            split at hkp
            · cases hkp
              exact ⟨V, _, H', panSt_env _ _, rep_pan hrep' _, hR⟩
            · cases hkp
      · exact hR.elim
    cases e <;> exact hp
  · exact hk.elim
/-- What comes to one thing whatever memory is. -/
def WL (P : Program) {α : Type} (m : Sem α) : Prop := ∀ w v w1, m.run P w = .ok v w1 → w1 = w ∧ ∀ w', m.run P w' = .ok v w'
theorem wl_pure {α : Type} (x : α) : WL P (pure x : Sem α) := by intro w v w1 h; simp only [Sem.run_pure] at h; cases h; exact ⟨rfl, fun _ => rfl⟩
theorem wl_bind {α β : Type} {m : Sem α} {f : α → Sem β} (hm : WL P m) (hf : ∀ x, WL P (f x)) : WL P (m >>= f) := by
  intro w v w1 h
  rw [Sem.run_bind] at h
  cases hr : m.run P w with
  | ok u w2 =>
    rw [hr] at h
    obtain ⟨rfl, h1⟩ := hm w u w2 hr
    obtain ⟨rfl, h2⟩ := hf u _ v w1 h
    exact ⟨rfl, fun w' => by rw [Sem.run_bind, h1 w']; exact h2 w'⟩
  | halt x w2 => rw [hr] at h; cases h
theorem wl_halt {α : Type} (x : Halt) : WL P (.halt x : Sem α) := by intro w v w1 h; cases h
theorem wl_program : WL P program := by intro w v w1 h; rw [run_program] at h; cases h; exact ⟨rfl, fun w' => run_program ..⟩
theorem wl_underlying (t : TypeId) : WL P (underlying t) := by
  unfold underlying
  refine wl_bind wl_program fun p => ?_
  split
  · exact wl_pure _
  · exact wl_halt _
theorem wl_info (t : TypeId) : WL P (typeInfo t) := by
  unfold typeInfo
  refine wl_bind wl_program fun p => ?_
  split
  · exact wl_pure _
  · exact wl_halt _
theorem wl_size (t : TypeId) : WL P (Go.sizeOf t) := by
  unfold Go.sizeOf
  exact wl_bind (wl_info t) fun i => wl_pure _
theorem wl_sure (v : Value) : WL P (Instr.sureAddr v) := by
  unfold Instr.sureAddr
  split
  · exact wl_pure _
  · exact wl_halt _
/-- What never comes to a value. -/
def NoV (P : Program) {α : Type} (m : Sem α) : Prop := ∀ w v w1, m.run P w ≠ .ok v w1
theorem NoV.wl {α : Type} {m : Sem α} (h : NoV P m) : WL P m := fun w v w1 e => absurd e (h w v w1)
theorem noV_bind {α β : Type} {m : Sem α} {f : α → Sem β} (hf : ∀ x, NoV P (f x)) : NoV P (m >>= f) := by
  intro w v w1 h
  rw [Sem.run_bind] at h
  cases hr : m.run P w with
  | ok u w2 => rw [hr] at h; exact hf u w2 v w1 h
  | halt x w2 => rw [hr] at h; cases h
theorem noV_halt {α : Type} (x : Halt) : NoV P (.halt x : Sem α) := by intro w v w1 h; cases h
theorem noV_panic {α : Type} (e : RuntimeError) : NoV P (runtimePanic e : Sem α) := by
  unfold runtimePanic
  refine noV_bind fun p => ?_
  repeat' first
    | exact noV_halt _
    | refine noV_bind fun _ => ?_
    | split
theorem wl_bounds {α : Type} (k : IntKind) (x y : Int) (c : BoundsCode) : WL P (boundsPanic k x y c : Sem α) := by
  refine NoV.wl ?_
  unfold boundsPanic
  dsimp only
  split
  · exact noV_bind fun s => noV_panic _
  · exact noV_bind fun s => noV_panic _
theorem wl_asInt (v : Value) : WL P (asIntOf v) := by
  unfold asIntOf
  split
  · exact wl_pure _
  · exact wl_halt _
  · exact wl_halt _
theorem wl_indexAt (t : TypeId) (x i : Value) {w w1 : World} {v : Value} (h : (Instr.indexAt t x i).run P w = .ok v w1) : ∀ w', (Instr.indexAt t x i).run P w' = .ok v w' := by
  have wl : WL P (Instr.indexAt t x i) := by
    unfold Instr.indexAt
    repeat' first
      | exact wl_pure _
      | exact wl_halt _
      | exact wl_asInt _
      | exact wl_underlying _
      | exact wl_sure _
      | exact wl_size _
      | apply wl_bounds
      | refine wl_bind ?_ fun _ => ?_
      | split
      | dsimp only
  exact (wl w v w1 h).2
theorem wl_fieldAt (t : TypeId) (x : Value) (f : Nat) {fd : Field} {z : Nat} (hf : fieldOf P t f = some fd) (hz : sizeT P fd.type = some (z + 1)) {w w1 : World} {v : Value} (h : (Instr.fieldAt t x f).run P w = .ok v w1) : ∀ w', (Instr.fieldAt t x f).run P w' = .ok v w' := by
  have wl : WL P (Instr.fieldAt t x f) := by
    unfold fieldOf at hf
    split at hf
    · rename_i fs hu
      obtain ⟨i, hi, hsz⟩ := sizeT_eq hz
      intro w v w1 h
      unfold Instr.fieldAt at h ⊢
      simp only [Sem.run_bind, run_underlying hu, Result.andThen_ok, hf] at h ⊢
      obtain ⟨p, rfl⟩ : ∃ p, x = .pointer p := by
        cases x <;> first | exact ⟨_, rfl⟩ | (exfalso; simp [Instr.sureAddr, stuck, Sem.run_bind, Sem.run] at h; done)
      cases p with
      | none => simp [Instr.sureAddr, stuck, Sem.run_bind, Sem.run] at h
      | some a =>
        have hz' : ¬ (i.size = 0) := by omega
        simp only [Instr.sureAddr, Sem.run_pure, Result.andThen_ok, fieldPlace, Sem.run_bind, run_sizeT hi, hz', if_false] at h ⊢
        cases h
        exact ⟨rfl, fun _ => rfl⟩
    · cases hf
  exact (wl w v w1 h).2
theorem wl_arith {op : BinOp} (ho : op = .add ∨ op = .sub) {t : TypeId} {x y : Operand} {k k' : IntKind} {a b : Int} {w w1 : World} {r : Value}
    (h : (do eqGuard op t x y (.int k a) (.int k' b); binOp op t (.int k a) (.int k' b) : Sem Value).run P w = .ok r w1) : ∀ w', (do eqGuard op t x y (.int k a) (.int k' b); binOp op t (.int k a) (.int k' b) : Sem Value).run P w' = .ok r w' := by
  have wl : WL P (do eqGuard op t x y (.int k a) (.int k' b); binOp op t (.int k a) (.int k' b) : Sem Value) := by
    refine wl_bind ?_ fun _ => ?_
    · rcases ho with rfl | rfl <;> (unfold eqGuard; exact wl_pure _)
    · rcases ho with rfl | rfl
      all_goals
        unfold binOp
        dsimp only
        split
        · exact wl_halt _
        · unfold Op.intArith
          repeat' first
            | exact wl_pure _
            | exact wl_halt _
            | split
  exact (wl w r w1 h).2
theorem wl_arith2 {op : BinOp} (ho : op = .add ∨ op = .sub) {t : TypeId} {x y : Operand} {u v : Value} {k k' : IntKind} {a b : Int} (e1 : u = .int k a) (e2 : v = .int k' b) {w w1 : World} {r : Value}
    (h : (do eqGuard op t x y u v; binOp op t u v : Sem Value).run P w = .ok r w1) : ∀ w', (do eqGuard op t x y u v; binOp op t u v : Sem Value).run P w' = .ok r w' := by
  subst e1; subst e2
  exact wl_arith ho h
theorem val_ints {cfg : Cfg} {op : BinOp} {t r : TypeId} {x y : Operand} {s : St} {K : SV → Prop} (hk : valK P cfg (.binOp op t x y r) s K) (ho : op = .add ∨ op = .sub) :
    (∃ k a, ev s x = .c (.v (.int k a))) ∧ ∃ k a, ev s y = .c (.v (.int k a)) := by
  simp only [valK] at hk
  unfold binK at hk
  split at hk
  · rename_i e1 e2; exact ⟨⟨_, _, e1⟩, ⟨_, _, e2⟩⟩
  · rcases ho with rfl | rfl <;> exact hk.elim
/-- What is added are numbers. -/
def IntsIn (o : Oper) (ρ : Operand → Value) : Prop := ∀ op t x y r, o.op = .binOp op t x y r → (op = .add ∨ op = .sub) → (∃ k a, ρ x = .int k a) ∧ ∃ k a, ρ y = .int k a
theorem ints_in (h : Rep C V s H a w) {cfg : Cfg} {o : Oper} {K : SV → Prop} (hk : valK P cfg o.op s K) : IntsIn o a.eval := by
  intro op t x y r ho hop
  rw [ho] at hk
  obtain ⟨⟨k, n, e1⟩, ⟨k', n', e2⟩⟩ := val_ints hk hop
  have h1 := h.ev x
  have h2 := h.ev y
  rw [e1] at h1; rw [e2] at h2
  exact ⟨⟨k, n, h1.1⟩, ⟨k', n', h2.1⟩⟩
theorem quiet2_free {o : Oper} (hq : quiet2 P o.op = true) {ρ : Operand → Value} (hin : IntsIn o ρ) {w : World} {v : Value} {w1 : World} (h : (execOp ρ o).run P w = .ok (.value v) w1) : ∀ w', (execOp ρ o).run P w' = .ok (.value v) w' := by
  intro w'
  have key : ∀ (m : Sem Value), (∀ w v w1, m.run P w = .ok v w1 → ∀ w', m.run P w' = .ok v w') → (do pure (Next.value (← m)) : Sem Next).run P w = .ok (.value v) w1 → (do pure (Next.value (← m)) : Sem Next).run P w' = .ok (.value v) w' := by
    intro m hm h
    rw [Sem.run_bind] at h ⊢
    cases hr : m.run P w with
    | ok u w2 =>
      rw [hr] at h
      simp only [Result.andThen_ok, Sem.run_pure] at h
      cases h
      rw [hm w _ _ hr w']
      rfl
    | halt x w2 => rw [hr] at h; cases h
  unfold quiet2 at hq
  unfold execOp at h ⊢
  split at hq
  · rename_i t x i ho
    rw [ho] at h ⊢
    exact key _ (fun w v w1 h => wl_indexAt t _ _ h) h
  · rename_i x ho
    rw [ho] at h ⊢
    simp only [Sem.run_pure] at h ⊢; cases h; rfl
  · rename_i x ho
    rw [ho] at h ⊢
    simp only [Sem.run_pure] at h ⊢; cases h; rfl
  · rename_i t x f ho
    rw [ho] at h ⊢
    split at hq
    · rename_i fd hf
      split at hq
      · rename_i z hz
        exact key _ (fun w v w1 h => wl_fieldAt t _ f hf hz h) h
      · cases hq
    · cases hq
  · rename_i t x y z ho
    rw [ho] at h ⊢
    obtain ⟨⟨k, n, e1⟩, ⟨k', n', e2⟩⟩ := hin _ _ _ _ _ ho (.inl rfl)
    exact key _ (fun w v w1 h => wl_arith2 (.inl rfl) e1 e2 h) h
  · rename_i t x y z ho
    rw [ho] at h ⊢
    obtain ⟨⟨k, n, e1⟩, ⟨k', n', e2⟩⟩ := hin _ _ _ _ _ ho (.inr rfl)
    exact key _ (fun w v w1 h => wl_arith2 (.inr rfl) e1 e2 h) h
  · cases hq
theorem quiet2_noskip {o : Oper} (hq : quiet2 P o.op = true) {ρ : Operand → Value} {w w1 : World} (h : (execOp ρ o).run P w = .ok .skip w1) : False := by
  have key : ∀ (m : Sem Value), (do pure (Next.value (← m)) : Sem Next).run P w = .ok .skip w1 → False := by
    intro m h
    rw [Sem.run_bind] at h
    cases hr : m.run P w with
    | ok u w2 => rw [hr] at h; simp only [Result.andThen_ok, Sem.run_pure] at h; cases h
    | halt x w2 => rw [hr] at h; cases h
  unfold quiet2 at hq
  unfold execOp at h
  split at hq
  · rename_i ho; rw [ho] at h; exact key _ h
  · rename_i ho; rw [ho] at h; cases h
  · rename_i ho; rw [ho] at h; cases h
  · rename_i ho; rw [ho] at h; exact key _ h
  · rename_i ho; rw [ho] at h; exact key _ h
  · rename_i ho; rw [ho] at h; exact key _ h
  · cases hq
/-- One operation of the head. -/
theorem mixOp_sound (r : Reg X C we s0 Hs G V s H a w) {hs : Hints} (hE : ∀ t, memN hs.eqs t = true → EqOK P t) {Q : Exit → St → Heap → Prop} {ops : Array Oper} {k : Nat} {o : Oper} (hnw : wrN ops.toList k = false) (hk0 : ops[k]? = some o) (hw : Region.wanted o (yielded ops a.tmps) = true)
    {K : St → Heap → Prop} {N : Act → World → Prop} (hN : ∀ V s H a w, Reg X C we s0 Hs G V s H a w → K s H → N a w) (hk : mixOp P hs Q s0 G o s H K) : mOp P ops (Kept X Hs G we) (PanN C hs Q) (bigN ops.toList) (wrN ops.toList) (rdN P ops.toList) k N a w := by
  have hwo : wrO o = false := by
    have : wrN ops.toList k = wrO o := by
      unfold wrN
      rw [nth_eq]
      simp [hk0]
    rw [← this]; exact hnw
  have hbig : bigN ops.toList k = bigO o := by
    unfold bigN
    rw [nth_eq]
    simp [hk0, hwo]
  unfold mOp
  simp only [hk0]
  rw [if_pos hw, hbig]
  unfold mixOp at hk
  split at hk
  · rename_i hc
    rw [if_pos (by simp [bigO, hc])]
    exact bigAt_mono (keep_sound r o hk) fun v w' ⟨h1, s', H', h2, h3⟩ => ⟨fun _ => h1, hN _ _ _ _ _ h3 h2⟩
  · rename_i hc
    split at hk
    · rename_i ha
      rw [if_pos (by simp [bigO, ha])]
      obtain ⟨V', s', y, w', h1, h2, h3 | ⟨h3, rfl⟩⟩ := alloc_reg r ha hk
      · unfold bigAt; rw [h3]; exact ⟨fun _ => h2.only, hN _ _ _ _ _ h2 h1⟩
      · unfold bigAt; rw [h3]; exact ⟨fun _ => h2.only, hN _ _ _ _ _ h2 h1⟩
    · rename_i ha
      rw [if_neg (by simp [bigO, ha, hc])]
      -- what looks into memory: its value hangs on what is there; else it hangs on nothing
      have fin : IntsIn o a.eval → ∀ v, (∀ w', Kept X Hs G we w' → pureAt P o a w' v) → ∀ w', (rdN P ops.toList k = true → Kept X Hs G we w') → pureAt P o a w' v := by
        intro hin v hv w' hr
        cases hq : rdN P ops.toList k with
        | true => exact hv w' (hr hq)
        | false =>
          have hq2 : quiet2 P o.op = true := by
            unfold rdN at hq
            rw [nth_eq] at hq
            simp only [Array.getElem?_toList, hk0, Bool.and_eq_false_iff, Bool.not_eq_false'] at hq
            rcases hq with hq | hq
            · simp only [wrO, hq, Bool.not_false, Bool.and_true, Bool.not_eq_false'] at hwo
              simp [bigO, ha, hc] at hwo
            · exact hq
          rcases hv w r.only with h1 | ⟨h1, _⟩
          · exact .inl (quiet2_free hq2 hin h1 w')
          · exfalso; exact quiet2_noskip hq2 h1
      split at hk
      · split at hk
        · rename_i hsl
          obtain ⟨v, h1, x, h2, h3⟩ := quiet_slice r o hsl hk
          exact ⟨v, fun w' _ => h1 w', hN _ _ _ _ _ (r.put h3 o.dst) h2⟩
        obtain ⟨v, h1, x, h2, h3⟩ := quiet_sound r hE o (.inl hk)
        exact ⟨v, fin (ints_in (r.there r.only) hk) v h1, hN _ _ _ _ _ (r.put h3 o.dst) h2⟩
      · obtain ⟨v, h1, x, h2, h3⟩ := quiet_sound r hE o (.inr hk)
        exact ⟨v, fin (fun op t x y r ho => by rw [ho] at hk; exact hk.elim) v h1, hN _ _ _ _ _ (r.put h3 o.dst) h2⟩
      · exact hk.elim
/-- One operation behind the head. -/
theorem opK_tail {C' : World → Prop} (h : Rep C V s H a w) {hs : Hints} (hE : ∀ t, memN hs.eqs t = true → EqOK P t) {Q : Exit → St → Heap → Prop} {ops : Array Oper} {k : Nat} {o : Oper} (hk0 : ops[k]? = some o) (hw : Region.wanted o (yielded ops a.tmps) = true) (ht : ((wrO o && tailOp o.op) || (quiet2 P o.op && !bigO o && !wrO o)) = true)
    {K : St → Heap → Prop} {N : Act → World → Prop} (hN : ∀ V s H a w, Rep C V s H a w → K s H → N a w) (hk : opK P hs Q o s H K) : mOp P ops C' (PanN C hs Q) (bigN ops.toList) (wrN ops.toList) (rdN P ops.toList) k N a w := by
  have hbig : bigN ops.toList k = (bigO o || wrO o) := by
    unfold bigN
    rw [nth_eq]
    simp [hk0]
  have hwr : wrN ops.toList k = wrO o := by
    unfold wrN
    rw [nth_eq]
    simp [hk0]
  have hrd : rdN P ops.toList k = (quietOp o.op && !quiet2 P o.op) := by
    unfold rdN
    rw [nth_eq]
    simp [hk0]
  -- the operation on a state
  have core : ∀ {V : Vl} {s : St} {H : Heap}, Rep C V s H a w → opC P hs Q o s H K → mOp P ops C' (PanN C hs Q) (bigN ops.toList) (wrN ops.toList) (rdN P ops.toList) k N a w := by
    intro V s H h hk
    unfold mOp
    simp only [hk0]
    rw [if_pos hw, hbig, hwr, hrd]
    simp only [Bool.or_eq_true, Bool.and_eq_true, Bool.not_eq_true'] at ht
    rcases ht with ⟨hwo, ht⟩ | ⟨⟨hq, hb⟩, hwo⟩
    rotate_left
    · rw [hb, hwo]
      simp only [Bool.or_self, Bool.false_eq_true, if_false]
      have hcls : clsOf P o s = .val := by
        unfold quiet2 at hq
        unfold clsOf
        split at hq
        all_goals rename_i ho
        all_goals first | cases hq; done | (rw [ho])
      unfold opC at hk
      rw [hcls] at hk
      obtain ⟨z, r, h1, h2, h3⟩ := valK_sound h (cfg := ⟨hs.eqs⟩) hE o hk
      exact ⟨r, fun w' _ => .inl (quiet2_free hq (ints_in h hk) h3 w'), hN _ _ _ _ _ (h.put h2 o.dst) h1⟩
    · rw [hwo]
      simp only [Bool.or_true, if_true]
      unfold bigAt
      unfold opC at hk
      split at hk
      · obtain ⟨z, r, h1, h2, h3⟩ := valK_sound h (cfg := ⟨hs.eqs⟩) hE o hk
        rw [h3]
        exact ⟨fun h => (by cases h), hN _ _ _ _ _ (h.put h2 o.dst) h1⟩
      · obtain ⟨V', s', y, w', h1, h2, h3 | ⟨h3, rfl⟩⟩ := objK_sound h (heap_refl H) o hk
        · rw [h3]; exact ⟨fun h => (by cases h), hN _ _ _ _ _ h2 h1⟩
        · rw [h3]; exact ⟨fun h => (by cases h), hN _ _ _ _ _ h2 h1⟩
      · obtain ⟨z, r, h1, h2, h3⟩ := readK_sound h (heap_refl H) o hk
        rw [h3]
        exact ⟨fun h => (by cases h), hN _ _ _ _ _ (h.put h2 o.dst) h1⟩
      · obtain ⟨V', s', H', y, w', h1, h2, h3 | ⟨h3, rfl⟩⟩ := effK_sound h o hk
        · rw [h3]; exact ⟨fun h => (by cases h), hN _ _ _ _ _ h2 h1⟩
        · rw [h3]; exact ⟨fun h => (by cases h), hN _ _ _ _ _ h2 h1⟩
      · exfalso
        have nocall : ∀ {K' : St → Heap → Prop}, callK P o s H (panicQ hs Q) K' → False := by
          intro K' hk
          unfold callK at hk
          split at hk
          · rename_i ho; rw [ho] at ht; cases ht
          · exact hk
        split at hk
        · unfold giveK at hk
          split at hk
          · rename_i ho; rw [ho] at ht; cases ht
          · exact hk
        split at hk
        · exact nocall hk
        · exact nocall hk
      · split at hk
        · rename_i x ho
          have hx := h.ev x
          split at hk
          · rename_i t v hv
            rw [hv] at hx
            obtain ⟨hx, -⟩ := hx
            have : (execOp a.eval o).run P w = .halt (.panic (.iface t v)) w := by
              unfold execOp
              rw [ho]
              simp only [hx, Instr.panic, goPanic, Sem.run_bind, Sem.run]
              rfl
            rw [this]
            exact ⟨V, _, H, panSt_env _ _, rep_pan h _, hk⟩
          · exact hk.elim
        · exact hk.elim
      · exfalso
        split at hk
        · rename_i ho; rw [ho] at ht; cases ht
        · exact hk
      · exact hk.elim
  unfold opK at hk
  split at hk
  · rename_i x y sz hio
    obtain ⟨V', s', H', v, w', h1, h2, h3⟩ := inpK_sound h hio hk
    have hop : ∃ args ats, o.op = .call { callee := .builtin .append, args := args, argTypes := ats } := by
      unfold inpOf at hio
      split at hio
      · rename_i args ats d hop hd; exact ⟨_, _, hop⟩
      · cases hio
    obtain ⟨args, ats, hop⟩ := hop
    have hb : bigO o = false := by simp [bigO, hop, isAlloc, isCall]
    have hwo : wrO o = true := by simp [wrO, hb, hop, quietOp]
    unfold mOp
    simp only [hk0]
    rw [if_pos hw, hbig, hwr, hrd, hwo, hb]
    simp only [Bool.or_true, if_true]
    unfold bigAt
    rw [h3]
    exact ⟨fun h => (by cases h), hN _ _ _ _ _ h2 h1⟩
  split at hk
  · exact core h hk
  · obtain ⟨V', s', H', hk, h'⟩ := adoptK_sound h hk
    exact core h' hk
theorem tail_sound {C' : World → Prop} {hs : Hints} (hE : ∀ t, memN hs.eqs t = true → EqOK P t) {Q : Exit → St → Heap → Prop} {ops : Array Oper} : ∀ (l : List Nat) {V : Vl} {s : St} {H : Heap} {a : Act} {w : World}, tailOps P ops.toList l = true →
    Rep C V s H a w → opsK P hs Q ops.toList (pickO ops.toList l) s H → mList P ops C' (PanN C hs Q) (bigN ops.toList) (wrN ops.toList) (rdN P ops.toList) (GamQ C Q .normal) l a w
  | [], V, s, H, a, w, hl, r, hk => ⟨V, s, H, r, hk⟩
  | k :: l, V, s, H, a, w, hl, r, hk => by
    simp only [tailOps, Bool.and_eq_true] at hl
    obtain ⟨ht, hl⟩ := hl
    split at ht
    · rename_i o ho
      have hk0 : ops[k]? = some o := by rw [nth_eq] at ho; simpa using ho
      have hp : pickO ops.toList (k :: l) = o :: pickO ops.toList l := by simp only [pickO, ho]
      rw [hp] at hk
      have next : ∀ V s H a w, Rep C V s H a w → opsK P hs Q ops.toList (pickO ops.toList l) s H → mList P ops C' (PanN C hs Q) (bigN ops.toList) (wrN ops.toList) (rdN P ops.toList) (GamQ C Q .normal) l a w :=
        fun V s H a w r hk => tail_sound hE l hl r hk
      have skip : ∀ {s : St}, Region.wanted o (yielded ops a.tmps) = false → Rep C V s H a w → opsK P hs Q ops.toList (pickO ops.toList l) (s.put o.dst (.tup [])) H →
          mOp P ops C' (PanN C hs Q) (bigN ops.toList) (wrN ops.toList) (rdN P ops.toList) k (mList P ops C' (PanN C hs Q) (bigN ops.toList) (wrN ops.toList) (rdN P ops.toList) (GamQ C Q .normal) l) a w := by
        intro s hw r hk
        unfold mOp
        simp only [hk0]
        rw [if_neg (by simp [hw])]
        exact next _ _ _ _ _ (r.put (x := .tup []) ⟨[], rfl, rfl⟩ o.dst) hk
      simp only [mList]
      simp only [opsK] at hk
      split at hk
      · rename_i hg
        exact opK_tail r hE hk0 (by simp [Region.wanted, hg]) ht next hk
      · rename_i j b hg
        split at hk
        · exact hk.elim
        · rename_i g hgd
          split at hk
          · rename_i p hp
            obtain ⟨hy, hv⟩ := guard_yields r hgd hp
            have hset : Rep C V (s.set g (.c (.v (.bool p)))) H a w := rep_same r ⟨hv, rfl⟩
            split at hk
            · cases p with
              | true => exact opK_tail hset hE hk0 (by simp [Region.wanted, hg, hy]) ht next hk
              | false => exact skip (by simp [Region.wanted, hg, hy]) hset hk
            · cases p with
              | true => exact skip (by simp [Region.wanted, hg, hy]) hset hk
              | false => exact opK_tail hset hE hk0 (by simp [Region.wanted, hg, hy]) ht next hk
          · rename_i hp
            exact skip (by simp [Region.wanted, hg, guard_undef r hgd hp]) r hk
          · exact hk.elim
    · cases ht
theorem mixK_sound {hs : Hints} (hE : ∀ t, memN hs.eqs t = true → EqOK P t) {Q : Exit → St → Heap → Prop} {ops : Array Oper} {T : St → Heap → Prop} {N : Act → World → Prop} (hN : ∀ V s H a w, Reg X C we s0 Hs G V s H a w → T s H → N a w) : ∀ (l : List Nat) {V : Vl} {s : St} {H : Heap} {a : Act} {w : World}, (∀ k ∈ l, k < ops.size ∧ wrN ops.toList k = false) →
    Reg X C we s0 Hs G V s H a w → mixK P hs Q s0 G ops.toList T (pickO ops.toList l) s H → mList P ops (Kept X Hs G we) (PanN C hs Q) (bigN ops.toList) (wrN ops.toList) (rdN P ops.toList) N l a w
  | [], V, s, H, a, w, hl, r, hk => hN _ _ _ _ _ r hk
  | k :: l, V, s, H, a, w, hl, r, hk => by
    obtain ⟨hlt, hnw⟩ := hl k (List.mem_cons_self ..)
    have hk0 : ops[k]? = some ops[k] := Array.getElem?_eq_getElem hlt
    generalize ops[k] = o at hk0
    have hp : pickO ops.toList (k :: l) = o :: pickO ops.toList l := by
      simp only [pickO, nth_eq]
      have : ops.toList[k]? = some o := by simpa using hk0
      rw [this]
    rw [hp] at hk
    have next : ∀ V s H a w, Reg X C we s0 Hs G V s H a w → mixK P hs Q s0 G ops.toList T (pickO ops.toList l) s H → mList P ops (Kept X Hs G we) (PanN C hs Q) (bigN ops.toList) (wrN ops.toList) (rdN P ops.toList) N l a w :=
      fun V s H a w r hk => mixK_sound hE hN l (fun k hk => hl k (List.mem_cons_of_mem _ hk)) r hk
    have skip : ∀ {s : St}, Region.wanted o (yielded ops a.tmps) = false → Reg X C we s0 Hs G V s H a w → mixK P hs Q s0 G ops.toList T (pickO ops.toList l) (s.put o.dst (.tup [])) H →
        mOp P ops (Kept X Hs G we) (PanN C hs Q) (bigN ops.toList) (wrN ops.toList) (rdN P ops.toList) k (mList P ops (Kept X Hs G we) (PanN C hs Q) (bigN ops.toList) (wrN ops.toList) (rdN P ops.toList) N l) a w := by
      intro s hw r hk
      unfold mOp
      simp only [hk0]
      rw [if_neg (by simp [hw])]
      exact next _ _ _ _ _ (r.put (x := .tup []) ⟨[], rfl, rfl⟩ o.dst) hk
    simp only [mList]
    simp only [mixK] at hk
    split at hk
    · rename_i hg
      exact mixOp_sound r hE hnw hk0 (by simp [Region.wanted, hg]) next hk
    · rename_i j b hg
      split at hk
      · exact hk.elim
      · rename_i g hgd
        split at hk
        · rename_i p hp
          obtain ⟨hy, hv⟩ := guard_yields r.rep hgd hp
          have hset : Reg X C we s0 Hs G V (s.set g (.c (.v (.bool p)))) H a w := r.set ⟨hv, rfl⟩
          split at hk
          · cases p with
            | true => exact mixOp_sound hset hE hnw hk0 (by simp [Region.wanted, hg, hy]) next hk
            | false => exact skip (by simp [Region.wanted, hg, hy]) hset hk
          · cases p with
            | true => exact skip (by simp [Region.wanted, hg, hy]) hset hk
            | false => exact mixOp_sound hset hE hnw hk0 (by simp [Region.wanted, hg, hy]) next hk
        · rename_i hp
          exact skip (by simp [Region.wanted, hg, guard_undef r.rep hgd hp]) r hk
        · exact hk.elim
theorem rep_drawn (h : Rep C V s H a w) : Rep C V s H a { w with drawn := w.drawn + 1 } :=
  { env := h.env, len := h.len, dfr := h.dfr, sub := h.sub, objs := fun d o e => by
      have := h.objs d o e
      cases o with
      | box ty l => exact this
      | row ty sz es => exact rowIn_same this fun _ _ => rfl
    priv := h.priv, dist := h.dist, os := h.os, tape := h.tape, output := h.output, size := h.size, other := h.other }
theorem lexB_lt {ops : Array Oper} {n : Nat} {big : Nat → Bool} {fin : Array Bool → Bool} : ∀ (l : List Nat) (listed : Array Bool), lexB ops n big fin l listed = true → ∀ k ∈ l, k < n
  | [], _, _, k, hk => by cases hk
  | j :: r, listed, h, k, hk => by
    simp only [lexB, Bool.and_eq_true] at h
    rcases List.mem_cons.1 hk with rfl | hk
    · simpa [Nat.blt_eq] using h.1.1
    · exact lexB_lt r _ h.2 k hk
theorem mList_append {ops : Array Oper} {C' : World → Prop} {PN : List PanicEntry → Act → World → Prop} {big wr rd : Nat → Bool} {N : Act → World → Prop} : ∀ (l l2 : List Nat) {a : Act} {w : World},
    mList P ops C' PN big wr rd (mList P ops C' PN big wr rd N l2) l a w → mList P ops C' PN big wr rd N (l ++ l2) a w
  | [], l2, a, w, h => h
  | k :: l, l2, a, w, h => by
    simp only [List.cons_append, mList] at h ⊢
    exact mOp_mono h fun a w h => mList_append l l2 h
theorem head_tail (ops : List Oper) : ∀ l, headOf ops l ++ tailOf ops l = l
  | [] => rfl
  | k :: r => by
    unfold headOf tailOf
    split
    · rfl
    · rw [List.cons_append, head_tail ops r]
theorem head_nw (ops : List Oper) : ∀ l, ∀ k ∈ headOf ops l, k ∈ l ∧ wrN ops k = false
  | [], k, hk => by cases hk
  | j :: r, k, hk => by
    unfold headOf at hk
    split at hk
    · cases hk
    · rename_i hj
      rcases List.mem_cons.1 hk with rfl | hk
      · exact ⟨List.mem_cons_self .., hj⟩
      · exact ⟨List.mem_cons_of_mem _ (head_nw ops r k hk).1, (head_nw ops r k hk).2⟩
/-- A statement whose order is drawn. -/
theorem mix_sound {hs : Hints} (hE : ∀ t, memN hs.eqs t = true → EqOK P t) {Q : Exit → St → Heap → Prop} {ops : Array Oper} {id : Nat} (h : Rep C V s H a w) (hB : drawOK P hs ops = true)
    (hk : drawK P hs Q ops (pickO ops.toList (headOf ops.toList (schedO ops))) (pickO ops.toList (tailOf ops.toList (schedO ops))) s H) : (Code.region id ops true).wp P (GamQ C Q) a w := by
  have h' := rep_drawn h
  simp only [drawOK, Bool.and_eq_true] at hB
  obtain ⟨hB, hnd, hm⟩ := hB
  simp only [mixB, Bool.and_eq_true] at hB
  obtain ⟨⟨⟨⟨hsel, hll⟩, hwr⟩, htl⟩, hlex⟩ := hB
  have hlt : ∀ k ∈ headOf ops.toList (schedO ops), k < ops.size ∧ wrN ops.toList k = false := fun k hk =>
    ⟨lexB_lt _ _ hlex k (head_nw _ _ k hk).1, (head_nw _ _ k hk).2⟩
  have reg : ∀ G : Heap, G ≤ H → Reg (fun _ => False) C { w with drawn := w.drawn + 1 } s H G V s H a { w with drawn := w.drawn + 1 } := fun G hG =>
    { rep := h', only := only_refl _, keep := fun _ _ e => e, low := fun d o b e hb => (h'.priv d o b e hb).2.2, hs := fun d o b e hb => ⟨(h'.priv d o b e hb).1, fun q => q⟩, sub := h'.sub, gs := hG, le := hG, cur := fun _ _ e _ => e,
      base := h'.size, oth := fun b hb e => (h'.other b hb e).2, xs := fun _ q => q.elim, new := fun d o b e e' _ => by rw [e] at e'; cases e' }
  have hwait : ∀ i k, wrN ops.toList i = true → rdN P ops.toList k = true → ∀ listed, Closed ops listed → i ∈ Region.ready .any ops listed → listed.getD k false = true := by
    intro i k hi hk listed hcl hr
    obtain ⟨_, o, ho, hall⟩ := mem_ready.1 hr
    have his := (Array.getElem?_eq_some_iff.1 ho).1
    have hks : k < ops.size := by
      unfold rdN at hk
      rw [nth_eq] at hk
      split at hk
      · rename_i o' ho'; have := (List.getElem?_eq_some_iff.1 ho').1; simpa using this
      · cases hk
    have h1 := List.all_eq_true.1 hwr i (List.mem_range.2 his)
    rw [hi] at h1
    simp only [Bool.not_true, Bool.false_or] at h1
    have h2 := List.all_eq_true.1 h1 k (List.mem_range.2 hks)
    rw [hk] at h2
    simp only [Bool.not_true, Bool.false_or] at h2
    simp only [Bool.not_true, Bool.false_or, waitB] at h2
    split at h2
    · obtain ⟨o', ho', e, he, hb, hon⟩ := Region.waitsFor_spec h2
      have : o' = o := Option.some.inj (ho'.symm.trans ho)
      subst this
      rw [← hon]
      exact hall e he hb
    · exact reach_spec hcl _ _ h2 fun oj hoj e he hb => by
        rw [ho] at hoj; cases hoj
        exact hall e he hb
  have fin : ∀ G : Heap, G ≤ H → mixK P hs Q s G ops.toList (opsK P hs Q ops.toList (pickO ops.toList (tailOf ops.toList (schedO ops)))) (pickO ops.toList (headOf ops.toList (schedO ops))) s H → (Code.region id ops true).wp P (GamQ C Q) a w := by
    intro G hG hk
    have := mixK_sound hE (N := mList P ops (Kept (fun _ => False) H G { w with drawn := w.drawn + 1 }) (PanN C hs Q) (bigN ops.toList) (wrN ops.toList) (rdN P ops.toList) (GamQ C Q .normal) (tailOf ops.toList (schedO ops)))
      (fun V s H a w r hk => tail_sound hE _ htl r.rep hk) _ hlt (reg G hG) hk
    have := mList_append _ _ this
    rw [head_tail] at this
    exact wp_region_mix (C := Kept (fun _ => False) H G { w with drawn := w.drawn + 1 }) (PN := PanN C hs Q) hm hsel (nbt hll) hlex hwait (only_refl _) (fun c a w ⟨V, s, H, _, h1, h2⟩ => ⟨V, s, H, h1, h2⟩) (panN_put hnd) this
  unfold drawK at hk
  split at hk
  · exact fin H (heap_refl H) hk
  · split at hk
    · obtain ⟨G, hG, hk⟩ := hk
      exact fin G hG hk
    · exact fin _ (fun b o e => by cases e) hk
end
end Sx
