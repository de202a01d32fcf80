/- Drawn orders: soundness. -/
import Derived.Test.YtjlnkihkabljbaaSxO
set_option linter.unusedVariables false
set_option linter.unusedSimpArgs false
namespace Sx
open Go
abbrev Kept (we : World) (w : World) : Prop := Only we w fun _ => False
structure Reg (C : Ctx) (we : World) (s0 : St) (H0 : Heap) (V : Vl) (s : St) (H : Heap) (a : Act) (w : World) : Prop where
  rep : Rep C V s H a w
  only : Kept we w
  keep : ∀ d o, look s0.objs d = some o → look s.objs d = some o
  low : ∀ d o b, look s0.objs d = some o → privB V d o = some b → b < we.heap.size
  sub : H0.sub we
  le : H0 ≤ H
  base : C.w0.heap.size ≤ we.heap.size
section
variable {P : Program} {C : Ctx} {we : World} {s0 : St} {H0 : Heap} {V : Vl} {s : St} {H : Heap} {a : Act} {w : World}
theorem Kept.trans {w1 w2 w3 : World} (h : Kept w1 w2) (h' : Only w2 w3 fun _ => False) : Kept w1 w3 :=
  ⟨h'.os.trans h.os, h'.tape.trans h.tape, h'.output.trans h.output, Nat.le_trans h.size h'.size, fun b _ hb => (h'.block b (fun h => h) (Nat.lt_of_lt_of_le hb h.size)).trans (h.block b (fun h => h) hb)⟩
theorem sub_lt {H : Heap} {w : World} (h : H.sub w) {b : Nat} {o : Obj} (e : H b = some o) : b < w.heap.size := (Array.getElem?_eq_some_iff.1 (h b o e)).1
theorem Reg.there (r : Reg C we s0 H0 V s H a w) {w' : World} (hw : Kept we w') : Rep C V ⟨s.env, s0.objs, s.dfr⟩ H0 a w' := by
  have h := r.rep
  have same : ∀ b, b < we.heap.size → w'.heap[b]? = w.heap[b]? := fun b hb => (hw.block b (fun h => h) hb).trans (r.only.block b (fun h => h) hb).symm
  refine { env := h.env, len := h.len, dfr := h.dfr, sub := ?_, objs := ?_, priv := ?_, dist := fun d o d' o' b e e' => h.dist d o d' o' b (r.keep _ _ e) (r.keep _ _ e'), os := ?_, tape := ?_, output := ?_, size := ?_, other := ?_ }
  · intro b o e
    rw [hw.block b (fun h => h) (sub_lt r.sub e)]
    exact r.sub b o e
  · intro d o e
    have ho := h.objs d o (r.keep d o e)
    cases o with
    | box ty l =>
      obtain ⟨cs, h1, h2⟩ := ho
      exact ⟨cs, h1, by rw [same _ (r.low d _ _ e rfl)]; exact h2⟩
    | row ty sz es => exact rowIn_same ho fun b hb => same _ (r.low d _ _ e hb)
  · intro d o b e hb
    obtain ⟨h1, h2, h3⟩ := h.priv d o b (r.keep d o e) hb
    refine ⟨?_, h2, Nat.lt_of_lt_of_le (r.low d o b e hb) hw.size⟩
    cases hq : H0 b with
    | none => rfl
    | some x => rw [r.le b x hq] at h1; cases h1
  · rw [hw.os, ← r.only.os]; exact h.os
  · rw [hw.tape, ← r.only.tape]; exact h.tape
  · rw [hw.output, ← r.only.output]; exact h.output
  · exact Nat.le_trans r.base hw.size
  · intro b hb e
    obtain ⟨h1, h2⟩ := h.other b hb e
    refine ⟨?_, ?_⟩
    · rw [← h1]; exact same b (Nat.lt_of_lt_of_le hb r.base)
    · cases hq : H0 b with
      | none => rfl
      | some x => rw [r.le b x hq] at h2; cases h2
theorem Reg.put (r : Reg C we s0 H0 V s H a w) {x : SV} {y : Value} (hx : x.rep V y) (d : Option Nat) : Reg C we s0 H0 V (s.put d x) H (a.put d y) w :=
  { rep := r.rep.put hx d, only := r.only, keep := by cases d <;> exact r.keep, low := r.low, sub := r.sub, le := r.le, base := r.base }
theorem Reg.set (r : Reg C we s0 H0 V s H a w) {g : Nat} {x : SV} (hx : x.rep V (a.tmps.getD g undef)) : Reg C we s0 H0 V (s.set g x) H a w :=
  { rep := rep_same r.rep hx, only := r.only, keep := r.keep, low := r.low, sub := r.sub, le := r.le, base := r.base }
theorem exactK_eq {x : SV} {X : Prop} (h : exactK x X) : exactV x = true ∧ X := by
  unfold exactK at h
  split at h
  · rename_i e; exact ⟨e, h⟩
  · exact h.elim
theorem quiet_sound (r : Reg C we s0 H0 V s H a w) {hs : Hints} (hE : ∀ t, memN hs.eqs t = true → EqOK P t) (o : Oper) {K : SV → Prop}
    (hk : valK P ⟨hs.eqs⟩ o.op ⟨s.env, s0.objs, s.dfr⟩ (fun x => exactK x (K x)) ∨ readK P o.op ⟨s.env, s0.objs, s.dfr⟩ H0 fun x => exactK x (K x)) :
    ∃ v, (∀ w', Kept we w' → pureAt P o a w' v) ∧ ∃ x, K x ∧ x.rep V v := by
  have one : ∃ z, exactV z = true ∧ K z ∧ ∀ w', Kept we w' → ∃ v, z.rep V v ∧ (execOp a.eval o).run P w' = .ok (.value v) w' := by
    rcases hk with hk | hk
    · obtain ⟨z, h1, h2⟩ := valK_pick hk
      obtain ⟨h1, h3⟩ := exactK_eq h1
      refine ⟨z, h1, h3, fun w' hw' => ?_⟩
      obtain ⟨z', v, rfl, h4, h5⟩ := valK_sound (r.there hw') (cfg := ⟨hs.eqs⟩) hE o (h2 (· = z) rfl)
      exact ⟨v, h4, h5⟩
    · obtain ⟨z, h1, h2⟩ := readK_pick hk
      obtain ⟨h1, h3⟩ := exactK_eq h1
      refine ⟨z, h1, h3, fun w' hw' => ?_⟩
      obtain ⟨z', v, rfl, h4, h5⟩ := readK_sound (r.there hw') (heap_refl _) o (h2 (· = z) rfl)
      exact ⟨v, h4, h5⟩
  obtain ⟨z, h1, h2, h3⟩ := one
  obtain ⟨v, h4, _⟩ := h3 w r.only
  refine ⟨v, fun w' hw' => ?_, z, h2, h4⟩
  obtain ⟨v', h5, h6⟩ := h3 w' hw'
  rw [sv_exact h1 h4 h5]
  exact .inl h6
theorem free_look {d : Nat} (h : s.free d = true) : look s.objs d = none := by
  cases hl : look s.objs d with
  | none => rfl
  | some o => exact absurd rfl (free_obj h d o hl).1
theorem alloc_state {o : Oper} (hop : isAlloc o.op = true) {K : St → Prop} (hk : objK P o s H K) : ∃ d, o.dst = some d ∧ s.free d = true ∧ objK P o s H fun s' => K s' ∧ ∀ x ob, x ≠ d → (look s'.objs x = some ob ↔ look s.objs x = some ob) := by
  have key : ∀ (d : Nat) (ob : AObj) (x : Nat) (ob' : AObj), x ≠ d → (look (objSet s.objs d ob) x = some ob' ↔ look s.objs x = some ob') := by
    intro d ob x ob' h
    rw [look_objSet, if_neg (Ne.symm h)]
  obtain ⟨dst, op, type, pos, after, guard⟩ := o
  cases op <;> simp only [isAlloc] at hop <;> try cases hop
  all_goals (cases dst with
    | none => simp only [objK] at hk
    | some d => ?_)
  all_goals simp only [objK] at hk ⊢
  · split at hk
    · rename_i hf _ _
      split at hk
      · exact ⟨d, rfl, hf, by simp only [*]; exact ⟨trivial, key d _⟩⟩
      · exact hk.elim
    · exact hk.elim
  · split at hk
    · rename_i hf _
      exact ⟨d, rfl, hf, by simp only [*]; exact ⟨trivial, key d _⟩⟩
    · exact hk.elim
  · split at hk
    · rename_i hf _
      split at hk
      · split at hk
        · exact ⟨d, rfl, hf, by simp only [*]; exact ⟨trivial, key d _⟩⟩
        · exact hk.elim
      · exact hk.elim
    · exact hk.elim
  · split at hk
    · rename_i hf _
      split at hk
      · split at hk
        · exact ⟨d, rfl, hf, by simp only [*]; exact ⟨⟨trivial, trivial, trivial⟩, trivial, key d _⟩⟩
        · exact hk.elim
      · exact hk.elim
    · exact hk.elim
theorem alloc_reg (r : Reg C we s0 H0 V s H a w) {o : Oper} (hop : isAlloc o.op = true) {K : St → Prop} (hk : objK P o s H K) :
    ∃ V' s' y w', K s' ∧ Reg C we s0 H0 V' s' H (a.put o.dst y) w' ∧ ((execOp a.eval o).run P w = .ok (.value y) w' ∨ ((execOp a.eval o).run P w = .ok .skip w' ∧ y = undef)) := by
  obtain ⟨d, hd, hf, hk⟩ := alloc_state hop hk
  obtain ⟨d', hd', V', s', y, w', ⟨hK, hl⟩, hrep, hoff, ho, hrun⟩ := allocK_sound r.rep (heap_refl _) o hop hk
  rw [hd] at hd'
  cases hd'
  refine ⟨V', s', y, w', hK, ⟨hrep, r.only.trans ho, ?_, ?_, r.sub, r.le, r.base⟩, hrun⟩
  · intro x ob e
    have hx := r.keep x ob e
    refine (hl x ob ?_).2 hx
    rintro rfl
    rw [free_look hf] at hx
    cases hx
  · intro x ob b e hb
    have hx := r.keep x ob e
    rw [privB_off hoff (by rintro rfl; rw [free_look hf] at hx; cases hx)] at hb
    exact r.low x ob b e hb
/-- A call that leaves what is known as it was. -/
theorem delLs_sub : ∀ (ls : List Lend) {H : Heap} {b : Nat} {o : Obj}, delLs H ls b = some o → H b = some o
  | [], H, b, o, h => h
  | x :: r, H, b, o, h => by
    have := delLs_sub r h
    cases hq : blockOf x.val with
    | none => rw [hq] at this; exact this
    | some c =>
      rw [hq] at this
      simp only [Heap.delO, Heap.del] at this
      split at this
      · cases this
      · exact this
theorem delLs_mem : ∀ (ls : List Lend) {H : Heap} {x : Lend} {b : Nat}, x ∈ ls → blockOf x.val = some b → delLs H ls b = none
  | y :: r, H, x, b, hx, hb => by
    rcases List.mem_cons.1 hx with rfl | hx
    · cases hq : delLs H (x :: r) b with
      | none => rfl
      | some o =>
        have := delLs_sub r hq
        rw [hb] at this
        simp [Heap.delO, Heap.del] at this
    · exact delLs_mem r hx hb
theorem lent_mem : ∀ {ls : List Lend}, LentOK C V s ls → ∀ x ∈ ls, (∀ o, look s.objs x.site = some o → privB V x.site o = blockOf x.val) ∧ ∀ b, blockOf x.val = some b → C.w0.heap.size ≤ b
  | y :: r, h, x, hx => by
    obtain ⟨h1, h2, h3, h4⟩ := h
    rcases List.mem_cons.1 hx with rfl | hx
    · exact ⟨fun o ho => (h1 o ho).1, h2⟩
    · exact lent_mem h4 x hx
theorem call_reg (r : Reg C we s0 H0 V s H a w) {Hl H' : Heap} {ls : List Lend} {w' : World} (hl : Rep C V ⟨s.env, delAll s.objs ls, s.dfr⟩ Hl a w) (hL : LentOK C V s ls) (hHl : H ≤ Hl ∨ True) (hs : Step Hl w H' w') (hle : Hl ≤ H') (h0 : H0 ≤ delLs H' ls) :
    Reg C we s0 H0 V s (delLs H' ls) a w' := by
  have h := r.rep
  have same : ∀ b, b < w.heap.size → w'.heap[b]? = w.heap[b]? := by
    intro b hb
    cases hq : Hl b with
    | none => exact hs.other b hb hq
    | some o => rw [hl.sub b o hq, hs.sub b o (hle b o hq)]
  have gone : ∀ b, b < w.heap.size → (Hl b = none ∨ ∃ x ∈ ls, blockOf x.val = some b) → delLs H' ls b = none := by
    rintro b hb (hq | ⟨x, hx, hb'⟩)
    · have := hs.fresh b hb hq
      cases hq : delLs H' ls b with
      | none => rfl
      | some o => rw [delLs_sub ls hq] at this; cases this
    · exact delLs_mem ls hx hb'
  refine ⟨?_, r.only.trans ⟨hs.os, hs.tape, hs.output, hs.size, fun b _ hb => same b hb⟩, r.keep, r.low, r.sub, h0, r.base⟩
  refine { env := h.env, len := h.len, dfr := h.dfr, sub := fun b o e => hs.sub b o (delLs_sub ls e), objs := ?_, priv := ?_, dist := h.dist, os := hs.os.trans h.os, tape := hs.tape.trans h.tape, output := hs.output.trans h.output, size := Nat.le_trans h.size hs.size, other := ?_ }
  · intro d o e
    have ho := h.objs d o e
    cases o with
    | box ty l =>
      obtain ⟨cs, h1, h2⟩ := ho
      exact ⟨cs, h1, by rw [same _ (h.priv d _ _ e rfl).2.2]; exact h2⟩
    | row ty sz es => exact rowIn_same ho fun b hb => same _ (h.priv d _ _ e hb).2.2
  · intro d o b e hb
    obtain ⟨h1, h2, h3⟩ := h.priv d o b e hb
    refine ⟨gone b h3 ?_, h2, Nat.lt_of_lt_of_le h3 hs.size⟩
    by_cases hx : ∃ y ∈ ls, y.site = d
    · obtain ⟨y, hy, rfl⟩ := hx
      exact .inr ⟨y, hy, by rw [← (lent_mem hL y hy).1 o e]; exact hb⟩
    · left
      exact (hl.priv d o b (by rw [look_delAll, if_neg hx]; exact e) hb).1
  · intro b hb e
    obtain ⟨h1, h2⟩ := hl.other b hb e
    have hbw := Nat.lt_of_lt_of_le hb h.size
    exact ⟨(same b hbw).trans h1, gone b hbw (.inl h2)⟩
theorem lendK_mono : ∀ (xs : List SV) {s : St} {H : Heap} {K K' : List Value → Heap → List Lend → Prop}, (∀ vs Hl ls, K vs Hl ls → K' vs Hl ls) → lendK s xs H K → lendK s xs H K'
  | [], s, H, K, K', h, hk => h _ _ _ hk
  | x :: r, s, H, K, K', h, hk => by
    unfold lendK at hk ⊢
    split at hk
    · split at hk
      · intro v H' h1 h2 h3 h4
        exact lendK_mono r (fun vs Hl ls hk => h _ _ _ hk) (hk v H' h1 h2 h3 h4)
      · exact hk.elim
    · split at hk
      · split at hk
        · intro b hb
          exact lendK_mono r (fun vs Hl ls hk => h _ _ _ hk) (hk b hb)
        · exact hk.elim
      · exact hk.elim
    · split at hk
      · exact lendK_mono r (fun vs Hl ls hk => h _ _ _ hk) hk
      · exact hk.elim
theorem lendK_up : ∀ (xs : List SV) {s : St} {H : Heap} {K : List Value → Heap → List Lend → Prop}, lendK s xs H K →
    lendK s xs H fun vs Hl ls => K vs Hl ls ∧ H ≤ Hl ∧ ∀ x ∈ ls, ∀ b, blockOf x.val = some b → H b = none
  | [], s, H, K, hk => ⟨hk, heap_refl _, by simp⟩
  | x :: r, s, H, K, hk => by
    unfold lendK at hk ⊢
    split at hk
    · split at hk
      · intro v H' h1 h2 h3 h4
        refine lendK_mono r ?_ (lendK_up r (hk v H' h1 h2 h3 h4))
        rintro vs Hl ls ⟨g1, g2, g3⟩
        refine ⟨g1, fun b o e => g2 b o (h1 b o e), fun y hy b hb => ?_⟩
        rcases List.mem_cons.1 hy with rfl | hy
        · exact h2 b hb
        · have := g3 y hy b hb
          cases hq : H b with
          | none => rfl
          | some o => rw [h1 b o hq] at this; cases this
      · exact hk.elim
    · split at hk
      · split at hk
        · rename_i ty segs _ _ cs _
          intro c hc
          have up : H ≤ H.upd c (.cells cs.toArray ty (0, 0)) := fun b o e => by
            rw [upd_ne]
            · exact e
            · rintro rfl; rw [hc] at e; cases e
          refine lendK_mono r ?_ (lendK_up r (hk c hc))
          rintro vs Hl ls ⟨g1, g2, g3⟩
          refine ⟨g1, fun b o e => g2 b o (up b o e), fun y hy b hb => ?_⟩
          rcases List.mem_cons.1 hy with rfl | hy
          · simp [blockOf] at hb; subst hb; exact hc
          · have := g3 y hy b hb
            cases hq : H b with
            | none => rfl
            | some o => rw [up b o hq] at this; cases this
        · exact hk.elim
      · exact hk.elim
    · split at hk
      · exact lendK_up r hk
      · exact hk.elim
theorem delLs_keep : ∀ (ls : List Lend) {H : Heap} {b : Nat}, (∀ x ∈ ls, blockOf x.val ≠ some b) → delLs H ls b = H b
  | [], H, b, h => rfl
  | x :: r, H, b, h => by
    unfold delLs
    rw [delLs_keep r fun y hy => h y (List.mem_cons_of_mem _ hy)]
    cases hq : blockOf x.val with
    | none => rfl
    | some c =>
      have : b ≠ c := by rintro rfl; exact h x (List.mem_cons_self ..) hq
      simp [Heap.delO, Heap.del, this]
/-- A call of the head. -/
theorem keep_sound (r : Reg C we s0 H0 V s H a w) (o : Oper) {K : St → Heap → Prop} (hk : keepK P o s H K) :
    bigAt P o a w fun v w' => Kept we w' ∧ ∃ s' H', K s' H' ∧ Reg C we s0 H0 V s' H' (a.put o.dst v) w' := by
  unfold keepK at hk
  split at hk
  · rename_i f args ats ho
    have hlend := lendK_sound (args.toList.map (ev s)) (args.toList.map a.eval) s H r.rep (by simp) (fun i x y hx hy => by
      simp at hx hy
      obtain ⟨q, hq, rfl⟩ := hx
      obtain ⟨q', hq', rfl⟩ := hy
      rw [hq] at hq'; cases hq'
      exact r.rep.ev q) (lendK_up _ hk)
    clear hk
    obtain ⟨Hl, ls, ⟨hk, hup, hfr⟩, hrep, hlent, hex⟩ := hlend
    have post : ∀ (e : Ending) (w' : World), (∃ H', Step Hl w H' w' ∧ Hl ≤ H' ∧ retK P o.type e fun x => K (s.put o.dst x) (delLs H' ls)) →
        ∃ v, e = .returned v ∧ (Kept we w' ∧ ∃ s' H', K s' H' ∧ Reg C we s0 H0 V s' H' (a.put o.dst v) w') := by
      rintro e w' ⟨H', hstep, hle, hR⟩
      obtain ⟨v, x, rfl, hx, hb⟩ := retK_sound (V := V) hR
      have h0 : H0 ≤ delLs H' ls := fun b o e => by
        have e1 := r.le b o e
        rw [delLs_keep ls fun y hy hb => by rw [hfr y hy b hb] at e1; cases e1]
        exact hle b o (hup b o e1)
      have hreg := call_reg r hrep hlent (.inr trivial) hstep hle h0
      exact ⟨v, rfl, hreg.only, _, _, hb, hreg.put hx o.dst⟩
    have hargs : (args.map a.eval) = (args.toList.map a.eval).toArray := by apply Array.ext'; simp
    unfold bigAt
    split at hk
    · rename_i g
      obtain ⟨hc, hk⟩ := hk
      have hrun : (execOp a.eval o).run P w = .ok (.enter g (args.toList.map a.eval).toArray) w := by
        unfold execOp
        rw [ho]
        simp only [resolve, Sem.run_bind, Act.eval, Deferred.ofValue, Sem.run_pure, Result.andThen_ok, invoke]
        rw [hargs]
        have e1 : (#[] : Array Value) ++ (args.toList.map a.eval).toArray ++ #[] = (args.toList.map a.eval).toArray := by apply Array.ext'; simp
        rw [e1]
        exact callable_run hc _
      rw [hrun]
      exact (hk w hrep.sub).mono post
    · rename_i f' _
      have hf := r.rep.ev f
      split at hk
      · rename_i fv hfv
        rw [hfv] at hf
        obtain ⟨hf, -⟩ := hf
        unfold MeetsV at hk
        split at hk
        · rename_i g first cap
          obtain ⟨hc, hk⟩ := hk
          have hrun : (execOp a.eval o).run P w = .ok (.enter g (first.toList ++ args.toList.map a.eval ++ cap.toList).toArray) w := by
            unfold execOp
            rw [ho]
            simp only [resolve, Sem.run_bind, hf, Deferred.ofValue, Sem.run_pure, Result.andThen_ok, invoke]
            have : first ++ Array.map a.eval args ++ cap = (first.toList ++ args.toList.map a.eval ++ cap.toList).toArray := by apply Array.ext'; simp
            rw [this]
            exact callable_run hc _
          rw [hrun]
          exact (hk w hrep.sub).mono post
        · exact hk.elim
      · exact hk.elim
  · exact hk.elim
/-- One operation of the head. -/
theorem mixOp_sound (r : Reg C we s0 H0 V s H a w) {hs : Hints} (hE : ∀ t, memN hs.eqs t = true → EqOK P t) {ops : Array Oper} {k : Nat} {o : Oper} (hk0 : ops[k]? = some o) (hw : Region.wanted o (yielded ops a.tmps) = true)
    {K : St → Heap → Prop} {N : Act → World → Prop} (hN : ∀ V s H a w, Reg C we s0 H0 V s H a w → K s H → N a w) (hk : mixOp P hs s0 H0 o s H K) : mOp P ops (Kept we) (bigN ops.toList) k N a w := by
  have hbig : bigN ops.toList k = bigO o := by
    unfold bigN
    rw [nth_eq]
    simp [hk0]
  unfold mOp
  simp only [hk0]
  rw [if_pos hw, hbig]
  unfold mixOp at hk
  split at hk
  · rename_i hc
    rw [if_pos (by simp [bigO, hc])]
    exact bigAt_mono (keep_sound r o hk) fun v w' ⟨h1, s', H', h2, h3⟩ => ⟨h1, hN _ _ _ _ _ h3 h2⟩
  · rename_i hc
    split at hk
    · rename_i ha
      rw [if_pos (by simp [bigO, ha])]
      obtain ⟨V', s', y, w', h1, h2, h3 | ⟨h3, rfl⟩⟩ := alloc_reg r ha hk
      · unfold bigAt; rw [h3]; exact ⟨h2.only, hN _ _ _ _ _ h2 h1⟩
      · unfold bigAt; rw [h3]; exact ⟨h2.only, hN _ _ _ _ _ h2 h1⟩
    · rename_i ha
      rw [if_neg (by simp [bigO, ha, hc])]
      split at hk
      · obtain ⟨v, h1, x, h2, h3⟩ := quiet_sound r hE o (.inl hk)
        exact ⟨v, h1, hN _ _ _ _ _ (r.put h3 o.dst) h2⟩
      · obtain ⟨v, h1, x, h2, h3⟩ := quiet_sound r hE o (.inr hk)
        exact ⟨v, h1, hN _ _ _ _ _ (r.put h3 o.dst) h2⟩
      · exact hk.elim
theorem mixK_sound {hs : Hints} (hE : ∀ t, memN hs.eqs t = true → EqOK P t) {Q : Exit → St → Heap → Prop} {ops : Array Oper} : ∀ (m : Nat) (l : List Oper) (k : Nat) {V : Vl} {s : St} {H : Heap} {a : Act} {w : World}, ops.toList.drop k = l →
    Reg C we s0 H0 V s H a w → mixK P hs Q s0 H0 ops.toList m l s H → mList P ops (Kept we) (bigN ops.toList) (fun a' w' => wpList P ops (GamQ C Q) (ops.toList.drop (k + m)) a' w') m k a w
  | 0, l, k, V, s, H, a, w, hl, r, hk => by
    simp only [mList, Nat.add_zero, hl]
    exact opsK_sound hE l r.rep hk
  | m + 1, [], k, V, s, H, a, w, hl, r, hk => by simp [mixK] at hk
  | m + 1, o :: rest, k, V, s, H, a, w, hl, r, hk => by
    have hk0 : ops[k]? = some o := by
      have : (ops.toList.drop k)[0]? = some o := by rw [hl]; rfl
      simpa using this
    have hl' : ops.toList.drop (k + 1) = rest := by
      have : ops.toList.drop (k + 1) = (ops.toList.drop k).drop 1 := by rw [List.drop_drop]
      rw [this, hl]; rfl
    have next : ∀ V s H a w, Reg C we s0 H0 V s H a w → mixK P hs Q s0 H0 ops.toList m rest s H → mList P ops (Kept we) (bigN ops.toList) (fun a' w' => wpList P ops (GamQ C Q) (ops.toList.drop (k + (m + 1))) a' w') m (k + 1) a w := by
      intro V s H a w r hk
      have := mixK_sound hE m rest (k + 1) hl' r hk
      rwa [show k + 1 + m = k + (m + 1) by omega] at this
    have skip : ∀ {s : St}, Region.wanted o (yielded ops a.tmps) = false → Reg C we s0 H0 V s H a w → mixK P hs Q s0 H0 ops.toList m rest (s.put o.dst (.tup [])) H →
        mOp P ops (Kept we) (bigN ops.toList) k (mList P ops (Kept we) (bigN ops.toList) (fun a' w' => wpList P ops (GamQ C Q) (ops.toList.drop (k + (m + 1))) a' w') m (k + 1)) a w := by
      intro s hw r hk
      unfold mOp
      simp only [hk0]
      rw [if_neg (by simp [hw])]
      exact next _ _ _ _ _ (r.put (x := .tup []) ⟨[], rfl, rfl⟩ o.dst) hk
    simp only [mList]
    simp only [mixK] at hk
    split at hk
    · rename_i hg
      exact mixOp_sound r hE hk0 (by simp [Region.wanted, hg]) next hk
    · rename_i j b hg
      split at hk
      · exact hk.elim
      · rename_i g hgd
        split at hk
        · rename_i p hp
          obtain ⟨hy, hv⟩ := guard_yields r.rep hgd hp
          have hset : Reg C we s0 H0 V (s.set g (.c (.v (.bool p)))) H a w := r.set ⟨hv, rfl⟩
          split at hk
          · cases p with
            | true => exact mixOp_sound hset hE hk0 (by simp [Region.wanted, hg, hy]) next hk
            | false => exact skip (by simp [Region.wanted, hg, hy]) hset hk
          · cases p with
            | true => exact skip (by simp [Region.wanted, hg, hy]) hset hk
            | false => exact mixOp_sound hset hE hk0 (by simp [Region.wanted, hg, hy]) next hk
        · rename_i hp
          exact skip (by simp [Region.wanted, hg, guard_undef r.rep hgd hp]) r hk
        · exact hk.elim
theorem rep_drawn (h : Rep C V s H a w) : Rep C V s H a { w with drawn := w.drawn + 1 } :=
  { env := h.env, len := h.len, dfr := h.dfr, sub := h.sub, objs := fun d o e => by
      have := h.objs d o e
      cases o with
      | box ty l => exact this
      | row ty sz es => exact rowIn_same this fun _ _ => rfl
    priv := h.priv, dist := h.dist, os := h.os, tape := h.tape, output := h.output, size := h.size, other := h.other }
/-- A statement whose order is drawn. -/
theorem mix_sound {hs : Hints} (hE : ∀ t, memN hs.eqs t = true → EqOK P t) {Q : Exit → St → Heap → Prop} {ops : Array Oper} {id : Nat} (h : Rep C V s H a w) (hB : mixB ops (headLen ops.toList) (bigN ops.toList) = true) (hm : P.follows .mixedOrders = true)
    (hk : mixK P hs Q s H ops.toList (headLen ops.toList) ops.toList s H) : (Code.region id ops true).wp P (GamQ C Q) a w := by
  have h' := rep_drawn h
  have r : Reg C { w with drawn := w.drawn + 1 } s H V s H a { w with drawn := w.drawn + 1 } :=
    { rep := h', only := only_refl _, keep := fun _ _ e => e, low := fun d o b e hb => (h'.priv d o b e hb).2.2, sub := h'.sub, le := heap_refl _, base := h'.size }
  have := mixK_sound hE (headLen ops.toList) ops.toList 0 (by simp) r hk
  refine wp_region_mix (C := Kept { w with drawn := w.drawn + 1 }) hm hB (only_refl _) ?_
  simpa using this
end
end Sx
