/- What changes memory that is known; calls: soundness. -/
import Derived.Test.YtekaopahienmgaaSxU
set_option linter.unusedVariables false
set_option linter.unusedSimpArgs false
namespace Sx
open Go
section
variable {P : Program} {C : Ctx} {V : Vl} {s : St} {H : Heap} {a : Act} {w : World}

/-- A block that is known, or new, holds something else. -/
theorem rep_pub (h : Rep C V s H a w) {b : Nat} {obj : Obj} {w' : World} (hb : (∃ o, H b = some o) ∨ w.heap.size ≤ b) (ho : Only w w' fun x => x = b) (hat : w'.heap[b]? = some obj) : Rep C V s (H.upd b obj) a w' := by
  have hpriv : ∀ d o b', look s.objs d = some o → privB V d o = some b' → b' ≠ b := by
    intro d o b' h1 h2 e
    subst e
    obtain ⟨h3, _, h4⟩ := h.priv _ _ _ h1 h2
    rcases hb with ⟨o, hb⟩ | hb
    · rw [h3] at hb; cases hb
    · omega
  refine { env := h.env, len := h.len, dfr := h.dfr, sub := ?_, objs := ?_, priv := ?_, dist := h.dist, os := ho.os.trans h.os, tape := ho.tape.trans h.tape, output := ho.output.trans h.output, size := Nat.le_trans h.size ho.size, other := ?_ }
  · intro b' o' hb'
    by_cases e : b' = b
    · subst e; rw [upd_same] at hb'; cases hb'; exact hat
    · rw [upd_ne _ _ e] at hb'
      have := h.sub b' o' hb'
      rw [ho.block b' e (Array.getElem?_eq_some_iff.1 this).1]
      exact this
  · intro d o hd
    have keep : ∀ b', privB V d o = some b' → w'.heap[b']? = w.heap[b']? := fun b' hb' => ho.block b' (hpriv d o b' hd hb') (h.priv _ _ _ hd hb').2.2
    cases o with
    | box ty l =>
      obtain ⟨cs, h1, h2⟩ := h.objs _ _ hd
      exact ⟨cs, h1, by rw [keep _ rfl]; exact h2⟩
    | row ty sz es => exact rowIn_same (h.objs _ _ hd) fun b hb => keep b hb
  · intro d o b' hd hp
    obtain ⟨h1, h2, h3⟩ := h.priv _ _ _ hd hp
    exact ⟨by rw [upd_ne _ _ (hpriv _ _ _ hd hp)]; exact h1, h2, Nat.lt_of_lt_of_le h3 ho.size⟩
  · intro b' h1 h2
    obtain ⟨h3, h4⟩ := h.other b' h1 h2
    have hne : b' ≠ b := by
      intro e; subst e
      rcases hb with ⟨o, hb⟩ | hb
      · rw [h4] at hb; cases hb
      · have := h.size; omega
    exact ⟨by rw [ho.block b' hne (Nat.lt_of_lt_of_le h1 h.size), h3], by rw [upd_ne _ _ hne]; exact h4⟩
theorem mapK {r : Option Nat} {K : Nat → Prop} (h : MapK r K) : ∃ x, r = some x ∧ K x := by
  cases r with
  | none => exact h.elim
  | some x => exact ⟨x, rfl, h⟩
theorem setB_self {b : Nat} {o : Obj} (h : w.heap[b]? = some o) : setB w b o = w := by
  unfold setB
  have hlt := (Array.getElem?_eq_some_iff.1 h)
  obtain ⟨h1, h2⟩ := hlt
  have : w.heap.setIfInBounds b o = w.heap := by
    apply Array.ext
    · simp
    · intro i h3 h4
      rw [Array.getElem_setIfInBounds]
      split
      · rename_i e; subst e; exact h2.symm
      · rfl
  rw [this]
/-- What is handed over has no hole. -/
theorem lendC_good {x : SC} {s : St} {H : Heap} {K : Value → St → Heap → List Lend → Prop} (hk : lendC x s H K) : x ≠ .bad := by
  rintro rfl
  exact hk
theorem lendSegs_one : ∀ (l : List Seg) (s : St) (H : Heap) {cs : List Value} {K : List Value → St → Heap → List Lend → Prop}, Rep C V s H a w → SegsRep V l cs → lendSegs l s H K → ∀ x ∈ cs, one x = true
  | [], s, H, cs, K, h, hs, hk => by
    have : cs = [] := hs
    subst this; simp
  | .c x :: r, s, H, cs, K, h, hs, hk => by
    obtain ⟨y, l', rfl, hx, hr⟩ := hs
    unfold lendSegs at hk
    have hone := sc_one (lendC_good hk) hx
    obtain ⟨s1, H1, l1, h1, h2, h3⟩ := lendC_sound h hx hk
    intro z hz
    rcases List.mem_cons.1 hz with rfl | hz
    · exact hone
    · exact lendSegs_one r s1 H1 h2 hr h1 z hz
  | .ints k n xs :: r, s, H, cs, K, h, hs, hk => by
    obtain ⟨_, l', rfl, hr⟩ := hs
    unfold lendSegs at hk
    intro z hz
    rcases List.mem_append.1 hz with hz | hz
    · obtain ⟨n, _, rfl⟩ := List.mem_map.1 hz; rfl
    · exact lendSegs_one r s H h hr hk z hz
theorem run_setObj {r : Nat} {o o' : Obj} (h : w.heap[r]? = some o') (hc : ∀ c e f, o' ≠ .cells c e f) : (setObj r o).run P w = .ok () (setB w r o) := by
  simp only [setObj, Sem.run, h]
  rfl
theorem findNow_idx {k : IntKind} {x : Int} : ∀ (es : List MapEntry) (i : Nat), IntKeys k es →
    Instr.findNow (.int k) (.int k x) es i = some ((es.findIdx? (fun e => match e.key with | .int _ y => x == y | _ => false)).map fun j => (i + j, ((es[j]?).map (·.val)).getD undef))
  | [], i, _ => rfl
  | e :: es, i, h => by
    obtain ⟨n, hn⟩ := h e (by simp)
    simp only [Instr.findNow, hn, Instr.sameNow, if_true, List.findIdx?_cons]
    by_cases hx : x = n
    · subst hx; simp
    · have hb : (x == n) = false := by simpa using hx
      simp only [hb]
      rw [findNow_idx es (i + 1) fun e he => h e (by simp [he])]
      simp only [Option.map_map, Bool.false_eq_true, if_false]
      congr 2
      funext j
      simp [Nat.add_assoc, Nat.add_comm 1 j]
/-- What an operation that changes known memory comes to. -/
def EffGoes (P : Program) (C : Ctx) (o : Oper) (a : Act) (w : World) (K : St → Heap → Prop) : Prop :=
  ∃ V s' H' y w', K s' H' ∧ Rep C V s' H' (a.put o.dst y) w' ∧ ((execOp a.eval o).run P w = .ok (.value y) w' ∨ ((execOp a.eval o).run P w = .ok .skip w' ∧ y = undef))
theorem effK_sound (h : Rep C V s H a w) (o : Oper) {K : St → Heap → Prop} (hk : effK P o s H K) : EffGoes P C o a w K := by
  unfold effK at hk
  unfold EffGoes execOp
  split at hk
  · rename_i t x y ho
    rw [ho]
    have hx := h.ev x
    split at hk
    · rename_i p l z hp hl hz
      rw [hp] at hx
      obtain ⟨hx, -⟩ := hx
      split at hk
      · rename_i hcl
        have hcl := nbt hcl
        have hrep := segs_rep (h.ev y) hl
        have hk0 := hk
        obtain ⟨s1, H1, ls, hk, h1, hL⟩ := lendSegs_sound l s H h hrep hk
        obtain ⟨A, rfl, c, ty, ⟨hb, hs, hle⟩, hK⟩ := ptrK hk
        obtain ⟨i, hi, rfl⟩ := sizeT_eq hz
        have hvs : (a.eval y).cells.size = i.size := by have := segsRep_len hrep; simp at this; omega
        have hblk := h1.sub _ _ hb
        have hA : A = ⟨A.block, A.off, none⟩ := by cases A; simp_all
        have hone := lendSegs_one l s H h hrep hk0
        have hrun := storeVar_run (P := P) (off := A.off) hi hvs hblk hle hone
        refine ⟨V, _, _, undef, _, hK, (rep_pub h1 (.inl ⟨_, hb⟩) (setB_only _ _) (setB_at hblk)).put (x := .c .bad) trivial o.dst, .inr ⟨exec_u ?_, rfl⟩⟩
        simp only [Instr.storeAt, Sem.run_bind, hx, Instr.sureAddr, Sem.run_pure, Result.andThen_ok]
        rw [hA]; exact hrun
      · exact hk.elim
    · exact hk.elim
  · rename_i t ho
    rw [ho]
    have hn : H w.heap.size = none := by
      cases hb : H w.heap.size with
      | none => rfl
      | some ob => have := (Array.getElem?_eq_some_iff.1 (h.sub _ _ hb)).1; omega
    refine ⟨V, _, _, _, { w with heap := w.heap.push (.map #[] 0) }, hk w.heap.size hn, (rep_pub h (.inr (Nat.le_refl _)) (alloc_only _ _) (by simp)).put (x := .c (.v (.map (some w.heap.size)))) ⟨rfl, rfl⟩ o.dst, .inl (exec_v ?_)⟩
    rfl
  · rename_i t m k x ho
    rw [ho]
    have hm := h.ev m
    have hkk := h.ev k
    split at hk
    · rename_i kt et r ik n hu hm1 hk1
      rw [hm1] at hm
      rw [hk1] at hkk
      obtain ⟨hm, -⟩ := hm
      obtain ⟨hkk, -⟩ := hkk
      split at hk
      · rename_i ik' hkt
        split at hk
        · rename_i hsk
          have := sameK_eq hsk; subst this
          obtain ⟨s1, H1, ls, hk, h1, hL⟩ := lendV_sound h (h.ev x) hk
          obtain ⟨r, rfl, es, clk, ⟨hb, hik⟩, hK⟩ := mapK hk
          have hblk := h1.sub _ _ hb
          refine ⟨V, _, _, undef, _, hK, (rep_pub h1 (.inl ⟨_, hb⟩) (setB_only _ _) (setB_at hblk)).put (x := .c .bad) trivial o.dst, .inr ⟨exec_u ?_, rfl⟩⟩
          rw [hm, hkk]
          simp only [Instr.mapUpdate, Sem.run_bind, run_underlying hu, Result.andThen_ok, run_getObj hblk (by simp)]
          rw [show (10000 : Nat) = 9999 + 1 from rfl, checkKey_int hkt]
          simp only [Result.andThen_ok, Instr.findKey, Sem.run_bind, run_underlying hkt, findNow_idx es.toList 0 hik, Sem.run_pure, mapPut]
          cases hf : es.toList.findIdx? (fun e => match e.key with | .int _ y => n == y | _ => false) with
          | none =>
            simp only [Option.map_none]
            rw [run_setObj hblk (by simp)]
          | some j =>
            simp only [Option.map_some, Nat.zero_add]
            have hj := List.findIdx?_eq_some_iff_getElem.1 hf
            obtain ⟨hlt, hj1, _⟩ := hj
            have hjs : j < es.size := by simpa using hlt
            obtain ⟨y, hy⟩ := hik _ (List.getElem_mem hlt)
            rw [hy] at hj1
            have hny : n = y := by simpa using hj1
            subst hny
            have hy' : es[j].key = .int ik n := by simpa using hy
            have hstay : (Instr.keyThatStays (((es[j]?).map (·.key)).getD (.int ik n)) (.int ik n)).run P w = .ok (.int ik n) w := by
              simp only [Array.getElem?_eq_getElem hjs, Option.map_some, Option.getD_some, hy', Instr.keyThatStays]
              rw [if_pos (by simp [Instr.sameBits])]
              rfl
            simp only [Sem.run_bind, hstay, Result.andThen_ok]
            rw [run_setObj hblk (by simp)]
        · exact hk.elim
      · exact hk.elim
    · exact hk.elim
  · rename_i args ats ho
    rw [ho]
    split at hk
    · rename_i t x hat hargs
      have hx := h.ev x
      split at hk
      · rename_i e sz al n c he hx1
        rw [hx1] at hx
        obtain ⟨hx, -⟩ := hx
        split at hk
        · rename_i z hz
          split at hk
          · rename_i hzl
            have hzl := nbt hzl
            have e2 : args = #[x] := by apply Array.ext'; simpa using hargs
            have e1 : ats[0]? = some t := by rw [← Array.getElem?_toList, hat]; rfl
            subst e2
            obtain ⟨hu, i, hi, rfl⟩ := sliceElem_eq he
            obtain ⟨i', v, hi', hv, rfl, hone⟩ := zeroT_eq hz
            rw [hi] at hi'; cases hi'
            rcases hk with ⟨rfl, hK⟩ | ⟨A, cs, ty, rfl, ⟨hb, hs, hle⟩, hK⟩
            · refine ⟨V, _, _, .tuple #[], _, hK, h.put (x := .c .bad) trivial o.dst, .inl ?_⟩
              simp only [resolve, Sem.run_bind, Sem.run_pure, Result.andThen_ok, invoke, builtin, List.map_toArray, List.map_cons, List.map_nil, hx]
              have hrun : (Builtin.clear_ ats o.type #[.slice al 0 c]).run P w = .ok (.tuple #[]) w := by
                simp only [Builtin.clear_, e1, List.getElem?_toArray, List.getElem?_cons_zero, Sem.run_bind, run_underlying hu, Result.andThen_ok]
                cases al <;> rfl
              rw [hrun]
              rfl
            · have hblk := h.sub _ _ hb
              have hA : A = ⟨A.block, A.off, none⟩ := by cases A; simp_all
              have hlen : ((List.replicate n v.cells.toList).flatten).length = n * i.size := by
                rw [flatten_len (sz := i.size) (by intro e he; rw [List.eq_of_mem_replicate he]; exact hzl), List.length_replicate]
              have hall : ∀ x ∈ (List.replicate n v.cells.toList).flatten, one x = true := by
                intro x hx
                obtain ⟨e, he, hx⟩ := List.mem_flatten.1 hx
                rw [List.eq_of_mem_replicate he] at hx
                exact hone x hx
              refine ⟨V, _, _, .tuple #[], _, hK, (rep_pub h (.inl ⟨_, hb⟩) (setB_only _ _) (setB_at hblk)).put (x := .c .bad) trivial o.dst, .inl ?_⟩
              simp only [resolve, Sem.run_bind, Sem.run_pure, Result.andThen_ok, invoke, builtin, List.map_toArray, List.map_cons, List.map_nil, hx]
              have hst := storeCells_run (P := P) (off := A.off) _ 0 w hblk (by rw [hlen]; omega) hall
              rw [← hA] at hst
              have hrun : (Builtin.clear_ ats o.type #[.slice (some A) n c]).run P w = .ok (.tuple #[]) (setB w A.block (.cells (writeCells cs A.off (List.replicate n v.cells.toList).flatten) ty (0, 0))) := by
                cases n with
                | zero =>
                  simp only [Builtin.clear_, e1, List.getElem?_toArray, List.getElem?_cons_zero, Sem.run_bind, run_underlying hu, Result.andThen_ok]
                  simp only [List.replicate_zero, List.flatten_nil, writeCells, setB_self hblk]
                  rfl
                | succ n =>
                  simp only [Builtin.clear_, e1, List.getElem?_toArray, List.getElem?_cons_zero, Sem.run_bind, run_underlying hu, Result.andThen_ok, run_zero hi hv, Builtin.zeroCells, zeros_list]
                  simp only [Nat.add_zero] at hst
                  rw [hst]
                  rfl
              rw [hrun]
              rfl
          · exact hk.elim
        · exact hk.elim
      · exact hk.elim
    · exact hk.elim
  · rename_i args ats ho
    rw [ho]
    split at hk
    · rename_i t rest m k hat hargs
      have hm := h.ev m
      have hkk := h.ev k
      split at hk
      · rename_i kt et r ik n hu hm1 hk1
        rw [hm1] at hm
        rw [hk1] at hkk
        obtain ⟨hm, -⟩ := hm
        obtain ⟨hkk, -⟩ := hkk
        split at hk
        · rename_i ik' hkt
          split at hk
          · rename_i hsk
            have := sameK_eq hsk; subst this
            obtain ⟨r, rfl, es, clk, ⟨hb, hik⟩, hK⟩ := mapK hk
            have hblk := h.sub _ _ hb
            have e2 : args = #[m, k] := by apply Array.ext'; simpa using hargs
            have e1 : ats[0]? = some t := by rw [← Array.getElem?_toList, hat]; rfl
            subst e2
            refine ⟨V, _, _, .tuple #[], _, hK, (rep_pub h (.inl ⟨_, hb⟩) (setB_only _ _) (setB_at hblk)).put (x := .c .bad) trivial o.dst, .inl ?_⟩
            simp only [resolve, Sem.run_bind, Sem.run_pure, Result.andThen_ok, invoke, builtin, List.map_toArray, List.map_cons, List.map_nil, hm, hkk]
            have hrun : (Builtin.delete_ ats o.type #[.map (some r), .int ik n]).run P w = .ok (.tuple #[]) (setB w r (mapDel es clk n)) := by
              simp only [Builtin.delete_, e1, List.getElem?_toArray, List.getElem?_cons_zero, List.getElem?_cons_succ, Sem.run_bind, run_underlying hu, Result.andThen_ok, run_getObj hblk (by simp)]
              rw [show (10000 : Nat) = 9999 + 1 from rfl, checkKey_int hkt]
              simp only [Result.andThen_ok, Instr.findKey, Sem.run_bind, run_underlying hkt, findNow_idx es.toList 0 hik, Sem.run_pure, mapDel]
              cases hf : es.toList.findIdx? (fun e => match e.key with | .int _ y => n == y | _ => false) with
              | none =>
                simp only [Option.map_none, Sem.run_bind]
                rw [run_setObj hblk (by simp)]
                rfl
              | some j =>
                simp only [Option.map_some, Nat.zero_add, Sem.run_bind]
                rw [run_setObj hblk (by simp)]
                rfl
            rw [hrun]
            rfl
          · exact hk.elim
        · exact hk.elim
      · exact hk.elim
    · exact hk.elim
  · exact hk.elim
end
end Sx
