/- Operations that make a new private variable or row: what else they leave alone. -/
import Derived.Test.YtekaopahienmgaaSxM
set_option linter.unusedVariables false
set_option linter.unusedSimpArgs false
namespace Sx
open Go
section
variable {P : Program} {C : Ctx} {V : Vl} {s : St} {H : Heap} {a : Act} {w : World}

def GoesA (P : Program) (C : Ctx) (V : Vl) (o : Oper) (a : Act) (w : World) (K : St → Prop) (H : Heap) : Prop :=
  ∃ d, o.dst = some d ∧ ∃ V' s' y w', K s' ∧ Rep C V' s' H (a.put o.dst y) w' ∧ Off d V V' ∧ Only w w' (fun _ => False) ∧ (∀ ob b, look s'.objs d = some ob → privB V' d ob = some b → w.heap.size ≤ b) ∧ ((execOp a.eval o).run P w = .ok (.value y) w' ∨ ((execOp a.eval o).run P w = .ok .skip w' ∧ y = undef))
theorem new_at {d : Nat} {l : List (Nat × AObj)} {ob0 : AObj} {V' : Vl} {n : Nat} (h : privB V' d ob0 = some n) : ∀ ob b, look (objSet l d ob0) d = some ob → privB V' d ob = some b → n ≤ b := by
  intro ob b h1 h2
  rw [look_objSet, if_pos rfl] at h1
  cases h1
  rw [h] at h2
  cases h2
  exact Nat.le_refl _
theorem allocK_sound (h : Rep C V s H a w) {Hr : Heap} (hr : Hr ≤ H) (o : Oper) (hop : isAlloc o.op = true) {K : St → Prop} (hk : objK P o s Hr K) : GoesA P C V o a w K H := by
  have hsub := le_sub hr h.sub
  unfold objK at hk
  unfold GoesA execOp
  split at hk
  · -- alloc
    rename_i t d ho hd
    rw [ho, hd]
    split at hk
    · rename_i z ks hf hz hks
      obtain ⟨i, v, hi, hv, rfl, hone⟩ := zeroT_eq hz
      split at hk
      · rename_i l hl
        obtain ⟨V', hoff, hrep, hnb⟩ := new_box h hf t (parse_rep (V := V) hl hone) (parse_refs hl)
        refine ⟨_, rfl, V', _, _, _, hk, hrep, hoff, alloc_only _ _, new_at (by simp [privB, hnb, blockOf]), .inl (exec_v ?_)⟩
        simp only [Instr.alloc, Sem.run_bind, run_zero hi hv, Result.andThen_ok, newVar, newRow_run, Sem.run_pure]
      · exact hk.elim
    · exact hk.elim
  · -- box
    rename_i t x d ho hd
    rw [ho, hd]
    split at hk
    · rename_i l hf hl
      obtain ⟨V', hoff, hrep, hnb⟩ := new_box h hf t (segs_rep (h.ev x) hl) (segs_refs (ev_refs hf x) hl)
      refine ⟨_, rfl, V', _, _, _, hk, hrep, hoff, alloc_only _ _, new_at (by simp [privB, hnb, blockOf]), .inl (exec_v ?_)⟩
      simp only [Instr.box, Sem.run_bind, newVar, newRow_run, Result.andThen_ok, Sem.run_pure]
    · exact hk.elim
  · -- store
    rename_i ho _
    rw [ho] at hop; cases hop
  · -- buildSlice
    rename_i t n parts d ho hd
    rw [ho, hd]
    split at hk
    · rename_i e sz hf he
      split at hk
      · rename_i es hes hn
        obtain ⟨hu, i, hi, rfl⟩ := sliceElem_eq he
        have hn' := Nat.le_of_ble_eq_true hn
        obtain ⟨h1, h2, h2', h3⟩ := elemsOf_rep h _ _ _ hes
        split at hk
        · rename_i z hz
          obtain ⟨i', v, hi', hv, rfl, hone⟩ := zeroT_eq hz
          have hz1 : (if n * i.size = 0 then (pure #[] : Sem (Array Value)) else do pure (← zeroValue e).cells).run P w = .ok (if n * i.size = 0 then #[] else v.cells) w := by
            split
            · rfl
            · simp only [Sem.run_bind, run_zero hi' hv, Result.andThen_ok, Sem.run_pure]
          generalize hq : (if n * i.size = 0 then #[] else v.cells) = zq at hz1
          generalize hcells : (Array.range (n * i.size)).map (zq[· % zq.size]!) = cells
          have hcl : cells.size = n * i.size := by rw [← hcells]; simp
          obtain ⟨cs, h4, h5⟩ := h3 cells [] (by simp) (by simpa using hcl) (by simp)
          have hcs : cs.size = n * i.size := by rw [← Array.length_toList, h5, List.nil_append, flatten_len h2, h1]
          obtain ⟨V', hoff, hrep, hnb⟩ := new_row h hf (es := es) (ty := e) (sz := i.size) (cap := n) (c := cs) none (w' := { w with heap := w.heap.push (.cells cs e) }) (alloc_only _ _) (by simp) (by omega) (by omega) h2
            (by rw [h5, List.nil_append, List.take_of_length_le (by rw [flatten_len h2]; exact Nat.le_refl _)]) h2'
          rw [h1] at hrep
          refine ⟨_, rfl, V', _, _, _, hk, hrep, hoff, alloc_only _ _, new_at (by simp [privB, hnb, blockOf]), .inl (exec_v ?_)⟩
          simp only [Instr.buildSlice, Sem.run_bind, run_underlying hu, Result.andThen_ok, run_sizeT hi]
          rw [if_neg (by omega)]
          by_cases hzero : n * i.size = 0
          · rw [if_pos hzero] at hq ⊢
            subst hq
            simp only [Sem.run_bind, Sem.run_pure, Result.andThen_ok, Array.toList_map]
            rw [hcells, h4]
            simp only [Sem.run_bind, newRow_run, Result.andThen_ok, Sem.run_pure]
          · rw [if_neg hzero] at hq ⊢
            subst hq
            simp only [Sem.run_bind, run_zero hi' hv, Sem.run_pure, Result.andThen_ok, Array.toList_map]
            rw [hcells, h4]
            simp only [Sem.run_bind, newRow_run, Result.andThen_ok, Sem.run_pure]
        · exact hk.elim
      · exact hk.elim
    · exact hk.elim
  · -- makeSlice
    rename_i t n c d ho hd
    rw [ho, hd]
    have hn := h.ev n
    have hc := h.ev c
    split at hk
    · rename_i e sz hf he
      split at hk
      · rename_i n' c' z by_ hn1 hc1 hz hby
        rw [hn1] at hn
        rw [hc1] at hc
        obtain ⟨hn, -⟩ := hn
        obtain ⟨hc, -⟩ := hc
        split at hk
        · rename_i hzl
          have hzl := nbt hzl
          obtain ⟨⟨h0, rfl, hroom⟩, hK⟩ := hk
          obtain ⟨hu, i, hi, rfl⟩ := sliceElem_eq he
          obtain ⟨i', v, hi', hv, rfl, hone⟩ := zeroT_eq hz
          rw [hi] at hi'; cases hi'
          have hby' : i.bytes = by_ + 1 := by simp [bytesT, hi] at hby; exact hby
          have hle : c' ≤ roomMax := by
            refine Int.le_trans ?_ hroom
            have : c' * 1 ≤ c' * ((by_ + 1 : Nat) : Int) := Int.mul_le_mul_of_nonneg_left (by omega) h0
            simpa using this
          have hwrap : IntKind.i64.wrap c' = c' := IntWalk.i64_in c' (by unfold roomMax at hle; omega)
          have hzs : v.cells.size = i.size := by simpa using hzl
          have hz1 : (if c'.toNat * i.size = 0 then (pure #[] : Sem (Array Value)) else do pure (← zeroValue e).cells).run P w = .ok (if c'.toNat * i.size = 0 then #[] else v.cells) w := by
            split
            · rfl
            · simp only [Sem.run_bind, run_zero hi hv, Result.andThen_ok, Sem.run_pure]
          generalize hq : (if c'.toNat * i.size = 0 then #[] else v.cells) = zq at hz1
          have hcells : ((Array.range (c'.toNat * i.size)).map (zq[· % zq.size]!)).toList = (List.replicate c'.toNat v.cells.toList).flatten := by
            by_cases hzero : c'.toNat * i.size = 0
            · rw [hzero]
              have : (List.replicate c'.toNat v.cells.toList).flatten = [] := by
                apply List.eq_nil_of_length_eq_zero
                rw [flatten_len (sz := i.size) (by intro e he; rw [List.eq_of_mem_replicate he]; simpa using hzl)]
                simpa using hzero
              rw [this]; simp
            · rw [if_neg hzero] at hq
              subst hq
              rw [← hzs]
              exact zeros_list _
          have hrepl : ∀ e ∈ List.replicate c'.toNat v.cells.toList, e.length = i.size := by
            intro e he; rw [List.eq_of_mem_replicate he]; simpa using hzl
          obtain ⟨V', hoff, hrep, hnb⟩ := new_row h hf (es := List.replicate c'.toNat v.cells.toList) (ty := e) (sz := i.size) (cap := c'.toNat) (c := (Array.range (c'.toNat * i.size)).map (zq[· % zq.size]!)) none (w' := { w with heap := w.heap.push (.cells ((Array.range (c'.toNat * i.size)).map (zq[· % zq.size]!)) e) }) (alloc_only _ _) (by simp) (by simp) (by simp) hrepl
            (by rw [hcells, List.take_of_length_le (by rw [flatten_len hrepl]; exact Nat.le_refl _)]) (by intro e he; rw [List.eq_of_mem_replicate he]; exact hone)
          rw [List.length_replicate] at hrep
          refine ⟨_, rfl, V', _, _, _, hK, hrep, hoff, alloc_only _ _, new_at (by simp [privB, hnb, blockOf]), .inl (exec_v ?_)⟩
          rw [hn, hc]
          have hb48 : ¬ ((i.bytes : Int) * c' > 2 ^ 48) := by
            rw [hby', Int.mul_comm]
            unfold roomMax at hroom
            omega
          have hcond : ¬ (c' < 0 || (i.bytes : Int) * c' > 2 ^ 48 || c' < 0 || c' > c') = true := by
            simp; omega
          simp only [Instr.makeSlice, Sem.run_bind, run_underlying hu, Result.andThen_ok, asInt, asIntOf, Sem.run_pure, typeInfo, run_program, hi, hwrap]
          rw [if_neg (by simpa using hcond)]
          have hask : (askRoom (c'.toNat * i.bytes)).run P w = .ok () w := by unfold askRoom; split <;> rfl
          simp only [Sem.run_bind, hask, Result.andThen_ok, run_sizeT hi]
          by_cases hzero : c'.toNat * i.size = 0
          · rw [if_pos hzero] at hq ⊢
            subst hq
            simp only [Sem.run_bind, Sem.run_pure, Result.andThen_ok, newRow_run]
          · rw [if_neg hzero] at hq ⊢
            subst hq
            simp only [Sem.run_bind, run_zero hi hv, Sem.run_pure, Result.andThen_ok, newRow_run]
        · exact hk.elim
      · exact hk.elim
    · exact hk.elim
  · -- append
    rename_i ho _
    rw [ho] at hop; cases hop
  · exact hk.elim
end
end Sx
