/- == of arrays of numbers. -/
import Derived.Test.YtekaopahienmgaaSxR
import Derived.ChangeKeysEq
import Derived.OpenShut
set_option linter.unusedVariables false
set_option linter.unusedSimpArgs false
namespace Sx
open Go
section
variable {P : Program}
theorem items_run (w : World) (d : Nat) {e : TypeId} {k : IntKind} (he : P.underlying e = some (.int k)) (hc : P.cellsOf e = 1) (xs ys : List Int) :
    ∀ (m j : Nat), j + m = xs.length → xs.length = ys.length → (Op.eqItems (d + 1) e (P.cellsOf e) (xs.map (Value.int k)).toArray (ys.map (Value.int k)).toArray (List.range' j m)).run P w = .ok (xs.drop j == ys.drop j) w
  | 0, j, h, hl => by
    rw [List.drop_of_length_le (by omega), List.drop_of_length_le (by omega)]
    simp [Op.eqItems]
  | m + 1, j, h, hl => by
    have hp : P.plainKey e = true := by simp [Program.plainKey, he]
    have hx : ((xs.map (Value.int k)).toArray)[j]? = some (Value.int k xs[j]) := by simp [show j < xs.length by omega]
    have hy : ((ys.map (Value.int k)).toArray)[j]? = some (Value.int k ys[j]) := by simp [show j < ys.length by omega]
    have ih := items_run w d he hc xs ys m (j + 1) (by omega) hl
    have e1 : xs.drop j = xs[j] :: xs.drop (j + 1) := List.drop_eq_getElem_cons (by omega)
    have e2 : ys.drop j = ys[j] :: ys.drop (j + 1) := List.drop_eq_getElem_cons (by omega)
    rw [List.range'_succ, e1, e2]
    rw [hc] at ih
    have p1 := run_part_plain w hp hx
    have p2 := run_part_plain w hp hy
    have p3 := run_equalIn_int w d e k k xs[j] ys[j] he
    simp only [Op.eqItems, Sem.run_bind, hc, Nat.mul_one, p1, p2, Result.andThen_ok, p3]
    have e3 : (xs[j] :: xs.drop (j + 1) == ys[j] :: ys.drop (j + 1)) = ((xs[j] == ys[j]) && (xs.drop (j + 1) == ys.drop (j + 1))) := rfl
    rw [e3]
    by_cases hq : xs[j] = ys[j]
    · rw [show (xs[j] == ys[j]) = true by simpa using hq]
      simp [ih]
    · rw [show (xs[j] == ys[j]) = false by simpa using hq]
      simp
theorem shape_ints {k : IntKind} {n : Nat} {l : List Seg} (h : shapeOK [.ints k n] l = true) : ∃ xs, l = [.ints k n xs] ∧ sameK k k = true := by
  unfold shapeOK at h
  split at h
  all_goals rename_i h0
  all_goals try cases h0
  · rename_i k' m' xs' l' 
    split at h
    · rename_i h1 h2
      have e1 := sameK_eq h1; subst e1
      have e2 := nbt h2; subst e2
      unfold shapeOK at h
      split at h
      · exact ⟨_, rfl, h1⟩
      all_goals simp at *
    · cases h
  all_goals cases h
theorem eqOK_ints {t e : TypeId} {k : IntKind} {n : Nat} {i : TypeInfo} (hu : P.underlying t = some (.array n e)) (he : P.underlying e = some (.int k)) (hi : P.info? e = some i) (hc : P.cellsOf e = 1) (hd : 2 ≤ P.depth) : EqOK P t where
  guard := by
    obtain ⟨d, hd⟩ : ∃ d, P.depth = d + 2 := ⟨P.depth - 2, by omega⟩
    rw [hd]
    simp [Program.eqGuardType, hu, he]
  run := by
    intro ks hks l l' cs cs' b w hl hl' hn hn' hf hf' hr
    have hk : kinds P t = some [.ints k n] := by simp [kinds, kindsOf, hu, he]
    rw [hk] at hks
    cases hks
    obtain ⟨xs, rfl, hk0⟩ := shape_ints hl
    obtain ⟨ys, rfl, _⟩ := shape_ints hl'
    simp [flat] at hf hf'
    subst hf hf'
    have hx : xs.length = n := hn.1
    have hy : ys.length = n := hn'.1
    have e1 : (xs == ys) = b := by
      simp only [eqR, hk0, andO] at hr
      simpa using hr
    unfold Op.equal
    rw [show Op.maxDepth = 9998 + 1 + 1 from rfl, run_equalIn_array w _ _ _ hu hi, List.range_eq_range', items_run w 9998 he hc xs ys n 0 (by omega) (by omega)]
    simp [e1]
/-! ### Slices that are known -/
theorem row_slice {H : Heap} {v : Value} {ty sz : Nat} {es : List (List Value)} (h : RowAt H v ty sz es) : SliceAt H v sz es := by
  rcases h with ⟨rfl, rfl⟩ | ⟨b, o, cap, c, rfl, h1, h2, h3, h4, h5, h6⟩
  · exact ⟨none, 0, 0, rfl, rfl, Nat.le_refl _, by simp, by simp, by simp⟩
  · refine ⟨_, _, _, rfl, rfl, h2, h4, h6, fun i e he => ⟨_, rfl, rfl, fun j x hx => ?_⟩⟩
    have hi : i < es.length := (List.getElem?_eq_some_iff.1 he).1
    have hle := h4 e (List.mem_of_getElem? he)
    have hj : j < sz := by have := (List.getElem?_eq_some_iff.1 hx).1; omega
    have hm : (i + 1) * sz ≤ es.length * sz := Nat.mul_le_mul_right _ hi
    rw [Nat.add_mul, Nat.one_mul] at hm
    have hf := flatten_get h4 he hj
    rw [← h5, List.getElem?_take_of_lt (by omega), List.getElem?_drop, hx] at hf
    rw [add_spot (by rw [add_spot rfl]), add_spot rfl]
    unfold Heap.cell?
    simp only [h1]
    have : o + i * sz + j = o + (i * sz + j) := by omega
    rw [this]
    simpa using hf
theorem slice_le {H H' : Heap} {v : Value} {sz : Nat} {es : List (List Value)} (h : SliceAt H v sz es) (hle : H ≤ H') : SliceAt H' v sz es := by
  obtain ⟨a, n, c, h1, h2, h3, h4, h5, h6⟩ := h
  refine ⟨a, n, c, h1, h2, h3, h4, h5, fun i e he => ?_⟩
  obtain ⟨A, g1, g2, g3⟩ := h6 i e he
  refine ⟨A, g1, g2, fun j x hx => ?_⟩
  have := g3 j x hx
  unfold Heap.cell? at *
  split at this
  · rename_i q1 q2 q3 q4
    rw [hle _ _ q4]
    exact this
  · cases this
/-! ### Opening an array of numbers -/
theorem ints_of : ∀ (k : IntKind) (cs : List Value), (∀ i, i < cs.length → ∃ n, cs[i]? = some (.int k n) ∧ (Lit.int k n).wf = true) → ∃ m : List Int, cs = m.map (.int k) ∧ ∀ a ∈ m, (Lit.int k a).wf = true
  | k, [], _ => ⟨[], rfl, by simp⟩
  | k, c :: r, h => by
    obtain ⟨n, h1, h2⟩ := h 0 (by simp)
    obtain ⟨m, rfl, h3⟩ := ints_of k r fun i hi => by simpa using h (i + 1) (by simpa using hi)
    simp at h1
    subst h1
    exact ⟨n :: m, rfl, by simpa using ⟨h2, h3⟩⟩
theorem open_intArr {H : Type} {enc : TypeId × Value → H} {w : World} {base : Nat} {spare : Nat → Bool} {held : Bool} {r : Reach} {b0 : Nat} {t e : TypeId} {k : IntKind} {n : Nat} {v : Value} {d : DataW H} {ps : List MemPlace}
    (hu : P.underlying t = some (.array n e)) (he : P.underlying e = some (.int k)) (hc : P.cellsOf e = 1) (hs : P.cellsOf t = n)
    (hv : Value.okWide P w r b0 t v) (h : DataW.Trod enc P w base spare held t v d ps) : ∃ m : List Int, v = .agg ⟨m.map (.int k) ++ []⟩ ∧ m.length = n ∧ ∀ a ∈ m, (Lit.int k a).wf = true := by
  simp only [Value.okWide, hu] at hv
  obtain ⟨cs, rfl, hsz, _⟩ := hv
  obtain ⟨fuel, hf⟩ := h
  obtain ⟨xs, m, q1, q2, q3, q4, q5⟩ := DataW.trod_array hu hf
  have hlen : cs.toList.length = n := by simpa [Value.cells, hs] using q3
  obtain ⟨l, e1, e2⟩ := ints_of k cs.toList fun i hi => by
    have hx := q5 i (by omega)
    have hxi : i < xs.length := by omega
    rw [List.getElem?_eq_getElem hxi] at hx
    obtain ⟨a, h1, _, h2⟩ := DataW.trod_int he hx
    refine ⟨a, ?_, h2⟩
    have := congrArg (·[0]?) h1
    simp only [hc, Nat.mul_one, Value.cells] at this
    rw [List.getElem?_take_of_lt (by omega), List.getElem?_drop] at this
    simpa using this
  refine ⟨l, ?_, ?_, e2⟩
  · congr 1
    apply Array.ext'
    simpa using e1
  · rw [e1] at hlen; simpa using hlen
end
end Sx
