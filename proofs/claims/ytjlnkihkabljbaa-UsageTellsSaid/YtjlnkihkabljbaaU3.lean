/- Usage: all but two; a sector that moves. -/
import Derived.Test.YtjlnkihkabljbaaU2
import Derived.Test.YtjlnkihkabljbaaSxS
set_option linter.unusedVariables false
set_option linter.unusedSimpArgs false
namespace Go.Proofs.Ytjlnkihkabljbaa.Us
open Go Sx Go.RowKit Go.ChangeShapes Go.WideShapes Lay
open Go.Proofs.Try
set_option maxRecDepth 100000
theorem heap_trans {H H' H'' : Heap} (h : H ≤ H') (h' : H' ≤ H'') : H ≤ H'' := fun b o e => h' b o (h b o e)
theorem row_len {H : Heap} {v : Value} {ty sz : Nat} {es : List (List Value)} (h : RowAt H v ty sz es) : ∃ a c, v = .slice a es.length c := by
  rcases h with ⟨rfl, rfl⟩ | ⟨b, o, cap, c, rfl, _⟩
  · exact ⟨_, _, rfl⟩
  · exact ⟨_, _, rfl⟩
theorem alive_free : (fr 6 0 1 (live 6 4 (List.replicate 256 0)) 32).length = 4 := by kernel_rfl
theorem eqs37 : ∀ t, memN (Hints.eqs h6) t = true → EqOK prog t := by
  intro t h
  have : t = 37 := by
    simp only [h6, memN] at h
    split at h
    · rename_i hb; exact (Nat.eq_of_beq_eq_true hb).symm
    · cases h
  subst this
  obtain ⟨i, hi⟩ : ∃ i, prog.info? 3 = some i := by
    cases hq : prog.info? 3 with
    | some i => exact ⟨i, rfl⟩
    | none => have : (prog.info? 3).isSome = true := by kernel_rfl
              rw [hq] at this; cases this
  exact eqOK_ints underlying37 underlying3 hi (by kernel_rfl) (of_decide_eq_true (by kernel_rfl))
section
variable {R : Ending → Heap → Prop} {H : Heap}
theorem s19 (h : ∀ H', H ≤ H' → R (.returned (.bool true)) H') : Meets prog 19 [] H R := by
  refine spec_of func19 (by kernel_rfl) noEqs (by simp [argsR]) (vc_f19 R H) ?_
  unfold nf_f19
  refine s22 6 4 0 0 1 (List.replicate 256 0) (by simp) (fun q => absurd (by unfold Ok; omega) q) fun _ v H' h1 h2 => ?_
  obtain ⟨a, c, rfl⟩ := row_len h2
  refine ⟨a, _, c, rfl, ?_⟩
  rw [show (cells (fr 6 0 1 (live 6 4 (List.replicate 256 0)) 32)).length = 4 by simp only [cells, List.length_map]; exact alive_free]
  exact h H' h1
end
/-! ### A sector that moves -/
theorem liv_get (s z : Int) (j : Nat) : ∀ (r l : List Int), j < l.length → (liv s z r l).getD j 0 = l.getD j 0 + (r.countP fun a => decide (whr s z a = some j))
  | [], l, h => by simp [liv]
  | a :: r, l, h => by
    simp only [liv]
    rw [liv_get s z j r _ (by rw [bump_len]; exact h), List.countP_cons]
    unfold bump
    split
    · rename_i hq; simp [hq]
    · rename_i i hq
      rw [hq]
      by_cases hij : i = j
      · subst hij
        simp [h]; omega
      · have : (l.set i (l.getD i 0 + 1)).getD j 0 = l.getD j 0 := by
          simp [List.getD, List.getElem?_set_ne hij]
        rw [this]
        simp [hij]
theorem live_get (s z : Int) (m : List Int) (j : Nat) (hj : j < 32) : (live s z m).getD j 0 = ((m.drop 1).countP fun a => decide (whr s z a = some j) : Nat) := by
  unfold live
  have h0 : zeros.getD j 0 = 0 := by
    unfold zeros List.getD
    rw [List.getElem?_replicate, if_pos hj]
    rfl
  rw [liv_get s z j _ _ (by unfold zeros; rw [List.length_replicate]; exact hj), h0, Int.zero_add]
def unbump (o : Option Nat) (l : List Int) : List Int := match o with
  | none => l
  | some i => l.set i (l.getD i 0 - 1)
theorem getD_set (l : List Int) (i j : Nat) (x : Int) (hi : i < l.length) : (l.set i x).getD j 0 = if i = j then x else l.getD j 0 := by
  unfold List.getD
  rw [List.getElem?_set]
  by_cases h : i = j
  · subst h; simp [hi]
  · simp [h]
theorem live_move (s z : Int) (m : List Int) (i : Nat) (a : Int) (hi : 1 ≤ i ∧ i < m.length) (j : Nat) (hj : j < 32) :
    (live s z (m.set i a)).getD j 0 = (live s z m).getD j 0 - (if whr s z (m.getD i 0) = some j then 1 else 0) + (if whr s z a = some j then 1 else 0) := by
  rw [live_get s z _ j hj, live_get s z m j hj]
  have e : (m.set i a).drop 1 = (m.drop 1).set (i - 1) a := by
    rw [List.drop_set, if_neg (by omega)]
  have hl : i - 1 < (m.drop 1).length := by simp; omega
  have hg : (m.drop 1)[i - 1] = m.getD i 0 := by
    rw [List.getElem_drop]
    unfold List.getD
    simp [show 1 + (i - 1) = i by omega, hi.2]
  rw [e, List.countP_set hl, hg]
  have hpos : whr s z (m.getD i 0) = some j → 0 < (m.drop 1).countP fun a => decide (whr s z a = some j) := by
    intro hq
    rw [List.countP_pos_iff]
    exact ⟨_, List.getElem_mem hl, by rw [hg]; simpa using hq⟩
  generalize m.getD i 0 = x at *
  generalize (m.drop 1).countP (fun a => decide (whr s z a = some j)) = c at *
  by_cases h1 : whr s z x = some j <;> by_cases h2 : whr s z a = some j
  · have := hpos h1; simp only [h1, h2, decide_true, if_true]; omega
  · have := hpos h1; simp only [h1, h2, decide_true, decide_false, if_true, if_false, Bool.false_eq_true]; omega
  · simp only [h1, h2, decide_true, decide_false, if_true, if_false, Bool.false_eq_true]; omega
  · simp only [h1, h2, decide_true, decide_false, if_true, if_false, Bool.false_eq_true]; omega
end Go.Proofs.Ytjlnkihkabljbaa.Us
