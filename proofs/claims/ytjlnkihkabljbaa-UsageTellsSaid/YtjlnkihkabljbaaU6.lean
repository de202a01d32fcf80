/- Usage: what is needed; all together. -/
import Derived.Test.YtjlnkihkabljbaaU4
set_option linter.unusedVariables false
set_option linter.unusedSimpArgs false
namespace Go.Proofs.Ytjlnkihkabljbaa.Us
open Go Sx Go.RowKit Go.ChangeShapes Go.WideShapes Lay
open Go.Proofs.Try
set_option maxRecDepth 100000
def hit (s z g a : Int) : Bool := match whr s z a with | some j => (j : Int) == g | none => false
def nd (s z g : Int) (m : List Int) : Nat → List Int
  | 0 => []
  | k + 1 => nd s z g m k ++ (if hit s z g (m.getD k 0) = true ∧ 0 < k then [(k : Int)] else [])
theorem nd_len (s z g : Int) (m : List Int) : ∀ k, (nd s z g m k).length ≤ k
  | 0 => Nat.le_refl _
  | k + 1 => by
    have := nd_len s z g m k
    simp only [nd, List.length_append]
    split <;> simp <;> omega
section
variable {R : Ending → Heap → Prop} {H : Heap}
theorem s23 (s z g : Int) (m : List Int) (hm : m.length = 256) (h : ∀ v H', H ≤ H' → RowAt H' v 3 1 (cells (nd s z g m 256)) → R (.returned v) H') : Meets prog 23 [geo s z, arr m, vi g] H R := by
  refine spec_of func23 (by kernel_rfl) (fun t h => by cases h) ?_ (vc_f23 s z g m R H) ?_
  · simp [argsR, SV.rep, SC.rep, SegsRep, one, hm]
  unfold nf_f23
  simp only [true_and]
  refine ⟨fun p H' => (0 ≤ p.1.1 ∧ p.1.1 ≤ 256) ∧ p.1.2.1 = cells (nd s z g m p.1.1.toNat) ∧ H' = H, fun p _ => (256 - p.1.1).toNat, ⟨by simp, rfl, rfl⟩, ?_⟩
  rintro ⟨⟨k, es, _⟩, _, _, _⟩ H' ⟨hk, hl, rfl⟩
  simp only at hk hl
  subst hl
  simp only
  refine br (fun q => ?_) fun q => ?_
  · simp only [decide_eq_true_eq] at q
    have hw : IntKind.i64.wrap (k + 1) = k + 1 := IntWalk.i64_in _ (by omega)
    have hkn : ((k.toNat : Nat) : Int) = k := by omega
    have hstep : nd s z g m (k + 1).toNat = nd s z g m k.toNat ++ (if hit s z g (m.getD k.toNat 0) = true ∧ 0 < k then [k] else []) := by
      rw [show (k + 1).toNat = k.toNat + 1 by omega]
      simp only [nd, hkn]
      simp only [show (0 < k.toNat) = (0 < k) by simp]
    have hlen := nd_len s z g m k.toNat
    have no : ¬ (hit s z g (m.getD k.toNat 0) = true ∧ 0 < k) →
        ((0 ≤ IntKind.i64.wrap (k + 1) ∧ IntKind.i64.wrap (k + 1) ≤ 256) ∧ cells (nd s z g m k.toNat) = cells (nd s z g m (IntKind.i64.wrap (k + 1)).toNat) ∧ True) ∧ (256 - IntKind.i64.wrap (k + 1)).toNat < (256 - k).toNat := by
      intro hno
      rw [hw, hstep, if_neg hno, List.append_nil]
      exact ⟨⟨by omega, rfl, trivial⟩, by omega⟩
    refine ⟨⟨hk.1, by omega⟩, w14 _ _ _ fun i q' b c1 c2 => ⟨_, _, _, rfl, ?_⟩⟩
    generalize m.getD k.toNat 0 = x at *
    cases hq : whr s z x with
    | none =>
      obtain ⟨rfl, rfl, rfl⟩ := c2 hq
      simp only [br_false]
      exact no fun e => by simp [hit, hq] at e
    | some j =>
      obtain ⟨rfl, rfl⟩ := c1 j hq
      simp only [br_true]
      refine br (fun a1 => br (fun a2 => ?_) fun a2 => ?_) fun a1 => ?_
      all_goals simp only [true_and, decide_eq_true_eq, decide_eq_false_iff_not, beq_iff_eq, beq_eq_false_iff_ne, ne_eq] at *
      · refine ⟨?_, ?_, ?_⟩
        · simp [cells]; omega
        · refine ⟨by rw [hw]; omega, ?_, trivial⟩
          rw [cells_snoc, hw, hstep, if_pos ⟨by simp [hit, hq, a1], a2⟩]
        · rw [hw]; omega
      · exact no fun e => a2 e.2
      · exact no fun e => a1 (by simpa [hit, hq] using e.1)
  · simp only [decide_eq_false_iff_not] at q
    have : k = 256 := by omega
    subst this
    intro v H'' h3 h4 h5 h6
    exact h v H'' h3 h6
end
section
variable {R : Ending → Heap → Prop} {H : Heap}
theorem sum_le {b : Int} (hb : 0 ≤ b) : ∀ (l : List Int), (∀ x ∈ l, 0 ≤ x ∧ x ≤ b) → 0 ≤ l.sum ∧ l.sum ≤ b * l.length
  | [], _ => by simp
  | x :: l, h => by
    have h1 := h x (by simp)
    have h2 := sum_le hb l fun y hy => h y (by simp [hy])
    simp only [List.sum_cons, List.length_cons]
    have : b * ((l.length + 1 : Nat) : Int) = b * l.length + b := by rw [Int.natCast_add, Int.mul_add]; simp
    omega
theorem s24 (s z : Int) (m : List Int) (hm : m.length = 256) (h : R (.returned (vi (live s z m).sum)) H) : Meets prog 24 [geo s z, arr m] H R := by
  refine spec_of func24 (by kernel_rfl) (fun t h => by cases h) ?_ (vc_f24 s z m R H) ?_
  · simp [argsR, SV.rep, SC.rep, SegsRep, one, hm]
  unfold nf_f24
  simp only [true_and]
  refine s20 s z m hm ⟨live s z m, live_len s z m, rfl, ?_⟩
  have hL := live_len s z m
  have hr : ∀ x ∈ live s z m, 0 ≤ x ∧ x ≤ 255 := by
    intro x hx
    obtain ⟨j, hj, rfl⟩ := List.getElem_of_mem hx
    have := live_rng s z m hm j (by omega)
    simpa [List.getD, hj] using this
  generalize live s z m = L at *
  refine ⟨fun p H' => (0 ≤ p.1.1 ∧ p.1.1 ≤ 32) ∧ p.1.2.1 = (L.take p.1.1.toNat).sum ∧ H' = H, fun p _ => (32 - p.1.1).toNat, ⟨by simp, by simp, rfl⟩, ?_⟩
  rintro ⟨⟨k, n, _⟩, _, _⟩ H' ⟨hk, hl, rfl⟩
  simp only at hk hl
  subst hl
  simp only
  refine br (fun q => ?_) fun q => ?_
  · simp only [decide_eq_true_eq] at q
    have hw : IntKind.i64.wrap (k + 1) = k + 1 := IntWalk.i64_in _ (by omega)
    have hg : L.take (k + 1).toNat = L.take k.toNat ++ [L.getD k.toNat 0] := by
      rw [show (k + 1).toNat = k.toNat + 1 by omega, List.take_add_one]
      have : k.toNat < L.length := by omega
      simp [List.getD, this]
    have h1 := sum_le (b := 255) (by omega) (L.take (k + 1).toNat) fun x hx => hr x (List.mem_of_mem_take hx)
    have h2 : (L.take (k + 1).toNat).length ≤ 32 := by simp; omega
    rw [hg] at h1 h2
    have hs : IntKind.i64.wrap ((L.take k.toNat).sum + L.getD k.toNat 0) = (L.take k.toNat ++ [L.getD k.toNat 0]).sum := by
      rw [IntWalk.i64_in]
      · simp
      · have : (L.take k.toNat ++ [L.getD k.toNat 0]).sum = (L.take k.toNat).sum + L.getD k.toNat 0 := by simp
        omega
    refine ⟨⟨hk.1, by omega⟩, ⟨by rw [hw]; omega, ?_, trivial⟩, by rw [hw]; omega⟩
    rw [hw, hg]
    exact hs
  · simp only [decide_eq_false_iff_not] at q
    have : k = 32 := by omega
    subst this
    have : L.take (32 : Int).toNat = L := List.take_of_length_le (by omega)
    rw [this]
    exact h
end
end Go.Proofs.Ytjlnkihkabljbaa.Us
