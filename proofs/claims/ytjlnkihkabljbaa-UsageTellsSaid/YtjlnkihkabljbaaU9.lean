/- Lists held against each other. -/
import Derived.Test.YtjlnkihkabljbaaU7
set_option linter.unusedVariables false
set_option linter.unusedSimpArgs false
namespace Go.Proofs.Ytjlnkihkabljbaa.Us
open Go Sx Go.RowKit Go.ChangeShapes Go.WideShapes Lay
open Go.Proofs.Try
set_option maxRecDepth 100000
def h21 : Hints := { loops := [(4, ⟨[0, 1], [.f 5 (.int .i64)], []⟩)] }
def nf_f21 (pa : Option Addr) (pb : Option Addr) (na : Nat) (ca : Nat) (nb : Nat) (cb : Nat) (R : Ending → Heap → Prop) (H : Heap) : Prop := Br ((↑na : Int) != (↑nb : Int)) (R (Ending.returned (Value.bool false)) H) (pa = pa ∧ na = na ∧ ca = ca ∧ pb = pb ∧ nb = nb ∧ cb = cb ∧ LoopP (fun (K : (Int × PUnit) × PUnit → (Nat → Option Obj) → Prop) (p : (Int × PUnit) × PUnit) (H : Nat → Option Obj) ↦ Br (decide (p.fst.fst < (↑na : Int))) (((0 : Int) ≤ p.fst.fst ∧ p.fst.fst < (↑na : Int)) ∧ PtrK pa fun (A : Addr) ↦ PtrK (some (Addr.add A (Int.toNat p.fst.fst * (1 : Nat)))) fun (a : Addr) ↦ ∃ (n : Int), Heap.has H a [Value.int IntKind.i64 n] ∧ ((0 : Int) ≤ p.fst.fst ∧ p.fst.fst < (↑nb : Int)) ∧ PtrK pb fun (A : Addr) ↦ PtrK (some (Addr.add A (Int.toNat p.fst.fst * (1 : Nat)))) fun (a : Addr) ↦ ∃ (n_1 : Int), Heap.has H a [Value.int IntKind.i64 n_1] ∧ Br (n != n_1) (R (Ending.returned (Value.bool false)) H) (pa = pa ∧ na = na ∧ ca = ca ∧ pb = pb ∧ nb = nb ∧ cb = cb ∧ K ((IntKind.wrap IntKind.i64 (p.fst.fst + (1 : Int)), PUnit.unit), PUnit.unit) H)) (R (Ending.returned (Value.bool true)) H)) (((0 : Int), PUnit.unit), PUnit.unit) H)
theorem vc_f21 (pa : Option Addr) (pb : Option Addr) (na : Nat) (ca : Nat) (nb : Nat) (cb : Nat) (R : Ending → Heap → Prop) (H : Heap) : vcFun prog h21 f21 [SV.c (SC.v (Value.slice pa na ca)), SV.c (SC.v (Value.slice pb nb cb))] R H = nf_f21 pa pb na ca nb cb R H := by kernel_rfl

section
variable {R : Ending → Heap → Prop} {H : Heap}
theorem s21 {v w : Value} {l r : List Int} (hv : SliceAt H v 1 (cells l)) (hw : SliceAt H w 1 (cells r)) (hl : l.length ≤ 1000000) (h : R (.returned (.bool (l == r))) H) : Meets prog 21 [v, w] H R := by
  obtain ⟨pa, na, ca, rfl, hna, _, _, _, ha⟩ := hv
  obtain ⟨pb, nb, cb, rfl, hnb, _, _, _, hb⟩ := hw
  have e1 : l.length = na := by simpa [cells] using hna
  have e2 : r.length = nb := by simpa [cells] using hnb
  refine spec_of func21 (by kernel_rfl) (fun t h => by cases h) ?_ (vc_f21 pa pb na ca nb cb R H) ?_
  · simp [argsR, SV.rep, SC.rep, SegsRep, one]
  unfold nf_f21
  refine br (fun k => ?_) fun k => ?_
  · have : (l == r) = false := by
      simp at k ⊢; rintro rfl; omega
    rwa [this] at h
  simp only [true_and]
  have hn : na = nb := by simp at k; omega
  refine ⟨fun p H' => (0 ≤ p.1.1 ∧ p.1.1 ≤ na) ∧ l.take p.1.1.toNat = r.take p.1.1.toNat ∧ H' = H, fun p _ => ((na : Int) - p.1.1).toNat, ⟨by simp, by simp, rfl⟩, ?_⟩
  rintro ⟨⟨i, _⟩, _⟩ H' ⟨hi, he, rfl⟩
  simp only at hi he ⊢
  refine br (fun q => ?_) fun q => ?_
  · simp only [decide_eq_true_eq] at q
    obtain ⟨x, hx⟩ : ∃ x, l[i.toNat]? = some x := ⟨l[i.toNat]'(by omega), by simp [show i.toNat < l.length by omega]⟩
    obtain ⟨y, hy⟩ : ∃ y, r[i.toNat]? = some y := ⟨r[i.toNat]'(by omega), by simp [show i.toNat < r.length by omega]⟩
    obtain ⟨A, hA, _, hhas⟩ := ha i.toNat [.int .i64 x] (by simp [cells, hx])
    obtain ⟨B, hB, _, hhas'⟩ := hb i.toNat [.int .i64 y] (by simp [cells, hy])
    have hw : IntKind.i64.wrap (i + 1) = i + 1 := IntWalk.i64_in _ (by omega)
    refine ⟨⟨hi.1, q⟩, ptr hA ⟨x, hhas, ⟨hi.1, by omega⟩, ptr hB ⟨y, hhas', br (fun d => ?_) fun d => ?_⟩⟩⟩
    · have : (l == r) = false := by
        simp at d ⊢
        rintro rfl
        rw [hx] at hy
        cases hy
        exact d rfl
      rwa [this] at h
    · simp at d
      subst d
      refine ⟨⟨by rw [hw]; omega, ?_, trivial⟩, by rw [hw]; omega⟩
      rw [hw, show (i + 1).toNat = i.toNat + 1 by omega, List.take_add_one, List.take_add_one, he, hx, hy]
  · simp only [decide_eq_false_iff_not] at q
    have : (l == r) = true := by
      rw [List.take_of_length_le (by omega), List.take_of_length_le (by omega)] at he
      simpa using he
    rwa [this] at h
end
end Go.Proofs.Ytjlnkihkabljbaa.Us
