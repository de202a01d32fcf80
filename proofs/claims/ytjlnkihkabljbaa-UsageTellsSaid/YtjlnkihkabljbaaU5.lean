/- UsageMoves: a sector that moves takes its segment's count along: whatever the input, it returns true. -/
import Derived.Test.YtjlnkihkabljbaaU4
set_option linter.unusedVariables false
set_option linter.unusedSimpArgs false
namespace Go.Proofs.Ytjlnkihkabljbaa.Us
open Go Sx Go.RowKit Go.ChangeShapes Go.WideShapes
section
variable {H : Type} {enc : TypeId × Value → H} {W : World}
theorem openU8 {v : Value} {d : DataW H} {ps : List MemPlace} {base : Nat} (hv : Value.okWide Try.prog W .any base 5 v) (h : DataW.Trod enc Try.prog W 0 (fun _ => true) true 5 v d ps) : ∃ n, v = .int .u8 n ∧ 0 ≤ n ∧ n ≤ 255 := by
  obtain ⟨n, rfl, _, _, hw⟩ := open_int Try.underlying5 hv h
  exact ⟨n, rfl, bounds_u8 hw⟩
theorem openMap {v : Value} {d : DataW H} {ps : List MemPlace} {base : Nat} (hv : Value.okWide Try.prog W .any base 36 v) (h : DataW.Trod enc Try.prog W 0 (fun _ => true) true 36 v d ps) :
    ∃ m, v = arr m ∧ m.length = 256 ∧ ∀ a ∈ m, -9223372036854775808 ≤ a ∧ a ≤ 9223372036854775807 := by
  obtain ⟨m, h1, h2, h3⟩ := open_intArr Try.underlying36 Try.underlying3 (by kernel_rfl) (by kernel_rfl) hv h
  exact ⟨m, h1, h2, fun a ha => bounds_i64 (h3 a ha)⟩
end
end Go.Proofs.Ytjlnkihkabljbaa.Us
namespace Go.Proofs.Ytjlnkihkabljbaa.usageMoves
open Lay Us Go Sx Go.RowKit Go.ChangeShapes Go.WideShapes
theorem lifted (os : Os) (started : os.Started) (H : Type) (enc : TypeId × Value → H) :
    ReturnsInHanded {} Try.checked os 6 .any (Rows.usageMovesSpec.pre6 enc Try.prog Try.f6 Rows.usageMovesRow.domain false) (Rows.usageMovesSpec.post enc Try.prog Try.f6 false true false false) := by
  refine lifted_of (C := Try.checked) (b := 4) own started (by kernel_rfl) Try.func6
    (ChangeSpec.witness6 (enc := enc) (C := Try.checked) false ⟨#[], #[geo 0 0, arr (List.replicate 256 0), .int .u8 0, .int .i64 0], []⟩ 8 (by kernel_rfl) (by kernel_rfl) (by kernel_rfl) (by kernel_rfl))
    laidOut (by kernel_rfl) rfl Try.underlying4 rfl ?_ ?_
  · intro ds hd
    match ds, hd with
    | [d1, d2, d3, d4], _ => rfl
  intro W base args ds p hval hA _ hsz
  have hA : DataW.TrodAll enc Try.prog W 0 (fun _ => true) true Try.f6.params.toList args.toList ds p := hA
  rw [Try.params6] at hA
  obtain ⟨v0, vs0, d0, ds0, p0, q0, hargs, rfl, rfl, h0, r0⟩ := trodAll_cons hA
  obtain ⟨v1, vs1, d1, ds1, p1, q1, rfl, rfl, rfl, h1, r1⟩ := trodAll_cons r0
  obtain ⟨v2, vs2, d2, ds2, p2, q2, rfl, rfl, rfl, h2, r2⟩ := trodAll_cons r1
  obtain ⟨v3, vs3, d3, ds3, p3, q3, rfl, rfl, rfl, h3, r3⟩ := trodAll_cons r2
  obtain ⟨rfl, rfl, rfl⟩ := trodAll_nil r3
  obtain rfl : args = #[v0, v1, v2, v3] := by cases args; simp_all
  obtain ⟨s, z, rfl, _⟩ := openGeo (hval 0 23 v0 rfl rfl) h0
  obtain ⟨m, rfl, hm, hr⟩ := openMap (hval 1 36 v1 rfl rfl) h1
  obtain ⟨id, rfl, hid⟩ := openU8 (hval 2 5 v2 rfl rfl) h2
  obtain ⟨t, rfl, ht⟩ := openInt (hval 3 3 v3 rfl rfl) h3
  exact s6 s z id t m hm hid ht hr fun H' h => ⟨rfl, h⟩
theorem over : Rows.usageMovesRow.holds Try.pinned (OpenSpec.ofChange Rows.usageMovesSpec) :=
  OpenClaim.holds_of_wide 6 Try.f6 rfl rfl rfl rfl rfl rfl rfl ⟨rfl, rfl, rfl, rfl, rfl⟩ rfl rfl rfl rfl rfl (by kernel_rfl) Try.func6 (by kernel_rfl)
    (of_decide_eq_true (by kernel_rfl)) (by unfold Func.isWrapper; first | (rw [if_pos (by decide +kernel)]; kernel_rfl) | (rw [if_neg (by decide +kernel)]; exact ⟨rfl, rfl⟩))
    (fun os started H enc _ => lifted os started H enc)
theorem proved : Rows.UsageMovesSaid := over
#print axioms proved
end Go.Proofs.Ytjlnkihkabljbaa.usageMoves
