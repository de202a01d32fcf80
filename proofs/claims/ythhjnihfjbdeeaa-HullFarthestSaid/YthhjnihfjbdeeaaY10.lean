/- HullFarthest: the first pair that is farthest is told: whatever the input, the law returns true. -/
import Derived.Test.YthhjnihfjbdeeaaZ5
set_option linter.unusedVariables false
set_option linter.unusedSimpArgs false
set_option maxRecDepth 100000
namespace Go.Proofs.Ythhjnihfjbdeeaa.hullFarthest
open Cr Go Sx Go.RowKit Go.ChangeShapes Go.WideShapes
instance drF : Dr := ⟨False⟩
theorem lifted (os : Os) (started : os.Started) (H : Type) (enc : TypeId × Value → H) :
    ReturnsInHanded {} Try.checked os 6 .any (Rows.hullFarthestSpec.pre6 enc Try.prog Try.f6 Rows.hullFarthestRow.domain false) (Rows.hullFarthestSpec.post enc Try.prog Try.f6 false true false false) := by
  refine lifted_of (C := Try.checked) (b := 4) own started (by kernel_rfl) Try.func6
    (ChangeSpec.witness6 (enc := enc) (C := Try.checked) false ⟨#[], #[.slice none 0 0], []⟩ 8 (by kernel_rfl) (by kernel_rfl) (by kernel_rfl) (by kernel_rfl))
    laidOut (by kernel_rfl) rfl Try.underlying4 rfl ?_ ?_
  · intro ds hd
    match ds, hd with
    | [d1], _ => rfl
  intro W base args ds p hval hA _ hsz
  have hA : DataW.TrodAll enc Try.prog W 0 (fun _ => true) true Try.f6.params.toList args.toList ds p := hA
  rw [Try.params6] at hA
  obtain ⟨v0, vs0, d0, ds0, p0, q0, hargs, rfl, rfl, h0, r0⟩ := trodAll_cons hA
  obtain ⟨rfl, rfl, rfl⟩ := trodAll_nil r0
  obtain rfl : args = #[v0] := by cases args; simp_all
  obtain ⟨l, hs, hp, -⟩ := openPts (hval 0 22 v0 rfl rfl) h0
  exact by
    rw [Try.params6] at hsz
    exact s_lfar35 hs (fun p q => (hp p q).1) fun H' h => ⟨rfl, h⟩
theorem over : Rows.hullFarthestRow.holds Try.pinned (OpenSpec.ofChange Rows.hullFarthestSpec) :=
  OpenClaim.holds_of_wide 6 Try.f6 rfl rfl rfl rfl rfl rfl rfl ⟨rfl, rfl, rfl, rfl, rfl⟩ rfl rfl rfl rfl rfl (by kernel_rfl) Try.func6 (by kernel_rfl)
    (of_decide_eq_true (by kernel_rfl)) (by unfold Func.isWrapper; first | (rw [if_pos (by decide +kernel)]; kernel_rfl) | (rw [if_neg (by decide +kernel)]; exact ⟨rfl, rfl⟩))
    (fun os started H enc _ => lifted os started H enc)
theorem proved : Rows.HullFarthestSaid := over
#print axioms proved
end Go.Proofs.Ythhjnihfjbdeeaa.hullFarthest
