/- VerifyTakes: each tree that is built is one, all its nodes are reached: whatever the input, the law returns true. -/
import Derived.Test.YtdlkimfkapkjpaaZ7
set_option linter.unusedVariables false
set_option linter.unusedSimpArgs false
set_option maxRecDepth 100000
namespace Go.Proofs.Ytdlkimfkapkjpaa.verifyTakes
open Cr Go Sx Go.RowKit Go.ChangeShapes Go.WideShapes
instance drF : Dr := ⟨False⟩
theorem lifted (os : Os) (started : os.Started) (H : Type) (enc : TypeId × Value → H) :
    ReturnsInHanded {} Try.checked os 3 .any (Rows.verifyTakesSpec.pre6 enc Try.prog Try.f3 Rows.verifyTakesRow.domain false) (Rows.verifyTakesSpec.post enc Try.prog Try.f3 false true false false) := by
  refine lifted_of (C := Try.checked) (b := 4) own started (by kernel_rfl) Try.func3
    (ChangeSpec.witness6 (enc := enc) (C := Try.checked) false ⟨#[], #[.slice none 0 0], []⟩ 8 (by kernel_rfl) (by kernel_rfl) (by kernel_rfl) (by kernel_rfl))
    laidOut (by kernel_rfl) rfl Try.underlying4 rfl ?_ ?_
  · intro ds hd
    match ds, hd with
    | [d1], _ => rfl
  intro W base args ds p hval hA _ hsz
  have hA : DataW.TrodAll enc Try.prog W 0 (fun _ => true) true Try.f3.params.toList args.toList ds p := hA
  rw [Try.params3] at hA
  obtain ⟨v0, vs0, d0, ds0, p0, q0, hargs, rfl, rfl, h0, r0⟩ := trodAll_cons hA
  obtain ⟨rfl, rfl, rfl⟩ := trodAll_nil r0
  obtain rfl : args = #[v0] := by cases args; simp_all
  obtain ⟨l, hs, hp, hb⟩ := openPts (hval 0 22 v0 rfl rfl) h0
  exact by
    rw [Try.params3] at hsz
    exact s_lvt (fun h => h) hs (hb (weigh hsz).1) hp fun H' h => ⟨rfl, h⟩
theorem over : Rows.verifyTakesRow.holds Try.pinned (OpenSpec.ofChange Rows.verifyTakesSpec) :=
  OpenClaim.holds_of_wide 3 Try.f3 rfl rfl rfl rfl rfl rfl rfl ⟨rfl, rfl, rfl, rfl, rfl⟩ rfl rfl rfl rfl rfl (by kernel_rfl) Try.func3 (by kernel_rfl)
    (of_decide_eq_true (by kernel_rfl)) (by unfold Func.isWrapper; first | (rw [if_pos (by decide +kernel)]; kernel_rfl) | (rw [if_neg (by decide +kernel)]; exact ⟨rfl, rfl⟩))
    (fun os started H enc _ => lifted os started H enc)
theorem proved : Rows.VerifyTakesSaid := over
#print axioms proved
end Go.Proofs.Ytdlkimfkapkjpaa.verifyTakes
