/- VerifyRefuses: a tree with one Count, Kid or Next changed is none, nor is one with a node more: whatever the input, the law returns true. -/
import Derived.Test.YtdlkimfkapkjpaaZ7
set_option linter.unusedVariables false
set_option linter.unusedSimpArgs false
set_option maxRecDepth 100000
namespace Go.Proofs.Ytdlkimfkapkjpaa.verifyRefuses
open Cr Go Sx Go.RowKit Go.ChangeShapes Go.WideShapes
instance drF : Dr := ⟨False⟩
theorem lifted (os : Os) (started : os.Started) (H : Type) (enc : TypeId × Value → H) :
    ReturnsInHanded {} Try.checked os 4 .any (Rows.verifyRefusesSpec.pre6 enc Try.prog Try.f4 Rows.verifyRefusesRow.domain false) (Rows.verifyRefusesSpec.post enc Try.prog Try.f4 false true false false) := by
  refine lifted_of (C := Try.checked) (b := 4) own started (by kernel_rfl) Try.func4
    (ChangeSpec.witness6 (enc := enc) (C := Try.checked) false ⟨#[], #[.slice none 0 0, .int .i64 0, .int .u8 0, .int .u8 0], []⟩ 8 (by kernel_rfl) (by kernel_rfl) (by kernel_rfl) (by kernel_rfl))
    laidOut (by kernel_rfl) rfl Try.underlying4 rfl ?_ ?_
  · intro ds hd
    match ds, hd with
    | [d1, d2, d3, d4], _ => rfl
  intro W base args ds p hval hA _ hsz
  have hA : DataW.TrodAll enc Try.prog W 0 (fun _ => true) true Try.f4.params.toList args.toList ds p := hA
  rw [Try.params4] at hA
  obtain ⟨v0, vs0, d0, ds0, p0, q0, hargs, rfl, rfl, h0, r0⟩ := trodAll_cons hA
  obtain ⟨v1, vs1, d1, ds1, p1, q1, rfl, rfl, rfl, h1, r1⟩ := trodAll_cons r0
  obtain ⟨v2, vs2, d2, ds2, p2, q2, rfl, rfl, rfl, h2, r2⟩ := trodAll_cons r1
  obtain ⟨v3, vs3, d3, ds3, p3, q3, rfl, rfl, rfl, h3, r3⟩ := trodAll_cons r2
  obtain ⟨rfl, rfl, rfl⟩ := trodAll_nil r3
  obtain rfl : args = #[v0, v1, v2, v3] := by cases args; simp_all
  obtain ⟨l, hs, hp, hb⟩ := openPts (hval 0 22 v0 rfl rfl) h0
  obtain ⟨w, rfl⟩ := openI (hval 1 3 v1 rfl rfl) h1
  obtain ⟨x, rfl, hx⟩ := openB (hval 2 5 v2 rfl rfl) h2
  obtain ⟨y, rfl, hy⟩ := openB (hval 3 5 v3 rfl rfl) h3
  exact by
    rw [Try.params4] at hsz
    exact s_lvr (fun h => h) hs (hb (weigh hsz).1) hp hx hy fun H' h => ⟨rfl, h⟩
theorem over : Rows.verifyRefusesRow.holds Try.pinned (OpenSpec.ofChange Rows.verifyRefusesSpec) :=
  OpenClaim.holds_of_wide 4 Try.f4 rfl rfl rfl rfl rfl rfl rfl ⟨rfl, rfl, rfl, rfl, rfl⟩ rfl rfl rfl rfl rfl (by kernel_rfl) Try.func4 (by kernel_rfl)
    (of_decide_eq_true (by kernel_rfl)) (by unfold Func.isWrapper; first | (rw [if_pos (by decide +kernel)]; kernel_rfl) | (rw [if_neg (by decide +kernel)]; exact ⟨rfl, rfl⟩))
    (fun os started H enc _ => lifted os started H enc)
theorem proved : Rows.VerifyRefusesSaid := over
#print axioms proved
end Go.Proofs.Ytdlkimfkapkjpaa.verifyRefuses
