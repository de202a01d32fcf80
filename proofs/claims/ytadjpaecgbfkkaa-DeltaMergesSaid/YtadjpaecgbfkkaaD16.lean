/- DeltaMerges: two sets of changes to one set of points merged: whatever the input, the law returns true. -/
import Derived.Test.YtadjpaecgbfkkaaZ5
set_option linter.unusedVariables false
set_option linter.unusedSimpArgs false
set_option maxRecDepth 100000
namespace Go.Proofs.Ytadjpaecgbfkkaa.deltaMerges
open Cr Go Sx Go.RowKit Go.ChangeShapes Go.WideShapes
theorem lifted (os : Os) (started : os.Started) (H : Type) (enc : TypeId × Value → H) :
    ReturnsInHanded {} Try.checked os 17 .any (Rows.deltaMergesSpec.pre6 enc Try.prog Try.f17 Rows.deltaMergesRow.domain false) (Rows.deltaMergesSpec.post enc Try.prog Try.f17 false true false false) := by
  refine lifted_of (C := Try.checked) (b := 4) own started (by kernel_rfl) Try.func17
    (ChangeSpec.witness6 (enc := enc) (C := Try.checked) false ⟨#[], #[.slice none 0 0, .slice none 0 0, .slice none 0 0], []⟩ 8 (by kernel_rfl) (by kernel_rfl) (by kernel_rfl) (by kernel_rfl))
    laidOut (by kernel_rfl) rfl Try.underlying4 rfl ?_ ?_
  · intro ds hd
    match ds, hd with
    | [d1, d2, d3], _ => rfl
  intro W base args ds p hval hA _ hsz
  have hA : DataW.TrodAll enc Try.prog W 0 (fun _ => true) true Try.f17.params.toList args.toList ds p := hA
  rw [Try.params17] at hA
  obtain ⟨v0, vs0, d0, ds0, p0, q0, hargs, rfl, rfl, h0, r0⟩ := trodAll_cons hA
  obtain ⟨v1, vs1, d1, ds1, p1, q1, rfl, rfl, rfl, h1, r1⟩ := trodAll_cons r0
  obtain ⟨v2, vs2, d2, ds2, p2, q2, rfl, rfl, rfl, h2, r2⟩ := trodAll_cons r1
  obtain ⟨rfl, rfl, rfl⟩ := trodAll_nil r2
  obtain rfl : args = #[v0, v1, v2] := by cases args; simp_all
  obtain ⟨l, hs, hp, hb⟩ := openPts (hval 0 22 v0 rfl rfl) h0
  obtain ⟨l2, hs2, hp2, hb2⟩ := openPts (hval 1 22 v1 rfl rfl) h1
  obtain ⟨l3, hs3, hp3, hb3⟩ := openPts (hval 2 22 v2 rfl rfl) h2
  exact by
    rw [Try.params17] at hsz
    exact s_lmer hs hs2 hs3 fun H' h => ⟨rfl, h⟩
theorem over : Rows.deltaMergesRow.holds Try.pinned (OpenSpec.ofChange Rows.deltaMergesSpec) :=
  OpenClaim.holds_of_wide 17 Try.f17 rfl rfl rfl rfl rfl rfl rfl ⟨rfl, rfl, rfl, rfl, rfl⟩ rfl rfl rfl rfl rfl (by kernel_rfl) Try.func17 (by kernel_rfl)
    (of_decide_eq_true (by kernel_rfl)) (by unfold Func.isWrapper; first | (rw [if_pos (by decide +kernel)]; kernel_rfl) | (rw [if_neg (by decide +kernel)]; exact ⟨rfl, rfl⟩))
    (fun os started H enc _ => lifted os started H enc)
theorem proved : Rows.DeltaMergesSaid := over
#print axioms proved
end Go.Proofs.Ytadjpaecgbfkkaa.deltaMerges
