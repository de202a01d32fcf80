/- DeltaApplies: changes are made one by one, up to the first that can't be: then there is nothing: whatever the input, the law returns true. -/
import Derived.Test.YtadjpaecgbfkkaaZ5
set_option linter.unusedVariables false
set_option linter.unusedSimpArgs false
set_option maxRecDepth 100000
namespace Go.Proofs.Ytadjpaecgbfkkaa.deltaApplies
open Cr Go Sx Go.RowKit Go.ChangeShapes Go.WideShapes
theorem lifted (os : Os) (started : os.Started) (H : Type) (enc : TypeId × Value → H) :
    ReturnsInHanded {} Try.checked os 19 .any (Rows.deltaAppliesSpec.pre6 enc Try.prog Try.f19 Rows.deltaAppliesRow.domain false) (Rows.deltaAppliesSpec.post enc Try.prog Try.f19 false true false false) := by
  refine lifted_of (C := Try.checked) (b := 4) own started (by kernel_rfl) Try.func19
    (ChangeSpec.witness6 (enc := enc) (C := Try.checked) false ⟨#[], #[.slice none 0 0, .slice none 0 0], []⟩ 8 (by kernel_rfl) (by kernel_rfl) (by kernel_rfl) (by kernel_rfl))
    laidOut (by kernel_rfl) rfl Try.underlying4 rfl ?_ ?_
  · intro ds hd
    match ds, hd with
    | [d1, d2], _ => rfl
  intro W base args ds p hval hA _ hsz
  have hA : DataW.TrodAll enc Try.prog W 0 (fun _ => true) true Try.f19.params.toList args.toList ds p := hA
  rw [Try.params19] at hA
  obtain ⟨v0, vs0, d0, ds0, p0, q0, hargs, rfl, rfl, h0, r0⟩ := trodAll_cons hA
  obtain ⟨v1, vs1, d1, ds1, p1, q1, rfl, rfl, rfl, h1, r1⟩ := trodAll_cons r0
  obtain ⟨rfl, rfl, rfl⟩ := trodAll_nil r1
  obtain rfl : args = #[v0, v1] := by cases args; simp_all
  obtain ⟨l, hs, hp, hb⟩ := openPts (hval 0 22 v0 rfl rfl) h0
  obtain ⟨cs, hs2, hb2⟩ := openChs (hval 1 89 v1 rfl rfl) h1
  exact by
    rw [Try.params19] at hsz
    exact s_lapp hs hs2 (hb2 (weigh_of (weigh_of hsz).2).1) (hb (weigh_of hsz).1) fun H' h => ⟨rfl, h⟩
theorem over : Rows.deltaAppliesRow.holds Try.pinned (OpenSpec.ofChange Rows.deltaAppliesSpec) :=
  OpenClaim.holds_of_wide 19 Try.f19 rfl rfl rfl rfl rfl rfl rfl ⟨rfl, rfl, rfl, rfl, rfl⟩ rfl rfl rfl rfl rfl (by kernel_rfl) Try.func19 (by kernel_rfl)
    (of_decide_eq_true (by kernel_rfl)) (by unfold Func.isWrapper; first | (rw [if_pos (by decide +kernel)]; kernel_rfl) | (rw [if_neg (by decide +kernel)]; exact ⟨rfl, rfl⟩))
    (fun os started H enc _ => lifted os started H enc)
theorem proved : Rows.DeltaAppliesSaid := over
#print axioms proved
end Go.Proofs.Ytadjpaecgbfkkaa.deltaApplies
