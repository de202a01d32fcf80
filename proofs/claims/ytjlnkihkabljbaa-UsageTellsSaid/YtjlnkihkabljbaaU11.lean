/- UsageTells: how much of each segment is needed, which are free, and whose sectors are in one, are as the law counts: whatever the input, it returns true. -/
import Derived.Test.YtjlnkihkabljbaaU5
import Derived.Test.YtjlnkihkabljbaaU10
set_option linter.unusedVariables false
set_option linter.unusedSimpArgs false
namespace Go.Proofs.Ytjlnkihkabljbaa.Us
open Go Sx Go.RowKit Go.ChangeShapes Go.WideShapes
section
variable {H : Type} {enc : TypeId × Value → H} {W : World}
theorem openPlc {v : Value} {d : DataW H} {ps : List MemPlace} {base : Nat} (hv : Value.okWide Try.prog W .any base 41 v) (h : DataW.Trod enc Try.prog W 0 (fun _ => true) true 41 v d ps) :
    ∃ a b c, v = plc a b c := by
  obtain ⟨v0, v1, v2, y0, y1, y2, n, rfl, _, _, h0, h1, h2⟩ := Go.Joins.open_agg3 Try.underlying41 (by kernel_rfl) (by kernel_rfl) hv h
  obtain ⟨a, e0, _, _⟩ := DataW.trod_int Try.underlying3 h0
  obtain ⟨b, e1, _, _⟩ := DataW.trod_int Try.underlying3 h1
  obtain ⟨c, e2, _, _⟩ := DataW.trod_int Try.underlying3 h2
  cases e0; cases e1; cases e2
  exact ⟨a, b, c, rfl⟩
end
end Go.Proofs.Ytjlnkihkabljbaa.Us
namespace Go.Proofs.Ytjlnkihkabljbaa.usageTells
open Lay Us Go Sx Go.RowKit Go.ChangeShapes Go.WideShapes
theorem lifted (os : Os) (started : os.Started) (H : Type) (enc : TypeId × Value → H) :
    ReturnsInHanded {} Try.checked os 7 .any (Rows.usageTellsSpec.pre6 enc Try.prog Try.f7 Rows.usageTellsRow.domain false) (Rows.usageTellsSpec.post enc Try.prog Try.f7 false true false false) := by
  refine lifted_of (C := Try.checked) (b := 4) own started (by kernel_rfl) Try.func7
    (ChangeSpec.witness6 (enc := enc) (C := Try.checked) false ⟨#[], #[geo 0 0, arr (List.replicate 256 0), plc 0 0 0, .int .i64 0], []⟩ 8 (by kernel_rfl) (by kernel_rfl) (by kernel_rfl) (by kernel_rfl))
    laidOut (by kernel_rfl) rfl Try.underlying4 rfl ?_ ?_
  · intro ds hd
    match ds, hd with
    | [d1, d2, d3, d4], _ => rfl
  intro W base args ds p hval hA _ hsz
  have hA : DataW.TrodAll enc Try.prog W 0 (fun _ => true) true Try.f7.params.toList args.toList ds p := hA
  rw [Try.params7] at hA
  obtain ⟨v0, vs0, d0, ds0, p0, q0, hargs, rfl, rfl, h0, r0⟩ := trodAll_cons hA
  obtain ⟨v1, vs1, d1, ds1, p1, q1, rfl, rfl, rfl, h1, r1⟩ := trodAll_cons r0
  obtain ⟨v2, vs2, d2, ds2, p2, q2, rfl, rfl, rfl, h2, r2⟩ := trodAll_cons r1
  obtain ⟨v3, vs3, d3, ds3, p3, q3, rfl, rfl, rfl, h3, r3⟩ := trodAll_cons r2
  obtain ⟨rfl, rfl, rfl⟩ := trodAll_nil r3
  obtain rfl : args = #[v0, v1, v2, v3] := by cases args; simp_all
  obtain ⟨s, z, rfl, _⟩ := openGeo (hval 0 23 v0 rfl rfl) h0
  obtain ⟨m, rfl, hm, hr⟩ := openMap (hval 1 36 v1 rfl rfl) h1
  obtain ⟨a, b, c, rfl⟩ := openPlc (hval 2 41 v2 rfl rfl) h2
  obtain ⟨g, rfl, _⟩ := openInt (hval 3 3 v3 rfl rfl) h3
  exact s7 s z a b c g m hm hr fun H' h => ⟨rfl, h⟩
theorem over : Rows.usageTellsRow.holds Try.pinned (OpenSpec.ofChange Rows.usageTellsSpec) :=
  OpenClaim.holds_of_wide 7 Try.f7 rfl rfl rfl rfl rfl rfl rfl ⟨rfl, rfl, rfl, rfl, rfl⟩ rfl rfl rfl rfl rfl (by kernel_rfl) Try.func7 (by kernel_rfl)
    (of_decide_eq_true (by kernel_rfl)) (by unfold Func.isWrapper; first | (rw [if_pos (by decide +kernel)]; kernel_rfl) | (rw [if_neg (by decide +kernel)]; exact ⟨rfl, rfl⟩))
    (fun os started H enc _ => lifted os started H enc)
theorem proved : Rows.UsageTellsSaid := over
#print axioms proved
end Go.Proofs.Ytjlnkihkabljbaa.usageTells
