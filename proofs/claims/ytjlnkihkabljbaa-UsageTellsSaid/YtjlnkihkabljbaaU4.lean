/- UsageMoves. -/
import Derived.Test.YtjlnkihkabljbaaU3
set_option linter.unusedVariables false
set_option linter.unusedSimpArgs false
namespace Go.Proofs.Ytjlnkihkabljbaa.Us
open Go Sx Go.RowKit Go.ChangeShapes Go.WideShapes Lay
open Go.Proofs.Try
set_option maxRecDepth 100000
theorem list_getD {l r : List Int} (hl : l.length = 32) (hr : r.length = 32) (h : ∀ j, j < 32 → l.getD j 0 = r.getD j 0) : l = r := by
  apply List.ext_getElem (by omega)
  intro j h1 h2
  have := h j (by omega)
  simpa [List.getD, h1, h2] using this
theorem live_rng (s z : Int) (m : List Int) (hm : m.length = 256) (j : Nat) (hj : j < 32) : 0 ≤ (live s z m).getD j 0 ∧ (live s z m).getD j 0 ≤ 255 := by
  rw [live_get s z m j hj]
  have := List.countP_le_length (p := fun a => decide (whr s z a = some j)) (l := m.drop 1)
  simp only [List.length_drop, hm] at this
  omega
theorem unbump_len (o : Option Nat) (l : List Int) : (unbump o l).length = l.length := by unfold unbump; split <;> simp
theorem unbump_get (o : Option Nat) (l : List Int) (ho : ∀ i, o = some i → i < l.length) (j : Nat) : (unbump o l).getD j 0 = l.getD j 0 - (if o = some j then 1 else 0) := by
  unfold unbump
  split
  · simp
  · rename_i i
    rw [getD_set _ _ _ _ (ho i rfl)]
    by_cases h : i = j
    · subst h; simp
    · simp [h]
section
variable {R : Ending → Heap → Prop} {H : Heap}
theorem s6 (s z id t : Int) (m : List Int) (hm : m.length = 256) (hid : 0 ≤ id ∧ id ≤ 255) (ht : -9223372036854775808 ≤ t ∧ t ≤ 9223372036854775807) (hr : ∀ a ∈ m, -9223372036854775808 ≤ a ∧ a ≤ 9223372036854775807)
    (h : ∀ H', H ≤ H' → R (.returned (.bool true)) H') : Meets prog 6 [geo s z, arr m, .int .u8 id, vi t] H R := by
  refine spec_of func6 (by kernel_rfl) eqs37 ?_ (vc_f6 s z id t m R H) ?_
  · simp [argsR, SV.rep, SC.rep, SegsRep, one, hm]
  unfold nf_f6
  refine s19 fun H' hle => ⟨true, rfl, ?_⟩
  have fin := h H' hle
  simp only [Bool.not_true, br_false, true_and]
  refine br (fun _ => fin) fun a1 => br (fun _ => fin) fun a2 => br (fun _ => fin) fun a3 => br (fun _ => fin) fun a4 => br (fun _ => fin) fun a5 => ?_
  simp only [decide_eq_false_iff_not, beq_eq_false_iff_ne, ne_eq] at a1 a2 a3 a4 a5
  have ok : Ok s z := by unfold Ok; omega
  have e1 : 6 * 4 ≤ s * z := Int.mul_le_mul (by omega) (by omega) (by omega) (by omega)
  have e2 : s * z ≤ 32 * 32 := Int.mul_le_mul (by omega) (by omega) (by omega) (by omega)
  have w1 : IntKind.i64.wrap (s * z) = s * z := IntWalk.i64_in _ (by omega)
  rw [w1]
  refine ⟨fun p H'' => p.1.1 = s * z ∧ (∃ q, 0 ≤ q ∧ q < s * z ∧ p.1.2.1 = 9 + q) ∧ H'' = H', ?_, ?_⟩
  · refine ⟨by omega, by omega, rfl, ?_, rfl⟩
    have b1 : -(s * z) < t.tmod (s * z) := by
      rw [Int.tmod_eq_emod]
      have g1 := Int.emod_nonneg t (b := s * z) (by omega)
      split
      · omega
      · rename_i hno
        have g2 : t % (s * z) ≠ 0 := fun e => hno (.inr (Int.dvd_of_emod_eq_zero e))
        omega
    have b2 : t.tmod (s * z) < s * z := Int.tmod_lt_of_pos _ (by omega)
    rw [IntWalk.i64_in (t.tmod (s * z) + s * z) (by omega)]
    have b3 : 0 ≤ (t.tmod (s * z) + s * z).tmod (s * z) := Int.tmod_nonneg _ (by omega)
    have b4 : (t.tmod (s * z) + s * z).tmod (s * z) < s * z := Int.tmod_lt_of_pos _ (by omega)
    refine ⟨_, b3, b4, ?_⟩
    show IntKind.i64.wrap _ = _
    rw [IntWalk.i64_in _ (by omega)]
  rintro ⟨⟨n, at', _⟩, _, _, _⟩ H'' ⟨c1, ⟨q, q1, q2, c2⟩, rfl⟩
  simp only at c1 c2
  subst c1 c2
  refine s20 s z m hm ⟨live s z m, live_len s z m, rfl, ?_⟩
  have hidn : id.toNat < m.length := by omega
  have hmem : m.getD id.toNat 0 ∈ m := by
    have : m.getD id.toNat 0 = m[id.toNat] := by simp [List.getD, hidn]
    rw [this]; exact List.getElem_mem _
  have hrm := hr _ hmem
  have hwhr : ∀ i, whr s z (m.getD id.toNat 0) = some i → i < (live s z m).length := fun i hi => by rw [live_len]; exact (whr_lt hi).2.2.2.2
  refine ⟨fun p H3 => p.2.2.2.1.1 = unbump (whr s z (m.getD id.toNat 0)) (live s z m) ∧ H3 = H'', ?_, ?_⟩
  · have no : ¬ (9 ≤ m.getD id.toNat 0 ∧ m.getD id.toNat 0 < 9 + s * z) → live s z m = unbump (whr s z (m.getD id.toNat 0)) (live s z m) := by
      intro hno
      have : whr s z (m.getD id.toNat 0) = none := by
        unfold whr; rw [if_neg]; exact fun ⟨_, x⟩ => hno x
      rw [this]; rfl
    have wn : IntKind.i64.wrap (9 + s * z) = 9 + s * z := IntWalk.i64_in _ (by omega)
    refine ⟨by omega, br (fun d1 => ⟨by omega, br (fun d2 => ?_) fun d2 => ?_⟩) fun d1 => ?_⟩
    all_goals simp only [true_and, and_true, wn, decide_eq_true_eq, decide_eq_false_iff_not] at *
    · generalize hx : m.getD id.toNat 0 = x at *
      have wx : IntKind.i64.wrap (x - 9) = x - 9 := IntWalk.i64_in _ (by omega)
      rw [wx, IntWalk.i64_quo _ _ (by omega)]
      have f1 : 0 ≤ (x - 9) / z := Int.ediv_nonneg (by omega) (by omega)
      have f2 : (x - 9) / z < s := Int.ediv_lt_of_lt_mul (by omega) (by omega)
      have hw : whr s z x = some ((x - 9) / z).toNat := by unfold whr; rw [if_pos ⟨ok, by omega, by omega⟩]
      refine ⟨by omega, by omega, ⟨f1, by omega⟩, ⟨f1, by omega⟩, ?_⟩
      rw [hw]
      have := live_rng s z m hm ((x - 9) / z).toNat (by omega)
      unfold unbump
      rw [IntWalk.i64_in _ (by omega)]
    · exact no fun x => d2 x.2
    · exact no fun x => d1 x.1
  rintro ⟨_, _, _, ⟨l, _⟩, _⟩ H3 ⟨hl, rfl⟩
  simp only at hl
  have wq : IntKind.i64.wrap (9 + q - 9) = q := by rw [show 9 + q - 9 = q by omega]; exact IntWalk.i64_in _ (by omega)
  simp only [wq]
  rw [IntWalk.i64_quo _ _ (by omega)]
  have f1 : 0 ≤ q / z := Int.ediv_nonneg q1 (by omega)
  have f2 : q / z < s := Int.ediv_lt_of_lt_mul (by omega) (by omega)
  have hw : whr s z (9 + q) = some (q / z).toNat := by unfold whr; rw [if_pos ⟨ok, by omega, by omega⟩, show 9 + q - 9 = q by omega]
  have hj : (q / z).toNat < 32 := by omega
  refine ⟨by omega, ⟨f1, by omega⟩, ⟨f1, by omega⟩, by omega, ?_⟩
  refine s20 s z (m.set id.toNat (9 + q)) (by simp [hm]) ⟨heap_refl _, live s z (m.set id.toNat (9 + q)), live_len _ _ _, rfl, ?_⟩
  have key : live s z (m.set id.toNat (9 + q)) = l.set (q / z).toNat (IntKind.i64.wrap (l.getD (q / z).toNat 0 + 1)) := by
    have hll : l.length = 32 := by rw [hl, unbump_len, live_len]
    apply list_getD (live_len _ _ _) (by simp [hll])
    intro j hj'
    rw [live_move s z m id.toNat (9 + q) ⟨by omega, hidn⟩ j hj', getD_set _ _ _ _ (by omega), hw, hl, unbump_get _ _ hwhr]
    have r1 := live_rng s z m hm (q / z).toNat hj
    by_cases e : (q / z).toNat = j
    · subst e
      rw [if_pos rfl, if_pos rfl, IntWalk.i64_in _ (by split <;> omega)]
    · rw [if_neg e, if_neg (fun x : some (q / z).toNat = some j => e (Option.some.inj x)), unbump_get _ _ hwhr]; omega
  rw [key]
  simp only [andO, beq_self_eq_true]
  exact fin
end
end Go.Proofs.Ytjlnkihkabljbaa.Us
