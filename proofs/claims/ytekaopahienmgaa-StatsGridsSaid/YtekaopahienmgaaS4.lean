/- StatsGrids: the law's walk. -/
import Derived.Test.YtekaopahienmgaaS3
set_option linter.unusedVariables false
set_option linter.unusedSimpArgs false
namespace Cr
open Go Sx Stb Bt
open Go.Proofs.Try
set_option maxRecDepth 100000
section
variable {R : Ending → Heap → Prop} {H : Heap}
theorem two_wrap {t n : Nat} (hn : n ≤ 4) (ht : t < n) : IntKind.i64.wrap (2 * 2 ^ t) = 2 ^ (t + 1) := by
  have : t = 0 ∨ t = 1 ∨ t = 2 ∨ t = 3 := by omega
  rcases this with rfl | rfl | rfl | rfl <;> decide
theorem sq_wrap {n : Nat} (hn : n ≤ 4) : IntKind.i64.wrap (2 ^ n * 2 ^ n) = ((4 ^ n : Nat) : Int) := by
  rcases five hn with rfl | rfl | rfl | rfl | rfl <;> decide
theorem s_lgrid {v : Value} {l : List Pt} {lv : Int} (h : SliceAt H v 4 (pts l)) (hl : l.length ≤ 10000000000000) (hp : ∀ p ∈ l, PtR p) (k : ∀ H', H ≤ H' → R (.returned (.bool true)) H') :
    Meets prog 3 [v, vi lv] H R := by
  obtain ⟨a, m, c, e, hm⟩ := h
  subst e
  have h : SliceAt H (.slice a m c) 4 (pts l) := ⟨a, m, c, rfl, hm⟩
  have hlm : l.length = m := by simpa [pts] using hm.1
  refine spec_of func3 (by kernel_rfl) (fun t h => by cases h) ?_ (vc_lgrid a m c lv R H) ?_
  · simp [argsR, SV.rep, SC.rep, one]
  unfold nf_lgrid
  obtain ⟨n, hn, hn4⟩ := lv_nat lv
  obtain ⟨g1, g2, g3⟩ := grid_size hn4
  have p0 : (0 : Int) ≤ ((4 ^ n : Nat) : Int) := Int.natCast_nonneg _
  have p1 : ((4 ^ n : Nat) : Int) ≤ 256 := by exact_mod_cast g2
  rw [hn]
  refine s_alive33 fun H0 hle0 => ⟨_, rfl, br (fun q => by cases q) fun _ => ?_⟩
  simp only [true_and]
  refine ⟨fun p H' => ∃ t : Nat, p.1.1 = 2 ^ t ∧ p.1.2.1 = (t : Int) ∧ t ≤ n ∧ H' = H0, fun p _ => (n - p.1.2.1).toNat, ⟨0, rfl, rfl, by omega, rfl⟩, ?_⟩
  rintro ⟨⟨sd, i, _⟩, _⟩ H1 ⟨t, h1, h2, ht, rfl⟩
  simp only at h1 h2 ⊢
  subst h1; subst h2
  refine br (fun q => ?_) fun q => ?_
  · simp only [decide_eq_true_eq] at q
    rw [two_wrap hn4 (by omega), w64 (by omega)]
    exact ⟨⟨t + 1, rfl, by omega, by omega, by trivial⟩, by omega⟩
  simp only [decide_eq_false_iff_not] at q
  obtain rfl : t = n := by omega
  rw [sq_wrap hn4]
  refine ⟨⟨p0, Int.le_trans (Int.mul_le_mul_of_nonneg_right p1 (by decide)) (by decide)⟩, fun p H' => ∃ u : Nat, p.1.1 = cells (gridP t (l.take u)) ∧ p.1.2.1 = (u : Int) ∧ u ≤ m ∧ H' = H1, fun p _ => (m - p.1.2.1).toNat, ⟨0, ?_, rfl, by omega, rfl⟩, ?_⟩
  · rw [Int.toNat_natCast]; simp [gridP, cells]
  rintro ⟨⟨r, i, _⟩, _⟩ H2 ⟨u, h1, h2, hu, rfl⟩
  simp only at h1 h2 ⊢
  subst h1; subst h2
  have h' := slice_le h hle0
  refine br (fun q => ?_) fun q => ?_
  · simp only [decide_eq_true_eq] at q
    obtain ⟨p, hd, htk, hx⟩ := drop_cons (l := l) (k := u) (by omega)
    obtain ⟨A, e, f0, f1, f2, f3, f4⟩ := pr_fld h' (i := u) hx
    subst e
    have hpr := hp p (List.mem_of_getElem? hx)
    have hlt : gx t p < (gridP t (l.take u)).length := by rw [gridP_len]; exact gx_lt hn4 hpr
    have hln : (cells (gridP t (l.take u))).length = (gridP t (l.take u)).length := by simp [cells]
    rw [Int.toNat_natCast]
    refine ⟨⟨by omega, by omega⟩, ptr rfl (ptr rfl (ptr rfl ⟨_, f2, by decide, ⟨by omega, by omega⟩, ptr rfl (ptr rfl (ptr rfl ⟨_, f3, by decide, ?_⟩))⟩))⟩
    rw [law_ix hn4 hpr, Int.toNat_natCast, hln, w64 (k := (u : Int) + 1) (by omega)]
    refine ⟨⟨by omega, by omega⟩, _, cells_get hlt, ⟨by omega, by omega⟩, hlt, ⟨u + 1, ?_, by omega, by omega, by trivial⟩, by omega⟩
    rw [cells_set, htk, gridP_snoc]
    rfl
  · simp only [decide_eq_false_iff_not] at q
    rw [List.take_of_length_le (by omega)]
    refine s_grid h' hl hp hn hn4 fun v1 H3 e1 e2 e3 => ?_
    obtain ⟨a1, c1, rfl⟩ := row_val e3
    refine ⟨a1, _, c1, rfl, fun v2 H4 f1 f2 f3 f4 => ?_⟩
    refine s_ints (slice_le (row_slice e3) f1) (row_slice f4) (by rw [gridP_len]; omega) ⟨_, rfl, _, f4, ?_⟩
    rw [decide_eq_true rfl]
    exact k _ (le_delO (heap_trans hle0 (heap_trans e1 f1)) (fresh_le (heap_trans hle0 e1) f2))
end
end Cr
