/- Points, counted: the grid's contract, and the law's. -/
import Derived.Test.YtekaopahienmgaaS1
set_option linter.unusedVariables false
set_option linter.unusedSimpArgs false
namespace Cr
open Go Sx Stb Bt
open Go.Proofs.Try
set_option maxRecDepth 100000
theorem or16 : ∀ n : Fin 5, ∀ a b : Fin 16, a.val < 2 ^ n.val → b.val < 2 ^ n.val → bitOp .or .i64 (shlI .i64 (a.val : Int) (n.val : Int)) (b.val : Int) = ((a.val * 2 ^ n.val + b.val : Nat) : Int) := by decide +kernel
theorem wu64 {k : Int} (h : 0 ≤ k ∧ k ≤ 18446744073709551615) : IntKind.u64.wrap k = k := IntWalk.u64_in _ (by omega)
/-- The cell of a point. -/
def gx (n : Nat) (p : Pt) : Nat := (p.y / 2 ^ (32 - n)).toNat * 2 ^ n + (p.x / 2 ^ (32 - n)).toNat
theorem five {n : Nat} (h : n ≤ 4) : n = 0 ∨ n = 1 ∨ n = 2 ∨ n = 3 ∨ n = 4 := by omega
theorem gx_lt {n : Nat} (hn : n ≤ 4) {p : Pt} (hp : PtR p) : gx n p < 4 ^ n := by
  obtain ⟨h1, h2, h3, h4⟩ := hp
  rcases five hn with rfl | rfl | rfl | rfl | rfl <;> simp only [gx, Nat.reduceSub, Nat.reducePow, Int.reducePow] <;> omega
theorem shr64 {x : Int} {k : Int} {d : Nat} (h0 : 0 ≤ x) (hk : k = (d : Int)) (hd : d ≤ 64) : shrI .u64 x k = x / 2 ^ d := by
  subst hk
  unfold shrI
  rw [Int.toNat_natCast, show min d IntKind.u64.bits = d from Nat.min_eq_left hd]
  exact Int.fdiv_eq_ediv_of_nonneg _ (Int.pow_nonneg (by omega))
theorem grid_x {n : Nat} (hn : n ≤ 4) {x : Int} (h1 : 0 ≤ x) (h2 : x < 4294967296) : IntKind.i64.wrap (shrI .u64 (IntKind.u64.wrap (x / 2 ^ (32 - n) * 2 ^ (32 - n))) (IntKind.i64.wrap (32 - (n : Int)))) = ((x / 2 ^ (32 - n)).toNat : Int) ∧ (x / 2 ^ (32 - n)).toNat < 2 ^ n ∧ (x / 2 ^ (32 - n)).toNat < 16 := by
  have hb : (0 ≤ x / 2 ^ (32 - n) * 2 ^ (32 - n) ∧ x / 2 ^ (32 - n) * 2 ^ (32 - n) ≤ x) ∧ x / 2 ^ (32 - n) * 2 ^ (32 - n) / 2 ^ (32 - n) = x / 2 ^ (32 - n) ∧ 0 ≤ x / 2 ^ (32 - n) ∧ (x / 2 ^ (32 - n)).toNat < 2 ^ n ∧ (x / 2 ^ (32 - n)).toNat < 16 := by
    rcases five hn with rfl | rfl | rfl | rfl | rfl <;> simp only [Nat.reduceSub, Nat.reducePow, Int.reducePow] <;> omega
  rw [w64 (k := 32 - (n : Int)) (by omega), wu64 (by omega), shr64 (d := 32 - n) hb.1.1 (by omega) (by omega), hb.2.1, w64 (by omega)]
  exact ⟨by omega, hb.2.2.2⟩
theorem grid_ix {n : Nat} (hn : n ≤ 4) {p : Pt} (hp : PtR p) :
    bitOp .or .i64 (shlI .i64 (IntKind.i64.wrap (shrI .u64 (IntKind.u64.wrap (p.y / 2 ^ (32 - n) * 2 ^ (32 - n))) (IntKind.i64.wrap (32 - (n : Int))))) (n : Int)) (IntKind.i64.wrap (shrI .u64 (IntKind.u64.wrap (p.x / 2 ^ (32 - n) * 2 ^ (32 - n))) (IntKind.i64.wrap (32 - (n : Int))))) = (gx n p : Int) := by
  obtain ⟨h1, h2, h3, h4⟩ := hp
  have hx := grid_x hn h1 h2
  have hy := grid_x hn h3 h4
  rw [hx.1, hy.1]
  exact or16 ⟨n, by omega⟩ ⟨_, hy.2.2⟩ ⟨_, hx.2.2⟩ hy.2.1 hx.2.1
theorem law_x {n : Nat} (hn : n ≤ 4) {x : Int} (h1 : 0 ≤ x) (h2 : x < 4294967296) : IntKind.i64.wrap (IntKind.u64.wrap (Int.tdiv (IntKind.u64.wrap (IntKind.u64.wrap x * IntKind.u64.wrap (2 ^ n))) 4294967296)) = ((x / 2 ^ (32 - n)).toNat : Int) ∧ (x / 2 ^ (32 - n)).toNat < 16 := by
  have hw : IntKind.u64.wrap (2 ^ n) = 2 ^ n := by rcases five hn with rfl | rfl | rfl | rfl | rfl <;> decide
  have hb : (0 ≤ x * 2 ^ n ∧ x * 2 ^ n ≤ 18446744073709551615) ∧ (0 ≤ x * 2 ^ n / 4294967296 ∧ x * 2 ^ n / 4294967296 ≤ 4294967296) ∧ x * 2 ^ n / 4294967296 = ((x / 2 ^ (32 - n)).toNat : Int) ∧ (x / 2 ^ (32 - n)).toNat < 16 := by
    rcases five hn with rfl | rfl | rfl | rfl | rfl <;> simp only [Nat.reduceSub, Nat.reducePow, Int.reducePow] <;> omega
  rw [hw, wu64 (k := x) (by omega), wu64 hb.1, Int.tdiv_eq_ediv_of_nonneg hb.1.1, wu64 (by omega), w64 (by omega)]
  exact hb.2.2
theorem law_ix {n : Nat} (hn : n ≤ 4) {p : Pt} (hp : PtR p) :
    IntKind.i64.wrap (IntKind.i64.wrap (IntKind.i64.wrap (IntKind.u64.wrap (Int.tdiv (IntKind.u64.wrap (IntKind.u64.wrap p.y * IntKind.u64.wrap (2 ^ n))) 4294967296)) * 2 ^ n) + IntKind.i64.wrap (IntKind.u64.wrap (Int.tdiv (IntKind.u64.wrap (IntKind.u64.wrap p.x * IntKind.u64.wrap (2 ^ n))) 4294967296))) = (gx n p : Int) := by
  obtain ⟨h1, h2, h3, h4⟩ := hp
  obtain ⟨hx, bx⟩ := law_x hn h1 h2
  obtain ⟨hy, by_⟩ := law_x hn h3 h4
  rw [hx, hy]
  unfold gx
  generalize (p.x / 2 ^ (32 - n)).toNat = a at *
  generalize (p.y / 2 ^ (32 - n)).toNat = b at *
  rcases five hn with rfl | rfl | rfl | rfl | rfl <;> simp only [Nat.reduceSub, Nat.reducePow, Int.reducePow] <;> rw [w64 (k := (b : Int) * _) (by omega), w64 (by omega)] <;> omega
def bump (n : Nat) (acc : List Int) (p : Pt) : List Int := acc.set (gx n p) (IntKind.i64.wrap (acc.getD (gx n p) 0 + 1))
def gridP (n : Nat) (l : List Pt) : List Int := l.foldl (bump n) (List.replicate (4 ^ n) 0)
theorem gridP_len (n : Nat) (l : List Pt) : (gridP n l).length = 4 ^ n := by
  unfold gridP
  suffices h : ∀ (l : List Pt) (acc : List Int), (l.foldl (bump n) acc).length = acc.length by rw [h]; simp
  intro l
  induction l with
  | nil => intro acc; rfl
  | cons p l ih => intro acc; rw [List.foldl_cons, ih]; simp [bump]
theorem gridP_snoc (n : Nat) (l : List Pt) (p : Pt) : gridP n (l ++ [p]) = bump n (gridP n l) p := by simp [gridP]
section
variable {R : Ending → Heap → Prop} {H : Heap}
theorem s_cellat {x y lv : Int} {h : Nat} (hh : h ≤ 32) (hl : lv = 32 - (h : Int)) (hx : 0 ≤ x ∧ x < 4294967296) (hy : 0 ≤ y ∧ y < 4294967296) (k : R (.returned (ceV (x / 2 ^ h * 2 ^ h) (y / 2 ^ h * 2 ^ h) (32 - h))) H) :
    Meets prog 56 [.int .u32 x, .int .u32 y, vi lv] H R := by
  subst hl
  refine spec_of func56 (by kernel_rfl) (fun t h => by cases h) ?_ (vc_cellat x y (32 - (h : Int)) R H) ?_
  · simp [argsR, SV.rep, SC.rep, one]
  unfold nf_cellat
  exact s_fix hh (lv_fix hh) hx hy ⟨_, _, _, rfl, k⟩
theorem cells_set {l : List Int} {i : Nat} {x : Int} : (cells l).set i [vi x] = cells (l.set i x) := by simp [cells]
theorem lv_nat (lv : Int) : ∃ n : Nat, minI (maxI lv 0) 4 = (n : Int) ∧ n ≤ 4 := by
  refine ⟨(minI (maxI lv 0) 4).toNat, ?_, ?_⟩ <;> unfold minI maxI <;> split <;> split <;> omega
theorem grid_size {n : Nat} (hn : n ≤ 4) : shlI .i64 1 (IntKind.i64.wrap (2 * (n : Int))) = ((4 ^ n : Nat) : Int) ∧ (4 : Nat) ^ n ≤ 256 ∧ 0 ≤ IntKind.i64.wrap (2 * (n : Int)) := by
  rcases five hn with rfl | rfl | rfl | rfl | rfl <;> decide
theorem cells_get {l : List Int} {i : Nat} (h : i < l.length) : ∃ e, List.get?Internal (cells l) i = some e ∧ List.take 1 (List.drop 0 e) = [vi (l.getD i 0)] := by
  refine ⟨[vi (l.getD i 0)], ?_, rfl⟩
  rw [List.get?Internal_eq_getElem?]
  simp [cells, h]
theorem s_grid {v : Value} {l : List Pt} {lv : Int} {n : Nat} (h : SliceAt H v 4 (pts l)) (hl : l.length ≤ 10000000000000) (hp : ∀ p ∈ l, PtR p) (hn : minI (maxI lv 0) 4 = (n : Int)) (hn4 : n ≤ 4)
    (k : ∀ v H', H ≤ H' → (∀ b, blockOf v = some b → H b = none) → RowAt H' v 3 1 (cells (gridP n l)) → R (.returned v) H') : Meets prog 20 [v, vi lv] H R := by
  obtain ⟨a, m, c, e, hm⟩ := h
  subst e
  have h : SliceAt H (.slice a m c) 4 (pts l) := ⟨a, m, c, rfl, hm⟩
  have hlm : l.length = m := by simpa [pts] using hm.1
  refine spec_of func20 (by kernel_rfl) (fun t h => by cases h) ?_ (vc_grid a m c lv R H) ?_
  · simp [argsR, SV.rep, SC.rep, one]
  unfold nf_grid
  obtain ⟨g1, g2, g3⟩ := grid_size hn4
  rw [hn, g1]
  simp only [true_and]
  have p0 : (0 : Int) ≤ ((4 ^ n : Nat) : Int) := Int.natCast_nonneg _
  have p1 : ((4 ^ n : Nat) : Int) ≤ 256 := by exact_mod_cast g2
  refine ⟨g3, ⟨p0, Int.le_trans (Int.mul_le_mul_of_nonneg_right p1 (by decide)) (by decide)⟩, fun p H' => ∃ t : Nat, p.1.1 = cells (gridP n (l.take t)) ∧ p.1.2.1 = (t : Int) ∧ t ≤ m ∧ H' = H, fun p _ => (m - p.1.2.1).toNat, ⟨0, ?_, rfl, by omega, rfl⟩, ?_⟩
  · rw [Int.toNat_natCast]; simp [gridP, cells]
  rintro ⟨⟨r, i, _⟩, _⟩ H1 ⟨t, h1, h2, ht, rfl⟩
  simp only at h1 h2 ⊢
  subst h1; subst h2
  refine br (fun q => ?_) fun q => ?_
  · simp only [decide_eq_true_eq] at q
    obtain ⟨p, hd, htk, hx⟩ := drop_cons (l := l) (k := t) (by omega)
    obtain ⟨A, e, g⟩ := pr_get h (i := t) hx
    subst e
    have hpr := hp p (List.mem_of_getElem? hx)
    have hlt : gx n p < (gridP n (l.take t)).length := by rw [gridP_len]; exact gx_lt hn4 hpr
    have hln : (cells (gridP n (l.take t))).length = (gridP n (l.take t)).length := by simp [cells]
    rw [Int.toNat_natCast]
    refine ⟨⟨by omega, by omega⟩, ptr rfl (ptr rfl ⟨_, _, _, _, g, s_cellat (h := 32 - n) (by omega) (by omega) ⟨hpr.1, hpr.2.1⟩ ⟨hpr.2.2.1, hpr.2.2.2⟩ ⟨_, _, _, rfl, ?_⟩⟩)⟩
    rw [grid_ix hn4 hpr, Int.toNat_natCast, hln, w64 (k := (t : Int) + 1) (by omega)]
    have hw : (0 : Int) ≤ IntKind.i64.wrap (32 - (n : Int)) := by rw [w64 (by omega)]; omega
    refine ⟨hw, hw, by omega, ⟨by omega, by omega⟩, _, cells_get hlt, ⟨by omega, by omega⟩, hlt, ⟨t + 1, ?_, by omega, by omega, rfl⟩, by omega⟩
    rw [cells_set, htk, gridP_snoc]
    rfl
  · simp only [decide_eq_false_iff_not] at q
    rw [List.take_of_length_le (by omega)]
    exact fun v H' f1 f2 _ f4 => k v H' f1 f2 f4
end
end Cr
