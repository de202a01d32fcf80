/- Own texts, one behind the other: A2, SxSort, A3, A4, A5, A6, A7, A8, SxOpen, A9, A12, A13. -/
import Derived.Lib.Mul64
import Derived.IntWalk
import Derived.Shelf.SlSortCmp.NoneTotal
import Derived.Shelf.Sort.Plain
import Derived.Shelf.Slices.In.SortNone
import Derived.Shelf.Slices.CompactI
import Derived.Deep.Slices
import Derived.Deep.Strs
import Derived.Test.YtadjpaecgbfkkaaRows
import Derived.Test.YtadjpaecgbfkkaaChecked
import Derived.Test.YtadjpaecgbfkkaaZ3
set_option linter.unusedVariables false
set_option linter.unusedSimpArgs false
namespace Cr
open Go Sx
open Go.Proofs.Try
set_option maxRecDepth 100000
theorem heap_trans {A B D : Heap} (h : A ≤ B) (h' : B ≤ D) : A ≤ D := fun b o e => h' b o (h b o e)
/-- What was lent is taken off again. -/
theorem lend_off {H H' : Heap} {v : Value} (hle : H ≤ H') (hf : ∀ b, blockOf v = some b → H b = none) (hb : ∀ b o, H' b = some o → H b = some o ∨ blockOf v = some b) : H'.delO (blockOf v) = H := by
  funext b
  cases e : blockOf v with
  | none =>
    show H' b = H b
    cases q : H' b with
    | none => cases q2 : H b with
      | none => rfl
      | some o => rw [hle _ _ q2] at q; cases q
    | some o =>
      rcases hb b o q with h | h
      · exact h.symm
      · rw [e] at h; cases h
  | some k =>
    show (if b = k then none else H' b) = H b
    by_cases hbk : b = k
    · subst hbk; rw [if_pos rfl, hf b e]
    · rw [if_neg hbk]
      cases q : H' b with
      | none => cases q2 : H b with
        | none => rfl
        | some o => rw [hle _ _ q2] at q; cases q
      | some o =>
        rcases hb b o q with h | h
        · exact h.symm
        · rw [e] at h; cases h; exact (hbk rfl).elim
theorem wi64 {k : Int} (h : -9223372036854775808 ≤ k ∧ k ≤ 9223372036854775807) : IntKind.i64.wrap k = k := IntWalk.i64_in _ (by omega)
theorem wu64 {k : Int} (h : 0 ≤ k ∧ k ≤ 18446744073709551615) : IntKind.u64.wrap k = k := IntWalk.u64_in _ (by omega)
theorem wu32 {k : Int} (h : 0 ≤ k ∧ k ≤ 4294967295) : IntKind.u32.wrap k = k := IntWalk.u32_in _ (by omega)
theorem shr32 {a : Nat} : shrI .u64 (a : Int) 32 = ((a / 4294967296 : Nat) : Int) := by
  show ((a : Int).fdiv (2 ^ 32)) = _
  rw [Int.fdiv_eq_ediv_of_nonneg _ (by decide)]
  rfl
theorem mask32 {a : Nat} (h : a < 18446744073709551616) : bitOp .and .u64 (a : Int) 4294967295 = ((a % 4294967296 : Nat) : Int) := by
  have e : (BitVec.ofInt 64 (a : Int) &&& BitVec.ofInt 64 4294967295).toNat = a % 4294967296 := by
    rw [BitVec.toNat_and, BitVec.toNat_ofInt, BitVec.toNat_ofInt]
    have e1 : ((a : Int) % ((2 ^ 64 : Nat) : Int)).toNat = a := by omega
    have e2 : ((4294967295 : Int) % ((2 ^ 64 : Nat) : Int)).toNat = 2 ^ 32 - 1 := by decide
    rw [e1, e2, Nat.and_two_pow_sub_one_eq_mod]
  show IntKind.u64.wrap ((BitVec.ofInt 64 (a : Int) &&& BitVec.ofInt 64 4294967295).toNat : Int) = _
  rw [e]
  exact wu64 (by omega)
theorem wN {a : Nat} (ha : a < 18446744073709551616) : IntKind.u64.wrap (a : Int) = (a : Int) := wu64 (by omega)
theorem wM {a : Nat} : IntKind.u64.wrap (a : Int) = ((a % 18446744073709551616 : Nat) : Int) := by rw [IntKind.wrap_u64]; omega
theorem mulN (a b : Nat) : (a : Int) * (b : Int) = ((a * b : Nat) : Int) := (Int.natCast_mul a b).symm
theorem addN (a b : Nat) : (a : Int) + (b : Int) = ((a + b : Nat) : Int) := (Int.natCast_add a b).symm
/-- -1, 0, 1. -/
def sgn3 (x y : Int) : Int := if x < y then -1 else if x > y then 1 else 0
/-- The first that is not 0. -/
def orL : List Int → Int
  | [] => 0
  | x :: r => if x ≠ 0 then x else orL r
abbrev dLt (a b c d : Int) : Prop := a < c ∨ (a = c ∧ b < d)
abbrev dV (a b : Int) : Value := .agg { toList := [.int .u64 a, .int .u64 b] }
section
variable {H : Heap} {R : Ending → Heap → Prop}
theorem s_nanu {x : Int} (k : R (.returned (.bool false)) H) : Meets prog 100 [.int .u64 x] H R := by
  refine spec_of func100 (by kernel_rfl) (fun t h => by cases h) ?_ (vc_nanu x R H) ?_
  · simp [argsR, SV.rep, SC.rep, one]
  unfold nf_nanu
  rw [bne_self_eq_false]
  exact k
theorem s_nani {x : Int} (k : R (.returned (.bool false)) H) : Meets prog 151 [.int .i64 x] H R := by
  refine spec_of func151 (by kernel_rfl) (fun t h => by cases h) ?_ (vc_nani x R H) ?_
  · simp [argsR, SV.rep, SC.rep, one]
  unfold nf_nani
  rw [bne_self_eq_false]
  exact k
theorem sgn3_br {x y : Int} {Q : Int → Prop} (k : Q (sgn3 x y)) : Br (decide (x < y)) (Q (-1)) (Br (decide (x > y)) (Q 1) (Q 0)) := by
  unfold sgn3 at k
  refine br (fun q => ?_) fun q => br (fun q2 => ?_) fun q2 => ?_
  · rw [if_pos (by simpa using q)] at k; exact k
  · rw [if_neg (by simpa using q), if_pos (by simpa using q2)] at k; exact k
  · rw [if_neg (by simpa using q), if_neg (by simpa using q2)] at k; exact k
theorem s_cmpu {x y : Int} (k : R (.returned (vi (sgn3 x y))) H) : Meets prog 62 [.int .u64 x, .int .u64 y] H R := by
  refine spec_of func62 (by kernel_rfl) (fun t h => by cases h) ?_ (vc_cmpu x y R H) ?_
  · simp [argsR, SV.rep, SC.rep, one]
  unfold nf_cmpu
  refine s_nanu ⟨false, rfl, s_nanu ⟨false, rfl, br (fun q => by cases q) fun _ => br (fun q => by cases q) fun _ => ?_⟩⟩
  exact sgn3_br (Q := fun n => R (.returned (vi n)) H) k
theorem s_cmpi {x y : Int} (k : R (.returned (vi (sgn3 x y))) H) : Meets prog 127 [vi x, vi y] H R := by
  refine spec_of func127 (by kernel_rfl) (fun t h => by cases h) ?_ (vc_cmpi x y R H) ?_
  · simp [argsR, SV.rep, SC.rep, one]
  unfold nf_cmpi
  refine s_nani ⟨false, rfl, s_nani ⟨false, rfl, br (fun q => by cases q) fun _ => br (fun q => by cases q) fun _ => ?_⟩⟩
  exact sgn3_br (Q := fun n => R (.returned (vi n)) H) k
@[reducible] def cells (l : List Int) : List (List Value) := l.map fun x => [vi x]
theorem drop_cons {α : Type} {l : List α} {k : Nat} (h : k < l.length) : ∃ x, l.drop k = x :: l.drop (k + 1) ∧ l.take (k + 1) = l.take k ++ [x] ∧ l[k]? = some x := by
  refine ⟨l[k], by rw [List.drop_eq_getElem_cons h], by rw [List.take_add_one, List.getElem?_eq_getElem h]; rfl, List.getElem?_eq_getElem h⟩
theorem ir_get {H : Heap} {a : Option Addr} {n cp : Nat} {l : List Int} (h : SliceAt H (.slice a n cp) 1 (cells l)) {i : Nat} {x : Int} (hx : l[i]? = some x) : ∃ A, a = some A ∧ H.has (A.add (i * 1)) [vi x] := by
  obtain ⟨A, e, _, g⟩ := slice_get h (i := i) (e := [vi x]) (by simp [cells, hx])
  exact ⟨A, e, g⟩
theorem s_cor {v : Value} {l : List Int} (h : SliceAt H v 1 (cells l)) (hl : l.length ≤ 10000000000000) (k : R (.returned (vi (orL l))) H) : Meets prog 61 [v] H R := by
  obtain ⟨a, n, c, e, hn⟩ := h
  subst e
  have h : SliceAt H (.slice a n c) 1 (cells l) := ⟨a, n, c, rfl, hn⟩
  have hln : l.length = n := by simpa [cells] using hn.1
  refine spec_of func61 (by kernel_rfl) (fun t h => by cases h) ?_ (vc_cor a n c R H) ?_
  · simp [argsR, SV.rep, SC.rep, one]
  unfold nf_cor
  simp only [true_and]
  refine ⟨fun p H' => ∃ t : Nat, p.1.1 = (t : Int) ∧ t ≤ n ∧ orL l = orL (l.drop t) ∧ H' = H, fun p _ => (n - p.1.1).toNat, ⟨0, rfl, by omega, by simp, rfl⟩, ?_⟩
  rintro ⟨⟨i, _⟩, _⟩ H1 ⟨t, hi, ht, f, rfl⟩
  simp only at hi ⊢
  subst hi
  refine br (fun q1 => ?_) fun q1 => ?_
  · simp only [decide_eq_true_eq] at q1
    obtain ⟨y, hd, htk, hx⟩ := drop_cons (l := l) (k := t) (by omega)
    obtain ⟨A, e, g1⟩ := ir_get h (i := t) hx
    subst e
    refine ⟨⟨by omega, by omega⟩, ptr rfl (ptr rfl ⟨_, g1, br (fun q2 => ?_) fun q2 => ?_⟩)⟩
    · rw [f, hd, orL, if_pos (by simpa using q2)] at k
      exact k
    · rw [wi64 (by omega)]
      refine ⟨⟨t + 1, by omega, by omega, ?_, by trivial⟩, by omega⟩
      rw [f, hd, orL, if_neg (by simpa using q2)]
  · simp only [decide_eq_false_iff_not] at q1
    rw [f, List.drop_of_length_le (by omega)] at k
    exact k
def cmpD (a b c d : Int) : Int := orL [sgn3 a c, sgn3 b d]
theorem s_wcmp {a b c d : Int} (k : R (.returned (vi (cmpD a b c d))) H) : Meets prog 25 [dV a b, dV c d] H R := by
  refine spec_of func25 (by kernel_rfl) (fun t h => by cases h) ?_ (vc_wcmp a b c d R H) ?_
  · simp [argsR, SV.rep, SC.rep, one, SegsRep]
  unfold nf_wcmp
  refine ⟨H, fun _ _ e => e, s_cmpu ⟨keep_same _ _ _, _, rfl, s_cmpu ⟨keep_same _ _ _, _, rfl, fun v H' hle hf hb hrow => ?_⟩⟩⟩
  simp only [delLs_nil] at hle hf hb ⊢
  refine s_cor (l := [sgn3 a c, sgn3 b d]) (row_slice hrow) (by simp) ⟨keep_same _ _ _, _, rfl, ?_⟩
  show R _ (Heap.delO H' (blockOf v))
  rw [lend_off hle hf hb]
  exact k
theorem maxI_eq (a b : Int) : maxI a b = max a b := by unfold maxI; split <;> omega
theorem minI_eq (a b : Int) : minI a b = min a b := by unfold minI; split <;> omega
abbrev U32 (x : Int) : Prop := 0 ≤ x ∧ x ≤ 4294967295
def gapI (a b : Int) : Int := max a b - min a b
theorem gap_in {a b : Int} (ha : U32 a) (hb : U32 b) : U32 (gapI a b) := by unfold gapI; omega
theorem s_wgap {a b : Int} (ha : U32 a) (hb : U32 b) (k : R (.returned (.int .u32 (gapI a b))) H) : Meets prog 123 [.int .u32 a, .int .u32 b] H R := by
  refine spec_of func123 (by kernel_rfl) (fun t h => by cases h) ?_ (vc_wgap a b R H) ?_
  · simp [argsR, SV.rep, SC.rep, one]
  unfold nf_wgap
  have := gap_in ha hb; unfold gapI at this k
  rw [maxI_eq, minI_eq, wu32 this]
  exact k
theorem s_mul64 {a b : Nat} (ha : a < 18446744073709551616) (hb : b < 18446744073709551616) (k : R (.returned (.tuple #[.int .u64 ((a * b / 18446744073709551616 : Nat) : Int), .int .u64 ((a * b % 18446744073709551616 : Nat) : Int)])) H) :
    Meets prog 69 [.int .u64 (a : Int), .int .u64 (b : Int)] H R := by
  refine spec_of func69 (by kernel_rfl) (fun t h => by cases h) ?_ (vc_mul64 (a : Int) (b : Int) R H) ?_
  · simp [argsR, SV.rep, SC.rep, one]
  unfold nf_mul64
  obtain ⟨bd, bt, bw, hhi⟩ := Go.Lib.mul64_hi a b ha hb
  have ba := Go.Lib.half_mul_le (a := a / 4294967296) (b := b / 4294967296) (by omega) (by omega)
  have bb := Go.Lib.half_mul_le (a := a / 4294967296) (b := b % 4294967296) (by omega) (by omega)
  have bc := Go.Lib.half_mul_le (a := a % 4294967296) (b := b / 4294967296) (by omega) (by omega)
  have ba' : a / 4294967296 * (b / 4294967296) < 18446744073709551616 := by omega
  have bb' : a / 4294967296 * (b % 4294967296) < 18446744073709551616 := by omega
  have bc' : a % 4294967296 * (b / 4294967296) < 18446744073709551616 := by omega
  have bh1 : a / 4294967296 * (b / 4294967296) + (a / 4294967296 * (b % 4294967296) + a % 4294967296 * (b % 4294967296) / 4294967296) / 4294967296 < 18446744073709551616 := by omega
  have bh : a / 4294967296 * (b / 4294967296) + (a / 4294967296 * (b % 4294967296) + a % 4294967296 * (b % 4294967296) / 4294967296) / 4294967296 + ((a / 4294967296 * (b % 4294967296) + a % 4294967296 * (b % 4294967296) / 4294967296) % 4294967296 + a % 4294967296 * (b / 4294967296)) / 4294967296 < 18446744073709551616 := by omega
  refine ⟨by decide, by decide, by decide, by decide, by decide, ?_⟩
  simp only [mask32 ha, mask32 hb, shr32, mulN, addN, wN bd, wN bb', wN bt, mask32 bt, wN bc', wN bw, wN ba', wN bh1, wN bh, wM (a := a * b)]
  rw [hhi]
  exact k
theorem s_wsq {a : Int} (ha : U32 a) (k : R (.returned (dV 0 (a * a))) H) : Meets prog 122 [.int .u32 a] H R := by
  refine spec_of func122 (by kernel_rfl) (fun t h => by cases h) ?_ (vc_wsq a R H) ?_
  · simp [argsR, SV.rep, SC.rep, one]
  unfold nf_wsq
  obtain ⟨n, rfl⟩ := Int.eq_ofNat_of_zero_le ha.1
  have hn : n ≤ 4294967295 := by omega
  rw [wN (by omega)]
  have hm : n * n ≤ 4294967295 * 4294967295 := Nat.mul_le_mul hn hn
  refine s_mul64 (by omega) (by omega) ⟨_, _, rfl, ?_⟩
  rw [Nat.div_eq_of_lt (by omega), Nat.mod_eq_of_lt (by omega), ← mulN]
  exact k
theorem extAdd : ExtOK prog 71 add64Entry := ⟨f71, func71, by kernel_rfl, by kernel_rfl, by kernel_rfl, by kernel_rfl⟩
theorem s_wadd {a b c d : Int} (ha : 0 ≤ a) (hb : 0 ≤ b) (hc : 0 ≤ c) (hd : 0 ≤ d) (hb2 : b ≤ 18446744073709551615) (hd2 : d ≤ 18446744073709551615)
    (k : R (.returned (dV ((a + c + (b + d) / 18446744073709551616) % 18446744073709551616) ((b + d) % 18446744073709551616))) H) : Meets prog 148 [dV a b, dV c d] H R := by
  refine spec_of func148 (by kernel_rfl) (fun t h => by cases h) ?_ (vc_wadd a b c d R H) ?_
  · simp [argsR, SV.rep, SC.rep, one, SegsRep]
  unfold nf_wadd
  have e : b + d + 0 = b + d := by omega
  refine ⟨_, _, .inl ⟨extAdd, hb, hd, by decide, by decide, rfl, rfl⟩, ?_⟩
  rw [e]
  exact ⟨_, _, .inl ⟨extAdd, ha, hc, by omega, by omega, rfl, rfl⟩, k⟩
/-- A distance. -/
abbrev dOf (n : Int) : Value := dV (n / 18446744073709551616) (n % 18446744073709551616)
@[reducible] def dC (n : Int) : List Value := [.int .u64 (n / 18446744073709551616), .int .u64 (n % 18446744073709551616)]
theorem wadd_of {m n : Int} (hm : 0 ≤ m) (hn : 0 ≤ n) (hs : m + n < 340282366920938463463374607431768211456) (k : R (.returned (dOf (m + n))) H) : Meets prog 148 [dOf m, dOf n] H R := by
  refine s_wadd (by omega) (by omega) (by omega) (by omega) (by omega) (by omega) ?_
  have e1 : (m % 18446744073709551616 + n % 18446744073709551616) % 18446744073709551616 = (m + n) % 18446744073709551616 := by omega
  have e2 : (m / 18446744073709551616 + n / 18446744073709551616 + (m % 18446744073709551616 + n % 18446744073709551616) / 18446744073709551616) % 18446744073709551616 = (m + n) / 18446744073709551616 := by omega
  rw [e1, e2]
  exact k
theorem s_wsum {v : Value} {m n : Int} (h : SliceAt H v 2 [dC m, dC n]) (hm : 0 ≤ m ∧ m < 18446744073709551616) (hn : 0 ≤ n ∧ n < 18446744073709551616) (k : R (.returned (dOf (m + n))) H) : Meets prog 121 [v] H R := by
  obtain ⟨a, w, c, e, hn'⟩ := h
  subst e
  have h : SliceAt H (.slice a w c) 2 [dC m, dC n] := ⟨a, w, c, rfl, hn'⟩
  obtain rfl : 2 = w := by simpa using hn'.1
  refine spec_of func121 (by kernel_rfl) (fun t h => by cases h) ?_ (vc_wsum a 2 c R H) ?_
  · simp [argsR, SV.rep, SC.rep, one]
  unfold nf_wsum
  simp only [true_and]
  refine ⟨fun p H' => H' = H ∧ ((p.1.1 = 0 ∧ p.2.2.1.1 = 0 ∧ p.2.2.1.2.1 = 0) ∨ (p.1.1 = 1 ∧ p.2.2.1.1 = m / 18446744073709551616 ∧ p.2.2.1.2.1 = m % 18446744073709551616) ∨ (p.1.1 = 2 ∧ p.2.2.1.1 = (m + n) / 18446744073709551616 ∧ p.2.2.1.2.1 = (m + n) % 18446744073709551616)), fun p _ => (2 - p.1.1).toNat, ⟨rfl, .inl ⟨rfl, rfl, rfl⟩⟩, ?_⟩
  rintro ⟨⟨i, _⟩, _, ⟨x, y, _⟩, _⟩ H1 ⟨rfl, hq⟩
  simp only at hq ⊢
  rcases hq with ⟨rfl, rfl, rfl⟩ | ⟨rfl, rfl, rfl⟩ | ⟨rfl, rfl, rfl⟩
  · refine br (fun _ => ?_) fun q => by simp at q
    obtain ⟨A, e, _, g⟩ := slice_get h (i := 0) (e := dC m) rfl
    subst e
    refine ⟨by decide, ptr rfl (ptr rfl ⟨_, _, g, ?_⟩)⟩
    refine wadd_of (m := 0) (n := m) (by omega) (by omega) (by omega) ?_
    rw [Int.zero_add]
    refine ⟨_, _, rfl, ?_⟩
    exact ⟨⟨rfl, .inr (.inl ⟨rfl, rfl, rfl⟩)⟩, by decide⟩
  · refine br (fun _ => ?_) fun q => by simp at q
    obtain ⟨A, e, _, g⟩ := slice_get h (i := 1) (e := dC n) rfl
    subst e
    refine ⟨by decide, ptr rfl (ptr rfl ⟨_, _, g, ?_⟩)⟩
    refine wadd_of (m := m) (n := n) (by omega) (by omega) (by omega) ⟨_, _, rfl, ?_⟩
    exact ⟨⟨rfl, .inr (.inr ⟨rfl, rfl, rfl⟩)⟩, by decide⟩
  · exact br (fun q => by simp at q) fun _ => k
/-- The squared distance. -/
def sqd (a b c d : Int) : Int := gapI a c * gapI a c + gapI b d * gapI b d
theorem sq_in {a : Int} (h : U32 a) : 0 ≤ a * a ∧ a * a ≤ 18446744065119617025 :=
  ⟨Int.mul_nonneg h.1 h.1, by have := Int.mul_le_mul h.2 h.2 h.1 (by decide); exact this⟩
theorem s_wbet {a b c d : Int} (ha : U32 a) (hb : U32 b) (hc : U32 c) (hd : U32 d) (k : R (.returned (dOf (sqd a b c d))) H) : Meets prog 81 [.int .u32 a, .int .u32 b, .int .u32 c, .int .u32 d] H R := by
  refine spec_of func81 (by kernel_rfl) (fun t h => by cases h) ?_ (vc_wbet a b c d R H) ?_
  · simp [argsR, SV.rep, SC.rep, one]
  unfold nf_wbet
  have h1 := sq_in (gap_in ha hc)
  have h2 := sq_in (gap_in hb hd)
  refine s_wgap ha hc ⟨_, rfl, s_wsq (gap_in ha hc) ⟨_, _, rfl, s_wgap hb hd ⟨_, rfl, s_wsq (gap_in hb hd) ⟨_, _, rfl, fun v H' hle hf hb' hrow => ?_⟩⟩⟩⟩
  have e1 : dC (gapI a c * gapI a c) = [.int .u64 0, .int .u64 (gapI a c * gapI a c)] := by
    unfold dC; rw [Int.ediv_eq_zero_of_lt h1.1 (by omega), Int.emod_eq_of_lt h1.1 (by omega)]
  have e2 : dC (gapI b d * gapI b d) = [.int .u64 0, .int .u64 (gapI b d * gapI b d)] := by
    unfold dC; rw [Int.ediv_eq_zero_of_lt h2.1 (by omega), Int.emod_eq_of_lt h2.1 (by omega)]
  rw [← e1, ← e2] at hrow
  refine s_wsum (row_slice hrow) ⟨h1.1, by omega⟩ ⟨h2.1, by omega⟩ ⟨_, _, rfl, _, hrow, ?_⟩
  rw [lend_off hle hf hb']
  exact k
theorem s_rgap {a b : Int} (ha : U32 a) (hb : U32 b) (k : R (.returned (.int .u64 (gapI a b))) H) : Meets prog 60 [.int .u32 a, .int .u32 b] H R := by
  refine spec_of func60 (by kernel_rfl) (fun t h => by cases h) ?_ (vc_rgap a b R H) ?_
  · simp [argsR, SV.rep, SC.rep, one]
  unfold nf_rgap
  unfold gapI at k
  refine br (fun q => ?_) fun q => ?_
  · simp at q
    rw [wu32 (by omega), wu64 (by omega), show a - b = max a b - min a b by omega]
    exact k
  · simp at q
    rw [wu32 (by omega), wu64 (by omega), show b - a = max a b - min a b by omega]
    exact k
theorem s_rbet {a b c d : Int} (ha : U32 a) (hb : U32 b) (hc : U32 c) (hd : U32 d) (k : R (.returned (.tuple #[.int .u64 (sqd a b c d / 18446744073709551616), .int .u64 (sqd a b c d % 18446744073709551616)])) H) :
    Meets prog 22 [.int .u32 a, .int .u32 b, .int .u32 c, .int .u32 d] H R := by
  refine spec_of func22 (by kernel_rfl) (fun t h => by cases h) ?_ (vc_rbet a b c d R H) ?_
  · simp [argsR, SV.rep, SC.rep, one]
  unfold nf_rbet
  have h1 := sq_in (gap_in ha hc)
  have h2 := sq_in (gap_in hb hd)
  refine s_rgap ha hc ⟨_, rfl, s_rgap ha hc ⟨_, rfl, s_rgap hb hd ⟨_, rfl, s_rgap hb hd ⟨_, rfl, ?_⟩⟩⟩⟩
  unfold sqd at k
  rw [wu64 (k := gapI a c * gapI a c) (by omega), wu64 (k := gapI b d * gapI b d) (by omega)]
  generalize gapI a c * gapI a c = x at *
  generalize gapI b d * gapI b d = y at *
  have e : IntKind.u64.wrap (x + y) = (x + y) % 18446744073709551616 := by rw [IntKind.wrap_u64]
  rw [e]
  refine br (fun q => ?_) fun q => ?_
  · simp at q
    rw [show (x + y) / 18446744073709551616 = 1 by omega] at k
    exact k
  · simp at q
    rw [show (x + y) / 18446744073709551616 = 0 by omega] at k
    exact k
theorem s_rless {a b c d : Int} (k : R (.returned (.bool (decide (dLt a b c d)))) H) : Meets prog 23 [.int .u64 a, .int .u64 b, .int .u64 c, .int .u64 d] H R := by
  refine spec_of func23 (by kernel_rfl) (fun t h => by cases h) ?_ (vc_rless a b c d R H) ?_
  · simp [argsR, SV.rep, SC.rep, one]
  unfold nf_rless
  refine br (fun q => ?_) fun q => br (fun q2 => ?_) fun q2 => ?_
  · simp at q
    rw [decide_eq_true (by omega)] at k; exact k
  · simp at q q2
    have e : decide (b < d) = decide (dLt a b c d) := by
      by_cases h : b < d
      · rw [decide_eq_true h, decide_eq_true (by omega)]
      · rw [decide_eq_false h, decide_eq_false (by omega)]
    rw [e]; exact k
  · simp at q q2
    rw [decide_eq_false (by omega)] at k; exact k
end
end Cr

set_option linter.unusedVariables false
set_option linter.unusedSimpArgs false
namespace Sx
open Go Go.Proofs Go.Shelf Go.RowKit Go.Lib Go.Sort
/-- A row's block holds other cells: what is known then. -/
theorem put_row {β : Type} [Inhabited β] {H : Heap} {w : World} {b o cap ty sz : Nat} {c : Array Value} {es es' : List (List Value)} (hs : H.sub w)
    (hb : H b = some (.cells c ty (0, 0))) (hcap : es.length ≤ cap) (hsz : o + cap * sz ≤ c.size)
    (e : β → Value) (d : Array β) (rest : List Value) (hd : d.toList.map e = es'.flatten ++ rest) (hlen : es'.length ≤ es.length) (hds : d.size = es.length * sz)
    (h1 : ∀ x ∈ es', x.length = sz) (h2 : ∀ x ∈ es', ∀ y ∈ x, one y = true) (m : Nat) (os : Array Obj) :
    ∃ H', Step H w H' (grow (putRow e (Sort.ahead w m) b o d) os) ∧ RowAt H' (.slice (some ⟨b, o, none⟩) es'.length cap) ty sz es' ∧ Mod (.slice (some ⟨b, o, none⟩) es'.length cap) H H' := by
  have hwb := hs b _ hb
  have hlt : b < w.heap.size := (Array.getElem?_eq_some_iff.1 hwb).1
  have hm2 : es.length * sz ≤ cap * sz := Nat.mul_le_mul_right _ hcap
  have hc' : (putCells e o d c).size = c.size := by simp [putCells]
  have hheap : (grow (putRow e (Sort.ahead w m) b o d) os).heap = (w.heap.modify b (onCells (putCells e o d))) ++ os := rfl
  have hat : ∀ b', b' < w.heap.size → (grow (putRow e (Sort.ahead w m) b o d) os).heap[b']? = if b = b' then some (.cells (putCells e o d c) ty (0, 0)) else w.heap[b']? := by
    intro b' hb'
    rw [hheap, Array.getElem?_append_left (by simpa using hb'), Array.getElem?_modify]
    by_cases q : b = b'
    · subst q
      rw [if_pos rfl, if_pos rfl, hwb]
      rfl
    · rw [if_neg q, if_neg q]
  refine ⟨H.upd b (.cells (putCells e o d c) ty (0, 0)), ⟨?_, rfl, ⟨rfl, Nat.le_add_right _ _⟩, rfl, ?_, ?_, ?_⟩, .inr ⟨b, o, cap, putCells e o d c, rfl, upd_same _ _ _, by omega, by rw [hc']; exact hsz, h1, ?_, h2⟩, ?_⟩
  · intro b' ob hb'
    by_cases q : b' = b
    · subst q
      rw [upd_same] at hb'
      rw [hat _ hlt, if_pos rfl]
      exact hb'
    · rw [upd_ne _ _ q] at hb'
      have := hs b' ob hb'
      rw [hat b' (Array.getElem?_eq_some_iff.1 this).1, if_neg (Ne.symm q)]
      exact this
  · rw [hheap]; simp
  · intro b' hb' e'
    rw [hat b' hb', if_neg (by rintro rfl; rw [hb] at e'; cases e')]
  · intro b' hb' e'
    rw [upd_ne _ _ (by rintro rfl; rw [hb] at e'; cases e')]
    exact e'
  · have hfl : es'.flatten.length = es'.length * sz := by
      have : ∀ (l : List (List Value)), (∀ x ∈ l, x.length = sz) → l.flatten.length = l.length * sz := by
        intro l
        induction l with
        | nil => intro _; simp
        | cons x r ih =>
          intro h
          rw [List.flatten_cons, List.length_append, ih fun y hy => h y (List.mem_cons_of_mem _ hy), h x List.mem_cons_self, List.length_cons, Nat.add_mul, Nat.one_mul, Nat.add_comm]
      exact this es' h1
    have hml : es'.length * sz ≤ es.length * sz := Nat.mul_le_mul_right _ hlen
    refine List.ext_getElem? fun j => ?_
    by_cases hj : j < es'.length * sz
    · rw [List.getElem?_take_of_lt hj, List.getElem?_drop, Array.getElem?_toList]
      have hjc : o + j < c.size := by omega
      have e1 : (putCells e o d c)[o + j]? = some (e d[j]!) := by
        unfold putCells
        rw [Array.getElem?_mapIdx, Array.getElem?_eq_getElem hjc]
        simp only [Option.map_some]
        rw [if_pos ⟨by omega, by omega⟩]
        congr 3
        omega
      rw [e1]
      have hjd : j < d.size := by omega
      have e2 : (d.toList.map e)[j]? = some (e d[j]!) := by
        rw [List.getElem?_map, Array.getElem?_toList, Array.getElem?_eq_getElem hjd, getElem!_pos d j hjd]
        rfl
      rw [hd, List.getElem?_append_left (by omega)] at e2
      exact e2.symm
    · rw [List.getElem?_eq_none (by rw [List.length_take]; omega), List.getElem?_eq_none (by omega)]
  · intro b' hb'
    simp [blockOf] at hb'
    exact upd_ne _ _ (fun e => hb' e.symm)
theorem mod_off {v : Value} {A B : Heap} (h : Mod v A B) : B.delO (blockOf v) = A.delO (blockOf v) := by
  funext b
  cases e : blockOf v with
  | none => exact h b (by rw [e]; simp)
  | some k =>
    show (if b = k then none else B b) = (if b = k then none else A b)
    by_cases q : b = k
    · rw [if_pos q, if_pos q]
    · rw [if_neg q, if_neg q]; exact h b (by rw [e]; simpa using fun e => q e.symm)
section
variable {P : Program} {ρ : Ren} {α : Type} [Inhabited α]
/-- A comparing function over structs. -/
def CmpM (P : Program) (g : Nat) (enc : α → List Value) (cf : α → α → Int) : Prop :=
  ∀ (x y : α) (H : Heap) (R : Ending → Heap → Prop), R (.returned (.int .i64 (cf x y))) H → Meets P g [.agg (enc x).toArray, .agg (enc y).toArray] H R
theorem grow_of {w w' : World} (st : Step (full w) w (full w) w') : ∃ q os, w' = grow (w.drewN q) os := by
  refine ⟨w'.drawn - w.drawn, w'.heap.extract w.heap.size w'.heap.size, ?_⟩
  have e1 : w'.heap = w.heap ++ w'.heap.extract w.heap.size w'.heap.size := by
    apply Array.ext_getElem?
    intro i
    by_cases hi : i < w.heap.size
    · rw [Array.getElem?_append_left hi]
      have : full w i = some w.heap[i] := Array.getElem?_eq_getElem hi
      rw [st.sub i _ this, Array.getElem?_eq_getElem hi]
    · rw [Array.getElem?_append_right (by omega), Array.getElem?_extract]
      have := st.size
      split
      · congr 1; omega
      · rw [Array.getElem?_eq_none (by omega)]
  have e2 := st.tape.dr
  cases w; cases w'
  have h1 := st.os; have h2 := st.tape.eq; have h3 := st.output
  simp only at h1 h2 h3 e1 e2
  subst h1 h2 h3
  simp only [grow, World.drewN]
  congr 1
  omega
theorem cmpLays {g : Nat} {enc : α → List Value} {cf : α → α → Int} (hc : CmpM P g enc cf) (k blk off size : Nat) (w : World) : CmpLays P g #[] enc k cf blk off size w := by
  intro m os dk hs x y
  have h := (hc x y (full (sortWorldK enc k w blk off m dk os)) (fun e H' => e = .returned (.int .i64 (cf x y)) ∧ H' = full (sortWorldK enc k w blk off m dk os)) ⟨rfl, rfl⟩).2 _ (fun b o e => e)
  refine h.mono ?_
  rintro e w' ⟨H', st, rfl, rfl⟩
  exact ⟨rfl, grow_of st⟩
theorem flatK_list {enc : α → List Value} {k : Nat} (hk : ∀ x, (enc x).length = k) (d : Array α) : (flatK enc k d).toList.map id = (d.toList.map enc).flatten ++ [] := by
  rw [List.map_id, List.append_nil]
  have hfl : ∀ l : List α, (l.map enc).flatten.length = l.length * k := by
    intro l
    induction l with
    | nil => simp
    | cons x r ih => rw [List.map_cons, List.flatten_cons, List.length_append, ih, hk, List.length_cons, Nat.add_mul, Nat.one_mul, Nat.add_comm]
  refine List.ext_getElem? fun j => ?_
  by_cases hj : j < d.size * k
  · have hk0 : 0 < k := by cases k with | zero => simp at hj | succ n => omega
    have e0 := get_flatK enc k d j hj
    have hs : j < (flatK enc k d).size := by simpa using hj
    rw [Array.getElem?_toList, Array.getElem?_eq_getElem hs, ← getElem!_pos _ j hs, e0]
    have hq : j / k < d.size := (Nat.div_lt_iff_lt_mul hk0).2 hj
    have hes : ∀ e ∈ d.toList.map enc, e.length = k := by intro e he; simp at he; obtain ⟨x, _, rfl⟩ := he; exact hk x
    have he : (d.toList.map enc)[j / k]? = some (enc d[j / k]!) := by
      rw [List.getElem?_map, Array.getElem?_toList, Array.getElem?_eq_getElem hq, getElem!_pos d _ hq]; rfl
    have := flatten_get hes he (q := j % k) (Nat.mod_lt _ hk0)
    rw [Nat.div_add_mod' j k] at this
    rw [this, List.getElem!_eq_getElem?_getD, List.getElem?_eq_getElem (by rw [hk]; exact Nat.mod_lt _ hk0)]
    rfl
  · rw [List.getElem?_eq_none (by simpa using hj), List.getElem?_eq_none (by rw [hfl]; simpa using hj)]
theorem holds_row {H : Heap} {w : World} {b o cap ty sz : Nat} {c : Array Value} {es : List (List Value)} {β : Type} [Inhabited β] (hs : H.sub w)
    (hb : H b = some (.cells c ty (0, 0))) (hcap : es.length ≤ cap) (hsz : o + cap * sz ≤ c.size) (hes : ∀ x ∈ es, x.length = sz) (hfl : (c.toList.drop o).take (es.length * sz) = es.flatten)
    (e : β → Value) (d : Array β) (hd : d.toList.map e = es.flatten) (hds : d.size = es.length * sz) : Holds e w b o d := by
  intro j hj
  have hwb := hs b _ hb
  have hm2 : es.length * sz ≤ cap * sz := Nat.mul_le_mul_right _ hcap
  refine ⟨?_, ?_⟩
  · unfold World.cell?
    rw [show (⟨b, o + j, none⟩ : Addr).block = b from rfl, hwb]
    show (if (none : Option _).isSome then none else c[o + j]?) = _
    rw [if_neg (by simp)]
    have e1 : (es.flatten)[j]? = c[o + j]? := by
      rw [← hfl, List.getElem?_take_of_lt (by omega), List.getElem?_drop, Array.getElem?_toList]
    rw [← e1, ← hd, List.getElem?_map, Array.getElem?_toList, Array.getElem?_eq_getElem hj, getElem!_pos d j hj]
    rfl
  · unfold World.frozen?
    rw [show (⟨b, o + j, none⟩ : Addr).block = b from rfl, hwb]
    show (decide (0 ≤ o + j) && decide (o + j < 0)) = false
    simp
theorem callable_enters {g : Nat} (h : callable P g = true) : ∀ args w, (callFunc g args).run P w = .ok (.enter g args) w := fun args w => callable_run h args
/-- **slices.SortFunc**: a permutation, sorted. -/
theorem meets_sortFunc (L : SlLaysF0.n6 P ρ) {k : Nat} (aE : ∀ w, (isAgg (ρ.t 24)).run P w = .ok true w) (zE : ∀ w, (Go.sizeOf (ρ.t 24)).run P w = .ok k w) {enc : α → List Value} (hk : ∀ x, (enc x).length = k)
    (h1 : ∀ x, ∀ v ∈ enc x, one v = true) {cf : α → α → Int} (hO : SWO (ltOf cf)) {g : Nat} (hg : callable P g = true) (hsf : callable P (ρ.f 6) = true) (hc : CmpM P g enc cf)
    {H : Heap} {R : Ending → Heap → Prop} {v : Value} {ty : Nat} {l : List α} (h : RowAt H v ty k (l.map enc)) (hl : l.length < 4611686018427387904)
    (K : ∀ (d : List α) (H' : Heap), d.Perm l → d.Pairwise (fun x y => ltOf cf y x = false) → RowAt H' v ty k (d.map enc) → Mod v H H' → R (.returned (.tuple #[])) H') :
    Meets P (ρ.f 6) [v, .func (.func g) #[] #[]] H R := by
  refine ⟨hsf, fun w hw => ?_⟩
  rcases h with ⟨rfl, he⟩ | ⟨b, o, cap, c, rfl, hb, hcap, hsz, hes, hfl, hon⟩
  · have hl0 : l = [] := by cases l with | nil => rfl | cons _ _ => simp at he
    subst hl0
    refine (AnyF.slices_SortFunc_none L none 0 (.func (.func g) #[] #[]) w).mono ?_
    rintro e w' ⟨rfl, rfl⟩
    exact ⟨H, ⟨hw, rfl, Tp.refl _, rfl, Nat.le_refl _, fun _ _ _ => rfl, fun _ _ e => e⟩, K [] H (List.Perm.refl _) List.Pairwise.nil (.inl ⟨rfl, rfl⟩) (Mod.refl _ _)⟩
  · have hH : HoldsK enc k w b o l.toArray := by
      refine holds_row (es := l.map enc) hw hb hcap hsz hes hfl id (flatK enc k l.toArray) ?_ (by simp)
      have := flatK_list hk l.toArray
      rw [this]; simp
    have hblk : b < w.heap.size := (Array.getElem?_eq_some_iff.1 (hw b _ hb)).1
    have hone : ∀ x, ∀ v ∈ enc x, v.oneCell' = true := fun x v hv => by
      have := h1 x v hv
      cases v <;> first | rfl | cases this
    have h := AnyQ.slices_SortFunc L k aE zE enc hk hone cf hO g #[] b o cap l.toArray w (callable_enters hg) (cmpLays hc k b o _ w) hH hblk (by simpa using hl)
    have ea : (#[.slice (some ⟨b, o, none⟩) l.toArray.size cap, .func (.func g) #[] #[]] : Array Value) = [Value.slice (some ⟨b, o, none⟩) (l.map enc).length cap, .func (.func g) #[] #[]].toArray := by simp
    rw [ea] at h
    refine h.mono ?_
    rintro e w' ⟨rfl, d, n, os, hp, hso, rfl⟩
    obtain ⟨hds, _, hperm⟩ := hp
    have e1 : (d.extract 0 l.toArray.size).toList = d.toList := by rw [← hds]; simp
    have e2 : (l.toArray.extract 0 l.toArray.size).toList = l := by simp
    rw [e1, e2] at hperm
    have hdl : d.size = l.length := by simpa using hds
    obtain ⟨H', st, hr, hm⟩ := put_row (es := l.map enc) (es' := d.toList.map enc) hw hb hcap hsz id (flatK enc k d) [] (flatK_list hk d) (by simp [hdl]) (by simp [hdl])
      (by intro x hx; simp at hx; obtain ⟨y, _, rfl⟩ := hx; exact hk y) (by intro x hx y hy; simp at hx; obtain ⟨z, _, rfl⟩ := hx; exact h1 z y hy) n os
    have el : (d.toList.map enc).length = (l.map enc).length := by simp [hdl]
    rw [el] at hr hm
    refine ⟨H', st, K d.toList H' hperm ?_ hr hm⟩
    rw [List.pairwise_iff_getElem]
    intro i j hi hj hij
    have := hso i j (Nat.zero_le _) hij (by simpa [hdl] using hj)
    rw [getElem!_pos d j (by simpa using hj), getElem!_pos d i (by simpa using hi)] at this
    simpa using this
end
end Sx

set_option linter.unusedVariables false
set_option linter.unusedSimpArgs false
set_option maxRecDepth 100000
namespace Go.Proofs
def sortRoad_ren : Go.Shelf.Ren := ⟨fun | 6 => 98 | 15 => 136 | 14 => 135 | 28 => 165 | 29 => 166 | 20 => 157 | 21 => 158 | 22 => 159 | 23 => 160 | 24 => 161 | 25 => 162 | 26 => 163 | 27 => 164 | 46 => 200 | 47 => 201 | 48 => 202 | 49 => 203 | 50 => 204 | 57 => 217 | n => n, fun | 22 => 24 | 24 => 31 | 25 => 136 | 3 => 3 | 39 => 145 | 0 => 0 | 53 => 34 | 55 => 27 | 4 => 4 | 46 => 191 | 45 => 190 | 50 => 183 | 5 => 5 | 9 => 9 | 66 => 220 | 70 => 224 | 76 => 232 | 77 => 233 | n => n, fun | n => n⟩
theorem sortRoad : Go.Proofs.SlLaysF0.n6 Try.prog sortRoad_ren := {
  mixed := by kernel_rfl,
  f6 := ⟨Try.f98.name, by decide, Try.func98.trans (congrArg some (by kernel_rfl))⟩,
  f14 := ⟨Try.f135.name, by decide, Try.func135.trans (congrArg some (by kernel_rfl))⟩,
  f15 := Try.func136.trans (congrArg some (by kernel_rfl)),
  f20 := ⟨Try.f157.name, by decide, Try.func157.trans (congrArg some (by kernel_rfl))⟩,
  f21 := ⟨Try.f158.name, by decide, Try.func158.trans (congrArg some (by kernel_rfl))⟩,
  f22 := ⟨Try.f159.name, by decide, Try.func159.trans (congrArg some (by kernel_rfl))⟩,
  f23 := ⟨Try.f160.name, by decide, Try.func160.trans (congrArg some (by kernel_rfl))⟩,
  f24 := ⟨Try.f161.name, by decide, Try.func161.trans (congrArg some (by kernel_rfl))⟩,
  f25 := ⟨Try.f162.name, by decide, Try.func162.trans (congrArg some (by kernel_rfl))⟩,
  f26 := ⟨Try.f163.name, by decide, Try.func163.trans (congrArg some (by kernel_rfl))⟩,
  f27 := ⟨Try.f164.name, by decide, Try.func164.trans (congrArg some (by kernel_rfl))⟩,
  f28 := Try.func165.trans (congrArg some (by kernel_rfl)),
  f29 := Try.func166.trans (congrArg some (by kernel_rfl)),
  f46 := ⟨Try.f200.name, by decide, Try.func200.trans (congrArg some (by kernel_rfl))⟩,
  f47 := Try.func201.trans (congrArg some (by kernel_rfl)),
  f48 := Try.func202.trans (congrArg some (by kernel_rfl)),
  f49 := ⟨Try.f203.name, by decide, Try.func203.trans (congrArg some (by kernel_rfl))⟩,
  f50 := ⟨Try.f204.name, by decide, Try.func204.trans (congrArg some (by kernel_rfl))⟩,
  f57 := ⟨Try.f217.name, by decide, Try.func217.trans (congrArg some (by kernel_rfl))⟩,
  t0 := Try.underlying0,
  a0 := Try.isAgg0,
  z0 := Try.sizeOf0,
  v0 := Try.zeroValue0,
  t3 := Try.underlying3,
  a3 := Try.isAgg3,
  z3 := Try.sizeOf3,
  v3 := Try.zeroValue3,
  t4 := Try.underlying4,
  a4 := Try.isAgg4,
  z4 := Try.sizeOf4,
  v4 := Try.zeroValue4,
  t5 := Try.underlying5,
  a5 := Try.isAgg5,
  z5 := Try.sizeOf5,
  v5 := Try.zeroValue5,
  t9 := Try.underlying9,
  a9 := Try.isAgg9,
  z9 := Try.sizeOf9,
  v9 := Try.zeroValue9,
  t22 := Try.underlying24,
  a22 := Try.isAgg24,
  z22 := Try.sizeOf24,
  v22 := Try.zeroValue24,
  t25 := Try.underlying136,
  a25 := Try.isAgg136,
  z25 := Try.sizeOf136,
  v25 := Try.zeroValue136,
  t39 := Try.underlying145,
  a39 := Try.isAgg145,
  z39 := Try.sizeOf145,
  v39 := Try.zeroValue145,
  t45 := Try.underlying190,
  a45 := Try.isAgg190,
  z45 := Try.sizeOf190,
  v45 := Try.zeroValue190,
  t46 := Try.underlying191,
  a46 := Try.isAgg191,
  z46 := Try.sizeOf191,
  v46 := Try.zeroValue191,
  t50 := Try.underlying183,
  a50 := Try.isAgg183,
  z50 := Try.sizeOf183,
  v50 := Try.zeroValue183,
  t53 := Try.underlying34,
  a53 := Try.isAgg34,
  z53 := Try.sizeOf34,
  v53 := Try.zeroValue34,
  t55 := Try.underlying27,
  a55 := Try.isAgg27,
  z55 := Try.sizeOf27,
  v55 := Try.zeroValue27,
  t66 := Try.underlying220,
  a66 := Try.isAgg220,
  z66 := Try.sizeOf220,
  v66 := Try.zeroValue220,
  t70 := Try.underlying224,
  a70 := Try.isAgg224,
  z70 := Try.sizeOf224,
  v70 := Try.zeroValue224,
  t76 := Try.underlying232,
  a76 := Try.isAgg232,
  z76 := Try.sizeOf232,
  v76 := Try.zeroValue232,
  t77 := Try.underlying233,
  a77 := Try.isAgg233,
  z77 := Try.sizeOf233,
  v77 := Try.zeroValue233 }

end Go.Proofs

set_option linter.unusedVariables false
set_option linter.unusedSimpArgs false
namespace Cr
open Go Sx
open Go.Proofs.Try
set_option maxRecDepth 100000
def h_all : Hints := { deep := true, loops := [(3, ⟨[0, 2, 7, 8], [.f 9 (.int .i64), .row 3 31 4], []⟩), (6, ⟨[0, 2, 4, 5, 7, 8, 9], [.f 6 (.int .i64), .row 3 31 4], [.keep 5]⟩)] }
def h_roads : Hints := { loops := [(3, ⟨[0, 2, 16], [.f 17 (.int .i64), .row 3 3 1], []⟩), (9, ⟨[0, 2, 26, 27], [.f 28 (.int .i64), .row 3 3 1, .row 5 31 4], []⟩), (15, ⟨[0, 2, 5, 7, 8, 9, 26, 27, 28, 49, 50], [.f 51 (.int .i64), .row 3 3 1], [.keep 7, .keep 48]⟩)] }
def h_al42 : Hints := { eqs := [29] }
def nf_rcmp (a : Int) (b : Int) (c : Int) (d : Int) (e : Int) (f : Int) (g : Int) (h : Int) (R : Ending → Heap → Prop) (H : Heap) : Prop := ∃ (G : Nat → Option Obj), G ≤ H ∧ Meets prog (25 : Nat) [Value.agg { toList := [Value.int IntKind.u64 c, Value.int IntKind.u64 d] }, Value.agg { toList := [Value.int IntKind.u64 g, Value.int IntKind.u64 h] }] H fun (e_1 : Ending) (H' : Nat → Option Obj) ↦ Keep G H H H' ∧ ∃ (n : Int), e_1 = Ending.returned (Value.int IntKind.i64 n) ∧ Meets prog (127 : Nat) [Value.int IntKind.i64 a, Value.int IntKind.i64 e] (delLs H' []) fun (e : Ending) (H'_1 : Nat → Option Obj) ↦ Keep G (delLs H' []) (delLs H' []) H'_1 ∧ ∃ (n_1 : Int), e = Ending.returned (Value.int IntKind.i64 n_1) ∧ Meets prog (127 : Nat) [Value.int IntKind.i64 b, Value.int IntKind.i64 f] (delLs H'_1 []) fun (e : Ending) (H' : Nat → Option Obj) ↦ Keep G (delLs H'_1 []) (delLs H'_1 []) H' ∧ ∃ (n_2 : Int), e = Ending.returned (Value.int IntKind.i64 n_2) ∧ ∀ (v : Value) (H'_2 : Nat → Option Obj), delLs H' [] ≤ H'_2 → (∀ (b : Nat), blockOf v = some b → delLs H' [] b = none) → (∀ (b : Nat) (o : Obj), H'_2 b = some o → delLs H' [] b = some o ∨ blockOf v = some b) → RowAt H'_2 v (3 : Nat) (1 : Nat) [[Value.int IntKind.i64 n], [Value.int IntKind.i64 n_1], [Value.int IntKind.i64 n_2]] → Meets prog (61 : Nat) [v] H'_2 fun (e : Ending) (H'_3 : Nat → Option Obj) ↦ Keep G (delLs H' []) H'_2 H'_3 ∧ ∃ (n : Int), e = Ending.returned (Value.int IntKind.i64 n) ∧ R (Ending.returned (Value.int IntKind.i64 n)) (delLs H'_3 [{ site := (20 : Nat), val := v, kind := LK.row (3 : Nat) (1 : Nat) }])
theorem vc_rcmp (a : Int) (b : Int) (c : Int) (d : Int) (e : Int) (f : Int) (g : Int) (h : Int) (R : Ending → Heap → Prop) (H : Heap) : vcFun prog { } f99 [SV.agg [Seg.c (SC.v (Value.int IntKind.i64 a)), Seg.c (SC.v (Value.int IntKind.i64 b)), Seg.c (SC.v (Value.int IntKind.u64 c)), Seg.c (SC.v (Value.int IntKind.u64 d))], SV.agg [Seg.c (SC.v (Value.int IntKind.i64 e)), Seg.c (SC.v (Value.int IntKind.i64 f)), Seg.c (SC.v (Value.int IntKind.u64 g)), Seg.c (SC.v (Value.int IntKind.u64 h))]] R H = nf_rcmp a b c d e f g h R H := by kernel_rfl

def nf_rall (a : Option Addr) (n : Nat) (c : Nat) (R : Ending → Heap → Prop) (H : Heap) : Prop := a = a ∧ n = n ∧ c = c ∧ (none : Option Addr) = none ∧ (0 : Nat) = (0 : Nat) ∧ (0 : Nat) = (0 : Nat) ∧ a = a ∧ n = n ∧ c = c ∧ (↑n : Int) = (↑n : Int) ∧ LoopP (fun (K : (Int × List (List Value) × PUnit) × PUnit → (Nat → Option Obj) → Prop) (p : (Int × List (List Value) × PUnit) × PUnit) (H : Nat → Option Obj) ↦ Br (decide (p.fst.fst < (↑n : Int))) (((0 : Int) ≤ p.fst.fst ∧ p.fst.fst < (↑n : Int)) ∧ PtrK a fun (A : Addr) ↦ PtrK (some (Addr.add A (Int.toNat p.fst.fst * (4 : Nat)))) fun (a_1 : Addr) ↦ ∃ (n_1 : Int), ∃ (n_2 : Int), ∃ (n_3 : Int), ∃ (s : ByteArray), Heap.has H a_1 [Value.int IntKind.i64 n_1, Value.int IntKind.u32 n_2, Value.int IntKind.u32 n_3, Value.string s] ∧ a = a ∧ n = n ∧ c = c ∧ (none : Option Addr) = none ∧ (0 : Nat) = (0 : Nat) ∧ (0 : Nat) = (0 : Nat) ∧ p.fst.fst = p.fst.fst ∧ (0 : Nat) = (0 : Nat) ∧ a = a ∧ n = n ∧ c = c ∧ (↑n : Int) = (↑n : Int) ∧ p.fst.fst = p.fst.fst ∧ n_1 = n_1 ∧ n_2 = n_2 ∧ n_3 = n_3 ∧ Value.string s = Value.string s ∧ LoopP (fun (K_1 : (Int × List (List Value) × PUnit) × PUnit × PUnit → (Nat → Option Obj) → Prop) (p_1 : (Int × List (List Value) × PUnit) × PUnit × PUnit) (H : Nat → Option Obj) ↦ Br (decide (p_1.fst.fst < (↑n : Int))) (∃ (G : Nat → Option Obj), G ≤ H ∧ ((0 : Int) ≤ p_1.fst.fst ∧ p_1.fst.fst < (↑n : Int)) ∧ PtrK a fun (A : Addr) ↦ PtrK (some (Addr.add A (Int.toNat p_1.fst.fst * (4 : Nat)))) fun (a_2 : Addr) ↦ PtrK (some (Addr.add a_2 (1 : Nat))) fun (a_3 : Addr) ↦ ∃ (n_4 : Int), Heap.has G a_3 [Value.int IntKind.u32 n_4] ∧ ((0 : Int) ≤ p_1.fst.fst ∧ p_1.fst.fst < (↑n : Int)) ∧ PtrK a fun (A : Addr) ↦ PtrK (some (Addr.add A (Int.toNat p_1.fst.fst * (4 : Nat)))) fun (a_4 : Addr) ↦ PtrK (some (Addr.add a_4 (2 : Nat))) fun (a_5 : Addr) ↦ ∃ (n_5 : Int), Heap.has G a_5 [Value.int IntKind.u32 n_5] ∧ Meets prog (81 : Nat) [Value.int IntKind.u32 n_2, Value.int IntKind.u32 n_3, Value.int IntKind.u32 n_4, Value.int IntKind.u32 n_5] H fun (e : Ending) (H' : Nat → Option Obj) ↦ Keep G H H H' ∧ ∃ (n_6 : Int), ∃ (n_7 : Int), e = Ending.returned (Value.agg { toList := [Value.int IntKind.u64 n_6, Value.int IntKind.u64 n_7] }) ∧ List.length (List.append p_1.fst.snd.fst [[Value.int IntKind.i64 p.fst.fst, Value.int IntKind.i64 p_1.fst.fst, Value.int IntKind.u64 n_6, Value.int IntKind.u64 n_7]]) * (32 : Nat) ≤ (140737488355328 : Nat) ∧ a = a ∧ n = n ∧ c = c ∧ (none : Option Addr) = none ∧ (0 : Nat) = (0 : Nat) ∧ (0 : Nat) = (0 : Nat) ∧ p.fst.fst = p.fst.fst ∧ (0 : Nat) = (0 : Nat) ∧ a = a ∧ n = n ∧ c = c ∧ (↑n : Int) = (↑n : Int) ∧ p.fst.fst = p.fst.fst ∧ n_1 = n_1 ∧ n_2 = n_2 ∧ n_3 = n_3 ∧ Value.string s = Value.string s ∧ K_1 ((IntKind.wrap IntKind.i64 (p_1.fst.fst + (1 : Int)), List.append p_1.fst.snd.fst [[Value.int IntKind.i64 p.fst.fst, Value.int IntKind.i64 p_1.fst.fst, Value.int IntKind.u64 n_6, Value.int IntKind.u64 n_7]], PUnit.unit), PUnit.unit, PUnit.unit) (delLs H' [])) (a = a ∧ n = n ∧ c = c ∧ (none : Option Addr) = none ∧ (0 : Nat) = (0 : Nat) ∧ (0 : Nat) = (0 : Nat) ∧ a = a ∧ n = n ∧ c = c ∧ (↑n : Int) = (↑n : Int) ∧ K ((IntKind.wrap IntKind.i64 (p.fst.fst + (1 : Int)), p_1.fst.snd.fst, PUnit.unit), PUnit.unit) H)) ((IntKind.wrap IntKind.i64 (p.fst.fst + (1 : Int)), p.fst.snd.fst, PUnit.unit), PUnit.unit, PUnit.unit) H) (∀ (v : Value) (H' : Nat → Option Obj), H ≤ H' → (∀ (b : Nat), blockOf v = some b → H b = none) → (∀ (b : Nat) (o : Obj), H' b = some o → H b = some o ∨ blockOf v = some b) → RowAt H' v (31 : Nat) (4 : Nat) p.fst.snd.fst → Meets prog (98 : Nat) [v, Value.func (Fn.func (99 : Nat)) { toList := [] } { toList := [] }] H' fun (e : Ending) (H' : Nat → Option Obj) ↦ e = Ending.returned (Value.tuple { toList := [] }) ∧ ∃ (es : List (List Value)), RowAt H' v (31 : Nat) (4 : Nat) es ∧ ∀ (v_1 : Value) (H'_1 : Nat → Option Obj), Heap.delO H' (blockOf v) ≤ H'_1 → (∀ (b : Nat), blockOf v_1 = some b → Heap.delO H' (blockOf v) b = none) → (∀ (b : Nat) (o : Obj), H'_1 b = some o → Heap.delO H' (blockOf v) b = some o ∨ blockOf v_1 = some b) → RowAt H'_1 v_1 (31 : Nat) (4 : Nat) es → R (Ending.returned v_1) H'_1)) (((0 : Int), [], PUnit.unit), PUnit.unit) H
theorem vc_rall (a : Option Addr) (n : Nat) (c : Nat) (R : Ending → Heap → Prop) (H : Heap) : vcFun prog h_all f59 [SV.c (SC.v (Value.slice a n c))] R H = nf_rall a n c R H := by kernel_rfl

def nf_roads (a : Option Addr) (n : Nat) (c : Nat) (R : Ending → Heap → Prop) (H : Heap) : Prop := ((0 : Int) ≤ (↑n : Int) ∧ (↑n : Int) = (↑n : Int) ∧ (↑n : Int) * (↑(8 : Nat) : Int) ≤ (↑(140737488355328 : Nat) : Int)) ∧ a = a ∧ n = n ∧ c = c ∧ (none : Option Addr) = none ∧ (0 : Nat) = (0 : Nat) ∧ (0 : Nat) = (0 : Nat) ∧ (↑(List.length (List.replicate (Int.toNat (↑n : Int)) [Value.int IntKind.i64 (0 : Int)])) : Int) = (↑(List.length (List.replicate (Int.toNat (↑n : Int)) [Value.int IntKind.i64 (0 : Int)])) : Int) ∧ LoopP (fun (K : (Int × List (List Value) × PUnit) × PUnit → (Nat → Option Obj) → Prop) (p : (Int × List (List Value) × PUnit) × PUnit) (H : Nat → Option Obj) ↦ Br (decide (p.fst.fst < (↑(List.length (List.replicate (Int.toNat (↑n : Int)) [Value.int IntKind.i64 (0 : Int)])) : Int))) (((0 : Int) ≤ p.fst.fst ∧ p.fst.fst < (↑(List.length p.fst.snd.fst) : Int)) ∧ Int.toNat p.fst.fst < List.length p.fst.snd.fst ∧ a = a ∧ n = n ∧ c = c ∧ (none : Option Addr) = none ∧ (0 : Nat) = (0 : Nat) ∧ (0 : Nat) = (0 : Nat) ∧ (↑(List.length (List.replicate (Int.toNat (↑n : Int)) [Value.int IntKind.i64 (0 : Int)])) : Int) = (↑(List.length (List.replicate (Int.toNat (↑n : Int)) [Value.int IntKind.i64 (0 : Int)])) : Int) ∧ K ((IntKind.wrap IntKind.i64 (p.fst.fst + (1 : Int)), List.set p.fst.snd.fst (Int.toNat p.fst.fst) [Value.int IntKind.i64 p.fst.fst], PUnit.unit), PUnit.unit) H) (Meets prog (59 : Nat) [Value.slice a n c] H fun (e : Ending) (H' : Nat → Option Obj) ↦ ∃ (a_1 : Option Addr), ∃ (n_1 : Nat), ∃ (c_1 : Nat), e = Ending.returned (Value.slice a_1 n_1 c_1) ∧ a = a ∧ n = n ∧ c = c ∧ (none : Option Addr) = none ∧ (0 : Nat) = (0 : Nat) ∧ (0 : Nat) = (0 : Nat) ∧ a_1 = a_1 ∧ n_1 = n_1 ∧ c_1 = c_1 ∧ (↑n_1 : Int) = (↑n_1 : Int) ∧ LoopP (fun (K : (Int × List (List Value) × List (List Value) × PUnit) × PUnit → (Nat → Option Obj) → Prop) (p : (Int × List (List Value) × List (List Value) × PUnit) × PUnit) (H : Nat → Option Obj) ↦ Br (decide (p.fst.fst < (↑n_1 : Int))) (((0 : Int) ≤ p.fst.fst ∧ p.fst.fst < (↑n_1 : Int)) ∧ PtrK a_1 fun (A : Addr) ↦ PtrK (some (Addr.add A (Int.toNat p.fst.fst * (4 : Nat)))) fun (a_2 : Addr) ↦ ∃ (n_2 : Int), ∃ (n_3 : Int), ∃ (n_4 : Int), ∃ (n_5 : Int), Heap.has H a_2 [Value.int IntKind.i64 n_2, Value.int IntKind.i64 n_3, Value.int IntKind.u64 n_4, Value.int IntKind.u64 n_5] ∧ ((0 : Int) ≤ n_2 ∧ n_2 < (↑(List.length p.fst.snd.fst) : Int)) ∧ ∃ (n_6 : Int), (∃ (e : List Value), List.get?Internal p.fst.snd.fst (Int.toNat n_2) = some e ∧ List.take (1 : Nat) (List.drop (0 : Nat) e) = [Value.int IntKind.i64 n_6]) ∧ ((0 : Int) ≤ n_3 ∧ n_3 < (↑(List.length p.fst.snd.fst) : Int)) ∧ ∃ (n_7 : Int), (∃ (e : List Value), List.get?Internal p.fst.snd.fst (Int.toNat n_3) = some e ∧ List.take (1 : Nat) (List.drop (0 : Nat) e) = [Value.int IntKind.i64 n_7]) ∧ Br (n_6 == n_7) (a = a ∧ n = n ∧ c = c ∧ (none : Option Addr) = none ∧ (0 : Nat) = (0 : Nat) ∧ (0 : Nat) = (0 : Nat) ∧ a_1 = a_1 ∧ n_1 = n_1 ∧ c_1 = c_1 ∧ (↑n_1 : Int) = (↑n_1 : Int) ∧ K ((IntKind.wrap IntKind.i64 (p.fst.fst + (1 : Int)), p.fst.snd.fst, p.fst.snd.snd.fst, PUnit.unit), PUnit.unit) H) (List.length (List.append p.fst.snd.snd.fst [[Value.int IntKind.i64 n_2, Value.int IntKind.i64 n_3, Value.int IntKind.u64 n_4, Value.int IntKind.u64 n_5]]) * (32 : Nat) ≤ (140737488355328 : Nat) ∧ a = a ∧ n = n ∧ c = c ∧ (none : Option Addr) = none ∧ (0 : Nat) = (0 : Nat) ∧ (0 : Nat) = (0 : Nat) ∧ (0 : Nat) = (0 : Nat) ∧ n_6 = n_6 ∧ n_7 = n_7 ∧ a_1 = a_1 ∧ n_1 = n_1 ∧ c_1 = c_1 ∧ (↑n_1 : Int) = (↑n_1 : Int) ∧ p.fst.fst = p.fst.fst ∧ (↑(List.length p.fst.snd.fst) : Int) = (↑(List.length p.fst.snd.fst) : Int) ∧ n_2 = n_2 ∧ n_3 = n_3 ∧ n_4 = n_4 ∧ n_5 = n_5 ∧ List.append p.fst.snd.snd.fst [[Value.int IntKind.i64 n_2, Value.int IntKind.i64 n_3, Value.int IntKind.u64 n_4, Value.int IntKind.u64 n_5]] = List.append p.fst.snd.snd.fst [[Value.int IntKind.i64 n_2, Value.int IntKind.i64 n_3, Value.int IntKind.u64 n_4, Value.int IntKind.u64 n_5]] ∧ LoopP (fun (K_1 : (Int × List (List Value) × PUnit) × PUnit × PUnit × PUnit → (Nat → Option Obj) → Prop) (p_1 : (Int × List (List Value) × PUnit) × PUnit × PUnit × PUnit) (H : Nat → Option Obj) ↦ Br (decide (p_1.fst.fst < (↑(List.length p.fst.snd.fst) : Int))) (((0 : Int) ≤ p_1.fst.fst ∧ p_1.fst.fst < (↑(List.length p_1.fst.snd.fst) : Int)) ∧ ∃ (n_8 : Int), (∃ (e : List Value), List.get?Internal p_1.fst.snd.fst (Int.toNat p_1.fst.fst) = some e ∧ List.take (1 : Nat) (List.drop (0 : Nat) e) = [Value.int IntKind.i64 n_8]) ∧ Br (n_8 == n_7) (((0 : Int) ≤ p_1.fst.fst ∧ p_1.fst.fst < (↑(List.length p_1.fst.snd.fst) : Int)) ∧ Int.toNat p_1.fst.fst < List.length p_1.fst.snd.fst ∧ a = a ∧ n = n ∧ c = c ∧ (none : Option Addr) = none ∧ (0 : Nat) = (0 : Nat) ∧ (0 : Nat) = (0 : Nat) ∧ (0 : Nat) = (0 : Nat) ∧ n_6 = n_6 ∧ n_7 = n_7 ∧ a_1 = a_1 ∧ n_1 = n_1 ∧ c_1 = c_1 ∧ (↑n_1 : Int) = (↑n_1 : Int) ∧ p.fst.fst = p.fst.fst ∧ (↑(List.length p.fst.snd.fst) : Int) = (↑(List.length p.fst.snd.fst) : Int) ∧ n_2 = n_2 ∧ n_3 = n_3 ∧ n_4 = n_4 ∧ n_5 = n_5 ∧ List.append p.fst.snd.snd.fst [[Value.int IntKind.i64 n_2, Value.int IntKind.i64 n_3, Value.int IntKind.u64 n_4, Value.int IntKind.u64 n_5]] = List.append p.fst.snd.snd.fst [[Value.int IntKind.i64 n_2, Value.int IntKind.i64 n_3, Value.int IntKind.u64 n_4, Value.int IntKind.u64 n_5]] ∧ K_1 ((IntKind.wrap IntKind.i64 (p_1.fst.fst + (1 : Int)), List.set p_1.fst.snd.fst (Int.toNat p_1.fst.fst) [Value.int IntKind.i64 n_6], PUnit.unit), PUnit.unit, PUnit.unit, PUnit.unit) H) (a = a ∧ n = n ∧ c = c ∧ (none : Option Addr) = none ∧ (0 : Nat) = (0 : Nat) ∧ (0 : Nat) = (0 : Nat) ∧ (0 : Nat) = (0 : Nat) ∧ n_6 = n_6 ∧ n_7 = n_7 ∧ a_1 = a_1 ∧ n_1 = n_1 ∧ c_1 = c_1 ∧ (↑n_1 : Int) = (↑n_1 : Int) ∧ p.fst.fst = p.fst.fst ∧ (↑(List.length p.fst.snd.fst) : Int) = (↑(List.length p.fst.snd.fst) : Int) ∧ n_2 = n_2 ∧ n_3 = n_3 ∧ n_4 = n_4 ∧ n_5 = n_5 ∧ List.append p.fst.snd.snd.fst [[Value.int IntKind.i64 n_2, Value.int IntKind.i64 n_3, Value.int IntKind.u64 n_4, Value.int IntKind.u64 n_5]] = List.append p.fst.snd.snd.fst [[Value.int IntKind.i64 n_2, Value.int IntKind.i64 n_3, Value.int IntKind.u64 n_4, Value.int IntKind.u64 n_5]] ∧ K_1 ((IntKind.wrap IntKind.i64 (p_1.fst.fst + (1 : Int)), p_1.fst.snd.fst, PUnit.unit), PUnit.unit, PUnit.unit, PUnit.unit) H)) (a = a ∧ n = n ∧ c = c ∧ (none : Option Addr) = none ∧ (0 : Nat) = (0 : Nat) ∧ (0 : Nat) = (0 : Nat) ∧ a_1 = a_1 ∧ n_1 = n_1 ∧ c_1 = c_1 ∧ (↑n_1 : Int) = (↑n_1 : Int) ∧ K ((IntKind.wrap IntKind.i64 (p.fst.fst + (1 : Int)), p_1.fst.snd.fst, List.append p.fst.snd.snd.fst [[Value.int IntKind.i64 n_2, Value.int IntKind.i64 n_3, Value.int IntKind.u64 n_4, Value.int IntKind.u64 n_5]], PUnit.unit), PUnit.unit) H)) (((0 : Int), p.fst.snd.fst, PUnit.unit), PUnit.unit, PUnit.unit, PUnit.unit) H)) (∀ (v : Value) (H' : Nat → Option Obj), H ≤ H' → (∀ (b : Nat), blockOf v = some b → H b = none) → (∀ (b : Nat) (o : Obj), H' b = some o → H b = some o ∨ blockOf v = some b) → RowAt H' v (31 : Nat) (4 : Nat) p.fst.snd.snd.fst → R (Ending.returned v) H')) (((0 : Int), p.fst.snd.fst, [], PUnit.unit), PUnit.unit) H')) (((0 : Int), List.replicate (Int.toNat (↑n : Int)) [Value.int IntKind.i64 (0 : Int)], PUnit.unit), PUnit.unit) H
theorem vc_roads (a : Option Addr) (n : Nat) (c : Nat) (R : Ending → Heap → Prop) (H : Heap) : vcFun prog h_roads f21 [SV.c (SC.v (Value.slice a n c))] R H = nf_roads a n c R H := by kernel_rfl

def nf_alive42 (R : Ending → Heap → Prop) (H : Heap) : Prop := ∀ (v : Value) (H' : Nat → Option Obj), H ≤ H' → (∀ (b : Nat), blockOf v = some b → H b = none) → (∀ (b : Nat) (o : Obj), H' b = some o → H b = some o ∨ blockOf v = some b) → RowAt H' v (36 : Nat) (4 : Nat) [[Value.int IntKind.i64 (0 : Int), Value.int IntKind.u32 (0 : Int), Value.int IntKind.u32 (0 : Int), Value.string { data := #[] }], [Value.int IntKind.i64 (0 : Int), Value.int IntKind.u32 (3 : Int), Value.int IntKind.u32 (0 : Int), Value.string { data := #[] }]] → Meets prog (21 : Nat) [v] H' fun (e : Ending) (H' : Nat → Option Obj) ↦ ∃ (a : Option Addr), ∃ (n : Nat), ∃ (c : Nat), e = Ending.returned (Value.slice a n c) ∧ ∃ (es : List (List Value)), RowAt H' v (36 : Nat) (4 : Nat) es ∧ ∀ (v_1 : Value) (H'_1 : Nat → Option Obj), Heap.delO H' (blockOf v) ≤ H'_1 → (∀ (b : Nat), blockOf v_1 = some b → Heap.delO H' (blockOf v) b = none) → (∀ (b : Nat) (o : Obj), H'_1 b = some o → Heap.delO H' (blockOf v) b = some o ∨ blockOf v_1 = some b) → RowAt H'_1 v_1 (36 : Nat) (4 : Nat) [[Value.int IntKind.i64 (0 : Int), Value.int IntKind.u32 (0 : Int), Value.int IntKind.u32 (0 : Int), Value.string { data := #[] }]] → Meets prog (21 : Nat) [v_1] H'_1 fun (e : Ending) (H' : Nat → Option Obj) ↦ ∃ (a_5 : Option Addr), ∃ (n_1 : Nat), ∃ (c : Nat), e = Ending.returned (Value.slice a_5 n_1 c) ∧ ∃ (es : List (List Value)), RowAt H' v_1 (36 : Nat) (4 : Nat) es ∧ Br ((↑n_1 : Int) == (0 : Int)) (Br ((↑n : Int) == (1 : Int)) (((0 : Int) ≤ (0 : Int) ∧ (0 : Int) < (↑n : Int)) ∧ PtrK a fun (A : Addr) ↦ PtrK (some (Addr.add A (0 : Nat))) fun (a : Addr) ↦ PtrK (some (Addr.add a (2 : Nat))) fun (a : Addr) ↦ ∃ (n : Int), ∃ (n_2 : Int), Heap.has (Heap.delO H' (blockOf v_1)) a [Value.int IntKind.u64 n, Value.int IntKind.u64 n_2] ∧ R (Ending.returned (Value.bool (andO (some (andO none (n == (0 : Int)))) (n_2 == (9 : Int))))) (Heap.delO H' (blockOf v_1))) (R (Ending.returned (Value.bool false)) (Heap.delO H' (blockOf v_1)))) (R (Ending.returned (Value.bool false)) (Heap.delO H' (blockOf v_1)))
theorem vc_alive42 (R : Ending → Heap → Prop) (H : Heap) : vcFun prog h_al42 f20 [] R H = nf_alive42 R H := by kernel_rfl

end Cr

set_option linter.unusedVariables false
set_option linter.unusedSimpArgs false
namespace Cr
open Go Sx Go.Proofs Go.Sort
open Go.Proofs.Try
set_option maxRecDepth 100000
structure Rd where
  f : Int
  t : Int
  hi : Int
  lo : Int
  deriving Inhabited, DecidableEq
@[reducible] def rdC (r : Rd) : List Value := [vi r.f, vi r.t, .int .u64 r.hi, .int .u64 r.lo]
abbrev rds (l : List Rd) : List (List Value) := l.map rdC
def cmpR (x y : Rd) : Int := orL [cmpD x.hi x.lo y.hi y.lo, sgn3 x.f y.f, sgn3 x.t y.t]
theorem orL_neg {x : Int} {r : List Int} : orL (x :: r) < 0 ↔ x < 0 ∨ (x = 0 ∧ orL r < 0) := by
  rw [show orL (x :: r) = if x ≠ 0 then x else orL r from rfl]
  by_cases h : x = 0
  · subst h; simp
  · rw [if_pos h]
    constructor
    · intro q; exact .inl q
    · rintro (q | q); exact q; exact (h q.1).elim
theorem orL_zero {x : Int} {r : List Int} : orL (x :: r) = 0 ↔ x = 0 ∧ orL r = 0 := by
  rw [show orL (x :: r) = if x ≠ 0 then x else orL r from rfl]
  by_cases h : x = 0
  · subst h; simp
  · rw [if_pos h]; simp [h]
theorem sgn3_neg {x y : Int} : sgn3 x y < 0 ↔ x < y := by unfold sgn3; split <;> (try split) <;> omega
theorem sgn3_zero {x y : Int} : sgn3 x y = 0 ↔ x = y := by unfold sgn3; split <;> (try split) <;> omega
theorem cmpD_neg {a b c d : Int} : cmpD a b c d < 0 ↔ a < c ∨ (a = c ∧ b < d) := by
  unfold cmpD
  rw [orL_neg, orL_neg, sgn3_neg, sgn3_neg, sgn3_zero]
  constructor
  · rintro (h | ⟨h, h2 | ⟨_, h3⟩⟩)
    · exact .inl h
    · exact .inr ⟨h, h2⟩
    · simp [orL] at h3
  · rintro (h | ⟨h, h2⟩)
    · exact .inl h
    · exact .inr ⟨h, .inl h2⟩
theorem cmpD_zero {a b c d : Int} : cmpD a b c d = 0 ↔ a = c ∧ b = d := by
  unfold cmpD
  rw [orL_zero, orL_zero, sgn3_zero, sgn3_zero]
  simp [orL]
abbrev rLt (x y : Rd) : Prop := x.hi < y.hi ∨ (x.hi = y.hi ∧ (x.lo < y.lo ∨ (x.lo = y.lo ∧ (x.f < y.f ∨ (x.f = y.f ∧ x.t < y.t)))))
theorem cmpR_neg {x y : Rd} : cmpR x y < 0 ↔ rLt x y := by
  unfold cmpR rLt
  rw [orL_neg, cmpD_neg, cmpD_zero, orL_neg, sgn3_neg, sgn3_zero, orL_neg, sgn3_neg]
  have : ¬ (orL [] < 0) := by simp [orL]
  simp only [this, and_false, or_false]
  constructor
  · rintro ((h | h) | ⟨⟨h1, h2⟩, h⟩)
    · exact .inl h
    · exact .inr ⟨h.1, .inl h.2⟩
    · exact .inr ⟨h1, .inr ⟨h2, h⟩⟩
  · rintro (h | ⟨h1, h | ⟨h2, h⟩⟩)
    · exact .inl (.inl h)
    · exact .inl (.inr ⟨h1, h⟩)
    · exact .inr ⟨⟨h1, h2⟩, h⟩
theorem lt_cmpR {x y : Rd} : ltOf cmpR x y = decide (rLt x y) := by
  unfold ltOf
  by_cases h : rLt x y
  · rw [decide_eq_true h, decide_eq_true (cmpR_neg.2 h)]
  · rw [decide_eq_false h, decide_eq_false (fun q => h (cmpR_neg.1 q))]
theorem rLt_irrefl (x : Rd) : ¬ rLt x x := by unfold rLt; omega
theorem rLt_trans {x y z : Rd} (h : rLt x y) (h' : rLt y z) : rLt x z := by unfold rLt at *; omega
theorem rLt_tri {x y : Rd} (h : ¬ rLt x y) (h' : ¬ rLt y x) : x = y := by
  obtain ⟨a, b, c, d⟩ := x
  obtain ⟨a', b', c', d'⟩ := y
  unfold rLt at h h'
  simp only at h h'
  have e1 : a = a' := by omega
  have e2 : b = b' := by omega
  have e3 : c = c' := by omega
  have e4 : d = d' := by omega
  subst e1 e2 e3 e4; rfl
theorem swoR : SWO (ltOf cmpR) where
  irrefl x := by rw [lt_cmpR]; exact decide_eq_false (rLt_irrefl x)
  trans x y z h h' := by
    rw [lt_cmpR] at *
    exact decide_eq_true (rLt_trans (of_decide_eq_true h) (of_decide_eq_true h'))
  ntrans x y z h h' := by
    rw [lt_cmpR] at *
    have h := of_decide_eq_false h
    have h' := of_decide_eq_false h'
    refine decide_eq_false ?_
    unfold rLt at *
    omega
abbrev atP (l : List Pt) (i : Nat) : Pt := l.getD i default
abbrev dis (p q : Pt) : Int := sqd p.x p.y q.x q.y
def rdAt (l : List Pt) (i k : Nat) : Rd := ⟨i, k, dis (atP l i) (atP l k) / 18446744073709551616, dis (atP l i) (atP l k) % 18446744073709551616⟩
def rowP (l : List Pt) (i : Nat) : Nat → List Rd
  | 0 => []
  | k + 1 => if i < k then rowP l i k ++ [rdAt l i k] else rowP l i k
def pairsTo (l : List Pt) : Nat → List Rd
  | 0 => []
  | i + 1 => pairsTo l i ++ rowP l i l.length
abbrev pairsL (l : List Pt) : List Rd := pairsTo l l.length
theorem rowP_low (l : List Pt) (i : Nat) : ∀ k, k ≤ i + 1 → rowP l i k = []
  | 0, _ => rfl
  | k + 1, h => by rw [rowP, if_neg (by omega)]; exact rowP_low l i k (by omega)
theorem mem_rowP {l : List Pt} {i : Nat} {r : Rd} : ∀ {k : Nat}, r ∈ rowP l i k ↔ ∃ j, i < j ∧ j < k ∧ r = rdAt l i j
  | 0 => by simp [rowP]
  | k + 1 => by
    unfold rowP
    by_cases h : i < k
    · rw [if_pos h, List.mem_append, mem_rowP, List.mem_singleton]
      constructor
      · rintro (⟨j, h1, h2, h3⟩ | h3)
        · exact ⟨j, h1, by omega, h3⟩
        · exact ⟨k, h, by omega, h3⟩
      · rintro ⟨j, h1, h2, h3⟩
        by_cases e : j = k
        · subst e; exact .inr h3
        · exact .inl ⟨j, h1, by omega, h3⟩
    · rw [if_neg h, mem_rowP]
      constructor
      · rintro ⟨j, h1, h2, h3⟩; exact ⟨j, h1, by omega, h3⟩
      · rintro ⟨j, h1, h2, h3⟩; exact ⟨j, h1, by omega, h3⟩
theorem mem_pairsTo {l : List Pt} {r : Rd} : ∀ {m : Nat}, r ∈ pairsTo l m ↔ ∃ i j, i < m ∧ i < j ∧ j < l.length ∧ r = rdAt l i j
  | 0 => by simp [pairsTo]
  | m + 1 => by
    unfold pairsTo
    rw [List.mem_append, mem_pairsTo, mem_rowP]
    constructor
    · rintro (⟨i, j, h1, h2, h3, h4⟩ | ⟨j, h1, h2, h3⟩)
      · exact ⟨i, j, by omega, h2, h3, h4⟩
      · exact ⟨m, j, by omega, h1, h2, h3⟩
    · rintro ⟨i, j, h1, h2, h3, h4⟩
      by_cases e : i = m
      · subst e; exact .inr ⟨j, h2, h3, h4⟩
      · exact .inl ⟨i, j, by omega, h2, h3, h4⟩
theorem rowP_len (l : List Pt) (i : Nat) : ∀ k, (rowP l i k).length ≤ k
  | 0 => by simp [rowP]
  | k + 1 => by
    have := rowP_len l i k
    unfold rowP
    split
    · simp; omega
    · omega
theorem pairsTo_len (l : List Pt) : ∀ m, (pairsTo l m).length ≤ m * l.length
  | 0 => by simp [pairsTo]
  | m + 1 => by
    have := pairsTo_len l m
    have := rowP_len l m l.length
    rw [pairsTo, List.length_append, Nat.add_mul, Nat.one_mul]
    omega
def getI (g : List Int) (x : Int) : Int := g.getD x.toNat 0
def mrg (g : List Int) (a b : Int) : List Int := g.map fun x => if x = b then a else x
/-- The roads that join what was not joined. -/
def krus : List Rd → List Int → List Rd
  | [], _ => []
  | r :: rs, g => if getI g r.f = getI g r.t then krus rs g else r :: krus rs (mrg g (getI g r.f) (getI g r.t))
theorem krus_len : ∀ (d : List Rd) (g : List Int), (krus d g).length ≤ d.length
  | [], _ => by simp [krus]
  | r :: rs, g => by
    unfold krus
    split
    · have := krus_len rs g; simp; omega
    · have := krus_len rs (mrg g (getI g r.f) (getI g r.t)); simp; omega
def iotaTo (n t : Nat) : List Int := (List.range n).map fun i => if i < t then (i : Int) else 0
abbrev iota (n : Nat) : List Int := iotaTo n n
theorem iotaTo_len (n t : Nat) : (iotaTo n t).length = n := by simp [iotaTo]
theorem iotaTo_set {n t : Nat} (h : t < n) : (iotaTo n t).set t (t : Int) = iotaTo n (t + 1) := by
  refine List.ext_getElem? fun i => ?_
  rw [List.getElem?_set]
  by_cases e : t = i
  · subst e
    rw [if_pos rfl, if_pos (by rw [iotaTo_len]; exact h)]
    simp [iotaTo, h]
  · rw [if_neg e]
    simp only [iotaTo, List.getElem?_map]
    by_cases hi : i < n
    · rw [List.getElem?_range hi]
      simp only [Option.map_some]
      congr 1
      by_cases q : i < t
      · rw [if_pos q, if_pos (by omega)]
      · rw [if_neg q, if_neg (by omega)]
    · rw [List.getElem?_eq_none (by simpa using hi)]; rfl
theorem iotaTo_zero (n : Nat) : List.replicate n [vi 0] = cells (iotaTo n 0) := by
  refine List.ext_getElem? fun i => ?_
  by_cases hi : i < n
  · simp [iotaTo, cells, hi]
  · rw [List.getElem?_eq_none (by simpa using hi), List.getElem?_eq_none (by simpa [iotaTo, cells] using hi)]
theorem cells_set (g : List Int) (i : Nat) (x : Int) : (cells g).set i [vi x] = cells (g.set i x) := by simp [cells, List.map_set]
theorem cells_len (g : List Int) : (cells g).length = g.length := by simp [cells]
theorem cells_get {g : List Int} {i : Nat} {x : Int} (h : g[i]? = some x) : ∃ e : List Value, List.get?Internal (cells g) i = some e ∧ List.take 1 (List.drop 0 e) = [vi x] := ⟨[vi x], by show (cells g)[i]? = _; simp [cells, h], rfl⟩
theorem getI_some {g : List Int} {x : Int} (h0 : 0 ≤ x) (h : x.toNat < g.length) : g[x.toNat]? = some (getI g x) := by
  unfold getI
  rw [List.getD_eq_getElem?_getD, List.getElem?_eq_getElem h]; rfl
def mrgTo (g : List Int) (a b : Int) (s : Nat) : List Int := mrg (g.take s) a b ++ g.drop s
theorem mrgTo_len (g : List Int) (a b : Int) (s : Nat) : (mrgTo g a b s).length = g.length := by simp [mrgTo, mrg]; omega
theorem mrgTo_step {g : List Int} {a b : Int} {s : Nat} (h : s < g.length) : ∃ x, (mrgTo g a b s)[s]? = some x ∧
    (x = b → (mrgTo g a b s).set s a = mrgTo g a b (s + 1)) ∧ (x ≠ b → mrgTo g a b s = mrgTo g a b (s + 1)) := by
  obtain ⟨x, hd, htk, hx⟩ := drop_cons (l := g) (k := s) h
  have hl : (mrg (g.take s) a b).length = s := by simp [mrg]; omega
  refine ⟨x, ?_, ?_, ?_⟩
  · unfold mrgTo
    rw [List.getElem?_append_right (by omega), hl, Nat.sub_self, hd]; rfl
  · rintro rfl
    unfold mrgTo
    rw [htk, hd, List.set_append_right _ _ (by omega), hl, Nat.sub_self]
    simp [mrg]
  · intro hne
    unfold mrgTo
    rw [htk, hd]
    simp [mrg, hne]
abbrev PtU (p : Pt) : Prop := U32 p.x ∧ U32 p.y
theorem atP_get {l : List Pt} {i : Nat} (h : i < l.length) : l[i]? = some (atP l i) := by
  unfold atP
  rw [List.getD_eq_getElem?_getD, List.getElem?_eq_getElem h]; rfl
theorem fld {H : Heap} {A : Addr} {p : Pt} (h : H.has A (ptC p)) : H.has (A.add 1) [.int .u32 p.x] ∧ H.has (A.add 2) [.int .u32 p.y] := by
  refine ⟨fun j x hj => ?_, fun j x hj => ?_⟩
  · have hj0 : j = 0 := by have := (List.getElem?_eq_some_iff.1 hj).1; simp at this; omega
    subst hj0
    have e : (A.add 1).add 0 = A.add 1 := by cases A with | mk b o s => cases s <;> rfl
    rw [e]
    exact h 1 x hj
  · have hj0 : j = 0 := by have := (List.getElem?_eq_some_iff.1 hj).1; simp at this; omega
    subst hj0
    have e : (A.add 2).add 0 = A.add 2 := by cases A with | mk b o s => cases s <;> rfl
    rw [e]
    exact h 2 x hj
section
variable {H : Heap} {R : Ending → Heap → Prop}
theorem cmpM_road : CmpM prog 99 rdC cmpR := by
  intro x y H R k
  refine spec_of func99 (by kernel_rfl) (fun t h => by cases h) ?_ (vc_rcmp x.f x.t x.hi x.lo y.f y.t y.hi y.lo R H) ?_
  · simp [argsR, SV.rep, SC.rep, Sx.one, SegsRep]
  unfold nf_rcmp
  refine ⟨H, fun _ _ e => e, s_wcmp ⟨keep_same _ _ _, _, rfl, s_cmpi ⟨keep_same _ _ _, _, rfl, s_cmpi ⟨keep_same _ _ _, _, rfl, fun v H' hle hf hb hrow => ?_⟩⟩⟩⟩
  simp only [delLs_nil] at hle hf hb ⊢
  refine s_cor (l := [cmpD x.hi x.lo y.hi y.lo, sgn3 x.f y.f, sgn3 x.t y.t]) (row_slice hrow) (by simp) ⟨keep_same _ _ _, _, rfl, ?_⟩
  show R _ (Heap.delO H' (blockOf v))
  rw [lend_off hle hf hb]
  exact k
theorem s_rall {v : Value} {l : List Pt} (h : SliceAt H v 4 (pts l)) (hr : ∀ p ∈ l, PtU p) (hl : l.length ≤ 14)
    (k : ∀ d v' H', d.Perm (pairsL l) → d.Pairwise (fun x y => ¬ rLt y x) → H ≤ H' → (∀ b, blockOf v' = some b → H b = none) → RowAt H' v' 31 4 (rds d) → R (.returned v') H') : Meets prog 59 [v] H R := by
  obtain ⟨a, n, c, e, hn⟩ := h
  subst e
  have h : SliceAt H (.slice a n c) 4 (pts l) := ⟨a, n, c, rfl, hn⟩
  have hln : l.length = n := by simpa using hn.1
  have hU : ∀ i, i < n → PtU (atP l i) := fun i hi => hr _ (List.mem_of_getElem? (atP_get (by omega)))
  have bnd : ∀ t, t ≤ n → (pairsTo l t).length ≤ 196 := fun t ht => by
    have := pairsTo_len l t
    have h2 : t * l.length ≤ 14 * 14 := Nat.mul_le_mul (by omega) hl
    omega
  refine spec_of func59 (by kernel_rfl) (fun t h => by cases h) ?_ (vc_rall a n c R H) ?_
  · simp [argsR, SV.rep, SC.rep, Sx.one]
  unfold nf_rall
  simp only [true_and]
  refine ⟨fun p H' => ∃ t : Nat, p.1.1 = (t : Int) ∧ t ≤ n ∧ p.1.2.1 = rds (pairsTo l t) ∧ H' = H, fun p _ => (n - p.1.1).toNat, ⟨0, rfl, by omega, rfl, rfl⟩, ?_⟩
  rintro ⟨⟨i, rows, _⟩, _⟩ H1 ⟨t, hi, ht, hrows, rfl⟩
  simp only at hi hrows ⊢
  subst hi hrows
  refine br (fun q1 => ?_) fun q1 => ?_
  · simp only [decide_eq_true_eq] at q1
    have htn : t < n := by omega
    obtain ⟨A, e, g1⟩ := pr_get h (i := t) (atP_get (by omega))
    subst e
    rw [wi64 (k := (t : Int) + 1) (by omega)]
    refine ⟨⟨by omega, by omega⟩, ptr rfl (ptr rfl ⟨_, _, _, _, g1, ?_⟩)⟩
    refine ⟨fun p H' => ∃ s : Nat, p.1.1 = (s : Int) ∧ t + 1 ≤ s ∧ s ≤ n ∧ p.1.2.1 = rds (pairsTo l t ++ rowP l t s) ∧ H' = H1, fun p _ => (n - p.1.1).toNat, ⟨t + 1, rfl, by omega, by omega, by rw [rowP_low l t (t + 1) (by omega), List.append_nil], rfl⟩, ?_⟩
    rintro ⟨⟨i, rows, _⟩, _⟩ H2 ⟨s, hi, hs, hsn, hrows, rfl⟩
    simp only at hi hrows ⊢
    subst hi hrows
    refine br (fun q2 => ?_) fun q2 => ?_
    · simp only [decide_eq_true_eq] at q2
      obtain ⟨A', e, g2⟩ := pr_get h (i := s) (atP_get (by omega))
      cases e
      have g3 := fld g2
      have hap : List.append (rds (pairsTo l t ++ rowP l t s)) [[vi (t : Int), vi (s : Int), .int .u64 (dis (atP l t) (atP l s) / 18446744073709551616), .int .u64 (dis (atP l t) (atP l s) % 18446744073709551616)]] = rds (pairsTo l t ++ rowP l t (s + 1)) := by
        rw [rowP, if_pos (by omega)]
        simp [rds, rdAt]
      refine ⟨H2, fun _ _ e => e, ⟨by omega, by omega⟩, ptr rfl (ptr rfl (ptr rfl ⟨_, g3.1, ⟨by omega, by omega⟩, ptr rfl (ptr rfl (ptr rfl ⟨_, g3.2, ?_⟩))⟩))⟩
      refine s_wbet (hU t htn).1 (hU t htn).2 (hU s (by omega)).1 (hU s (by omega)).2 ⟨keep_same _ _ _, _, _, rfl, ?_, ?_⟩
      · rw [hap]
        have := bnd t (by omega)
        have := rowP_len l t (s + 1)
        simp only [rds, List.length_map, List.length_append]
        omega
      · rw [hap, wi64 (by omega), delLs_nil]
        exact ⟨⟨s + 1, by simp, by omega, by omega, rfl, rfl⟩, by simp; omega⟩
    · simp only [decide_eq_false_iff_not] at q2
      obtain rfl : s = n := by omega
      refine ⟨⟨t + 1, by simp, by omega, ?_, by trivial⟩, by simp; omega⟩
      rw [pairsTo, hln]
  · simp only [decide_eq_false_iff_not] at q1
    obtain rfl : t = n := by omega
    intro v1 H2 hle hf hb hrow
    refine meets_sortFunc (enc := rdC) (cf := cmpR) (k := 4) Go.Proofs.sortRoad isAgg31 sizeOf31 (fun _ => rfl) (fun x v hv => by simp at hv; rcases hv with rfl | rfl | rfl | rfl <;> rfl) swoR (by kernel_rfl) (by kernel_rfl) cmpM_road hrow (by have := bnd t (by omega); omega) ?_
    intro d H3 hp hs hr3 hm
    refine ⟨rfl, _, hr3, fun v2 H4 hle4 hf4 hb4 hrow4 => ?_⟩
    rw [mod_off hm, lend_off hle hf hb] at hle4 hf4
    refine k d v2 H4 (by have q := hp; rw [← hln] at q; exact q) (hs.imp fun {x y} h => ?_) hle4 hf4 hrow4
    rw [lt_cmpR] at h
    exact of_decide_eq_false h
theorem pair_rng {l : List Pt} {r : Rd} (h : r ∈ pairsL l) : 0 ≤ r.f ∧ r.f < r.t ∧ r.t < (l.length : Int) := by
  obtain ⟨i, j, h1, h2, h3, rfl⟩ := mem_pairsTo.1 h
  simp only [rdAt]
  omega
theorem rd_get {H : Heap} {a : Option Addr} {n cp : Nat} {l : List Rd} (h : SliceAt H (.slice a n cp) 4 (rds l)) {i : Nat} {x : Rd} (hx : l[i]? = some x) : ∃ A, a = some A ∧ H.has (A.add (i * 4)) (rdC x) := by
  obtain ⟨A, e, _, g⟩ := slice_get h (i := i) (e := rdC x) (by simp [rds, hx])
  exact ⟨A, e, g⟩
theorem s_roads {v : Value} {l : List Pt} (h : SliceAt H v 4 (pts l)) (hr : ∀ p ∈ l, PtU p) (hl : l.length ≤ 14)
    (k : ∀ d v' H', d.Perm (pairsL l) → d.Pairwise (fun x y => ¬ rLt y x) → H ≤ H' → (∀ b, blockOf v' = some b → H b = none) → RowAt H' v' 31 4 (rds (krus d (iota l.length))) → R (.returned v') H') : Meets prog 21 [v] H R := by
  obtain ⟨a, n, c, e, hn⟩ := h
  subst e
  have h : SliceAt H (.slice a n c) 4 (pts l) := ⟨a, n, c, rfl, hn⟩
  have hln : l.length = n := by simpa using hn.1
  refine spec_of func21 (by kernel_rfl) (fun t h => by cases h) ?_ (vc_roads a n c R H) ?_
  · simp [argsR, SV.rep, SC.rep, Sx.one]
  unfold nf_roads
  simp only [true_and]
  refine ⟨⟨by omega, by omega⟩, fun p H' => ∃ t : Nat, p.1.1 = (t : Int) ∧ t ≤ n ∧ p.1.2.1 = cells (iotaTo n t) ∧ H' = H, fun p _ => (n - p.1.1).toNat, ⟨0, rfl, by omega, by rw [Int.toNat_natCast]; exact iotaTo_zero n, rfl⟩, ?_⟩
  rintro ⟨⟨i, rows, _⟩, _⟩ H1 ⟨t, hi, ht, hrows, rfl⟩
  simp only at hi hrows ⊢
  subst hi hrows
  refine br (fun q1 => ?_) fun q1 => ?_
  · simp only [decide_eq_true_eq, List.length_replicate, Int.toNat_natCast] at q1
    rw [cells_len, iotaTo_len, wi64 (by omega), Int.toNat_natCast, cells_set, iotaTo_set (by omega)]
    exact ⟨⟨by omega, by omega⟩, by omega, ⟨t + 1, by simp, by omega, rfl, by trivial⟩, by simp; omega⟩
  · simp only [decide_eq_false_iff_not, List.length_replicate, Int.toNat_natCast] at q1
    obtain rfl : t = n := by omega
    refine s_rall h hr hl fun d v1 H2 hp hs hle hf hrow => ?_
    obtain ⟨a1, c1, rfl⟩ := row_val hrow
    have hd := row_slice hrow
    have hdl : (rds d).length = d.length := by simp
    have hdn : d.length ≤ 196 := by
      rw [hp.length_eq]
      have h1 : (pairsL l).length ≤ l.length * l.length := pairsTo_len l l.length
      have h2 : l.length * l.length ≤ 14 * 14 := Nat.mul_le_mul hl hl
      omega
    refine ⟨a1, _, c1, rfl, ?_⟩
    rw [hdl]
    refine ⟨fun p H' => ∃ (s : Nat) (g : List Int) (o : List Rd), p.1.1 = (s : Int) ∧ s ≤ d.length ∧ p.1.2.1 = cells g ∧ p.1.2.2.1 = rds o ∧ g.length = t ∧ krus d (iota t) = o ++ krus (d.drop s) g ∧ H' = H2, fun p _ => (d.length - p.1.1).toNat, ⟨0, iota t, [], rfl, by omega, rfl, rfl, iotaTo_len _ _, rfl, rfl⟩, ?_⟩
    rintro ⟨⟨i, rows, outs, _⟩, _⟩ H3 ⟨s, g, o, hi, hs1, hrows, houts, hg, hk, rfl⟩
    simp only at hi hrows houts ⊢
    subst hi hrows houts
    refine br (fun q2 => ?_) fun q2 => ?_
    · simp only [decide_eq_true_eq] at q2
      obtain ⟨x, hdr, _, hx⟩ := drop_cons (l := d) (k := s) (by omega)
      rw [hdl] at hd
      obtain ⟨A, e, gA⟩ := rd_get hd (i := s) hx
      subst e
      obtain ⟨r0, r1, r2⟩ := pair_rng (hp.subset (List.mem_of_getElem? hx))
      rw [cells_len, hg]
      have hol : o.length ≤ 196 := by
        have := krus_len d (iota t)
        rw [hk, List.length_append] at this
        omega
      refine ⟨⟨by omega, by omega⟩, ptr rfl (ptr rfl ⟨_, _, _, _, gA, ⟨r0, by omega⟩, _, cells_get (getI_some r0 (by omega)), ⟨by omega, by omega⟩, _, cells_get (getI_some (by omega) (by omega)), ?_⟩)⟩
      rw [hdr, krus] at hk
      rw [wi64 (by omega)]
      refine br (fun q3 => ?_) fun q3 => ?_
      · rw [if_pos (by simpa using q3)] at hk
        exact ⟨⟨s + 1, g, o, by simp, by omega, rfl, rfl, hg, hk, by trivial⟩, by simp; omega⟩
      · rw [if_neg (by simpa using q3)] at hk
        have hap : List.append (rds o) [[vi x.f, vi x.t, .int .u64 x.hi, .int .u64 x.lo]] = rds (o ++ [x]) := by simp [rds]
        rw [hap]
        refine ⟨by simp; omega, ?_⟩
        refine ⟨fun p H' => ∃ u : Nat, p.1.1 = (u : Int) ∧ u ≤ t ∧ p.1.2.1 = cells (mrgTo g (getI g x.f) (getI g x.t) u) ∧ H' = H3, fun p _ => (t - p.1.1).toNat, ⟨0, rfl, by omega, by simp [mrgTo, mrg], rfl⟩, ?_⟩
        rintro ⟨⟨i, rows, _⟩, _⟩ H4 ⟨u, hi, hu, hrows, rfl⟩
        simp only at hi hrows ⊢
        subst hi hrows
        rw [cells_len, mrgTo_len, hg]
        refine br (fun q4 => ?_) fun q4 => ?_
        · simp only [decide_eq_true_eq] at q4
          obtain ⟨y, hy, hy1, hy2⟩ := mrgTo_step (g := g) (a := getI g x.f) (b := getI g x.t) (s := u) (by omega)
          refine ⟨⟨by omega, by omega⟩, y, cells_get (by rw [Int.toNat_natCast]; exact hy), ?_⟩
          rw [wi64 (by omega)]
          refine br (fun q5 => ?_) fun q5 => ?_
          · rw [Int.toNat_natCast, cells_set, hy1 (by simpa using q5)]
            exact ⟨⟨by omega, by omega⟩, by omega, ⟨u + 1, by simp, by omega, rfl, by trivial⟩, by simp; omega⟩
          · rw [hy2 (by simpa using q5)]
            exact ⟨⟨u + 1, by simp, by omega, rfl, by trivial⟩, by simp; omega⟩
        · simp only [decide_eq_false_iff_not] at q4
          obtain rfl : u = t := by omega
          have e1 : mrgTo g (getI g x.f) (getI g x.t) u = mrg g (getI g x.f) (getI g x.t) := by
            unfold mrgTo
            rw [List.take_of_length_le (by omega), List.drop_of_length_le (by omega), List.append_nil]
          rw [e1]
          refine ⟨⟨s + 1, _, o ++ [x], by simp, by omega, rfl, rfl, by simp [mrg, hg], ?_, by trivial⟩, by simp; omega⟩
          rw [hk, List.append_assoc]; rfl
    · simp only [decide_eq_false_iff_not] at q2
      obtain rfl : s = d.length := by omega
      rw [List.drop_length, krus, List.append_nil] at hk
      intro v2 H4 hle4 hf4 hb4 hrow4
      refine k d v2 H4 hp hs (heap_trans hle hle4) (fun b hb => ?_) (by rw [hln, hk]; exact hrow4)
      have := hf4 b hb
      cases q : H1 b with
      | none => rfl
      | some ob => rw [hle _ _ q] at this; cases this
end
end Cr

set_option linter.unusedVariables false
set_option linter.unusedSimpArgs false
namespace Cr
open Go Sx
open Go.Proofs.Try
set_option maxRecDepth 100000
def h_lroads : Hints := { eqs := [31], cuts := [(5, ⟨[2], [.f 0 .slc], []⟩)], loops := [(8, ⟨[0, 2, 3], [.f 5 (.int .i64), .row 4 3 1], []⟩), (14, ⟨[0, 2, 3], [.f 6 (.int .i64), .row 4 3 1], []⟩), (18, ⟨[0, 2, 3, 4, 6, 7], [.f 8 (.int .i64)], [.keep 4, .box 7 31 [.f (.int .i64), .f (.int .i64), .f (.int .u64), .f (.int .u64)]]⟩), (21, ⟨[0, 2, 3, 4, 6, 7, 8], [.f 9 (.int .i64)], [.keep 4, .box 7 31 [.f (.int .i64), .f (.int .i64), .f (.int .u64), .f (.int .u64)]]⟩), (30, ⟨[0, 2, 3, 6, 7, 12, 13], [.f 14 (.int .i64), .row 4 3 1], [.keep 7]⟩)] }
def nf_lroads (a : Option Addr) (n : Nat) (c : Nat) (R : Ending → Heap → Prop) (H : Heap) : Prop := Meets prog (20 : Nat) [] H fun (e : Ending) (H' : Nat → Option Obj) ↦ ∃ (b : Bool), e = Ending.returned (Value.bool b) ∧ Br (!b) (R (Ending.returned (Value.bool false)) H') (CutP (fun (I : ((Option Addr × Nat × Nat) × PUnit) × PUnit → (Nat → Option Obj) → Prop) ↦ Br (decide ((↑n : Int) > (14 : Int))) (((0 : Int) ≤ (14 : Int) ∧ (14 : Int) ≤ (↑c : Int)) ∧ false = false ∧ I (((subAddr a c (0 : Nat) (4 : Nat), (14 : Nat), c - (0 : Nat)), PUnit.unit), PUnit.unit) H') (false = false ∧ I (((a, n, c), PUnit.unit), PUnit.unit) H')) fun (p : ((Option Addr × Nat × Nat) × PUnit) × PUnit) (H : Nat → Option Obj) ↦ Meets prog (21 : Nat) [Value.slice p.fst.fst.1 p.fst.fst.snd.fst p.fst.fst.snd.snd] H fun (e : Ending) (H' : Nat → Option Obj) ↦ ∃ (a : Option Addr), ∃ (n : Nat), ∃ (c : Nat), e = Ending.returned (Value.slice a n c) ∧ ((0 : Int) ≤ (↑p.fst.fst.snd.fst : Int) ∧ (↑p.fst.fst.snd.fst : Int) = (↑p.fst.fst.snd.fst : Int) ∧ (↑p.fst.fst.snd.fst : Int) * (↑(8 : Nat) : Int) ≤ (↑(140737488355328 : Nat) : Int)) ∧ p.fst.fst.1 = p.fst.fst.1 ∧ p.fst.fst.snd.fst = p.fst.fst.snd.fst ∧ p.fst.fst.snd.snd = p.fst.fst.snd.snd ∧ false = false ∧ a = a ∧ n = n ∧ c = c ∧ LoopP (fun (K : (Int × List (List Value) × PUnit) × PUnit → (Nat → Option Obj) → Prop) (p_1 : (Int × List (List Value) × PUnit) × PUnit) (H : Nat → Option Obj) ↦ Br (decide (p_1.fst.fst < (↑p.fst.fst.snd.fst : Int))) (((0 : Int) ≤ p_1.fst.fst ∧ p_1.fst.fst < (↑(List.length p_1.fst.snd.fst) : Int)) ∧ Int.toNat p_1.fst.fst < List.length p_1.fst.snd.fst ∧ p.fst.fst.1 = p.fst.fst.1 ∧ p.fst.fst.snd.fst = p.fst.fst.snd.fst ∧ p.fst.fst.snd.snd = p.fst.fst.snd.snd ∧ false = false ∧ a = a ∧ n = n ∧ c = c ∧ K ((IntKind.wrap IntKind.i64 (p_1.fst.fst + (1 : Int)), List.set p_1.fst.snd.fst (Int.toNat p_1.fst.fst) [Value.int IntKind.i64 p_1.fst.fst], PUnit.unit), PUnit.unit) H) (Br ((↑n : Int) != maxI (IntKind.wrap IntKind.i64 ((↑p.fst.fst.snd.fst : Int) - (1 : Int))) (0 : Int)) (R (Ending.returned (Value.bool false)) H) (p.fst.fst.1 = p.fst.fst.1 ∧ p.fst.fst.snd.fst = p.fst.fst.snd.fst ∧ p.fst.fst.snd.snd = p.fst.fst.snd.snd ∧ false = false ∧ a = a ∧ n = n ∧ c = c ∧ LoopP (fun (K : (Int × List (List Value) × PUnit) × PUnit → (Nat → Option Obj) → Prop) (p_2 : (Int × List (List Value) × PUnit) × PUnit) (H : Nat → Option Obj) ↦ Br (decide (p_2.fst.fst < (↑n : Int))) (p.fst.fst.1 = p.fst.fst.1 ∧ p.fst.fst.snd.fst = p.fst.fst.snd.fst ∧ p.fst.fst.snd.snd = p.fst.fst.snd.snd ∧ false = false ∧ a = a ∧ n = n ∧ c = c ∧ p_2.fst.fst = p_2.fst.fst ∧ (0 : Nat) = (0 : Nat) ∧ p_2.fst.snd.fst = p_2.fst.snd.fst ∧ LoopP (fun (K_1 : (Int × PUnit) × PUnit × (Int × Int × Int × Int × PUnit) × PUnit → (Nat → Option Obj) → Prop) (p_3 : (Int × PUnit) × PUnit × (Int × Int × Int × Int × PUnit) × PUnit) (H : Nat → Option Obj) ↦ Br (decide (p_3.fst.fst < (↑p.fst.fst.snd.fst : Int))) (p.fst.fst.1 = p.fst.fst.1 ∧ p.fst.fst.snd.fst = p.fst.fst.snd.fst ∧ p.fst.fst.snd.snd = p.fst.fst.snd.snd ∧ false = false ∧ a = a ∧ n = n ∧ c = c ∧ p_2.fst.fst = p_2.fst.fst ∧ (0 : Nat) = (0 : Nat) ∧ p_3.fst.fst = p_3.fst.fst ∧ p_2.fst.snd.fst = p_2.fst.snd.fst ∧ LoopP (fun (K : (Int × PUnit) × PUnit × (Int × Int × Int × Int × PUnit) × PUnit → (Nat → Option Obj) → Prop) (p_4 : (Int × PUnit) × PUnit × (Int × Int × Int × Int × PUnit) × PUnit) (H : Nat → Option Obj) ↦ Br (decide (p_4.fst.fst < (↑p.fst.fst.snd.fst : Int))) (∃ (G : Nat → Option Obj), G ≤ H ∧ ((0 : Int) ≤ p_3.fst.fst ∧ p_3.fst.fst < (↑p.fst.fst.snd.fst : Int)) ∧ PtrK p.fst.fst.1 fun (A : Addr) ↦ PtrK (some (Addr.add A (Int.toNat p_3.fst.fst * (4 : Nat)))) fun (a_1 : Addr) ↦ PtrK (some (Addr.add a_1 (1 : Nat))) fun (a_2 : Addr) ↦ ∃ (n_1 : Int), Heap.has G a_2 [Value.int IntKind.u32 n_1] ∧ ((0 : Int) ≤ p_3.fst.fst ∧ p_3.fst.fst < (↑p.fst.fst.snd.fst : Int)) ∧ PtrK p.fst.fst.1 fun (A : Addr) ↦ PtrK (some (Addr.add A (Int.toNat p_3.fst.fst * (4 : Nat)))) fun (a_3 : Addr) ↦ PtrK (some (Addr.add a_3 (2 : Nat))) fun (a_4 : Addr) ↦ ∃ (n_2 : Int), Heap.has G a_4 [Value.int IntKind.u32 n_2] ∧ ((0 : Int) ≤ p_4.fst.fst ∧ p_4.fst.fst < (↑p.fst.fst.snd.fst : Int)) ∧ PtrK p.fst.fst.1 fun (A : Addr) ↦ PtrK (some (Addr.add A (Int.toNat p_4.fst.fst * (4 : Nat)))) fun (a_5 : Addr) ↦ PtrK (some (Addr.add a_5 (1 : Nat))) fun (a_6 : Addr) ↦ ∃ (n_3 : Int), Heap.has G a_6 [Value.int IntKind.u32 n_3] ∧ ((0 : Int) ≤ p_4.fst.fst ∧ p_4.fst.fst < (↑p.fst.fst.snd.fst : Int)) ∧ PtrK p.fst.fst.1 fun (A : Addr) ↦ PtrK (some (Addr.add A (Int.toNat p_4.fst.fst * (4 : Nat)))) fun (a_7 : Addr) ↦ PtrK (some (Addr.add a_7 (2 : Nat))) fun (a_8 : Addr) ↦ ∃ (n_4 : Int), Heap.has G a_8 [Value.int IntKind.u32 n_4] ∧ Meets prog (22 : Nat) [Value.int IntKind.u32 n_1, Value.int IntKind.u32 n_2, Value.int IntKind.u32 n_3, Value.int IntKind.u32 n_4] H fun (e : Ending) (H' : Nat → Option Obj) ↦ Keep G H H H' ∧ ∃ (n_5 : Int), ∃ (n_6 : Int), e = Ending.returned (Value.tuple { toList := [Value.int IntKind.u64 n_5, Value.int IntKind.u64 n_6] }) ∧ ∃ (G : Nat → Option Obj), G ≤ delLs H' [] ∧ ((0 : Int) ≤ p_3.fst.fst ∧ p_3.fst.fst < (↑(List.length p_2.fst.snd.fst) : Int)) ∧ ∃ (n_7 : Int), (∃ (e : List Value), List.get?Internal p_2.fst.snd.fst (Int.toNat p_3.fst.fst) = some e ∧ List.take (1 : Nat) (List.drop (0 : Nat) e) = [Value.int IntKind.i64 n_7]) ∧ ((0 : Int) ≤ p_4.fst.fst ∧ p_4.fst.fst < (↑(List.length p_2.fst.snd.fst) : Int)) ∧ ∃ (n_8 : Int), (∃ (e : List Value), List.get?Internal p_2.fst.snd.fst (Int.toNat p_4.fst.fst) = some e ∧ List.take (1 : Nat) (List.drop (0 : Nat) e) = [Value.int IntKind.i64 n_8]) ∧ Br (n_7 != n_8) (Br (decide (p_4.snd.snd.fst.fst < (0 : Int))) (p.fst.fst.1 = p.fst.fst.1 ∧ p.fst.fst.snd.fst = p.fst.fst.snd.fst ∧ p.fst.fst.snd.snd = p.fst.fst.snd.snd ∧ false = false ∧ a = a ∧ n = n ∧ c = c ∧ p_2.fst.fst = p_2.fst.fst ∧ (0 : Nat) = (0 : Nat) ∧ p_3.fst.fst = p_3.fst.fst ∧ p_2.fst.snd.fst = p_2.fst.snd.fst ∧ K ((IntKind.wrap IntKind.i64 (p_4.fst.fst + (1 : Int)), PUnit.unit), PUnit.unit, (p_3.fst.fst, p_4.fst.fst, n_5, n_6, PUnit.unit), PUnit.unit) (delLs H' [])) (Meets prog (23 : Nat) [Value.int IntKind.u64 n_5, Value.int IntKind.u64 n_6, Value.int IntKind.u64 p_4.snd.snd.fst.snd.snd.fst, Value.int IntKind.u64 p_4.snd.snd.fst.snd.snd.snd.fst] (delLs H' []) fun (e : Ending) (H'_1 : Nat → Option Obj) ↦ Keep G (delLs H' []) (delLs H' []) H'_1 ∧ ∃ (b : Bool), e = Ending.returned (Value.bool b) ∧ Br b (p.fst.fst.1 = p.fst.fst.1 ∧ p.fst.fst.snd.fst = p.fst.fst.snd.fst ∧ p.fst.fst.snd.snd = p.fst.fst.snd.snd ∧ false = false ∧ a = a ∧ n = n ∧ c = c ∧ p_2.fst.fst = p_2.fst.fst ∧ (0 : Nat) = (0 : Nat) ∧ p_3.fst.fst = p_3.fst.fst ∧ p_2.fst.snd.fst = p_2.fst.snd.fst ∧ K ((IntKind.wrap IntKind.i64 (p_4.fst.fst + (1 : Int)), PUnit.unit), PUnit.unit, (p_3.fst.fst, p_4.fst.fst, n_5, n_6, PUnit.unit), PUnit.unit) (delLs H'_1 [])) (p.fst.fst.1 = p.fst.fst.1 ∧ p.fst.fst.snd.fst = p.fst.fst.snd.fst ∧ p.fst.fst.snd.snd = p.fst.fst.snd.snd ∧ false = false ∧ a = a ∧ n = n ∧ c = c ∧ p_2.fst.fst = p_2.fst.fst ∧ (0 : Nat) = (0 : Nat) ∧ p_3.fst.fst = p_3.fst.fst ∧ p_2.fst.snd.fst = p_2.fst.snd.fst ∧ K ((IntKind.wrap IntKind.i64 (p_4.fst.fst + (1 : Int)), PUnit.unit), PUnit.unit, (p_4.snd.snd.fst.fst, p_4.snd.snd.fst.snd.fst, p_4.snd.snd.fst.snd.snd.fst, p_4.snd.snd.fst.snd.snd.snd.fst, PUnit.unit), PUnit.unit) (delLs H'_1 [])))) (p.fst.fst.1 = p.fst.fst.1 ∧ p.fst.fst.snd.fst = p.fst.fst.snd.fst ∧ p.fst.fst.snd.snd = p.fst.fst.snd.snd ∧ false = false ∧ a = a ∧ n = n ∧ c = c ∧ p_2.fst.fst = p_2.fst.fst ∧ (0 : Nat) = (0 : Nat) ∧ p_3.fst.fst = p_3.fst.fst ∧ p_2.fst.snd.fst = p_2.fst.snd.fst ∧ K ((IntKind.wrap IntKind.i64 (p_4.fst.fst + (1 : Int)), PUnit.unit), PUnit.unit, (p_4.snd.snd.fst.fst, p_4.snd.snd.fst.snd.fst, p_4.snd.snd.fst.snd.snd.fst, p_4.snd.snd.fst.snd.snd.snd.fst, PUnit.unit), PUnit.unit) (delLs H' []))) (p.fst.fst.1 = p.fst.fst.1 ∧ p.fst.fst.snd.fst = p.fst.fst.snd.fst ∧ p.fst.fst.snd.snd = p.fst.fst.snd.snd ∧ false = false ∧ a = a ∧ n = n ∧ c = c ∧ p_2.fst.fst = p_2.fst.fst ∧ (0 : Nat) = (0 : Nat) ∧ p_2.fst.snd.fst = p_2.fst.snd.fst ∧ K_1 ((IntKind.wrap IntKind.i64 (p_3.fst.fst + (1 : Int)), PUnit.unit), PUnit.unit, (p_4.snd.snd.fst.fst, p_4.snd.snd.fst.snd.fst, p_4.snd.snd.fst.snd.snd.fst, p_4.snd.snd.fst.snd.snd.snd.fst, PUnit.unit), PUnit.unit) H)) ((IntKind.wrap IntKind.i64 (p_3.fst.fst + (1 : Int)), PUnit.unit), PUnit.unit, (p_3.snd.snd.fst.fst, p_3.snd.snd.fst.snd.fst, p_3.snd.snd.fst.snd.snd.fst, p_3.snd.snd.fst.snd.snd.snd.fst, PUnit.unit), PUnit.unit) H) (((0 : Int) ≤ p_2.fst.fst ∧ p_2.fst.fst < (↑n : Int)) ∧ PtrK a fun (A : Addr) ↦ PtrK (some (Addr.add A (Int.toNat p_2.fst.fst * (4 : Nat)))) fun (a_1 : Addr) ↦ ∃ (n_1 : Int), ∃ (n_2 : Int), ∃ (n_3 : Int), ∃ (n_4 : Int), Heap.has H a_1 [Value.int IntKind.i64 n_1, Value.int IntKind.i64 n_2, Value.int IntKind.u64 n_3, Value.int IntKind.u64 n_4] ∧ Br (!andO (some (andO (some (andO (some (andO none (n_1 == p_3.snd.snd.fst.fst))) (n_2 == p_3.snd.snd.fst.snd.fst))) (n_3 == p_3.snd.snd.fst.snd.snd.fst))) (n_4 == p_3.snd.snd.fst.snd.snd.snd.fst)) (R (Ending.returned (Value.bool false)) H) (((0 : Int) ≤ p_3.snd.snd.fst.fst ∧ p_3.snd.snd.fst.fst < (↑(List.length p_2.fst.snd.fst) : Int)) ∧ ∃ (n_5 : Int), (∃ (e : List Value), List.get?Internal p_2.fst.snd.fst (Int.toNat p_3.snd.snd.fst.fst) = some e ∧ List.take (1 : Nat) (List.drop (0 : Nat) e) = [Value.int IntKind.i64 n_5]) ∧ ((0 : Int) ≤ p_3.snd.snd.fst.snd.fst ∧ p_3.snd.snd.fst.snd.fst < (↑(List.length p_2.fst.snd.fst) : Int)) ∧ ∃ (n_6 : Int), (∃ (e : List Value), List.get?Internal p_2.fst.snd.fst (Int.toNat p_3.snd.snd.fst.snd.fst) = some e ∧ List.take (1 : Nat) (List.drop (0 : Nat) e) = [Value.int IntKind.i64 n_6]) ∧ p.fst.fst.1 = p.fst.fst.1 ∧ p.fst.fst.snd.fst = p.fst.fst.snd.fst ∧ p.fst.fst.snd.snd = p.fst.fst.snd.snd ∧ false = false ∧ a = a ∧ n = n ∧ c = c ∧ p_2.fst.fst = p_2.fst.fst ∧ (0 : Nat) = (0 : Nat) ∧ n_5 = n_5 ∧ n_6 = n_6 ∧ p_3.snd.snd.fst.fst = p_3.snd.snd.fst.fst ∧ p_3.snd.snd.fst.snd.fst = p_3.snd.snd.fst.snd.fst ∧ p_3.snd.snd.fst.snd.snd.fst = p_3.snd.snd.fst.snd.snd.fst ∧ p_3.snd.snd.fst.snd.snd.snd.fst = p_3.snd.snd.fst.snd.snd.snd.fst ∧ LoopP (fun (K_2 : (Int × List (List Value) × PUnit) × PUnit × PUnit → (Nat → Option Obj) → Prop) (p_4 : (Int × List (List Value) × PUnit) × PUnit × PUnit) (H : Nat → Option Obj) ↦ Br (decide (p_4.fst.fst < (↑p.fst.fst.snd.fst : Int))) (((0 : Int) ≤ p_4.fst.fst ∧ p_4.fst.fst < (↑(List.length p_4.fst.snd.fst) : Int)) ∧ ∃ (n_7 : Int), (∃ (e : List Value), List.get?Internal p_4.fst.snd.fst (Int.toNat p_4.fst.fst) = some e ∧ List.take (1 : Nat) (List.drop (0 : Nat) e) = [Value.int IntKind.i64 n_7]) ∧ Br (n_7 == n_6) (((0 : Int) ≤ p_4.fst.fst ∧ p_4.fst.fst < (↑(List.length p_4.fst.snd.fst) : Int)) ∧ Int.toNat p_4.fst.fst < List.length p_4.fst.snd.fst ∧ p.fst.fst.1 = p.fst.fst.1 ∧ p.fst.fst.snd.fst = p.fst.fst.snd.fst ∧ p.fst.fst.snd.snd = p.fst.fst.snd.snd ∧ false = false ∧ a = a ∧ n = n ∧ c = c ∧ p_2.fst.fst = p_2.fst.fst ∧ (0 : Nat) = (0 : Nat) ∧ n_5 = n_5 ∧ n_6 = n_6 ∧ p_3.snd.snd.fst.fst = p_3.snd.snd.fst.fst ∧ p_3.snd.snd.fst.snd.fst = p_3.snd.snd.fst.snd.fst ∧ p_3.snd.snd.fst.snd.snd.fst = p_3.snd.snd.fst.snd.snd.fst ∧ p_3.snd.snd.fst.snd.snd.snd.fst = p_3.snd.snd.fst.snd.snd.snd.fst ∧ K_2 ((IntKind.wrap IntKind.i64 (p_4.fst.fst + (1 : Int)), List.set p_4.fst.snd.fst (Int.toNat p_4.fst.fst) [Value.int IntKind.i64 n_5], PUnit.unit), PUnit.unit, PUnit.unit) H) (p.fst.fst.1 = p.fst.fst.1 ∧ p.fst.fst.snd.fst = p.fst.fst.snd.fst ∧ p.fst.fst.snd.snd = p.fst.fst.snd.snd ∧ false = false ∧ a = a ∧ n = n ∧ c = c ∧ p_2.fst.fst = p_2.fst.fst ∧ (0 : Nat) = (0 : Nat) ∧ n_5 = n_5 ∧ n_6 = n_6 ∧ p_3.snd.snd.fst.fst = p_3.snd.snd.fst.fst ∧ p_3.snd.snd.fst.snd.fst = p_3.snd.snd.fst.snd.fst ∧ p_3.snd.snd.fst.snd.snd.fst = p_3.snd.snd.fst.snd.snd.fst ∧ p_3.snd.snd.fst.snd.snd.snd.fst = p_3.snd.snd.fst.snd.snd.snd.fst ∧ K_2 ((IntKind.wrap IntKind.i64 (p_4.fst.fst + (1 : Int)), p_4.fst.snd.fst, PUnit.unit), PUnit.unit, PUnit.unit) H)) (p.fst.fst.1 = p.fst.fst.1 ∧ p.fst.fst.snd.fst = p.fst.fst.snd.fst ∧ p.fst.fst.snd.snd = p.fst.fst.snd.snd ∧ false = false ∧ a = a ∧ n = n ∧ c = c ∧ K ((IntKind.wrap IntKind.i64 (p_2.fst.fst + (1 : Int)), p_4.fst.snd.fst, PUnit.unit), PUnit.unit) H)) (((0 : Int), p_2.fst.snd.fst, PUnit.unit), PUnit.unit, PUnit.unit) H))) (((0 : Int), PUnit.unit), PUnit.unit, ((-1 : Int), (0 : Int), (0 : Int), (0 : Int), PUnit.unit), PUnit.unit) H) (R (Ending.returned (Value.bool true)) H)) (((0 : Int), p_1.fst.snd.fst, PUnit.unit), PUnit.unit) H))) (((0 : Int), List.replicate (Int.toNat (↑p.fst.fst.snd.fst : Int)) [Value.int IntKind.i64 (0 : Int)], PUnit.unit), PUnit.unit) H')
theorem vc_lroads (a : Option Addr) (n : Nat) (c : Nat) (R : Ending → Heap → Prop) (H : Heap) : vcFun prog h_lroads f3 [SV.c (SC.v (Value.slice a n c))] R H = nf_lroads a n c R H := by kernel_rfl

end Cr

set_option linter.unusedVariables false
set_option linter.unusedSimpArgs false
namespace Cr
open Go Sx
open Go.Proofs.Try
set_option maxRecDepth 100000
theorem eq_of {t : Nat} {l : List Nat} (h : memN l t = true) : t ∈ l := by
  induction l with
  | nil => cases h
  | cons x r ih =>
    unfold memN at h
    split at h
    · rename_i q; rw [nbt q]; exact List.mem_cons_self
    · exact List.mem_cons_of_mem _ (ih h)
theorem rowat_known {H : Heap} {v : Value} {ty sz : Nat} {es : List (List Value)} (h : RowAt H v ty sz es) {b : Nat} (hb : blockOf v = some b) : H b ≠ none := by
  rcases h with ⟨rfl, _⟩ | ⟨b', o, cap, c, rfl, h1, _⟩
  · cases hb
  · simp only [blockOf, Option.some.injEq] at hb
    subst hb
    rw [h1]; simp
theorem row_delO {H : Heap} {v : Value} {ty sz : Nat} {es : List (List Value)} {o : Option Nat} (h : RowAt H v ty sz es) (hn : ∀ b, blockOf v = some b → o ≠ some b) : RowAt (H.delO o) v ty sz es := by
  rcases h with h | ⟨b, off, cap, c, rfl, h1, h2⟩
  · exact .inl h
  · refine .inr ⟨b, off, cap, c, rfl, ?_, h2⟩
    cases o with
    | none => exact h1
    | some k => show (if b = k then none else H b) = _; rw [if_neg (fun e => hn b rfl (by rw [e]))]; exact h1
theorem le_delO {H H' : Heap} {o : Option Nat} (h : H ≤ H') (hn : ∀ b, o = some b → H b = none) : H ≤ H'.delO o := fun b ob e => by
  cases o with
  | none => exact h b ob e
  | some k =>
    show (if b = k then none else H' b) = some ob
    rw [if_neg (by rintro rfl; rw [hn b rfl] at e; cases e)]
    exact h b ob e
section
variable {H : Heap} {R : Ending → Heap → Prop}
theorem s_alive42 (k : ∀ H', H ≤ H' → R (.returned (.bool true)) H') : Meets prog 20 [] H R := by
  refine spec_of func20 (by kernel_rfl) (fun t h => by
    have := eq_of h
    simp [h_al42] at this
    subst this
    exact eqOK_of (by kernel_rfl) (by kernel_rfl) (by kernel_rfl)) ?_ (vc_alive42 R H) ?_
  · simp [argsR]
  unfold nf_alive42
  intro v H1 hle1 hf1 hb1 hrow1
  let p0 : Pt := ⟨0, 0, 0, { data := #[] }⟩
  let p1 : Pt := ⟨0, 3, 0, { data := #[] }⟩
  have hrow1 : RowAt H1 v 36 4 (pts [p0, p1]) := hrow1
  have u0 : PtU p0 := by show U32 0 ∧ U32 0; omega
  have u1 : PtU p1 := by show U32 3 ∧ U32 0; omega
  refine s_roads (row_slice hrow1) (by intro p hp; simp only [List.mem_cons, List.not_mem_nil, or_false] at hp; rcases hp with rfl | rfl; exact u0; exact u1) (by simp) fun d v' H2 hp _ hle2 hf2 hrow2 => ?_
  have hd : d = [rdAt [p0, p1] 0 1] := List.perm_singleton.1 hp
  subst hd
  have hkr : krus [rdAt [p0, p1] 0 1] (iota [p0, p1].length) = [rdAt [p0, p1] 0 1] := by decide
  rw [hkr] at hrow2
  obtain ⟨a2, c2, rfl⟩ := row_val hrow2
  refine ⟨a2, _, c2, rfl, _, row_le hrow1 (fun b o _ => hle2 b o), fun v3 H3 hle3 hf3 hb3 hrow3 => ?_⟩
  have hrow3 : RowAt H3 v3 36 4 (pts [p0]) := hrow3
  refine s_roads (row_slice hrow3) (by intro p hp; simp only [List.mem_cons, List.not_mem_nil, or_false] at hp; subst hp; exact u0) (by simp) fun d v' H4 hp _ hle4 hf4 hrow4 => ?_
  have hd : d = [] := List.perm_nil.1 hp
  subst hd
  obtain ⟨a4, c4, rfl⟩ := row_val hrow4
  refine ⟨a4, _, c4, rfl, _, row_le hrow3 (fun b o _ => hle4 b o), br (fun _ => br (fun _ => ?_) fun q => by simp at q) fun q => by simp [krus] at q⟩
  have hn12 : ∀ b, blockOf (.slice a2 (rds [rdAt [p0, p1] 0 1]).length c2) = some b → blockOf v ≠ some b := fun b hb e => rowat_known hrow1 e (hf2 b hb)
  have r3 : RowAt (Heap.delO H2 (blockOf v)) (.slice a2 (rds [rdAt [p0, p1] 0 1]).length c2) 31 4 (rds [rdAt [p0, p1] 0 1]) := row_delO hrow2 hn12
  have hn3 : ∀ b, blockOf (.slice a2 (rds [rdAt [p0, p1] 0 1]).length c2) = some b → blockOf v3 ≠ some b := fun b hb e => rowat_known r3 hb (hf3 b e)
  have r4 := row_delO (row_le r3 fun b o _ e => hle4 b o (hle3 b o e)) hn3
  obtain ⟨A, e, gA⟩ := rd_get (row_slice r4) (i := 0) rfl
  subst e
  have g2 : Heap.has (Heap.delO H4 (blockOf v3)) (((A.add 0).add 2)) [.int .u64 (rdAt [p0, p1] 0 1).hi, .int .u64 (rdAt [p0, p1] 0 1).lo] := by
    intro j x hj
    have e : ((A.add 0).add 2).add j = (A.add (0 * 4)).add (2 + j) := by cases A with | mk b o s => cases s <;> simp [Addr.add, Nat.add_assoc]
    rw [e]
    refine gA (2 + j) x ?_
    match j, hj with
    | 0, hj => exact hj
    | 1, hj => exact hj
  refine ⟨by decide, ptr rfl (ptr rfl (ptr rfl ⟨_, _, g2, ?_⟩))⟩
  have e9 : dis (atP [p0, p1] 0) (atP [p0, p1] 1) = 9 := by decide
  have hb : andO (some (andO none ((rdAt [p0, p1] 0 1).hi == 0))) ((rdAt [p0, p1] 0 1).lo == 9) = true := by
    simp only [rdAt, e9]; decide
  rw [hb]
  exact k _ (le_delO (heap_trans (le_delO (heap_trans hle1 hle2) hf1) (heap_trans hle3 hle4)) fun b hb => by
    cases q : H b with
    | none => rfl
    | some o =>
      have h12 : H ≤ Heap.delO H2 (blockOf v) := le_delO (heap_trans hle1 hle2) hf1
      have := hf3 b hb
      rw [h12 b o q] at this; cases this)
end
end Cr

set_option linter.unusedVariables false
set_option linter.unusedSimpArgs false
namespace Cr
open Go Sx
open Go.Proofs.Try
set_option maxRecDepth 100000
theorem rd_eqb {x y : Rd} : andO (some (andO (some (andO (some (andO none (x.f == y.f))) (x.t == y.t))) (x.hi == y.hi))) (x.lo == y.lo) = decide (x = y) := by
  obtain ⟨a, b, c, d⟩ := x
  obtain ⟨a', b', c', d'⟩ := y
  by_cases h : (⟨a, b, c, d⟩ : Rd) = ⟨a', b', c', d'⟩
  · rw [decide_eq_true h]
    injection h with h1 h2 h3 h4
    subst h1 h2 h3 h4
    simp [andO]
  · rw [decide_eq_false h]
    cases q : andO (some (andO (some (andO (some (andO none (a == a'))) (b == b'))) (c == c'))) (d == d') with
    | false => rfl
    | true =>
      simp [andO] at q
      obtain ⟨⟨⟨h1, h2⟩, h3⟩, h4⟩ := q
      subst h1 h2 h3 h4
      exact (h rfl).elim
section
variable {H : Heap} {R : Ending → Heap → Prop}
end
end Cr

set_option linter.unusedVariables false
set_option linter.unusedSimpArgs false
namespace Sx
open Go
section
variable {P : Program} {H : Type} {enc : TypeId × Value → H} {W : World}
theorem open_sl {E : Type} [Inhabited E] {tS tE sz by_ : Nat} {cell : E → List Value} {Q : E → Prop} (hS : P.underlying tS = some (.slice tE)) (hc : P.cellsOf tE = sz) (hby : P.bytesOf tE = by_) (hsz : 0 < sz) (hcl : ∀ e, (cell e).length = sz)
    (hon : ∀ e, ∀ x ∈ cell e, one x = true)
    (op : ∀ (fuel : Nat) (cs : List Value) (y : DataW H × List MemPlace), DataW.trod enc P W 0 (fun _ => true) true fuel tE cs = some y → ∃ e, cs = cell e ∧ Q e)
    {v : Value} {d : DataW H} {ps : List MemPlace} {base : Nat} (hv : Value.okWide P W .any base tS v) (h : DataW.Trod enc P W 0 (fun _ => true) true tS v d ps) :
    ∃ l : List E, SliceAt (full W) v sz (l.map cell) ∧ (∀ e ∈ l, Q e) ∧ ((d.weights P tS).all (· ≤ reachBytes) = true → l.length * by_ ≤ reachBytes) := by
  obtain ⟨a, len, cap, rfl⟩ := Go.WideShapes.okWide_slice hS hv
  obtain ⟨fuel, hf⟩ := h
  rcases Go.Deep.open_slice hS hf with ⟨e, e2⟩ | ⟨A, ln, cp, m, n, D, Pl, e, hb, hl, hm, hmm, e2, hx⟩
  · cases e
    exact ⟨[], ⟨none, 0, 0, rfl, rfl, Nat.le_refl _, by simp, by simp, by simp⟩, by simp, by simp⟩
  · cases e
    obtain ⟨rfl, -⟩ := Prod.mk.inj e2
    simp only [if_true] at hmm
    subst hmm
    have a0 : A.add (0 * sz) = A := by rw [Nat.zero_mul]; rfl
    have a1 : ∀ B : Addr, B.add 0 = B := fun B => rfl
    have pick : ∀ i, ∃ p : E, i < len → Q p ∧ (full W).has (A.add (i * sz)) (cell p) ∧ A.spot = none := fun i => by
      by_cases hi : i < len
      · obtain ⟨cs', h1, h2⟩ := hx i (by omega)
        rw [hc] at h1
        obtain ⟨p, rfl, hp⟩ := op _ _ _ h2
        obtain ⟨_, h3, h4⟩ := World.cells?_some h1
        refine ⟨p, fun _ => ⟨hp, ?_, ?_⟩⟩
        · intro j x hj
          have hj4 : j < sz := by have := (List.getElem?_eq_some_iff.1 hj).1; rw [hcl] at this; exact this
          have := h4 j hj4
          rw [hj] at this
          exact this
        · obtain ⟨cs0, k1, k2⟩ := hx 0 (by omega)
          rw [hc] at k1
          obtain ⟨k5, k3, k4⟩ := World.cells?_some k1
          have := k4 0 hsz
          rw [a0, a1, List.getElem?_eq_getElem (by omega)] at this
          unfold World.cell? at this
          split at this
          · split at this
            · cases this
            · rename_i hs
              simpa using hs
          · cases this
      · exact ⟨default, fun h => absurd h hi⟩
    obtain ⟨f, hf⟩ := Classical.axiomOfChoice pick
    refine ⟨(List.range len).map f, ⟨some A, len, _, rfl, by simp, hl, ?_, ?_, fun i e he => ?_⟩, ?_, fun hw => ?_⟩
    · intro e he
      obtain ⟨p, _, rfl⟩ := List.mem_map.1 he
      exact hcl p
    · intro e he
      obtain ⟨p, _, rfl⟩ := List.mem_map.1 he
      exact hon p
    · simp only [List.getElem?_map] at he
      obtain ⟨p, hp, rfl⟩ := Option.map_eq_some_iff.1 he
      obtain ⟨i', hi', rfl⟩ := Option.map_eq_some_iff.1 hp
      have hlt := (List.getElem?_eq_some_iff.1 hi').1
      have hii : i' = i := by have := (List.getElem?_eq_some_iff.1 hi').2; simp at this; omega
      subst hii
      obtain ⟨_, g1, g2⟩ := hf i' (by simpa using hlt)
      exact ⟨A, rfl, g2, g1⟩
    · intro p hp
      obtain ⟨i, hi, rfl⟩ := List.mem_map.1 hp
      exact (hf i (List.mem_range.1 hi)).1
    · simp only [DataW.weights, hS, List.all_cons, Bool.and_eq_true, decide_eq_true_eq, List.length_map, List.length_range, hby] at hw
      simp only [List.length_map, List.length_range]
      have h0 := hw.1
      exact Nat.le_trans (Nat.mul_le_mul_right _ (Nat.le_add_right _ _)) h0
theorem weigh_of {t : TypeId} {ts : List TypeId} {d : DataW H} {ds : List (DataW H)} {p : Nat → Bool} (h : (DataW.weightsEach P (t :: ts) (d :: ds)).all p = true) : (d.weights P t).all p = true ∧ (DataW.weightsEach P ts ds).all p = true := by
  simp only [DataW.weightsEach, List.all_append, Bool.and_eq_true] at h
  exact h
end
end Sx

set_option linter.unusedVariables false
set_option linter.unusedSimpArgs false
namespace Cr
open Go Sx
open Go.Proofs.Try
set_option maxRecDepth 100000
theorem own : ownKnob Go.Proofs.Try.prog.godebug = none := by kernel_rfl
theorem laidOut : laidOutB Go.Proofs.Try.prog = true := by kernel_rfl
section
variable {H : Type} {enc : TypeId × Value → H} {W : World}
theorem u32_wf {b : Int} (w : (Lit.int .u32 b).wf = true) : U32 b := by simp [Lit.wf, IntKind.min, IntKind.max, IntKind.bits, IntKind.signed] at w; omega
theorem i64_wf {b : Int} (w : (Lit.int .i64 b).wf = true) : -9223372036854775808 ≤ b ∧ b ≤ 9223372036854775807 := by simp [Lit.wf, IntKind.min, IntKind.max, IntKind.bits, IntKind.signed] at w; omega
abbrev I64 (x : Int) : Prop := -9223372036854775808 ≤ x ∧ x ≤ 9223372036854775807
theorem openPt {fuel : Nat} {cs : List Value} {y : DataW H × List MemPlace} (h : DataW.trod enc prog W 0 (fun _ => true) true fuel 36 cs = some y) : ∃ p : Pt, cs = ptC p ∧ (U32 p.x ∧ U32 p.y) ∧ I64 p.id := by
  obtain ⟨y0, y1, y2, y3, n, _, hl, h0, h1, h2, h3⟩ := Go.Joins.trod_struct4 Go.Proofs.Try.underlying36 h
  obtain ⟨a, e0, _, w0⟩ := DataW.trod_int Go.Proofs.Try.underlying3 h0
  obtain ⟨b, e1, _, w1⟩ := DataW.trod_int Go.Proofs.Try.underlying34 h1
  obtain ⟨c, e2, _, w2⟩ := DataW.trod_int Go.Proofs.Try.underlying34 h2
  obtain ⟨s, e3, _, _⟩ := DataW.trod_string Go.Proofs.Try.underlying9 h3
  have c4 : prog.cellsOf 36 = 4 := by kernel_rfl
  have c1 : prog.cellsOf 3 = 1 := by kernel_rfl
  have c2 : prog.cellsOf 34 = 1 := by kernel_rfl
  have c3 : prog.cellsOf 9 = 1 := by kernel_rfl
  rw [c4] at hl
  match cs, hl with
  | [q0, q1, q2, q3], _ =>
    simp only [c1, c2, c3, List.drop_zero, List.drop_succ_cons, List.take_succ_cons, List.take_zero] at e0 e1 e2 e3
    cases e0; cases e1; cases e2; cases e3
    exact ⟨⟨a, b, c, s⟩, rfl, ⟨u32_wf w1, u32_wf w2⟩, i64_wf w0⟩
theorem openPts {v : Value} {d : DataW H} {ps : List MemPlace} {base : Nat} (hv : Value.okWide prog W .any base 22 v) (h : DataW.Trod enc prog W 0 (fun _ => true) true 22 v d ps) :
    ∃ l : List Pt, SliceAt (full W) v 4 (pts l) ∧ (∀ p ∈ l, (U32 p.x ∧ U32 p.y) ∧ I64 p.id) ∧ ((d.weights prog 22).all (· ≤ reachBytes) = true → l.length ≤ 10000000000000) := by
  obtain ⟨l, h1, h2, h3⟩ := open_sl (P := prog) (cell := ptC) (Q := fun p => (U32 p.x ∧ U32 p.y) ∧ I64 p.id) (sz := 4) (by_ := 32) Go.Proofs.Try.underlying22 (by kernel_rfl) (by kernel_rfl) (by omega) (fun _ => rfl) ptC_one (fun _ _ _ h => openPt h) hv h
  refine ⟨l, h1, h2, fun hw => ?_⟩
  have := h3 hw
  unfold reachBytes at this
  omega
end
end Cr

set_option linter.unusedVariables false
set_option linter.unusedSimpArgs false
namespace Cr
open Go Sx
set_option maxRecDepth 100000
theorem getI_mem {g : List Int} {x : Int} (h0 : 0 ≤ x) (h : x < (g.length : Int)) : getI g x ∈ g := List.mem_of_getElem? (getI_some h0 (by omega))
theorem mrg_len (g : List Int) (a b : Int) : (mrg g a b).length = g.length := by simp [mrg]
theorem getI_mrg {g : List Int} {a b x : Int} (h0 : 0 ≤ x) (h : x < (g.length : Int)) : getI (mrg g a b) x = if getI g x = b then a else getI g x := by
  have h1 := getI_some (g := g) h0 (by omega)
  have h2 := getI_some (g := mrg g a b) h0 (by rw [mrg_len]; omega)
  unfold mrg at h2
  rw [List.getElem?_map, h1] at h2
  exact (Option.some.inj h2).symm
structure JInv (l : List Pt) (g : List Int) (rest : List Rd) : Prop where
  len : g.length = l.length
  sort : rest.Pairwise fun x y => ¬ rLt y x
  sub : ∀ r ∈ rest, r ∈ pairsL l
  cov : ∀ r ∈ pairsL l, r ∈ rest ∨ getI g r.f = getI g r.t
  lab : ∀ x ∈ g, 0 ≤ x ∧ x < (g.length : Int) ∧ getI g x = x
theorem JInv.skip {l : List Pt} {g : List Int} {r : Rd} {rs : List Rd} (h : JInv l g (r :: rs)) (e : getI g r.f = getI g r.t) : JInv l g rs where
  len := h.len
  sort := (List.pairwise_cons.1 h.sort).2
  sub x hx := h.sub x (List.mem_cons_of_mem _ hx)
  cov x hx := by
    rcases h.cov x hx with q | q
    · rcases List.mem_cons.1 q with rfl | q
      · exact .inr e
      · exact .inl q
    · exact .inr q
  lab := h.lab
theorem rng_of {l : List Pt} {g : List Int} {rest : List Rd} (h : JInv l g rest) {r : Rd} (hr : r ∈ pairsL l) : (0 ≤ r.f ∧ r.f < (g.length : Int)) ∧ 0 ≤ r.t ∧ r.t < (g.length : Int) := by
  have := pair_rng hr
  rw [h.len]; omega
theorem JInv.take {l : List Pt} {g : List Int} {r : Rd} {rs : List Rd} (h : JInv l g (r :: rs)) (e : getI g r.f ≠ getI g r.t) : JInv l (mrg g (getI g r.f) (getI g r.t)) rs where
  len := by rw [mrg_len, h.len]
  sort := (List.pairwise_cons.1 h.sort).2
  sub x hx := h.sub x (List.mem_cons_of_mem _ hx)
  cov x hx := by
    obtain ⟨⟨a1, a2⟩, a3, a4⟩ := rng_of h hx
    obtain ⟨⟨b1, b2⟩, b3, b4⟩ := rng_of h (h.sub r List.mem_cons_self)
    rw [getI_mrg a1 a2, getI_mrg a3 a4]
    rcases h.cov x hx with q | q
    · rcases List.mem_cons.1 q with rfl | q
      · refine .inr ?_
        rw [if_neg e, if_pos rfl]
      · exact .inl q
    · rw [q]; exact .inr rfl
  lab x hx := by
    obtain ⟨⟨b1, b2⟩, b3, b4⟩ := rng_of h (h.sub r List.mem_cons_self)
    have ha := h.lab _ (getI_mem b1 b2)
    rw [mrg_len]
    unfold mrg at hx
    obtain ⟨y, hy, rfl⟩ := List.mem_map.1 hx
    by_cases q : y = getI g r.t
    · rw [if_pos q]
      refine ⟨ha.1, ha.2.1, ?_⟩
      rw [getI_mrg ha.1 ha.2.1, ha.2.2, if_neg e]
    · rw [if_neg q]
      have hl := h.lab y hy
      refine ⟨hl.1, hl.2.1, ?_⟩
      rw [getI_mrg hl.1 hl.2.1, hl.2.2, if_neg q]
theorem krus_next {l : List Pt} : ∀ {rest : List Rd} {g : List Int} {x : Rd} {tl : List Rd}, JInv l g rest → krus rest g = x :: tl →
    ∃ rest', JInv l (mrg g (getI g x.f) (getI g x.t)) rest' ∧ tl = krus rest' (mrg g (getI g x.f) (getI g x.t)) ∧ getI g x.f ≠ getI g x.t ∧ x ∈ pairsL l ∧ ∀ r ∈ pairsL l, getI g r.f ≠ getI g r.t → ¬ rLt r x
  | [], g, x, tl, h, e => by simp [krus] at e
  | r :: rs, g, x, tl, h, e => by
    unfold krus at e
    by_cases q : getI g r.f = getI g r.t
    · rw [if_pos q] at e
      exact krus_next (h.skip q) e
    · rw [if_neg q] at e
      obtain ⟨rfl, rfl⟩ := List.cons.inj e
      refine ⟨rs, h.take q, rfl, q, h.sub _ List.mem_cons_self, fun p hp hne => ?_⟩
      rcases h.cov p hp with h1 | h1
      · rcases List.mem_cons.1 h1 with rfl | h1
        · exact rLt_irrefl _
        · exact (List.pairwise_cons.1 h.sort).1 p h1
      · exact (hne h1).elim
/-- Places whose group is theirs. -/
def fixc (g : List Int) : Nat := (List.range g.length).countP fun i : Nat => getI g (i : Int) == (i : Int)
theorem count_less {p p' : Nat → Bool} {b : Nat} : ∀ n, (∀ i, i < n → p' i = (p i && !(i == b))) → (List.range n).countP p = (List.range n).countP p' + if b < n ∧ p b = true then 1 else 0
  | 0, _ => by simp
  | n + 1, h => by
    have ih := count_less n fun i hi => h i (by omega)
    have hn := h n (by omega)
    rw [List.range_succ, List.countP_append, List.countP_append, ih, List.countP_singleton, List.countP_singleton, hn]
    by_cases e : n = b
    · subst e
      have q : ¬ (n < n ∧ p n = true) := by omega
      rw [if_neg q]
      cases hp : p n
      · have q2 : ¬ (n < n + 1 ∧ false = true) := by simp
        rw [if_neg q2]; simp
      · have q2 : n < n + 1 ∧ true = true := ⟨by omega, rfl⟩
        rw [if_pos q2]; simp
    · have e2 : (n == b) = false := by simpa using e
      rw [e2, Bool.not_false, Bool.and_true]
      by_cases hb : b < n ∧ p b = true
      · have q2 : b < n + 1 ∧ p b = true := ⟨by omega, hb.2⟩
        rw [if_pos hb, if_pos q2]; omega
      · have q2 : ¬ (b < n + 1 ∧ p b = true) := fun q => hb ⟨by omega, q.2⟩
        rw [if_neg hb, if_neg q2]; omega
theorem fixc_mrg {g : List Int} {a b : Int} (hl : ∀ x ∈ g, 0 ≤ x ∧ x < (g.length : Int) ∧ getI g x = x) (ha : a ∈ g) (hb : b ∈ g) (hne : a ≠ b) : fixc g = fixc (mrg g a b) + 1 := by
  obtain ⟨b1, b2, b3⟩ := hl b hb
  obtain ⟨a1, a2, a3⟩ := hl a ha
  obtain ⟨B, rfl⟩ := Int.eq_ofNat_of_zero_le b1
  unfold fixc
  rw [mrg_len, count_less (p := fun i => getI g (i : Int) == (i : Int)) (p' := fun i => getI (mrg g a (B : Int)) (i : Int) == (i : Int)) (b := B) g.length, if_pos ⟨by omega, by simpa using b3⟩]
  intro i hi
  rw [getI_mrg (by omega) (by omega)]
  have hm := getI_mem (g := g) (x := (i : Int)) (by omega) (by omega)
  by_cases q : getI g (i : Int) = (B : Int)
  · rw [if_pos q, q]
    by_cases e : i = B
    · subst e
      simp [hne]
    · have e1 : ((B : Int) == (i : Int)) = false := by simp; omega
      have e2 : (a == (i : Int)) = false := by
        simp only [beq_eq_false_iff_ne, ne_eq]
        rintro rfl
        rw [a3] at q
        omega
      rw [e1, e2]; rfl
  · rw [if_neg q]
    by_cases e : i = B
    · subst e
      rw [b3] at q; exact (q rfl).elim
    · have : (i == B) = false := by simpa using e
      rw [this]; simp
theorem getI_iota {n : Nat} {x : Int} (h0 : 0 ≤ x) (h : x < (n : Int)) : getI (iota n) x = x := by
  have h1 := getI_some (g := iota n) h0 (by rw [iotaTo_len]; omega)
  unfold iota iotaTo at h1
  rw [List.getElem?_map, List.getElem?_range (by omega)] at h1
  simp only [Option.map_some] at h1
  rw [if_pos (by omega)] at h1
  have := Option.some.inj h1
  show getI (iotaTo n n) x = x
  unfold iotaTo
  rw [← this]; omega
theorem fixc_iota (n : Nat) : fixc (iota n) = n := by
  unfold fixc
  rw [iotaTo_len]
  have : (List.range n).countP (fun i : Nat => getI (iota n) (i : Int) == (i : Int)) = (List.range n).length := by
    rw [List.countP_eq_length]
    intro i hi
    have hi := List.mem_range.1 hi
    rw [getI_iota (by omega) (by omega)]; simp
  rw [this, List.length_range]
theorem krus_count {l : List Pt} (hl : 0 < l.length) : ∀ {rest : List Rd} {g : List Int}, JInv l g rest → (krus rest g).length + 1 = fixc g
  | [], g, h => by
    have hg := h.len
    have h0 := h.lab _ (getI_mem (g := g) (x := 0) (by omega) (by omega))
    generalize hc : getI g 0 = c at h0
    obtain ⟨c1, c2, c3⟩ := h0
    obtain ⟨C, rfl⟩ := Int.eq_ofNat_of_zero_le c1
    have all : ∀ i : Nat, i < g.length → getI g (i : Int) = (C : Int) := fun i hi => by
      by_cases e : i = 0
      · subst e; exact hc
      · have hm : rdAt l 0 i ∈ pairsL l := mem_pairsTo.2 ⟨0, i, by omega, by omega, by omega, rfl⟩
        rcases h.cov _ hm with q | q
        · cases q
        · have q : getI g ((0 : Nat) : Int) = getI g (i : Int) := q
          rw [← q]; exact hc
    unfold fixc
    rw [count_less (p' := fun _ => false) (b := C) g.length fun i hi => ?_]
    · simp only [krus, List.length_nil]
      rw [if_pos ⟨by omega, by simpa using c3⟩]
      have : (List.range g.length).countP (fun _ => false) = 0 := by rw [List.countP_eq_zero]; simp
      omega
    · rw [all i hi]
      by_cases e : i = C
      · subst e; simp
      · have : ((C : Int) == (i : Int)) = false := by simp; omega
        rw [this]; rfl
  | r :: rs, g, h => by
    unfold krus
    by_cases q : getI g r.f = getI g r.t
    · rw [if_pos q]
      exact krus_count hl (h.skip q)
    · rw [if_neg q]
      obtain ⟨⟨b1, b2⟩, b3, b4⟩ := rng_of h (h.sub r List.mem_cons_self)
      have := krus_count hl (h.take q)
      rw [fixc_mrg h.lab (getI_mem b1 b2) (getI_mem b3 b4) q, List.length_cons, this]
theorem jinv_start {l : List Pt} {d : List Rd} (hp : d.Perm (pairsL l)) (hs : d.Pairwise fun x y => ¬ rLt y x) : JInv l (iota l.length) d where
  len := iotaTo_len _ _
  sort := hs
  sub r hr := hp.subset hr
  cov r hr := .inl (hp.symm.subset hr)
  lab x hx := by
    rw [iotaTo_len]
    unfold iota iotaTo at hx
    obtain ⟨i, hi, rfl⟩ := List.mem_map.1 hx
    have hi := List.mem_range.1 hi
    rw [if_pos hi]
    exact ⟨by omega, by omega, getI_iota (by omega) (by omega)⟩
theorem krus_total {l : List Pt} {d : List Rd} (hp : d.Perm (pairsL l)) (hs : d.Pairwise fun x y => ¬ rLt y x) : (krus d (iota l.length)).length = l.length - 1 := by
  by_cases h : l.length = 0
  · have : pairsL l = [] := by unfold pairsL; rw [h]; rfl
    rw [this] at hp
    have := List.perm_nil.1 hp
    subst this
    simp [krus, h]
  · have := krus_count (by omega) (jinv_start hp hs)
    rw [fixc_iota] at this
    omega
/-- Pairs that were looked at. -/
def Vis (n t s i j : Nat) : Prop := i < j ∧ j < n ∧ (i < t ∨ (i = t ∧ j < s))
/-- The least of those that join what is not joined. -/
def BestI (l : List Pt) (g : List Int) (t s : Nat) (b : Rd) : Prop :=
  (b.f = -1 ∧ ∀ i j, Vis l.length t s i j → getI g (i : Int) = getI g (j : Int)) ∨
  ∃ i j, Vis l.length t s i j ∧ b = rdAt l i j ∧ getI g (i : Int) ≠ getI g (j : Int) ∧ ∀ i' j', Vis l.length t s i' j' → getI g (i' : Int) ≠ getI g (j' : Int) → ¬ rLt (rdAt l i' j') b
theorem best_row {l : List Pt} {g : List Int} {t s : Nat} {b : Rd} (hs : l.length ≤ s) (h : BestI l g t s b) : BestI l g (t + 1) (t + 2) b := by
  have e : ∀ i j, Vis l.length (t + 1) (t + 2) i j → Vis l.length t s i j := fun i j ⟨a, b, c⟩ => ⟨a, b, by omega⟩
  have e2 : ∀ i j, Vis l.length t s i j → Vis l.length (t + 1) (t + 2) i j := fun i j ⟨a, b, c⟩ => ⟨a, b, by omega⟩
  rcases h with ⟨h1, h2⟩ | ⟨i, j, h1, h2, h3, h4⟩
  · exact .inl ⟨h1, fun i j q => h2 i j (e i j q)⟩
  · exact .inr ⟨i, j, e2 i j h1, h2, h3, fun i' j' q => h4 i' j' (e i' j' q)⟩
theorem best_same {l : List Pt} {g : List Int} {t s : Nat} {b : Rd} (h : BestI l g t s b) (hs : t < s ∧ s < l.length) (he : getI g (t : Int) = getI g (s : Int)) : BestI l g t (s + 1) b := by
  have e2 : ∀ i j, Vis l.length t s i j → Vis l.length t (s + 1) i j := fun i j ⟨a, b, c⟩ => ⟨a, b, by omega⟩
  have e : ∀ i j, Vis l.length t (s + 1) i j → Vis l.length t s i j ∨ (i = t ∧ j = s) := fun i j ⟨a, b, c⟩ => by
    by_cases q : i = t ∧ j = s
    · exact .inr q
    · exact .inl ⟨a, b, by omega⟩
  rcases h with ⟨h1, h2⟩ | ⟨i, j, h1, h2, h3, h4⟩
  · refine .inl ⟨h1, fun i j q => ?_⟩
    rcases e i j q with q | ⟨rfl, rfl⟩
    · exact h2 i j q
    · exact he
  · refine .inr ⟨i, j, e2 i j h1, h2, h3, fun i' j' q hn => ?_⟩
    rcases e i' j' q with q | ⟨rfl, rfl⟩
    · exact h4 i' j' q hn
    · exact (hn he).elim
theorem best_keep {l : List Pt} {g : List Int} {t s : Nat} {b : Rd} (h : BestI l g t s b) (hs : t < s ∧ s < l.length) (hf : ¬ b.f < 0) (hn : ¬ ((rdAt l t s).hi < b.hi ∨ ((rdAt l t s).hi = b.hi ∧ (rdAt l t s).lo < b.lo))) : BestI l g t (s + 1) b := by
  have e2 : ∀ i j, Vis l.length t s i j → Vis l.length t (s + 1) i j := fun i j ⟨a, b, c⟩ => ⟨a, b, by omega⟩
  have e : ∀ i j, Vis l.length t (s + 1) i j → Vis l.length t s i j ∨ (i = t ∧ j = s) := fun i j ⟨a, b, c⟩ => by
    by_cases q : i = t ∧ j = s
    · exact .inr q
    · exact .inl ⟨a, b, by omega⟩
  rcases h with ⟨h1, h2⟩ | ⟨i, j, h1, h2, h3, h4⟩
  · omega
  · refine .inr ⟨i, j, e2 i j h1, h2, h3, fun i' j' q hn' => ?_⟩
    rcases e i' j' q with q | ⟨rfl, rfl⟩
    · exact h4 i' j' q hn'
    · have hv := h1.2.2
      have hf : b.f = (i : Int) := by rw [h2]; rfl
      have ht : b.t = (j : Int) := by rw [h2]; rfl
      have hf' : (rdAt l i' j').f = (i' : Int) := rfl
      have ht' : (rdAt l i' j').t = (j' : Int) := rfl
      unfold rLt
      omega
theorem best_new {l : List Pt} {g : List Int} {t s : Nat} {b : Rd} (h : BestI l g t s b) (hs : t < s ∧ s < l.length) (hd : getI g (t : Int) ≠ getI g (s : Int)) (hn : b.f < 0 ∨ ((rdAt l t s).hi < b.hi ∨ ((rdAt l t s).hi = b.hi ∧ (rdAt l t s).lo < b.lo))) : BestI l g t (s + 1) (rdAt l t s) := by
  have e : ∀ i j, Vis l.length t (s + 1) i j → Vis l.length t s i j ∨ (i = t ∧ j = s) := fun i j ⟨a, b, c⟩ => by
    by_cases q : i = t ∧ j = s
    · exact .inr q
    · exact .inl ⟨a, b, by omega⟩
  refine .inr ⟨t, s, ⟨hs.1, hs.2, .inr ⟨rfl, by omega⟩⟩, rfl, hd, fun i' j' q hn' => ?_⟩
  rcases e i' j' q with q | ⟨rfl, rfl⟩
  · rcases h with ⟨h1, h2⟩ | ⟨i, j, h1, h2, h3, h4⟩
    · exact (hn' (h2 i' j' q)).elim
    · have h5 := h4 i' j' q hn'
      have hf : b.f = (i : Int) := by rw [h2]; rfl
      rcases hn with hn | hn
      · omega
      · generalize rdAt l i' j' = x at *
        generalize rdAt l t s = y at *
        unfold rLt at *
        omega
  · exact rLt_irrefl _
theorem best_all {l : List Pt} {g : List Int} {s : Nat} {b x : Rd} (h : BestI l g l.length s b) (hx : x ∈ pairsL l) (hd : getI g x.f ≠ getI g x.t) (hm : ∀ r ∈ pairsL l, getI g r.f ≠ getI g r.t → ¬ rLt r x) : b = x := by
  obtain ⟨i0, j0, a1, a2, a3, rfl⟩ := mem_pairsTo.1 hx
  have v0 : Vis l.length l.length s i0 j0 := ⟨a2, a3, .inl a1⟩
  rcases h with ⟨h1, h2⟩ | ⟨i, j, h1, rfl, h3, h4⟩
  · exact (hd (h2 i0 j0 v0)).elim
  · refine rLt_tri (hm _ (mem_pairsTo.2 ⟨i, j, by have := h1.1; have := h1.2.1; omega, h1.1, h1.2.1, rfl⟩) h3) (h4 i0 j0 v0 hd)
end Cr

set_option linter.unusedVariables false
set_option linter.unusedSimpArgs false
namespace Cr
open Go Sx
open Go.Proofs.Try
set_option maxRecDepth 100000
theorem cut_pts {H : Heap} {l : List Pt} {a : Option Addr} {n c m : Nat} (h : SliceAt H (.slice a n c) 4 (pts l)) (hm : m ≤ n) : SliceAt H (.slice (subAddr a c 0 4) m (c - 0)) 4 (pts (l.take m)) := by
  obtain ⟨a', n', c', e, h1, h2, h3, h4, h5⟩ := h
  cases e
  have hl : l.length = n := by simpa using h1
  refine ⟨_, _, _, rfl, by simp; omega, by omega, ?_, ?_, fun i x hx => ?_⟩
  · intro e he
    obtain ⟨p, _, rfl⟩ := List.mem_map.1 he
    rfl
  · intro e he
    obtain ⟨p, _, rfl⟩ := List.mem_map.1 he
    exact ptC_one p
  · have hx2 : (pts l)[i]? = some x := by
      simp only [pts, List.getElem?_map, List.getElem?_take] at hx ⊢
      split at hx
      · exact hx
      · simp at hx
    obtain ⟨A, rfl, h6, h7⟩ := h5 i x hx2
    refine ⟨A, ?_, h6, h7⟩
    unfold subAddr
    split
    · rfl
    · rw [Nat.zero_mul]; rfl
section
variable {H : Heap} {R : Ending → Heap → Prop}
theorem s_lroads {v : Value} {l : List Pt} (h : SliceAt H v 4 (pts l)) (hl : l.length ≤ 10000000000000) (hr : ∀ p ∈ l, PtU p) (k : ∀ H', H ≤ H' → R (.returned (.bool true)) H') : Meets prog 3 [v] H R := by
  obtain ⟨a, n, c, e, hn⟩ := h
  subst e
  have h : SliceAt H (.slice a n c) 4 (pts l) := ⟨a, n, c, rfl, hn⟩
  have hln : l.length = n := by simpa using hn.1
  refine spec_of func3 (by kernel_rfl) (fun t h => by
    have := eq_of h
    simp [h_lroads] at this
    subst this
    exact eqOK_of (by kernel_rfl) (by kernel_rfl) (by kernel_rfl)) ?_ (vc_lroads a n c R H) ?_
  · simp [argsR, SV.rep, SC.rep, Sx.one]
  unfold nf_lroads
  simp only [true_and]
  refine s_alive42 fun H1 hle => ⟨true, rfl, br (fun q => by cases q) fun _ => ?_⟩
  have h1 := slice_le h hle
  refine ⟨fun p H' => H' = H1 ∧ ∃ l' : List Pt, SliceAt H1 (.slice p.1.1.1 p.1.1.2.1 p.1.1.2.2) 4 (pts l') ∧ l'.length = p.1.1.2.1 ∧ l'.length ≤ 14 ∧ ∀ q ∈ l', PtU q, ?_, ?_⟩
  · refine br (fun q => ?_) fun q => ?_
    · simp only [decide_eq_true_eq] at q
      have := hn.2.1
      refine ⟨⟨by omega, by omega⟩, rfl, l.take 14, cut_pts (m := 14) h1 (by omega), by simp; omega, by simp; omega, fun p hp => hr p (List.mem_of_mem_take hp)⟩
    · simp only [decide_eq_false_iff_not] at q
      exact ⟨rfl, l, h1, hln, by omega, hr⟩
  clear h1 h hn hr hln hl
  rintro ⟨⟨⟨a, n, c⟩, _⟩, _⟩ H0 ⟨rfl, l, h, hln, hl, hr⟩
  simp only at h hln hl ⊢
  have hU : ∀ i, i < n → PtU (atP l i) := fun i hi => hr _ (List.mem_of_getElem? (atP_get (by omega)))
  refine s_roads h hr hl fun d v1 H2 hp hs hle2 hf2 hrow2 => ?_
  have h2 := slice_le h hle2
  obtain ⟨a2, c2, rfl⟩ := row_val hrow2
  have hsl := row_slice hrow2
  have hinv := jinv_start hp hs
  have htot := krus_total hp hs
  generalize hks : krus d (iota l.length) = ks at *
  have hkl : (rds ks).length = l.length - 1 := by simpa using htot
  rw [hkl] at hsl ⊢
  have fin : R (.returned (.bool true)) H2 := k H2 (heap_trans hle hle2)
  clear hrow2 hf2 hle2
  refine ⟨a2, _, c2, rfl, ⟨by omega, by omega⟩, fun p H' => ∃ t : Nat, p.1.1 = (t : Int) ∧ t ≤ n ∧ p.1.2.1 = cells (iotaTo n t) ∧ H' = H2, fun p _ => (n - p.1.1).toNat, ⟨0, rfl, by omega, by rw [Int.toNat_natCast]; exact iotaTo_zero n, rfl⟩, ?_⟩
  rintro ⟨⟨i, rows, _⟩, _⟩ H3 ⟨t, hi, ht, hrows, rfl⟩
  simp only at hi hrows ⊢
  subst hi hrows
  refine br (fun q1 => ?_) fun q1 => ?_
  · simp only [decide_eq_true_eq] at q1
    rw [cells_len, iotaTo_len, wi64 (by omega), Int.toNat_natCast, cells_set, iotaTo_set (by omega)]
    exact ⟨⟨by omega, by omega⟩, by omega, ⟨t + 1, by simp, by omega, rfl, by trivial⟩, by simp; omega⟩
  simp only [decide_eq_false_iff_not] at q1
  obtain rfl : t = n := by omega
  refine br (fun q2 => ?_) fun _ => ?_
  · exfalso
    rw [wi64 (by omega), maxI_eq] at q2
    simp at q2
    omega
  refine ⟨fun p H' => ∃ (s : Nat) (g : List Int) (rest : List Rd), p.1.1 = (s : Int) ∧ s ≤ l.length - 1 ∧ p.1.2.1 = cells g ∧ JInv l g rest ∧ ks.drop s = krus rest g ∧ H' = H3, fun p _ => (l.length - p.1.1).toNat, ⟨0, iota l.length, d, rfl, by omega, by rw [hln], hinv, by rw [List.drop_zero, hks], rfl⟩, ?_⟩
  rintro ⟨⟨i, rows, _⟩, _⟩ H4 ⟨s, g, rest, hi, hs1, hrows, hJ, hdr, rfl⟩
  simp only at hi hrows ⊢
  subst hi hrows
  have hgl : g.length = t := by rw [hJ.len, hln]
  refine br (fun q3 => ?_) fun q3 => fin
  simp only [decide_eq_true_eq] at q3
  obtain ⟨x, hd, _, hx⟩ := drop_cons (l := ks) (k := s) (by rw [htot]; omega)
  rw [hd] at hdr
  obtain ⟨rest', hJ', htl, hne, hmem, hmin⟩ := krus_next hJ hdr.symm
  obtain ⟨A2, e, gA2⟩ := rd_get hsl (i := s) hx
  subst e
  have hxr := pair_rng hmem
  -- the least pair
  refine ⟨fun p H' => ∃ (u : Nat) (b : Rd), p.1.1 = (u : Int) ∧ u ≤ t ∧ p.2.2.1.1 = b.f ∧ p.2.2.1.2.1 = b.t ∧ p.2.2.1.2.2.1 = b.hi ∧ p.2.2.1.2.2.2.1 = b.lo ∧ BestI l g u (u + 1) b ∧ H' = H4, fun p _ => (t - p.1.1).toNat, ⟨0, ⟨-1, 0, 0, 0⟩, rfl, by omega, rfl, rfl, rfl, rfl, .inl ⟨rfl, fun i j q => by have := q.1; have := q.2.2; omega⟩, rfl⟩, ?_⟩
  rintro ⟨⟨i, _⟩, _, ⟨b1, b2, b3, b4, _⟩, _⟩ H5 ⟨u, b, hi, hu, e1, e2, e3, e4, hB, rfl⟩
  simp only at hi e1 e2 e3 e4 ⊢
  subst hi e1 e2 e3 e4
  refine br (fun q4 => ?_) fun q4 => ?_
  · simp only [decide_eq_true_eq] at q4
    rw [wi64 (k := (u : Int) + 1) (by omega)]
    refine ⟨fun p H' => ∃ (w : Nat) (b : Rd), p.1.1 = (w : Int) ∧ u < w ∧ w ≤ t ∧ p.2.2.1.1 = b.f ∧ p.2.2.1.2.1 = b.t ∧ p.2.2.1.2.2.1 = b.hi ∧ p.2.2.1.2.2.2.1 = b.lo ∧ BestI l g u w b ∧ H' = H5, fun p _ => (t - p.1.1).toNat, ⟨u + 1, b, by simp, by omega, by omega, rfl, rfl, rfl, rfl, hB, rfl⟩, ?_⟩
    rintro ⟨⟨i, _⟩, _, ⟨b1, b2, b3, b4, _⟩, _⟩ H6 ⟨w, b', hi, hw, hwt, e1, e2, e3, e4, hB', rfl⟩
    simp only at hi e1 e2 e3 e4 ⊢
    subst hi e1 e2 e3 e4
    refine br (fun q5 => ?_) fun q5 => ?_
    · simp only [decide_eq_true_eq] at q5
      obtain ⟨A, e, g1⟩ := pr_get h2 (i := u) (atP_get (by omega))
      subst e
      obtain ⟨A', e, g2⟩ := pr_get h2 (i := w) (atP_get (by omega))
      cases e
      have f1 := fld g1
      have f2 := fld g2
      have ub : (0 : Int) ≤ (u : Int) ∧ (u : Int) < (t : Int) := ⟨by omega, by omega⟩
      have wb : (0 : Int) ≤ (w : Int) ∧ (w : Int) < (t : Int) := ⟨by omega, by omega⟩
      refine ⟨H6, fun _ _ e => e, ub, ptr rfl (ptr rfl (ptr rfl ⟨_, f1.1, ub, ptr rfl (ptr rfl (ptr rfl ⟨_, f1.2, wb, ptr rfl (ptr rfl (ptr rfl ⟨_, f2.1, wb, ptr rfl (ptr rfl (ptr rfl ⟨_, f2.2, ?_⟩))⟩))⟩))⟩))⟩
      refine s_rbet (hU u (by omega)).1 (hU u (by omega)).2 (hU w (by omega)).1 (hU w (by omega)).2 ⟨keep_same _ _ _, _, _, rfl, H6, fun _ _ e => e, ?_⟩
      rw [cells_len, hgl, wi64 (by omega)]
      simp only [delLs_nil]
      refine ⟨ub, _, cells_get (getI_some ub.1 (by omega)), wb, _, cells_get (getI_some wb.1 (by omega)), ?_⟩
      have hr2 : rdAt l u w = ⟨u, w, sqd (atP l u).x (atP l u).y (atP l w).x (atP l w).y / 18446744073709551616, sqd (atP l u).x (atP l u).y (atP l w).x (atP l w).y % 18446744073709551616⟩ := rfl
      refine br (fun q6 => br (fun q7 => ?_) fun q7 => ?_) fun q6 => ?_
      · exact ⟨⟨w + 1, rdAt l u w, by simp, by omega, by omega, rfl, rfl, rfl, rfl, best_new hB' ⟨hw, by omega⟩ (by simpa using q6) (.inl (by simpa using q7)), by trivial⟩, by simp; omega⟩
      · refine s_rless ⟨keep_same _ _ _, _, rfl, br (fun q8 => ?_) fun q8 => ?_⟩
        · exact ⟨⟨w + 1, rdAt l u w, by simp, by omega, by omega, rfl, rfl, rfl, rfl, best_new hB' ⟨hw, by omega⟩ (by simpa using q6) (.inr (of_decide_eq_true q8)), by trivial⟩, by simp; omega⟩
        · exact ⟨⟨w + 1, b', by simp, by omega, by omega, rfl, rfl, rfl, rfl, best_keep hB' ⟨hw, by omega⟩ (by simpa using q7) (of_decide_eq_false q8), by trivial⟩, by simp; omega⟩
      · exact ⟨⟨w + 1, b', by simp, by omega, by omega, rfl, rfl, rfl, rfl, best_same hB' ⟨hw, by omega⟩ (by simpa using q6), by trivial⟩, by simp; omega⟩
    · simp only [decide_eq_false_iff_not] at q5
      obtain rfl : w = t := by omega
      exact ⟨⟨u + 1, b', by simp, by omega, rfl, rfl, rfl, rfl, best_row (by omega) hB', by trivial⟩, by simp; omega⟩
  simp only [decide_eq_false_iff_not] at q4
  obtain rfl : u = t := by omega
  have hbx : b = x := by rw [← hln] at hB; exact best_all hB hmem hne hmin
  subst hbx
  refine ⟨⟨by omega, by omega⟩, ptr rfl (ptr rfl ⟨_, _, _, _, gA2, ?_⟩)⟩
  rw [rd_eqb, decide_eq_true rfl]
  refine br (fun q => by cases q) fun _ => ?_
  rw [cells_len, hgl]
  refine ⟨⟨by omega, by omega⟩, _, cells_get (getI_some (by omega) (by omega)), ⟨by omega, by omega⟩, _, cells_get (getI_some (by omega) (by omega)), ?_⟩
  refine ⟨fun p H' => ∃ w : Nat, p.1.1 = (w : Int) ∧ w ≤ u ∧ p.1.2.1 = cells (mrgTo g (getI g b.f) (getI g b.t) w) ∧ H' = H5, fun p _ => (u - p.1.1).toNat, ⟨0, rfl, by omega, by simp [mrgTo, mrg], rfl⟩, ?_⟩
  rintro ⟨⟨i, rows, _⟩, _⟩ H6 ⟨w, hi, hw, hrows, rfl⟩
  simp only at hi hrows ⊢
  subst hi hrows
  rw [cells_len, mrgTo_len, hgl]
  refine br (fun q4 => ?_) fun q4 => ?_
  · simp only [decide_eq_true_eq] at q4
    obtain ⟨y, hy, hy1, hy2⟩ := mrgTo_step (g := g) (a := getI g b.f) (b := getI g b.t) (s := w) (by omega)
    refine ⟨⟨by omega, by omega⟩, y, cells_get (by rw [Int.toNat_natCast]; exact hy), ?_⟩
    rw [wi64 (by omega)]
    refine br (fun q5 => ?_) fun q5 => ?_
    · rw [Int.toNat_natCast, cells_set, hy1 (by simpa using q5)]
      exact ⟨⟨by omega, by omega⟩, by omega, ⟨w + 1, by simp, by omega, rfl, by trivial⟩, by simp; omega⟩
    · rw [hy2 (by simpa using q5)]
      exact ⟨⟨w + 1, by simp, by omega, rfl, by trivial⟩, by simp; omega⟩
  · simp only [decide_eq_false_iff_not] at q4
    obtain rfl : w = u := by omega
    have e1 : mrgTo g (getI g b.f) (getI g b.t) w = mrg g (getI g b.f) (getI g b.t) := by
      unfold mrgTo
      rw [List.take_of_length_le (by omega), List.drop_of_length_le (by omega), List.append_nil]
    rw [e1, wi64 (by omega)]
    exact ⟨⟨s + 1, _, rest', by simp, by omega, rfl, hJ', htl, by trivial⟩, by simp; omega⟩
end
end Cr
