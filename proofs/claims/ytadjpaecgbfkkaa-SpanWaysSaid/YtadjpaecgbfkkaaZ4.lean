/- Own texts, one behind the other: A2, SxSort, A3, A4, A5, A15, A16, A17, A18, A7, SxOpen, A9, A10, A21. -/
import Derived.Lib.Mul64
import Derived.IntWalk
import Derived.Shelf.SlSortCmp.NoneTotal
import Derived.Shelf.Sort.Plain
import Derived.Shelf.Slices.In.SortNone
import Derived.Shelf.Slices.CompactI
import Derived.Deep.Slices
import Derived.Deep.Strs
import Derived.Test.YtadjpaecgbfkkaaRows
import Derived.Test.YtadjpaecgbfkkaaChecked
import Derived.Test.YtadjpaecgbfkkaaZ3
set_option linter.unusedVariables false
set_option linter.unusedSimpArgs false
namespace Cr
open Go Sx
open Go.Proofs.Try
set_option maxRecDepth 100000
theorem heap_trans {A B D : Heap} (h : A ≤ B) (h' : B ≤ D) : A ≤ D := fun b o e => h' b o (h b o e)
/-- What was lent is taken off again. -/
theorem lend_off {H H' : Heap} {v : Value} (hle : H ≤ H') (hf : ∀ b, blockOf v = some b → H b = none) (hb : ∀ b o, H' b = some o → H b = some o ∨ blockOf v = some b) : H'.delO (blockOf v) = H := by
  funext b
  cases e : blockOf v with
  | none =>
    show H' b = H b
    cases q : H' b with
    | none => cases q2 : H b with
      | none => rfl
      | some o => rw [hle _ _ q2] at q; cases q
    | some o =>
      rcases hb b o q with h | h
      · exact h.symm
      · rw [e] at h; cases h
  | some k =>
    show (if b = k then none else H' b) = H b
    by_cases hbk : b = k
    · subst hbk; rw [if_pos rfl, hf b e]
    · rw [if_neg hbk]
      cases q : H' b with
      | none => cases q2 : H b with
        | none => rfl
        | some o => rw [hle _ _ q2] at q; cases q
      | some o =>
        rcases hb b o q with h | h
        · exact h.symm
        · rw [e] at h; cases h; exact (hbk rfl).elim
theorem wi64 {k : Int} (h : -9223372036854775808 ≤ k ∧ k ≤ 9223372036854775807) : IntKind.i64.wrap k = k := IntWalk.i64_in _ (by omega)
theorem wu64 {k : Int} (h : 0 ≤ k ∧ k ≤ 18446744073709551615) : IntKind.u64.wrap k = k := IntWalk.u64_in _ (by omega)
theorem wu32 {k : Int} (h : 0 ≤ k ∧ k ≤ 4294967295) : IntKind.u32.wrap k = k := IntWalk.u32_in _ (by omega)
theorem shr32 {a : Nat} : shrI .u64 (a : Int) 32 = ((a / 4294967296 : Nat) : Int) := by
  show ((a : Int).fdiv (2 ^ 32)) = _
  rw [Int.fdiv_eq_ediv_of_nonneg _ (by decide)]
  rfl
theorem mask32 {a : Nat} (h : a < 18446744073709551616) : bitOp .and .u64 (a : Int) 4294967295 = ((a % 4294967296 : Nat) : Int) := by
  have e : (BitVec.ofInt 64 (a : Int) &&& BitVec.ofInt 64 4294967295).toNat = a % 4294967296 := by
    rw [BitVec.toNat_and, BitVec.toNat_ofInt, BitVec.toNat_ofInt]
    have e1 : ((a : Int) % ((2 ^ 64 : Nat) : Int)).toNat = a := by omega
    have e2 : ((4294967295 : Int) % ((2 ^ 64 : Nat) : Int)).toNat = 2 ^ 32 - 1 := by decide
    rw [e1, e2, Nat.and_two_pow_sub_one_eq_mod]
  show IntKind.u64.wrap ((BitVec.ofInt 64 (a : Int) &&& BitVec.ofInt 64 4294967295).toNat : Int) = _
  rw [e]
  exact wu64 (by omega)
theorem wN {a : Nat} (ha : a < 18446744073709551616) : IntKind.u64.wrap (a : Int) = (a : Int) := wu64 (by omega)
theorem wM {a : Nat} : IntKind.u64.wrap (a : Int) = ((a % 18446744073709551616 : Nat) : Int) := by rw [IntKind.wrap_u64]; omega
theorem mulN (a b : Nat) : (a : Int) * (b : Int) = ((a * b : Nat) : Int) := (Int.natCast_mul a b).symm
theorem addN (a b : Nat) : (a : Int) + (b : Int) = ((a + b : Nat) : Int) := (Int.natCast_add a b).symm
/-- -1, 0, 1. -/
def sgn3 (x y : Int) : Int := if x < y then -1 else if x > y then 1 else 0
/-- The first that is not 0. -/
def orL : List Int → Int
  | [] => 0
  | x :: r => if x ≠ 0 then x else orL r
abbrev dV (a b : Int) : Value := .agg { toList := [.int .u64 a, .int .u64 b] }
section
variable {H : Heap} {R : Ending → Heap → Prop}
theorem s_nanu {x : Int} (k : R (.returned (.bool false)) H) : Meets prog 100 [.int .u64 x] H R := by
  refine spec_of func100 (by kernel_rfl) (fun t h => by cases h) ?_ (vc_nanu x R H) ?_
  · simp [argsR, SV.rep, SC.rep, one]
  unfold nf_nanu
  rw [bne_self_eq_false]
  exact k
theorem s_nani {x : Int} (k : R (.returned (.bool false)) H) : Meets prog 151 [.int .i64 x] H R := by
  refine spec_of func151 (by kernel_rfl) (fun t h => by cases h) ?_ (vc_nani x R H) ?_
  · simp [argsR, SV.rep, SC.rep, one]
  unfold nf_nani
  rw [bne_self_eq_false]
  exact k
theorem sgn3_br {x y : Int} {Q : Int → Prop} (k : Q (sgn3 x y)) : Br (decide (x < y)) (Q (-1)) (Br (decide (x > y)) (Q 1) (Q 0)) := by
  unfold sgn3 at k
  refine br (fun q => ?_) fun q => br (fun q2 => ?_) fun q2 => ?_
  · rw [if_pos (by simpa using q)] at k; exact k
  · rw [if_neg (by simpa using q), if_pos (by simpa using q2)] at k; exact k
  · rw [if_neg (by simpa using q), if_neg (by simpa using q2)] at k; exact k
theorem s_cmpu {x y : Int} (k : R (.returned (vi (sgn3 x y))) H) : Meets prog 62 [.int .u64 x, .int .u64 y] H R := by
  refine spec_of func62 (by kernel_rfl) (fun t h => by cases h) ?_ (vc_cmpu x y R H) ?_
  · simp [argsR, SV.rep, SC.rep, one]
  unfold nf_cmpu
  refine s_nanu ⟨false, rfl, s_nanu ⟨false, rfl, br (fun q => by cases q) fun _ => br (fun q => by cases q) fun _ => ?_⟩⟩
  exact sgn3_br (Q := fun n => R (.returned (vi n)) H) k
theorem s_cmpi {x y : Int} (k : R (.returned (vi (sgn3 x y))) H) : Meets prog 127 [vi x, vi y] H R := by
  refine spec_of func127 (by kernel_rfl) (fun t h => by cases h) ?_ (vc_cmpi x y R H) ?_
  · simp [argsR, SV.rep, SC.rep, one]
  unfold nf_cmpi
  refine s_nani ⟨false, rfl, s_nani ⟨false, rfl, br (fun q => by cases q) fun _ => br (fun q => by cases q) fun _ => ?_⟩⟩
  exact sgn3_br (Q := fun n => R (.returned (vi n)) H) k
@[reducible] def cells (l : List Int) : List (List Value) := l.map fun x => [vi x]
theorem drop_cons {α : Type} {l : List α} {k : Nat} (h : k < l.length) : ∃ x, l.drop k = x :: l.drop (k + 1) ∧ l.take (k + 1) = l.take k ++ [x] ∧ l[k]? = some x := by
  refine ⟨l[k], by rw [List.drop_eq_getElem_cons h], by rw [List.take_add_one, List.getElem?_eq_getElem h]; rfl, List.getElem?_eq_getElem h⟩
theorem ir_get {H : Heap} {a : Option Addr} {n cp : Nat} {l : List Int} (h : SliceAt H (.slice a n cp) 1 (cells l)) {i : Nat} {x : Int} (hx : l[i]? = some x) : ∃ A, a = some A ∧ H.has (A.add (i * 1)) [vi x] := by
  obtain ⟨A, e, _, g⟩ := slice_get h (i := i) (e := [vi x]) (by simp [cells, hx])
  exact ⟨A, e, g⟩
theorem s_cor {v : Value} {l : List Int} (h : SliceAt H v 1 (cells l)) (hl : l.length ≤ 10000000000000) (k : R (.returned (vi (orL l))) H) : Meets prog 61 [v] H R := by
  obtain ⟨a, n, c, e, hn⟩ := h
  subst e
  have h : SliceAt H (.slice a n c) 1 (cells l) := ⟨a, n, c, rfl, hn⟩
  have hln : l.length = n := by simpa [cells] using hn.1
  refine spec_of func61 (by kernel_rfl) (fun t h => by cases h) ?_ (vc_cor a n c R H) ?_
  · simp [argsR, SV.rep, SC.rep, one]
  unfold nf_cor
  simp only [true_and]
  refine ⟨fun p H' => ∃ t : Nat, p.1.1 = (t : Int) ∧ t ≤ n ∧ orL l = orL (l.drop t) ∧ H' = H, fun p _ => (n - p.1.1).toNat, ⟨0, rfl, by omega, by simp, rfl⟩, ?_⟩
  rintro ⟨⟨i, _⟩, _⟩ H1 ⟨t, hi, ht, f, rfl⟩
  simp only at hi ⊢
  subst hi
  refine br (fun q1 => ?_) fun q1 => ?_
  · simp only [decide_eq_true_eq] at q1
    obtain ⟨y, hd, htk, hx⟩ := drop_cons (l := l) (k := t) (by omega)
    obtain ⟨A, e, g1⟩ := ir_get h (i := t) hx
    subst e
    refine ⟨⟨by omega, by omega⟩, ptr rfl (ptr rfl ⟨_, g1, br (fun q2 => ?_) fun q2 => ?_⟩)⟩
    · rw [f, hd, orL, if_pos (by simpa using q2)] at k
      exact k
    · rw [wi64 (by omega)]
      refine ⟨⟨t + 1, by omega, by omega, ?_, by trivial⟩, by omega⟩
      rw [f, hd, orL, if_neg (by simpa using q2)]
  · simp only [decide_eq_false_iff_not] at q1
    rw [f, List.drop_of_length_le (by omega)] at k
    exact k
def cmpD (a b c d : Int) : Int := orL [sgn3 a c, sgn3 b d]
theorem s_wcmp {a b c d : Int} (k : R (.returned (vi (cmpD a b c d))) H) : Meets prog 25 [dV a b, dV c d] H R := by
  refine spec_of func25 (by kernel_rfl) (fun t h => by cases h) ?_ (vc_wcmp a b c d R H) ?_
  · simp [argsR, SV.rep, SC.rep, one, SegsRep]
  unfold nf_wcmp
  refine ⟨H, fun _ _ e => e, s_cmpu ⟨keep_same _ _ _, _, rfl, s_cmpu ⟨keep_same _ _ _, _, rfl, fun v H' hle hf hb hrow => ?_⟩⟩⟩
  simp only [delLs_nil] at hle hf hb ⊢
  refine s_cor (l := [sgn3 a c, sgn3 b d]) (row_slice hrow) (by simp) ⟨keep_same _ _ _, _, rfl, ?_⟩
  show R _ (Heap.delO H' (blockOf v))
  rw [lend_off hle hf hb]
  exact k
theorem maxI_eq (a b : Int) : maxI a b = max a b := by unfold maxI; split <;> omega
theorem minI_eq (a b : Int) : minI a b = min a b := by unfold minI; split <;> omega
abbrev U32 (x : Int) : Prop := 0 ≤ x ∧ x ≤ 4294967295
def gapI (a b : Int) : Int := max a b - min a b
theorem gap_in {a b : Int} (ha : U32 a) (hb : U32 b) : U32 (gapI a b) := by unfold gapI; omega
theorem s_wgap {a b : Int} (ha : U32 a) (hb : U32 b) (k : R (.returned (.int .u32 (gapI a b))) H) : Meets prog 123 [.int .u32 a, .int .u32 b] H R := by
  refine spec_of func123 (by kernel_rfl) (fun t h => by cases h) ?_ (vc_wgap a b R H) ?_
  · simp [argsR, SV.rep, SC.rep, one]
  unfold nf_wgap
  have := gap_in ha hb; unfold gapI at this k
  rw [maxI_eq, minI_eq, wu32 this]
  exact k
theorem s_mul64 {a b : Nat} (ha : a < 18446744073709551616) (hb : b < 18446744073709551616) (k : R (.returned (.tuple #[.int .u64 ((a * b / 18446744073709551616 : Nat) : Int), .int .u64 ((a * b % 18446744073709551616 : Nat) : Int)])) H) :
    Meets prog 69 [.int .u64 (a : Int), .int .u64 (b : Int)] H R := by
  refine spec_of func69 (by kernel_rfl) (fun t h => by cases h) ?_ (vc_mul64 (a : Int) (b : Int) R H) ?_
  · simp [argsR, SV.rep, SC.rep, one]
  unfold nf_mul64
  obtain ⟨bd, bt, bw, hhi⟩ := Go.Lib.mul64_hi a b ha hb
  have ba := Go.Lib.half_mul_le (a := a / 4294967296) (b := b / 4294967296) (by omega) (by omega)
  have bb := Go.Lib.half_mul_le (a := a / 4294967296) (b := b % 4294967296) (by omega) (by omega)
  have bc := Go.Lib.half_mul_le (a := a % 4294967296) (b := b / 4294967296) (by omega) (by omega)
  have ba' : a / 4294967296 * (b / 4294967296) < 18446744073709551616 := by omega
  have bb' : a / 4294967296 * (b % 4294967296) < 18446744073709551616 := by omega
  have bc' : a % 4294967296 * (b / 4294967296) < 18446744073709551616 := by omega
  have bh1 : a / 4294967296 * (b / 4294967296) + (a / 4294967296 * (b % 4294967296) + a % 4294967296 * (b % 4294967296) / 4294967296) / 4294967296 < 18446744073709551616 := by omega
  have bh : a / 4294967296 * (b / 4294967296) + (a / 4294967296 * (b % 4294967296) + a % 4294967296 * (b % 4294967296) / 4294967296) / 4294967296 + ((a / 4294967296 * (b % 4294967296) + a % 4294967296 * (b % 4294967296) / 4294967296) % 4294967296 + a % 4294967296 * (b / 4294967296)) / 4294967296 < 18446744073709551616 := by omega
  refine ⟨by decide, by decide, by decide, by decide, by decide, ?_⟩
  simp only [mask32 ha, mask32 hb, shr32, mulN, addN, wN bd, wN bb', wN bt, mask32 bt, wN bc', wN bw, wN ba', wN bh1, wN bh, wM (a := a * b)]
  rw [hhi]
  exact k
theorem s_wsq {a : Int} (ha : U32 a) (k : R (.returned (dV 0 (a * a))) H) : Meets prog 122 [.int .u32 a] H R := by
  refine spec_of func122 (by kernel_rfl) (fun t h => by cases h) ?_ (vc_wsq a R H) ?_
  · simp [argsR, SV.rep, SC.rep, one]
  unfold nf_wsq
  obtain ⟨n, rfl⟩ := Int.eq_ofNat_of_zero_le ha.1
  have hn : n ≤ 4294967295 := by omega
  rw [wN (by omega)]
  have hm : n * n ≤ 4294967295 * 4294967295 := Nat.mul_le_mul hn hn
  refine s_mul64 (by omega) (by omega) ⟨_, _, rfl, ?_⟩
  rw [Nat.div_eq_of_lt (by omega), Nat.mod_eq_of_lt (by omega), ← mulN]
  exact k
theorem extAdd : ExtOK prog 71 add64Entry := ⟨f71, func71, by kernel_rfl, by kernel_rfl, by kernel_rfl, by kernel_rfl⟩
theorem s_wadd {a b c d : Int} (ha : 0 ≤ a) (hb : 0 ≤ b) (hc : 0 ≤ c) (hd : 0 ≤ d) (hb2 : b ≤ 18446744073709551615) (hd2 : d ≤ 18446744073709551615)
    (k : R (.returned (dV ((a + c + (b + d) / 18446744073709551616) % 18446744073709551616) ((b + d) % 18446744073709551616))) H) : Meets prog 148 [dV a b, dV c d] H R := by
  refine spec_of func148 (by kernel_rfl) (fun t h => by cases h) ?_ (vc_wadd a b c d R H) ?_
  · simp [argsR, SV.rep, SC.rep, one, SegsRep]
  unfold nf_wadd
  have e : b + d + 0 = b + d := by omega
  refine ⟨_, _, .inl ⟨extAdd, hb, hd, by decide, by decide, rfl, rfl⟩, ?_⟩
  rw [e]
  exact ⟨_, _, .inl ⟨extAdd, ha, hc, by omega, by omega, rfl, rfl⟩, k⟩
/-- A distance. -/
abbrev dOf (n : Int) : Value := dV (n / 18446744073709551616) (n % 18446744073709551616)
@[reducible] def dC (n : Int) : List Value := [.int .u64 (n / 18446744073709551616), .int .u64 (n % 18446744073709551616)]
theorem wadd_of {m n : Int} (hm : 0 ≤ m) (hn : 0 ≤ n) (hs : m + n < 340282366920938463463374607431768211456) (k : R (.returned (dOf (m + n))) H) : Meets prog 148 [dOf m, dOf n] H R := by
  refine s_wadd (by omega) (by omega) (by omega) (by omega) (by omega) (by omega) ?_
  have e1 : (m % 18446744073709551616 + n % 18446744073709551616) % 18446744073709551616 = (m + n) % 18446744073709551616 := by omega
  have e2 : (m / 18446744073709551616 + n / 18446744073709551616 + (m % 18446744073709551616 + n % 18446744073709551616) / 18446744073709551616) % 18446744073709551616 = (m + n) / 18446744073709551616 := by omega
  rw [e1, e2]
  exact k
theorem s_wsum {v : Value} {m n : Int} (h : SliceAt H v 2 [dC m, dC n]) (hm : 0 ≤ m ∧ m < 18446744073709551616) (hn : 0 ≤ n ∧ n < 18446744073709551616) (k : R (.returned (dOf (m + n))) H) : Meets prog 121 [v] H R := by
  obtain ⟨a, w, c, e, hn'⟩ := h
  subst e
  have h : SliceAt H (.slice a w c) 2 [dC m, dC n] := ⟨a, w, c, rfl, hn'⟩
  obtain rfl : 2 = w := by simpa using hn'.1
  refine spec_of func121 (by kernel_rfl) (fun t h => by cases h) ?_ (vc_wsum a 2 c R H) ?_
  · simp [argsR, SV.rep, SC.rep, one]
  unfold nf_wsum
  simp only [true_and]
  refine ⟨fun p H' => H' = H ∧ ((p.1.1 = 0 ∧ p.2.2.1.1 = 0 ∧ p.2.2.1.2.1 = 0) ∨ (p.1.1 = 1 ∧ p.2.2.1.1 = m / 18446744073709551616 ∧ p.2.2.1.2.1 = m % 18446744073709551616) ∨ (p.1.1 = 2 ∧ p.2.2.1.1 = (m + n) / 18446744073709551616 ∧ p.2.2.1.2.1 = (m + n) % 18446744073709551616)), fun p _ => (2 - p.1.1).toNat, ⟨rfl, .inl ⟨rfl, rfl, rfl⟩⟩, ?_⟩
  rintro ⟨⟨i, _⟩, _, ⟨x, y, _⟩, _⟩ H1 ⟨rfl, hq⟩
  simp only at hq ⊢
  rcases hq with ⟨rfl, rfl, rfl⟩ | ⟨rfl, rfl, rfl⟩ | ⟨rfl, rfl, rfl⟩
  · refine br (fun _ => ?_) fun q => by simp at q
    obtain ⟨A, e, _, g⟩ := slice_get h (i := 0) (e := dC m) rfl
    subst e
    refine ⟨by decide, ptr rfl (ptr rfl ⟨_, _, g, ?_⟩)⟩
    refine wadd_of (m := 0) (n := m) (by omega) (by omega) (by omega) ?_
    rw [Int.zero_add]
    refine ⟨_, _, rfl, ?_⟩
    exact ⟨⟨rfl, .inr (.inl ⟨rfl, rfl, rfl⟩)⟩, by decide⟩
  · refine br (fun _ => ?_) fun q => by simp at q
    obtain ⟨A, e, _, g⟩ := slice_get h (i := 1) (e := dC n) rfl
    subst e
    refine ⟨by decide, ptr rfl (ptr rfl ⟨_, _, g, ?_⟩)⟩
    refine wadd_of (m := m) (n := n) (by omega) (by omega) (by omega) ⟨_, _, rfl, ?_⟩
    exact ⟨⟨rfl, .inr (.inr ⟨rfl, rfl, rfl⟩)⟩, by decide⟩
  · exact br (fun q => by simp at q) fun _ => k
/-- The squared distance. -/
def sqd (a b c d : Int) : Int := gapI a c * gapI a c + gapI b d * gapI b d
theorem sq_in {a : Int} (h : U32 a) : 0 ≤ a * a ∧ a * a ≤ 18446744065119617025 :=
  ⟨Int.mul_nonneg h.1 h.1, by have := Int.mul_le_mul h.2 h.2 h.1 (by decide); exact this⟩
theorem s_wbet {a b c d : Int} (ha : U32 a) (hb : U32 b) (hc : U32 c) (hd : U32 d) (k : R (.returned (dOf (sqd a b c d))) H) : Meets prog 81 [.int .u32 a, .int .u32 b, .int .u32 c, .int .u32 d] H R := by
  refine spec_of func81 (by kernel_rfl) (fun t h => by cases h) ?_ (vc_wbet a b c d R H) ?_
  · simp [argsR, SV.rep, SC.rep, one]
  unfold nf_wbet
  have h1 := sq_in (gap_in ha hc)
  have h2 := sq_in (gap_in hb hd)
  refine s_wgap ha hc ⟨_, rfl, s_wsq (gap_in ha hc) ⟨_, _, rfl, s_wgap hb hd ⟨_, rfl, s_wsq (gap_in hb hd) ⟨_, _, rfl, fun v H' hle hf hb' hrow => ?_⟩⟩⟩⟩
  have e1 : dC (gapI a c * gapI a c) = [.int .u64 0, .int .u64 (gapI a c * gapI a c)] := by
    unfold dC; rw [Int.ediv_eq_zero_of_lt h1.1 (by omega), Int.emod_eq_of_lt h1.1 (by omega)]
  have e2 : dC (gapI b d * gapI b d) = [.int .u64 0, .int .u64 (gapI b d * gapI b d)] := by
    unfold dC; rw [Int.ediv_eq_zero_of_lt h2.1 (by omega), Int.emod_eq_of_lt h2.1 (by omega)]
  rw [← e1, ← e2] at hrow
  refine s_wsum (row_slice hrow) ⟨h1.1, by omega⟩ ⟨h2.1, by omega⟩ ⟨_, _, rfl, _, hrow, ?_⟩
  rw [lend_off hle hf hb']
  exact k
end
end Cr

set_option linter.unusedVariables false
set_option linter.unusedSimpArgs false
namespace Sx
open Go Go.Proofs Go.Shelf Go.RowKit Go.Lib Go.Sort
/-- A row's block holds other cells: what is known then. -/
theorem put_row {β : Type} [Inhabited β] {H : Heap} {w : World} {b o cap ty sz : Nat} {c : Array Value} {es es' : List (List Value)} (hs : H.sub w)
    (hb : H b = some (.cells c ty (0, 0))) (hcap : es.length ≤ cap) (hsz : o + cap * sz ≤ c.size)
    (e : β → Value) (d : Array β) (rest : List Value) (hd : d.toList.map e = es'.flatten ++ rest) (hlen : es'.length ≤ es.length) (hds : d.size = es.length * sz)
    (h1 : ∀ x ∈ es', x.length = sz) (h2 : ∀ x ∈ es', ∀ y ∈ x, one y = true) (m : Nat) (os : Array Obj) :
    ∃ H', Step H w H' (grow (putRow e (Sort.ahead w m) b o d) os) ∧ RowAt H' (.slice (some ⟨b, o, none⟩) es'.length cap) ty sz es' ∧ Mod (.slice (some ⟨b, o, none⟩) es'.length cap) H H' := by
  have hwb := hs b _ hb
  have hlt : b < w.heap.size := (Array.getElem?_eq_some_iff.1 hwb).1
  have hm2 : es.length * sz ≤ cap * sz := Nat.mul_le_mul_right _ hcap
  have hc' : (putCells e o d c).size = c.size := by simp [putCells]
  have hheap : (grow (putRow e (Sort.ahead w m) b o d) os).heap = (w.heap.modify b (onCells (putCells e o d))) ++ os := rfl
  have hat : ∀ b', b' < w.heap.size → (grow (putRow e (Sort.ahead w m) b o d) os).heap[b']? = if b = b' then some (.cells (putCells e o d c) ty (0, 0)) else w.heap[b']? := by
    intro b' hb'
    rw [hheap, Array.getElem?_append_left (by simpa using hb'), Array.getElem?_modify]
    by_cases q : b = b'
    · subst q
      rw [if_pos rfl, if_pos rfl, hwb]
      rfl
    · rw [if_neg q, if_neg q]
  refine ⟨H.upd b (.cells (putCells e o d c) ty (0, 0)), ⟨?_, rfl, ⟨rfl, Nat.le_add_right _ _⟩, rfl, ?_, ?_, ?_⟩, .inr ⟨b, o, cap, putCells e o d c, rfl, upd_same _ _ _, by omega, by rw [hc']; exact hsz, h1, ?_, h2⟩, ?_⟩
  · intro b' ob hb'
    by_cases q : b' = b
    · subst q
      rw [upd_same] at hb'
      rw [hat _ hlt, if_pos rfl]
      exact hb'
    · rw [upd_ne _ _ q] at hb'
      have := hs b' ob hb'
      rw [hat b' (Array.getElem?_eq_some_iff.1 this).1, if_neg (Ne.symm q)]
      exact this
  · rw [hheap]; simp
  · intro b' hb' e'
    rw [hat b' hb', if_neg (by rintro rfl; rw [hb] at e'; cases e')]
  · intro b' hb' e'
    rw [upd_ne _ _ (by rintro rfl; rw [hb] at e'; cases e')]
    exact e'
  · have hfl : es'.flatten.length = es'.length * sz := by
      have : ∀ (l : List (List Value)), (∀ x ∈ l, x.length = sz) → l.flatten.length = l.length * sz := by
        intro l
        induction l with
        | nil => intro _; simp
        | cons x r ih =>
          intro h
          rw [List.flatten_cons, List.length_append, ih fun y hy => h y (List.mem_cons_of_mem _ hy), h x List.mem_cons_self, List.length_cons, Nat.add_mul, Nat.one_mul, Nat.add_comm]
      exact this es' h1
    have hml : es'.length * sz ≤ es.length * sz := Nat.mul_le_mul_right _ hlen
    refine List.ext_getElem? fun j => ?_
    by_cases hj : j < es'.length * sz
    · rw [List.getElem?_take_of_lt hj, List.getElem?_drop, Array.getElem?_toList]
      have hjc : o + j < c.size := by omega
      have e1 : (putCells e o d c)[o + j]? = some (e d[j]!) := by
        unfold putCells
        rw [Array.getElem?_mapIdx, Array.getElem?_eq_getElem hjc]
        simp only [Option.map_some]
        rw [if_pos ⟨by omega, by omega⟩]
        congr 3
        omega
      rw [e1]
      have hjd : j < d.size := by omega
      have e2 : (d.toList.map e)[j]? = some (e d[j]!) := by
        rw [List.getElem?_map, Array.getElem?_toList, Array.getElem?_eq_getElem hjd, getElem!_pos d j hjd]
        rfl
      rw [hd, List.getElem?_append_left (by omega)] at e2
      exact e2.symm
    · rw [List.getElem?_eq_none (by rw [List.length_take]; omega), List.getElem?_eq_none (by omega)]
  · intro b' hb'
    simp [blockOf] at hb'
    exact upd_ne _ _ (fun e => hb' e.symm)
theorem mod_off {v : Value} {A B : Heap} (h : Mod v A B) : B.delO (blockOf v) = A.delO (blockOf v) := by
  funext b
  cases e : blockOf v with
  | none => exact h b (by rw [e]; simp)
  | some k =>
    show (if b = k then none else B b) = (if b = k then none else A b)
    by_cases q : b = k
    · rw [if_pos q, if_pos q]
    · rw [if_neg q, if_neg q]; exact h b (by rw [e]; simpa using fun e => q e.symm)
section
variable {P : Program} {ρ : Ren} {α : Type} [Inhabited α]
/-- A comparing function over structs. -/
def CmpM (P : Program) (g : Nat) (enc : α → List Value) (cf : α → α → Int) : Prop :=
  ∀ (x y : α) (H : Heap) (R : Ending → Heap → Prop), R (.returned (.int .i64 (cf x y))) H → Meets P g [.agg (enc x).toArray, .agg (enc y).toArray] H R
theorem grow_of {w w' : World} (st : Step (full w) w (full w) w') : ∃ q os, w' = grow (w.drewN q) os := by
  refine ⟨w'.drawn - w.drawn, w'.heap.extract w.heap.size w'.heap.size, ?_⟩
  have e1 : w'.heap = w.heap ++ w'.heap.extract w.heap.size w'.heap.size := by
    apply Array.ext_getElem?
    intro i
    by_cases hi : i < w.heap.size
    · rw [Array.getElem?_append_left hi]
      have : full w i = some w.heap[i] := Array.getElem?_eq_getElem hi
      rw [st.sub i _ this, Array.getElem?_eq_getElem hi]
    · rw [Array.getElem?_append_right (by omega), Array.getElem?_extract]
      have := st.size
      split
      · congr 1; omega
      · rw [Array.getElem?_eq_none (by omega)]
  have e2 := st.tape.dr
  cases w; cases w'
  have h1 := st.os; have h2 := st.tape.eq; have h3 := st.output
  simp only at h1 h2 h3 e1 e2
  subst h1 h2 h3
  simp only [grow, World.drewN]
  congr 1
  omega
theorem cmpLays {g : Nat} {enc : α → List Value} {cf : α → α → Int} (hc : CmpM P g enc cf) (k blk off size : Nat) (w : World) : CmpLays P g #[] enc k cf blk off size w := by
  intro m os dk hs x y
  have h := (hc x y (full (sortWorldK enc k w blk off m dk os)) (fun e H' => e = .returned (.int .i64 (cf x y)) ∧ H' = full (sortWorldK enc k w blk off m dk os)) ⟨rfl, rfl⟩).2 _ (fun b o e => e)
  refine h.mono ?_
  rintro e w' ⟨H', st, rfl, rfl⟩
  exact ⟨rfl, grow_of st⟩
theorem flatK_list {enc : α → List Value} {k : Nat} (hk : ∀ x, (enc x).length = k) (d : Array α) : (flatK enc k d).toList.map id = (d.toList.map enc).flatten ++ [] := by
  rw [List.map_id, List.append_nil]
  have hfl : ∀ l : List α, (l.map enc).flatten.length = l.length * k := by
    intro l
    induction l with
    | nil => simp
    | cons x r ih => rw [List.map_cons, List.flatten_cons, List.length_append, ih, hk, List.length_cons, Nat.add_mul, Nat.one_mul, Nat.add_comm]
  refine List.ext_getElem? fun j => ?_
  by_cases hj : j < d.size * k
  · have hk0 : 0 < k := by cases k with | zero => simp at hj | succ n => omega
    have e0 := get_flatK enc k d j hj
    have hs : j < (flatK enc k d).size := by simpa using hj
    rw [Array.getElem?_toList, Array.getElem?_eq_getElem hs, ← getElem!_pos _ j hs, e0]
    have hq : j / k < d.size := (Nat.div_lt_iff_lt_mul hk0).2 hj
    have hes : ∀ e ∈ d.toList.map enc, e.length = k := by intro e he; simp at he; obtain ⟨x, _, rfl⟩ := he; exact hk x
    have he : (d.toList.map enc)[j / k]? = some (enc d[j / k]!) := by
      rw [List.getElem?_map, Array.getElem?_toList, Array.getElem?_eq_getElem hq, getElem!_pos d _ hq]; rfl
    have := flatten_get hes he (q := j % k) (Nat.mod_lt _ hk0)
    rw [Nat.div_add_mod' j k] at this
    rw [this, List.getElem!_eq_getElem?_getD, List.getElem?_eq_getElem (by rw [hk]; exact Nat.mod_lt _ hk0)]
    rfl
  · rw [List.getElem?_eq_none (by simpa using hj), List.getElem?_eq_none (by rw [hfl]; simpa using hj)]
theorem holds_row {H : Heap} {w : World} {b o cap ty sz : Nat} {c : Array Value} {es : List (List Value)} {β : Type} [Inhabited β] (hs : H.sub w)
    (hb : H b = some (.cells c ty (0, 0))) (hcap : es.length ≤ cap) (hsz : o + cap * sz ≤ c.size) (hes : ∀ x ∈ es, x.length = sz) (hfl : (c.toList.drop o).take (es.length * sz) = es.flatten)
    (e : β → Value) (d : Array β) (hd : d.toList.map e = es.flatten) (hds : d.size = es.length * sz) : Holds e w b o d := by
  intro j hj
  have hwb := hs b _ hb
  have hm2 : es.length * sz ≤ cap * sz := Nat.mul_le_mul_right _ hcap
  refine ⟨?_, ?_⟩
  · unfold World.cell?
    rw [show (⟨b, o + j, none⟩ : Addr).block = b from rfl, hwb]
    show (if (none : Option _).isSome then none else c[o + j]?) = _
    rw [if_neg (by simp)]
    have e1 : (es.flatten)[j]? = c[o + j]? := by
      rw [← hfl, List.getElem?_take_of_lt (by omega), List.getElem?_drop, Array.getElem?_toList]
    rw [← e1, ← hd, List.getElem?_map, Array.getElem?_toList, Array.getElem?_eq_getElem hj, getElem!_pos d j hj]
    rfl
  · unfold World.frozen?
    rw [show (⟨b, o + j, none⟩ : Addr).block = b from rfl, hwb]
    show (decide (0 ≤ o + j) && decide (o + j < 0)) = false
    simp
theorem callable_enters {g : Nat} (h : callable P g = true) : ∀ args w, (callFunc g args).run P w = .ok (.enter g args) w := fun args w => callable_run h args
/-- **slices.SortFunc**: a permutation, sorted. -/
theorem meets_sortFunc (L : SlLaysF0.n6 P ρ) {k : Nat} (aE : ∀ w, (isAgg (ρ.t 24)).run P w = .ok true w) (zE : ∀ w, (Go.sizeOf (ρ.t 24)).run P w = .ok k w) {enc : α → List Value} (hk : ∀ x, (enc x).length = k)
    (h1 : ∀ x, ∀ v ∈ enc x, one v = true) {cf : α → α → Int} (hO : SWO (ltOf cf)) {g : Nat} (hg : callable P g = true) (hsf : callable P (ρ.f 6) = true) (hc : CmpM P g enc cf)
    {H : Heap} {R : Ending → Heap → Prop} {v : Value} {ty : Nat} {l : List α} (h : RowAt H v ty k (l.map enc)) (hl : l.length < 4611686018427387904)
    (K : ∀ (d : List α) (H' : Heap), d.Perm l → d.Pairwise (fun x y => ltOf cf y x = false) → RowAt H' v ty k (d.map enc) → Mod v H H' → R (.returned (.tuple #[])) H') :
    Meets P (ρ.f 6) [v, .func (.func g) #[] #[]] H R := by
  refine ⟨hsf, fun w hw => ?_⟩
  rcases h with ⟨rfl, he⟩ | ⟨b, o, cap, c, rfl, hb, hcap, hsz, hes, hfl, hon⟩
  · have hl0 : l = [] := by cases l with | nil => rfl | cons _ _ => simp at he
    subst hl0
    refine (AnyF.slices_SortFunc_none L none 0 (.func (.func g) #[] #[]) w).mono ?_
    rintro e w' ⟨rfl, rfl⟩
    exact ⟨H, ⟨hw, rfl, Tp.refl _, rfl, Nat.le_refl _, fun _ _ _ => rfl, fun _ _ e => e⟩, K [] H (List.Perm.refl _) List.Pairwise.nil (.inl ⟨rfl, rfl⟩) (Mod.refl _ _)⟩
  · have hH : HoldsK enc k w b o l.toArray := by
      refine holds_row (es := l.map enc) hw hb hcap hsz hes hfl id (flatK enc k l.toArray) ?_ (by simp)
      have := flatK_list hk l.toArray
      rw [this]; simp
    have hblk : b < w.heap.size := (Array.getElem?_eq_some_iff.1 (hw b _ hb)).1
    have hone : ∀ x, ∀ v ∈ enc x, v.oneCell' = true := fun x v hv => by
      have := h1 x v hv
      cases v <;> first | rfl | cases this
    have h := AnyQ.slices_SortFunc L k aE zE enc hk hone cf hO g #[] b o cap l.toArray w (callable_enters hg) (cmpLays hc k b o _ w) hH hblk (by simpa using hl)
    have ea : (#[.slice (some ⟨b, o, none⟩) l.toArray.size cap, .func (.func g) #[] #[]] : Array Value) = [Value.slice (some ⟨b, o, none⟩) (l.map enc).length cap, .func (.func g) #[] #[]].toArray := by simp
    rw [ea] at h
    refine h.mono ?_
    rintro e w' ⟨rfl, d, n, os, hp, hso, rfl⟩
    obtain ⟨hds, _, hperm⟩ := hp
    have e1 : (d.extract 0 l.toArray.size).toList = d.toList := by rw [← hds]; simp
    have e2 : (l.toArray.extract 0 l.toArray.size).toList = l := by simp
    rw [e1, e2] at hperm
    have hdl : d.size = l.length := by simpa using hds
    obtain ⟨H', st, hr, hm⟩ := put_row (es := l.map enc) (es' := d.toList.map enc) hw hb hcap hsz id (flatK enc k d) [] (flatK_list hk d) (by simp [hdl]) (by simp [hdl])
      (by intro x hx; simp at hx; obtain ⟨y, _, rfl⟩ := hx; exact hk y) (by intro x hx y hy; simp at hx; obtain ⟨z, _, rfl⟩ := hx; exact h1 z y hy) n os
    have el : (d.toList.map enc).length = (l.map enc).length := by simp [hdl]
    rw [el] at hr hm
    refine ⟨H', st, K d.toList H' hperm ?_ hr hm⟩
    rw [List.pairwise_iff_getElem]
    intro i j hi hj hij
    have := hso i j (Nat.zero_le _) hij (by simpa [hdl] using hj)
    rw [getElem!_pos d j (by simpa using hj), getElem!_pos d i (by simpa using hi)] at this
    simpa using this
theorem flat_ints {k : IntKind} (l : List Int) : (l.map fun x => [Value.int k x]).flatten = l.map (Value.int k) := by
  induction l with
  | nil => rfl
  | cons x r ih => simp [ih]
/-- **slices.Sort** of numbers. -/
theorem meets_sortInt (L : Lays.n189 P ρ) (hsf : callable P (ρ.f 189) = true) {H : Heap} {R : Ending → Heap → Prop} {v : Value} {ty : Nat} {l : List Int} (h : RowAt H v ty 1 (l.map fun x => [.int .i64 x])) (hl : l.length < 4611686018427387904)
    (K : ∀ H', RowAt H' v ty 1 ((l.mergeSort fun x y => decide (x ≤ y)).map fun x => [.int .i64 x]) → Mod v H H' → R (.returned (.tuple #[])) H') : Meets P (ρ.f 189) [v] H R := by
  refine ⟨hsf, fun w hw => ?_⟩
  rcases h with ⟨rfl, he⟩ | ⟨b, o, cap, c, rfl, hb, hcap, hsz, hes, hfl, hon⟩
  · have hl0 : l = [] := by cases l with | nil => rfl | cons _ _ => simp at he
    subst hl0
    refine (Any.slices_Sort_int_none L none 0 w).mono ?_
    rintro e w' ⟨rfl, rfl⟩
    exact ⟨H, ⟨hw, rfl, Tp.refl _, rfl, Nat.le_refl _, fun _ _ _ => rfl, fun _ _ e => e⟩, K H (.inl ⟨rfl, by simp⟩) (Mod.refl _ _)⟩
  · have hH : Holds (Value.int .i64) w b o l.toArray := holds_row (es := l.map fun x => [.int .i64 x]) hw hb hcap hsz hes hfl _ _ (by rw [flat_ints]) (by simp)
    have hblk : b < w.heap.size := (Array.getElem?_eq_some_iff.1 (hw b _ hb)).1
    have h := Any.slices_Sort_int L b o cap l w hH hblk hl
    have ea : (#[.slice (some ⟨b, o, none⟩) l.length cap] : Array Value) = [Value.slice (some ⟨b, o, none⟩) (l.map fun x => [Value.int .i64 x]).length cap].toArray := by simp
    rw [ea] at h
    refine h.mono ?_
    rintro e w' ⟨rfl, n, os, rfl⟩
    have hdl : (l.mergeSort fun x y => decide (x ≤ y)).length = l.length := List.length_mergeSort _
    obtain ⟨H', st, hr, hm⟩ := put_row (es := l.map fun x => [.int .i64 x]) (es' := (l.mergeSort fun x y => decide (x ≤ y)).map fun x => [.int .i64 x]) hw hb hcap hsz (Value.int .i64) (l.mergeSort fun x y => decide (x ≤ y)).toArray [] (by rw [flat_ints]; simp) (by simp [hdl]) (by simp [hdl])
      (by intro x hx; simp at hx; obtain ⟨y, _, rfl⟩ := hx; rfl) (by intro x hx y hy; simp at hx; obtain ⟨z, _, rfl⟩ := hx; simp at hy; subst hy; rfl) n os
    have el : ((l.mergeSort fun x y => decide (x ≤ y)).map fun x => [Value.int .i64 x]).length = (l.map fun x => [Value.int .i64 x]).length := by simp [hdl]
    rw [el] at hr hm
    exact ⟨H', st, K H' hr hm⟩
theorem compact_len (l : List Int) : (Lib.compact l).length ≤ l.length := by
  unfold Lib.compact compactUpTo
  rw [List.length_map]
  have := List.length_filter_le (fun j => keeps l.toArray j) (List.range l.length)
  simpa using this
/-- **slices.Compact** of numbers: the row gets shorter where it stands. -/
theorem meets_compactInt (L : Lays2.n20 P ρ) (hsf : callable P (ρ.f 20) = true) {H : Heap} {R : Ending → Heap → Prop} {v : Value} {ty : Nat} {l : List Int} (h : RowAt H v ty 1 (l.map fun x => [.int .i64 x])) (hl : l.length ≤ 4611686018427387904)
    (K : ∀ v' H', RowAt H' v' ty 1 ((Lib.compact l).map fun x => [.int .i64 x]) → blockOf v' = blockOf v → Mod v H H' → R (.returned v') H') : Meets P (ρ.f 20) [v] H R := by
  refine ⟨hsf, fun w hw => ?_⟩
  rcases h with ⟨rfl, he⟩ | ⟨b, o, cap, c, rfl, hb, hcap, hsz, hes, hfl, hon⟩
  · have hl0 : l = [] := by cases l with | nil => rfl | cons _ _ => simp at he
    subst hl0
    refine (Any.slices_Compact_int_empty L none 0 w).mono ?_
    rintro e w' ⟨rfl, rfl⟩
    exact ⟨H, ⟨hw, rfl, Tp.refl _, rfl, Nat.le_refl _, fun _ _ _ => rfl, fun _ _ e => e⟩, K _ H (.inl ⟨rfl, by simp [Lib.compact, Lib.compactUpTo]⟩) rfl (Mod.refl _ _)⟩
  · have hH : Holds (Value.int .i64) w b o l.toArray := holds_row (es := l.map fun x => [.int .i64 x]) hw hb hcap hsz hes hfl _ _ (by rw [flat_ints]) (by simp)
    have hblk : b < w.heap.size := (Array.getElem?_eq_some_iff.1 (hw b _ hb)).1
    have h := Any.slices_Compact_int L b o cap l w hH (by omega) (by simpa using hcap)
    have ea : (#[.slice (some ⟨b, o, none⟩) l.length cap] : Array Value) = [Value.slice (some ⟨b, o, none⟩) (l.map fun x => [Value.int .i64 x]).length cap].toArray := by simp
    rw [ea] at h
    refine h.mono ?_
    rintro e w' ⟨rfl, n, rfl⟩
    have hcl : (Lib.compact l).length ≤ l.length := compact_len l
    obtain ⟨H', st, hr, hm⟩ := put_row (es := l.map fun x => [.int .i64 x]) (es' := (Lib.compact l).map fun x => [.int .i64 x]) hw hb hcap hsz (Value.int .i64) (Lib.compact l ++ List.replicate (l.length - (Lib.compact l).length) 0).toArray
      ((List.replicate (l.length - (Lib.compact l).length) 0).map (Value.int .i64)) (by rw [flat_ints]; simp) (by simpa using hcl) (by simp; omega)
      (by intro x hx; simp at hx; obtain ⟨y, _, rfl⟩ := hx; rfl) (by intro x hx y hy; simp at hx; obtain ⟨z, _, rfl⟩ := hx; simp at hy; subst hy; rfl) n #[]
    have el : ((Lib.compact l).map fun x => [Value.int .i64 x]).length = (Lib.compact l).length := by simp
    rw [el] at hr hm
    have eg : ∀ W : World, grow W #[] = W := fun W => by simp [grow]
    rw [eg] at st
    exact ⟨H', st, K _ H' hr rfl hm⟩
end
end Sx

set_option linter.unusedVariables false
set_option linter.unusedSimpArgs false
set_option maxRecDepth 100000
namespace Go.Proofs
def sortRoad_ren : Go.Shelf.Ren := ⟨fun | 6 => 98 | 15 => 136 | 14 => 135 | 28 => 165 | 29 => 166 | 20 => 157 | 21 => 158 | 22 => 159 | 23 => 160 | 24 => 161 | 25 => 162 | 26 => 163 | 27 => 164 | 46 => 200 | 47 => 201 | 48 => 202 | 49 => 203 | 50 => 204 | 57 => 217 | n => n, fun | 22 => 24 | 24 => 31 | 25 => 136 | 3 => 3 | 39 => 145 | 0 => 0 | 53 => 34 | 55 => 27 | 4 => 4 | 46 => 191 | 45 => 190 | 50 => 183 | 5 => 5 | 9 => 9 | 66 => 220 | 70 => 224 | 76 => 232 | 77 => 233 | n => n, fun | n => n⟩
theorem sortRoad : Go.Proofs.SlLaysF0.n6 Try.prog sortRoad_ren := {
  mixed := by kernel_rfl,
  f6 := ⟨Try.f98.name, by decide, Try.func98.trans (congrArg some (by kernel_rfl))⟩,
  f14 := ⟨Try.f135.name, by decide, Try.func135.trans (congrArg some (by kernel_rfl))⟩,
  f15 := Try.func136.trans (congrArg some (by kernel_rfl)),
  f20 := ⟨Try.f157.name, by decide, Try.func157.trans (congrArg some (by kernel_rfl))⟩,
  f21 := ⟨Try.f158.name, by decide, Try.func158.trans (congrArg some (by kernel_rfl))⟩,
  f22 := ⟨Try.f159.name, by decide, Try.func159.trans (congrArg some (by kernel_rfl))⟩,
  f23 := ⟨Try.f160.name, by decide, Try.func160.trans (congrArg some (by kernel_rfl))⟩,
  f24 := ⟨Try.f161.name, by decide, Try.func161.trans (congrArg some (by kernel_rfl))⟩,
  f25 := ⟨Try.f162.name, by decide, Try.func162.trans (congrArg some (by kernel_rfl))⟩,
  f26 := ⟨Try.f163.name, by decide, Try.func163.trans (congrArg some (by kernel_rfl))⟩,
  f27 := ⟨Try.f164.name, by decide, Try.func164.trans (congrArg some (by kernel_rfl))⟩,
  f28 := Try.func165.trans (congrArg some (by kernel_rfl)),
  f29 := Try.func166.trans (congrArg some (by kernel_rfl)),
  f46 := ⟨Try.f200.name, by decide, Try.func200.trans (congrArg some (by kernel_rfl))⟩,
  f47 := Try.func201.trans (congrArg some (by kernel_rfl)),
  f48 := Try.func202.trans (congrArg some (by kernel_rfl)),
  f49 := ⟨Try.f203.name, by decide, Try.func203.trans (congrArg some (by kernel_rfl))⟩,
  f50 := ⟨Try.f204.name, by decide, Try.func204.trans (congrArg some (by kernel_rfl))⟩,
  f57 := ⟨Try.f217.name, by decide, Try.func217.trans (congrArg some (by kernel_rfl))⟩,
  t0 := Try.underlying0,
  a0 := Try.isAgg0,
  z0 := Try.sizeOf0,
  v0 := Try.zeroValue0,
  t3 := Try.underlying3,
  a3 := Try.isAgg3,
  z3 := Try.sizeOf3,
  v3 := Try.zeroValue3,
  t4 := Try.underlying4,
  a4 := Try.isAgg4,
  z4 := Try.sizeOf4,
  v4 := Try.zeroValue4,
  t5 := Try.underlying5,
  a5 := Try.isAgg5,
  z5 := Try.sizeOf5,
  v5 := Try.zeroValue5,
  t9 := Try.underlying9,
  a9 := Try.isAgg9,
  z9 := Try.sizeOf9,
  v9 := Try.zeroValue9,
  t22 := Try.underlying24,
  a22 := Try.isAgg24,
  z22 := Try.sizeOf24,
  v22 := Try.zeroValue24,
  t25 := Try.underlying136,
  a25 := Try.isAgg136,
  z25 := Try.sizeOf136,
  v25 := Try.zeroValue136,
  t39 := Try.underlying145,
  a39 := Try.isAgg145,
  z39 := Try.sizeOf145,
  v39 := Try.zeroValue145,
  t45 := Try.underlying190,
  a45 := Try.isAgg190,
  z45 := Try.sizeOf190,
  v45 := Try.zeroValue190,
  t46 := Try.underlying191,
  a46 := Try.isAgg191,
  z46 := Try.sizeOf191,
  v46 := Try.zeroValue191,
  t50 := Try.underlying183,
  a50 := Try.isAgg183,
  z50 := Try.sizeOf183,
  v50 := Try.zeroValue183,
  t53 := Try.underlying34,
  a53 := Try.isAgg34,
  z53 := Try.sizeOf34,
  v53 := Try.zeroValue34,
  t55 := Try.underlying27,
  a55 := Try.isAgg27,
  z55 := Try.sizeOf27,
  v55 := Try.zeroValue27,
  t66 := Try.underlying220,
  a66 := Try.isAgg220,
  z66 := Try.sizeOf220,
  v66 := Try.zeroValue220,
  t70 := Try.underlying224,
  a70 := Try.isAgg224,
  z70 := Try.sizeOf224,
  v70 := Try.zeroValue224,
  t76 := Try.underlying232,
  a76 := Try.isAgg232,
  z76 := Try.sizeOf232,
  v76 := Try.zeroValue232,
  t77 := Try.underlying233,
  a77 := Try.isAgg233,
  z77 := Try.sizeOf233,
  v77 := Try.zeroValue233 }

def sortInt_ren : Go.Shelf.Ren := ⟨fun | 189 => 101 | 125 => 136 | 257 => 137 | 128 => 165 | 129 => 166 | 294 => 167 | 295 => 168 | 296 => 169 | 297 => 170 | 298 => 171 | 299 => 172 | 216 => 173 | 300 => 174 | 301 => 175 | 328 => 205 | 329 => 201 | 330 => 202 | 331 => 206 | 332 => 207 | 215 => 151 | 343 => 218 | n => n, fun | 28 => 26 | 3 => 3 | 46 => 145 | 0 => 0 | 51 => 34 | 53 => 27 | 4 => 4 | 183 => 191 | 182 => 190 | 131 => 183 | 5 => 5 | 9 => 9 | 218 => 220 | 222 => 224 | 228 => 232 | 229 => 233 | n => n, fun | n => n⟩
theorem sortInt : Go.Proofs.Lays.n189 Try.prog sortInt_ren := {
  mixed := by kernel_rfl,
  f125 := Try.func136.trans (congrArg some (by kernel_rfl)),
  f128 := Try.func165.trans (congrArg some (by kernel_rfl)),
  f129 := Try.func166.trans (congrArg some (by kernel_rfl)),
  f189 := Try.func101.trans (congrArg some (by kernel_rfl)),
  f215 := Try.func151.trans (congrArg some (by kernel_rfl)),
  f216 := Try.func173.trans (congrArg some (by kernel_rfl)),
  f257 := Try.func137.trans (congrArg some (by kernel_rfl)),
  f294 := Try.func167.trans (congrArg some (by kernel_rfl)),
  f295 := Try.func168.trans (congrArg some (by kernel_rfl)),
  f296 := Try.func169.trans (congrArg some (by kernel_rfl)),
  f297 := Try.func170.trans (congrArg some (by kernel_rfl)),
  f298 := Try.func171.trans (congrArg some (by kernel_rfl)),
  f299 := Try.func172.trans (congrArg some (by kernel_rfl)),
  f300 := Try.func174.trans (congrArg some (by kernel_rfl)),
  f301 := Try.func175.trans (congrArg some (by kernel_rfl)),
  f328 := Try.func205.trans (congrArg some (by kernel_rfl)),
  f329 := Try.func201.trans (congrArg some (by kernel_rfl)),
  f330 := Try.func202.trans (congrArg some (by kernel_rfl)),
  f331 := Try.func206.trans (congrArg some (by kernel_rfl)),
  f332 := Try.func207.trans (congrArg some (by kernel_rfl)),
  f343 := Try.func218.trans (congrArg some (by kernel_rfl)),
  t0 := Try.underlying0,
  a0 := Try.isAgg0,
  z0 := Try.sizeOf0,
  v0 := Try.zeroValue0,
  t3 := Try.underlying3,
  a3 := Try.isAgg3,
  z3 := Try.sizeOf3,
  v3 := Try.zeroValue3,
  t4 := Try.underlying4,
  a4 := Try.isAgg4,
  z4 := Try.sizeOf4,
  v4 := Try.zeroValue4,
  t5 := Try.underlying5,
  a5 := Try.isAgg5,
  z5 := Try.sizeOf5,
  v5 := Try.zeroValue5,
  t9 := Try.underlying9,
  a9 := Try.isAgg9,
  z9 := Try.sizeOf9,
  v9 := Try.zeroValue9,
  t28 := Try.underlying26,
  a28 := Try.isAgg26,
  z28 := Try.sizeOf26,
  v28 := Try.zeroValue26,
  t46 := Try.underlying145,
  a46 := Try.isAgg145,
  z46 := Try.sizeOf145,
  v46 := Try.zeroValue145,
  t51 := Try.underlying34,
  a51 := Try.isAgg34,
  z51 := Try.sizeOf34,
  v51 := Try.zeroValue34,
  t53 := Try.underlying27,
  a53 := Try.isAgg27,
  z53 := Try.sizeOf27,
  v53 := Try.zeroValue27,
  t131 := Try.underlying183,
  a131 := Try.isAgg183,
  z131 := Try.sizeOf183,
  v131 := Try.zeroValue183,
  t182 := Try.underlying190,
  a182 := Try.isAgg190,
  z182 := Try.sizeOf190,
  v182 := Try.zeroValue190,
  t183 := Try.underlying191,
  a183 := Try.isAgg191,
  z183 := Try.sizeOf191,
  v183 := Try.zeroValue191,
  t218 := Try.underlying220,
  a218 := Try.isAgg220,
  z218 := Try.sizeOf220,
  v218 := Try.zeroValue220,
  t222 := Try.underlying224,
  a222 := Try.isAgg224,
  z222 := Try.sizeOf224,
  v222 := Try.zeroValue224,
  t228 := Try.underlying232,
  a228 := Try.isAgg232,
  z228 := Try.sizeOf232,
  v228 := Try.zeroValue232,
  t229 := Try.underlying233,
  a229 := Try.isAgg233,
  z229 := Try.sizeOf233,
  v229 := Try.zeroValue233 }

def compInt_ren : Go.Shelf.Ren := ⟨fun | 20 => 102 | n => n, fun | 22 => 26 | 3 => 3 | 4 => 4 | 0 => 0 | n => n, fun | n => n⟩
theorem compInt : Go.Proofs.Lays2.n20 Try.prog compInt_ren := {
  mixed := by kernel_rfl,
  f20 := Try.func102.trans (congrArg some (by kernel_rfl)),
  t0 := Try.underlying0,
  a0 := Try.isAgg0,
  z0 := Try.sizeOf0,
  v0 := Try.zeroValue0,
  t3 := Try.underlying3,
  a3 := Try.isAgg3,
  z3 := Try.sizeOf3,
  v3 := Try.zeroValue3,
  t4 := Try.underlying4,
  a4 := Try.isAgg4,
  z4 := Try.sizeOf4,
  v4 := Try.zeroValue4,
  t22 := Try.underlying26,
  a22 := Try.isAgg26,
  z22 := Try.sizeOf26,
  v22 := Try.zeroValue26,
  i3 := by kernel_rfl }

end Go.Proofs

set_option linter.unusedVariables false
set_option linter.unusedSimpArgs false
namespace Cr
open Go Sx
open Go.Proofs.Try
set_option maxRecDepth 100000
def h_all : Hints := { deep := true, loops := [(3, ⟨[0, 2, 7, 8], [.f 9 (.int .i64), .row 3 31 4], []⟩), (6, ⟨[0, 2, 4, 5, 7, 8, 9], [.f 6 (.int .i64), .row 3 31 4], [.keep 5]⟩)] }
def h_roads : Hints := { loops := [(3, ⟨[0, 2, 16], [.f 17 (.int .i64), .row 3 3 1], []⟩), (9, ⟨[0, 2, 26, 27], [.f 28 (.int .i64), .row 3 3 1, .row 5 31 4], []⟩), (15, ⟨[0, 2, 5, 7, 8, 9, 26, 27, 28, 49, 50], [.f 51 (.int .i64), .row 3 3 1], [.keep 7, .keep 48]⟩)] }
def h_al42 : Hints := { eqs := [29] }
def nf_rcmp (a : Int) (b : Int) (c : Int) (d : Int) (e : Int) (f : Int) (g : Int) (h : Int) (R : Ending → Heap → Prop) (H : Heap) : Prop := ∃ (G : Nat → Option Obj), G ≤ H ∧ Meets prog (25 : Nat) [Value.agg { toList := [Value.int IntKind.u64 c, Value.int IntKind.u64 d] }, Value.agg { toList := [Value.int IntKind.u64 g, Value.int IntKind.u64 h] }] H fun (e_1 : Ending) (H' : Nat → Option Obj) ↦ Keep G H H H' ∧ ∃ (n : Int), e_1 = Ending.returned (Value.int IntKind.i64 n) ∧ Meets prog (127 : Nat) [Value.int IntKind.i64 a, Value.int IntKind.i64 e] (delLs H' []) fun (e : Ending) (H'_1 : Nat → Option Obj) ↦ Keep G (delLs H' []) (delLs H' []) H'_1 ∧ ∃ (n_1 : Int), e = Ending.returned (Value.int IntKind.i64 n_1) ∧ Meets prog (127 : Nat) [Value.int IntKind.i64 b, Value.int IntKind.i64 f] (delLs H'_1 []) fun (e : Ending) (H' : Nat → Option Obj) ↦ Keep G (delLs H'_1 []) (delLs H'_1 []) H' ∧ ∃ (n_2 : Int), e = Ending.returned (Value.int IntKind.i64 n_2) ∧ ∀ (v : Value) (H'_2 : Nat → Option Obj), delLs H' [] ≤ H'_2 → (∀ (b : Nat), blockOf v = some b → delLs H' [] b = none) → (∀ (b : Nat) (o : Obj), H'_2 b = some o → delLs H' [] b = some o ∨ blockOf v = some b) → RowAt H'_2 v (3 : Nat) (1 : Nat) [[Value.int IntKind.i64 n], [Value.int IntKind.i64 n_1], [Value.int IntKind.i64 n_2]] → Meets prog (61 : Nat) [v] H'_2 fun (e : Ending) (H'_3 : Nat → Option Obj) ↦ Keep G (delLs H' []) H'_2 H'_3 ∧ ∃ (n : Int), e = Ending.returned (Value.int IntKind.i64 n) ∧ R (Ending.returned (Value.int IntKind.i64 n)) (delLs H'_3 [{ site := (20 : Nat), val := v, kind := LK.row (3 : Nat) (1 : Nat) }])
theorem vc_rcmp (a : Int) (b : Int) (c : Int) (d : Int) (e : Int) (f : Int) (g : Int) (h : Int) (R : Ending → Heap → Prop) (H : Heap) : vcFun prog { } f99 [SV.agg [Seg.c (SC.v (Value.int IntKind.i64 a)), Seg.c (SC.v (Value.int IntKind.i64 b)), Seg.c (SC.v (Value.int IntKind.u64 c)), Seg.c (SC.v (Value.int IntKind.u64 d))], SV.agg [Seg.c (SC.v (Value.int IntKind.i64 e)), Seg.c (SC.v (Value.int IntKind.i64 f)), Seg.c (SC.v (Value.int IntKind.u64 g)), Seg.c (SC.v (Value.int IntKind.u64 h))]] R H = nf_rcmp a b c d e f g h R H := by kernel_rfl

def nf_rall (a : Option Addr) (n : Nat) (c : Nat) (R : Ending → Heap → Prop) (H : Heap) : Prop := a = a ∧ n = n ∧ c = c ∧ (none : Option Addr) = none ∧ (0 : Nat) = (0 : Nat) ∧ (0 : Nat) = (0 : Nat) ∧ a = a ∧ n = n ∧ c = c ∧ (↑n : Int) = (↑n : Int) ∧ LoopP (fun (K : (Int × List (List Value) × PUnit) × PUnit → (Nat → Option Obj) → Prop) (p : (Int × List (List Value) × PUnit) × PUnit) (H : Nat → Option Obj) ↦ Br (decide (p.fst.fst < (↑n : Int))) (((0 : Int) ≤ p.fst.fst ∧ p.fst.fst < (↑n : Int)) ∧ PtrK a fun (A : Addr) ↦ PtrK (some (Addr.add A (Int.toNat p.fst.fst * (4 : Nat)))) fun (a_1 : Addr) ↦ ∃ (n_1 : Int), ∃ (n_2 : Int), ∃ (n_3 : Int), ∃ (s : ByteArray), Heap.has H a_1 [Value.int IntKind.i64 n_1, Value.int IntKind.u32 n_2, Value.int IntKind.u32 n_3, Value.string s] ∧ a = a ∧ n = n ∧ c = c ∧ (none : Option Addr) = none ∧ (0 : Nat) = (0 : Nat) ∧ (0 : Nat) = (0 : Nat) ∧ p.fst.fst = p.fst.fst ∧ (0 : Nat) = (0 : Nat) ∧ a = a ∧ n = n ∧ c = c ∧ (↑n : Int) = (↑n : Int) ∧ p.fst.fst = p.fst.fst ∧ n_1 = n_1 ∧ n_2 = n_2 ∧ n_3 = n_3 ∧ Value.string s = Value.string s ∧ LoopP (fun (K_1 : (Int × List (List Value) × PUnit) × PUnit × PUnit → (Nat → Option Obj) → Prop) (p_1 : (Int × List (List Value) × PUnit) × PUnit × PUnit) (H : Nat → Option Obj) ↦ Br (decide (p_1.fst.fst < (↑n : Int))) (∃ (G : Nat → Option Obj), G ≤ H ∧ ((0 : Int) ≤ p_1.fst.fst ∧ p_1.fst.fst < (↑n : Int)) ∧ PtrK a fun (A : Addr) ↦ PtrK (some (Addr.add A (Int.toNat p_1.fst.fst * (4 : Nat)))) fun (a_2 : Addr) ↦ PtrK (some (Addr.add a_2 (1 : Nat))) fun (a_3 : Addr) ↦ ∃ (n_4 : Int), Heap.has G a_3 [Value.int IntKind.u32 n_4] ∧ ((0 : Int) ≤ p_1.fst.fst ∧ p_1.fst.fst < (↑n : Int)) ∧ PtrK a fun (A : Addr) ↦ PtrK (some (Addr.add A (Int.toNat p_1.fst.fst * (4 : Nat)))) fun (a_4 : Addr) ↦ PtrK (some (Addr.add a_4 (2 : Nat))) fun (a_5 : Addr) ↦ ∃ (n_5 : Int), Heap.has G a_5 [Value.int IntKind.u32 n_5] ∧ Meets prog (81 : Nat) [Value.int IntKind.u32 n_2, Value.int IntKind.u32 n_3, Value.int IntKind.u32 n_4, Value.int IntKind.u32 n_5] H fun (e : Ending) (H' : Nat → Option Obj) ↦ Keep G H H H' ∧ ∃ (n_6 : Int), ∃ (n_7 : Int), e = Ending.returned (Value.agg { toList := [Value.int IntKind.u64 n_6, Value.int IntKind.u64 n_7] }) ∧ List.length (List.append p_1.fst.snd.fst [[Value.int IntKind.i64 p.fst.fst, Value.int IntKind.i64 p_1.fst.fst, Value.int IntKind.u64 n_6, Value.int IntKind.u64 n_7]]) * (32 : Nat) ≤ (140737488355328 : Nat) ∧ a = a ∧ n = n ∧ c = c ∧ (none : Option Addr) = none ∧ (0 : Nat) = (0 : Nat) ∧ (0 : Nat) = (0 : Nat) ∧ p.fst.fst = p.fst.fst ∧ (0 : Nat) = (0 : Nat) ∧ a = a ∧ n = n ∧ c = c ∧ (↑n : Int) = (↑n : Int) ∧ p.fst.fst = p.fst.fst ∧ n_1 = n_1 ∧ n_2 = n_2 ∧ n_3 = n_3 ∧ Value.string s = Value.string s ∧ K_1 ((IntKind.wrap IntKind.i64 (p_1.fst.fst + (1 : Int)), List.append p_1.fst.snd.fst [[Value.int IntKind.i64 p.fst.fst, Value.int IntKind.i64 p_1.fst.fst, Value.int IntKind.u64 n_6, Value.int IntKind.u64 n_7]], PUnit.unit), PUnit.unit, PUnit.unit) (delLs H' [])) (a = a ∧ n = n ∧ c = c ∧ (none : Option Addr) = none ∧ (0 : Nat) = (0 : Nat) ∧ (0 : Nat) = (0 : Nat) ∧ a = a ∧ n = n ∧ c = c ∧ (↑n : Int) = (↑n : Int) ∧ K ((IntKind.wrap IntKind.i64 (p.fst.fst + (1 : Int)), p_1.fst.snd.fst, PUnit.unit), PUnit.unit) H)) ((IntKind.wrap IntKind.i64 (p.fst.fst + (1 : Int)), p.fst.snd.fst, PUnit.unit), PUnit.unit, PUnit.unit) H) (∀ (v : Value) (H' : Nat → Option Obj), H ≤ H' → (∀ (b : Nat), blockOf v = some b → H b = none) → (∀ (b : Nat) (o : Obj), H' b = some o → H b = some o ∨ blockOf v = some b) → RowAt H' v (31 : Nat) (4 : Nat) p.fst.snd.fst → Meets prog (98 : Nat) [v, Value.func (Fn.func (99 : Nat)) { toList := [] } { toList := [] }] H' fun (e : Ending) (H' : Nat → Option Obj) ↦ e = Ending.returned (Value.tuple { toList := [] }) ∧ ∃ (es : List (List Value)), RowAt H' v (31 : Nat) (4 : Nat) es ∧ ∀ (v_1 : Value) (H'_1 : Nat → Option Obj), Heap.delO H' (blockOf v) ≤ H'_1 → (∀ (b : Nat), blockOf v_1 = some b → Heap.delO H' (blockOf v) b = none) → (∀ (b : Nat) (o : Obj), H'_1 b = some o → Heap.delO H' (blockOf v) b = some o ∨ blockOf v_1 = some b) → RowAt H'_1 v_1 (31 : Nat) (4 : Nat) es → R (Ending.returned v_1) H'_1)) (((0 : Int), [], PUnit.unit), PUnit.unit) H
theorem vc_rall (a : Option Addr) (n : Nat) (c : Nat) (R : Ending → Heap → Prop) (H : Heap) : vcFun prog h_all f59 [SV.c (SC.v (Value.slice a n c))] R H = nf_rall a n c R H := by kernel_rfl

def nf_roads (a : Option Addr) (n : Nat) (c : Nat) (R : Ending → Heap → Prop) (H : Heap) : Prop := ((0 : Int) ≤ (↑n : Int) ∧ (↑n : Int) = (↑n : Int) ∧ (↑n : Int) * (↑(8 : Nat) : Int) ≤ (↑(140737488355328 : Nat) : Int)) ∧ a = a ∧ n = n ∧ c = c ∧ (none : Option Addr) = none ∧ (0 : Nat) = (0 : Nat) ∧ (0 : Nat) = (0 : Nat) ∧ (↑(List.length (List.replicate (Int.toNat (↑n : Int)) [Value.int IntKind.i64 (0 : Int)])) : Int) = (↑(List.length (List.replicate (Int.toNat (↑n : Int)) [Value.int IntKind.i64 (0 : Int)])) : Int) ∧ LoopP (fun (K : (Int × List (List Value) × PUnit) × PUnit → (Nat → Option Obj) → Prop) (p : (Int × List (List Value) × PUnit) × PUnit) (H : Nat → Option Obj) ↦ Br (decide (p.fst.fst < (↑(List.length (List.replicate (Int.toNat (↑n : Int)) [Value.int IntKind.i64 (0 : Int)])) : Int))) (((0 : Int) ≤ p.fst.fst ∧ p.fst.fst < (↑(List.length p.fst.snd.fst) : Int)) ∧ Int.toNat p.fst.fst < List.length p.fst.snd.fst ∧ a = a ∧ n = n ∧ c = c ∧ (none : Option Addr) = none ∧ (0 : Nat) = (0 : Nat) ∧ (0 : Nat) = (0 : Nat) ∧ (↑(List.length (List.replicate (Int.toNat (↑n : Int)) [Value.int IntKind.i64 (0 : Int)])) : Int) = (↑(List.length (List.replicate (Int.toNat (↑n : Int)) [Value.int IntKind.i64 (0 : Int)])) : Int) ∧ K ((IntKind.wrap IntKind.i64 (p.fst.fst + (1 : Int)), List.set p.fst.snd.fst (Int.toNat p.fst.fst) [Value.int IntKind.i64 p.fst.fst], PUnit.unit), PUnit.unit) H) (Meets prog (59 : Nat) [Value.slice a n c] H fun (e : Ending) (H' : Nat → Option Obj) ↦ ∃ (a_1 : Option Addr), ∃ (n_1 : Nat), ∃ (c_1 : Nat), e = Ending.returned (Value.slice a_1 n_1 c_1) ∧ a = a ∧ n = n ∧ c = c ∧ (none : Option Addr) = none ∧ (0 : Nat) = (0 : Nat) ∧ (0 : Nat) = (0 : Nat) ∧ a_1 = a_1 ∧ n_1 = n_1 ∧ c_1 = c_1 ∧ (↑n_1 : Int) = (↑n_1 : Int) ∧ LoopP (fun (K : (Int × List (List Value) × List (List Value) × PUnit) × PUnit → (Nat → Option Obj) → Prop) (p : (Int × List (List Value) × List (List Value) × PUnit) × PUnit) (H : Nat → Option Obj) ↦ Br (decide (p.fst.fst < (↑n_1 : Int))) (((0 : Int) ≤ p.fst.fst ∧ p.fst.fst < (↑n_1 : Int)) ∧ PtrK a_1 fun (A : Addr) ↦ PtrK (some (Addr.add A (Int.toNat p.fst.fst * (4 : Nat)))) fun (a_2 : Addr) ↦ ∃ (n_2 : Int), ∃ (n_3 : Int), ∃ (n_4 : Int), ∃ (n_5 : Int), Heap.has H a_2 [Value.int IntKind.i64 n_2, Value.int IntKind.i64 n_3, Value.int IntKind.u64 n_4, Value.int IntKind.u64 n_5] ∧ ((0 : Int) ≤ n_2 ∧ n_2 < (↑(List.length p.fst.snd.fst) : Int)) ∧ ∃ (n_6 : Int), (∃ (e : List Value), List.get?Internal p.fst.snd.fst (Int.toNat n_2) = some e ∧ List.take (1 : Nat) (List.drop (0 : Nat) e) = [Value.int IntKind.i64 n_6]) ∧ ((0 : Int) ≤ n_3 ∧ n_3 < (↑(List.length p.fst.snd.fst) : Int)) ∧ ∃ (n_7 : Int), (∃ (e : List Value), List.get?Internal p.fst.snd.fst (Int.toNat n_3) = some e ∧ List.take (1 : Nat) (List.drop (0 : Nat) e) = [Value.int IntKind.i64 n_7]) ∧ Br (n_6 == n_7) (a = a ∧ n = n ∧ c = c ∧ (none : Option Addr) = none ∧ (0 : Nat) = (0 : Nat) ∧ (0 : Nat) = (0 : Nat) ∧ a_1 = a_1 ∧ n_1 = n_1 ∧ c_1 = c_1 ∧ (↑n_1 : Int) = (↑n_1 : Int) ∧ K ((IntKind.wrap IntKind.i64 (p.fst.fst + (1 : Int)), p.fst.snd.fst, p.fst.snd.snd.fst, PUnit.unit), PUnit.unit) H) (List.length (List.append p.fst.snd.snd.fst [[Value.int IntKind.i64 n_2, Value.int IntKind.i64 n_3, Value.int IntKind.u64 n_4, Value.int IntKind.u64 n_5]]) * (32 : Nat) ≤ (140737488355328 : Nat) ∧ a = a ∧ n = n ∧ c = c ∧ (none : Option Addr) = none ∧ (0 : Nat) = (0 : Nat) ∧ (0 : Nat) = (0 : Nat) ∧ (0 : Nat) = (0 : Nat) ∧ n_6 = n_6 ∧ n_7 = n_7 ∧ a_1 = a_1 ∧ n_1 = n_1 ∧ c_1 = c_1 ∧ (↑n_1 : Int) = (↑n_1 : Int) ∧ p.fst.fst = p.fst.fst ∧ (↑(List.length p.fst.snd.fst) : Int) = (↑(List.length p.fst.snd.fst) : Int) ∧ n_2 = n_2 ∧ n_3 = n_3 ∧ n_4 = n_4 ∧ n_5 = n_5 ∧ List.append p.fst.snd.snd.fst [[Value.int IntKind.i64 n_2, Value.int IntKind.i64 n_3, Value.int IntKind.u64 n_4, Value.int IntKind.u64 n_5]] = List.append p.fst.snd.snd.fst [[Value.int IntKind.i64 n_2, Value.int IntKind.i64 n_3, Value.int IntKind.u64 n_4, Value.int IntKind.u64 n_5]] ∧ LoopP (fun (K_1 : (Int × List (List Value) × PUnit) × PUnit × PUnit × PUnit → (Nat → Option Obj) → Prop) (p_1 : (Int × List (List Value) × PUnit) × PUnit × PUnit × PUnit) (H : Nat → Option Obj) ↦ Br (decide (p_1.fst.fst < (↑(List.length p.fst.snd.fst) : Int))) (((0 : Int) ≤ p_1.fst.fst ∧ p_1.fst.fst < (↑(List.length p_1.fst.snd.fst) : Int)) ∧ ∃ (n_8 : Int), (∃ (e : List Value), List.get?Internal p_1.fst.snd.fst (Int.toNat p_1.fst.fst) = some e ∧ List.take (1 : Nat) (List.drop (0 : Nat) e) = [Value.int IntKind.i64 n_8]) ∧ Br (n_8 == n_7) (((0 : Int) ≤ p_1.fst.fst ∧ p_1.fst.fst < (↑(List.length p_1.fst.snd.fst) : Int)) ∧ Int.toNat p_1.fst.fst < List.length p_1.fst.snd.fst ∧ a = a ∧ n = n ∧ c = c ∧ (none : Option Addr) = none ∧ (0 : Nat) = (0 : Nat) ∧ (0 : Nat) = (0 : Nat) ∧ (0 : Nat) = (0 : Nat) ∧ n_6 = n_6 ∧ n_7 = n_7 ∧ a_1 = a_1 ∧ n_1 = n_1 ∧ c_1 = c_1 ∧ (↑n_1 : Int) = (↑n_1 : Int) ∧ p.fst.fst = p.fst.fst ∧ (↑(List.length p.fst.snd.fst) : Int) = (↑(List.length p.fst.snd.fst) : Int) ∧ n_2 = n_2 ∧ n_3 = n_3 ∧ n_4 = n_4 ∧ n_5 = n_5 ∧ List.append p.fst.snd.snd.fst [[Value.int IntKind.i64 n_2, Value.int IntKind.i64 n_3, Value.int IntKind.u64 n_4, Value.int IntKind.u64 n_5]] = List.append p.fst.snd.snd.fst [[Value.int IntKind.i64 n_2, Value.int IntKind.i64 n_3, Value.int IntKind.u64 n_4, Value.int IntKind.u64 n_5]] ∧ K_1 ((IntKind.wrap IntKind.i64 (p_1.fst.fst + (1 : Int)), List.set p_1.fst.snd.fst (Int.toNat p_1.fst.fst) [Value.int IntKind.i64 n_6], PUnit.unit), PUnit.unit, PUnit.unit, PUnit.unit) H) (a = a ∧ n = n ∧ c = c ∧ (none : Option Addr) = none ∧ (0 : Nat) = (0 : Nat) ∧ (0 : Nat) = (0 : Nat) ∧ (0 : Nat) = (0 : Nat) ∧ n_6 = n_6 ∧ n_7 = n_7 ∧ a_1 = a_1 ∧ n_1 = n_1 ∧ c_1 = c_1 ∧ (↑n_1 : Int) = (↑n_1 : Int) ∧ p.fst.fst = p.fst.fst ∧ (↑(List.length p.fst.snd.fst) : Int) = (↑(List.length p.fst.snd.fst) : Int) ∧ n_2 = n_2 ∧ n_3 = n_3 ∧ n_4 = n_4 ∧ n_5 = n_5 ∧ List.append p.fst.snd.snd.fst [[Value.int IntKind.i64 n_2, Value.int IntKind.i64 n_3, Value.int IntKind.u64 n_4, Value.int IntKind.u64 n_5]] = List.append p.fst.snd.snd.fst [[Value.int IntKind.i64 n_2, Value.int IntKind.i64 n_3, Value.int IntKind.u64 n_4, Value.int IntKind.u64 n_5]] ∧ K_1 ((IntKind.wrap IntKind.i64 (p_1.fst.fst + (1 : Int)), p_1.fst.snd.fst, PUnit.unit), PUnit.unit, PUnit.unit, PUnit.unit) H)) (a = a ∧ n = n ∧ c = c ∧ (none : Option Addr) = none ∧ (0 : Nat) = (0 : Nat) ∧ (0 : Nat) = (0 : Nat) ∧ a_1 = a_1 ∧ n_1 = n_1 ∧ c_1 = c_1 ∧ (↑n_1 : Int) = (↑n_1 : Int) ∧ K ((IntKind.wrap IntKind.i64 (p.fst.fst + (1 : Int)), p_1.fst.snd.fst, List.append p.fst.snd.snd.fst [[Value.int IntKind.i64 n_2, Value.int IntKind.i64 n_3, Value.int IntKind.u64 n_4, Value.int IntKind.u64 n_5]], PUnit.unit), PUnit.unit) H)) (((0 : Int), p.fst.snd.fst, PUnit.unit), PUnit.unit, PUnit.unit, PUnit.unit) H)) (∀ (v : Value) (H' : Nat → Option Obj), H ≤ H' → (∀ (b : Nat), blockOf v = some b → H b = none) → (∀ (b : Nat) (o : Obj), H' b = some o → H b = some o ∨ blockOf v = some b) → RowAt H' v (31 : Nat) (4 : Nat) p.fst.snd.snd.fst → R (Ending.returned v) H')) (((0 : Int), p.fst.snd.fst, [], PUnit.unit), PUnit.unit) H')) (((0 : Int), List.replicate (Int.toNat (↑n : Int)) [Value.int IntKind.i64 (0 : Int)], PUnit.unit), PUnit.unit) H
theorem vc_roads (a : Option Addr) (n : Nat) (c : Nat) (R : Ending → Heap → Prop) (H : Heap) : vcFun prog h_roads f21 [SV.c (SC.v (Value.slice a n c))] R H = nf_roads a n c R H := by kernel_rfl

def nf_alive42 (R : Ending → Heap → Prop) (H : Heap) : Prop := ∀ (v : Value) (H' : Nat → Option Obj), H ≤ H' → (∀ (b : Nat), blockOf v = some b → H b = none) → (∀ (b : Nat) (o : Obj), H' b = some o → H b = some o ∨ blockOf v = some b) → RowAt H' v (36 : Nat) (4 : Nat) [[Value.int IntKind.i64 (0 : Int), Value.int IntKind.u32 (0 : Int), Value.int IntKind.u32 (0 : Int), Value.string { data := #[] }], [Value.int IntKind.i64 (0 : Int), Value.int IntKind.u32 (3 : Int), Value.int IntKind.u32 (0 : Int), Value.string { data := #[] }]] → Meets prog (21 : Nat) [v] H' fun (e : Ending) (H' : Nat → Option Obj) ↦ ∃ (a : Option Addr), ∃ (n : Nat), ∃ (c : Nat), e = Ending.returned (Value.slice a n c) ∧ ∃ (es : List (List Value)), RowAt H' v (36 : Nat) (4 : Nat) es ∧ ∀ (v_1 : Value) (H'_1 : Nat → Option Obj), Heap.delO H' (blockOf v) ≤ H'_1 → (∀ (b : Nat), blockOf v_1 = some b → Heap.delO H' (blockOf v) b = none) → (∀ (b : Nat) (o : Obj), H'_1 b = some o → Heap.delO H' (blockOf v) b = some o ∨ blockOf v_1 = some b) → RowAt H'_1 v_1 (36 : Nat) (4 : Nat) [[Value.int IntKind.i64 (0 : Int), Value.int IntKind.u32 (0 : Int), Value.int IntKind.u32 (0 : Int), Value.string { data := #[] }]] → Meets prog (21 : Nat) [v_1] H'_1 fun (e : Ending) (H' : Nat → Option Obj) ↦ ∃ (a_5 : Option Addr), ∃ (n_1 : Nat), ∃ (c : Nat), e = Ending.returned (Value.slice a_5 n_1 c) ∧ ∃ (es : List (List Value)), RowAt H' v_1 (36 : Nat) (4 : Nat) es ∧ Br ((↑n_1 : Int) == (0 : Int)) (Br ((↑n : Int) == (1 : Int)) (((0 : Int) ≤ (0 : Int) ∧ (0 : Int) < (↑n : Int)) ∧ PtrK a fun (A : Addr) ↦ PtrK (some (Addr.add A (0 : Nat))) fun (a : Addr) ↦ PtrK (some (Addr.add a (2 : Nat))) fun (a : Addr) ↦ ∃ (n : Int), ∃ (n_2 : Int), Heap.has (Heap.delO H' (blockOf v_1)) a [Value.int IntKind.u64 n, Value.int IntKind.u64 n_2] ∧ R (Ending.returned (Value.bool (andO (some (andO none (n == (0 : Int)))) (n_2 == (9 : Int))))) (Heap.delO H' (blockOf v_1))) (R (Ending.returned (Value.bool false)) (Heap.delO H' (blockOf v_1)))) (R (Ending.returned (Value.bool false)) (Heap.delO H' (blockOf v_1)))
theorem vc_alive42 (R : Ending → Heap → Prop) (H : Heap) : vcFun prog h_al42 f20 [] R H = nf_alive42 R H := by kernel_rfl

end Cr

set_option linter.unusedVariables false
set_option linter.unusedSimpArgs false
namespace Cr
open Go Sx Go.Proofs Go.Sort
open Go.Proofs.Try
set_option maxRecDepth 100000
structure Rd where
  f : Int
  t : Int
  hi : Int
  lo : Int
  deriving Inhabited, DecidableEq
@[reducible] def rdC (r : Rd) : List Value := [vi r.f, vi r.t, .int .u64 r.hi, .int .u64 r.lo]
abbrev rds (l : List Rd) : List (List Value) := l.map rdC
def cmpR (x y : Rd) : Int := orL [cmpD x.hi x.lo y.hi y.lo, sgn3 x.f y.f, sgn3 x.t y.t]
theorem orL_neg {x : Int} {r : List Int} : orL (x :: r) < 0 ↔ x < 0 ∨ (x = 0 ∧ orL r < 0) := by
  rw [show orL (x :: r) = if x ≠ 0 then x else orL r from rfl]
  by_cases h : x = 0
  · subst h; simp
  · rw [if_pos h]
    constructor
    · intro q; exact .inl q
    · rintro (q | q); exact q; exact (h q.1).elim
theorem orL_zero {x : Int} {r : List Int} : orL (x :: r) = 0 ↔ x = 0 ∧ orL r = 0 := by
  rw [show orL (x :: r) = if x ≠ 0 then x else orL r from rfl]
  by_cases h : x = 0
  · subst h; simp
  · rw [if_pos h]; simp [h]
theorem sgn3_neg {x y : Int} : sgn3 x y < 0 ↔ x < y := by unfold sgn3; split <;> (try split) <;> omega
theorem sgn3_zero {x y : Int} : sgn3 x y = 0 ↔ x = y := by unfold sgn3; split <;> (try split) <;> omega
theorem cmpD_neg {a b c d : Int} : cmpD a b c d < 0 ↔ a < c ∨ (a = c ∧ b < d) := by
  unfold cmpD
  rw [orL_neg, orL_neg, sgn3_neg, sgn3_neg, sgn3_zero]
  constructor
  · rintro (h | ⟨h, h2 | ⟨_, h3⟩⟩)
    · exact .inl h
    · exact .inr ⟨h, h2⟩
    · simp [orL] at h3
  · rintro (h | ⟨h, h2⟩)
    · exact .inl h
    · exact .inr ⟨h, .inl h2⟩
theorem cmpD_zero {a b c d : Int} : cmpD a b c d = 0 ↔ a = c ∧ b = d := by
  unfold cmpD
  rw [orL_zero, orL_zero, sgn3_zero, sgn3_zero]
  simp [orL]
abbrev rLt (x y : Rd) : Prop := x.hi < y.hi ∨ (x.hi = y.hi ∧ (x.lo < y.lo ∨ (x.lo = y.lo ∧ (x.f < y.f ∨ (x.f = y.f ∧ x.t < y.t)))))
theorem cmpR_neg {x y : Rd} : cmpR x y < 0 ↔ rLt x y := by
  unfold cmpR rLt
  rw [orL_neg, cmpD_neg, cmpD_zero, orL_neg, sgn3_neg, sgn3_zero, orL_neg, sgn3_neg]
  have : ¬ (orL [] < 0) := by simp [orL]
  simp only [this, and_false, or_false]
  constructor
  · rintro ((h | h) | ⟨⟨h1, h2⟩, h⟩)
    · exact .inl h
    · exact .inr ⟨h.1, .inl h.2⟩
    · exact .inr ⟨h1, .inr ⟨h2, h⟩⟩
  · rintro (h | ⟨h1, h | ⟨h2, h⟩⟩)
    · exact .inl (.inl h)
    · exact .inl (.inr ⟨h1, h⟩)
    · exact .inr ⟨⟨h1, h2⟩, h⟩
theorem lt_cmpR {x y : Rd} : ltOf cmpR x y = decide (rLt x y) := by
  unfold ltOf
  by_cases h : rLt x y
  · rw [decide_eq_true h, decide_eq_true (cmpR_neg.2 h)]
  · rw [decide_eq_false h, decide_eq_false (fun q => h (cmpR_neg.1 q))]
theorem rLt_irrefl (x : Rd) : ¬ rLt x x := by unfold rLt; omega
theorem rLt_trans {x y z : Rd} (h : rLt x y) (h' : rLt y z) : rLt x z := by unfold rLt at *; omega
theorem swoR : SWO (ltOf cmpR) where
  irrefl x := by rw [lt_cmpR]; exact decide_eq_false (rLt_irrefl x)
  trans x y z h h' := by
    rw [lt_cmpR] at *
    exact decide_eq_true (rLt_trans (of_decide_eq_true h) (of_decide_eq_true h'))
  ntrans x y z h h' := by
    rw [lt_cmpR] at *
    have h := of_decide_eq_false h
    have h' := of_decide_eq_false h'
    refine decide_eq_false ?_
    unfold rLt at *
    omega
abbrev atP (l : List Pt) (i : Nat) : Pt := l.getD i default
abbrev dis (p q : Pt) : Int := sqd p.x p.y q.x q.y
def rdAt (l : List Pt) (i k : Nat) : Rd := ⟨i, k, dis (atP l i) (atP l k) / 18446744073709551616, dis (atP l i) (atP l k) % 18446744073709551616⟩
def rowP (l : List Pt) (i : Nat) : Nat → List Rd
  | 0 => []
  | k + 1 => if i < k then rowP l i k ++ [rdAt l i k] else rowP l i k
def pairsTo (l : List Pt) : Nat → List Rd
  | 0 => []
  | i + 1 => pairsTo l i ++ rowP l i l.length
abbrev pairsL (l : List Pt) : List Rd := pairsTo l l.length
theorem rowP_low (l : List Pt) (i : Nat) : ∀ k, k ≤ i + 1 → rowP l i k = []
  | 0, _ => rfl
  | k + 1, h => by rw [rowP, if_neg (by omega)]; exact rowP_low l i k (by omega)
theorem mem_rowP {l : List Pt} {i : Nat} {r : Rd} : ∀ {k : Nat}, r ∈ rowP l i k ↔ ∃ j, i < j ∧ j < k ∧ r = rdAt l i j
  | 0 => by simp [rowP]
  | k + 1 => by
    unfold rowP
    by_cases h : i < k
    · rw [if_pos h, List.mem_append, mem_rowP, List.mem_singleton]
      constructor
      · rintro (⟨j, h1, h2, h3⟩ | h3)
        · exact ⟨j, h1, by omega, h3⟩
        · exact ⟨k, h, by omega, h3⟩
      · rintro ⟨j, h1, h2, h3⟩
        by_cases e : j = k
        · subst e; exact .inr h3
        · exact .inl ⟨j, h1, by omega, h3⟩
    · rw [if_neg h, mem_rowP]
      constructor
      · rintro ⟨j, h1, h2, h3⟩; exact ⟨j, h1, by omega, h3⟩
      · rintro ⟨j, h1, h2, h3⟩; exact ⟨j, h1, by omega, h3⟩
theorem mem_pairsTo {l : List Pt} {r : Rd} : ∀ {m : Nat}, r ∈ pairsTo l m ↔ ∃ i j, i < m ∧ i < j ∧ j < l.length ∧ r = rdAt l i j
  | 0 => by simp [pairsTo]
  | m + 1 => by
    unfold pairsTo
    rw [List.mem_append, mem_pairsTo, mem_rowP]
    constructor
    · rintro (⟨i, j, h1, h2, h3, h4⟩ | ⟨j, h1, h2, h3⟩)
      · exact ⟨i, j, by omega, h2, h3, h4⟩
      · exact ⟨m, j, by omega, h1, h2, h3⟩
    · rintro ⟨i, j, h1, h2, h3, h4⟩
      by_cases e : i = m
      · subst e; exact .inr ⟨j, h2, h3, h4⟩
      · exact .inl ⟨i, j, by omega, h2, h3, h4⟩
theorem rowP_len (l : List Pt) (i : Nat) : ∀ k, (rowP l i k).length ≤ k
  | 0 => by simp [rowP]
  | k + 1 => by
    have := rowP_len l i k
    unfold rowP
    split
    · simp; omega
    · omega
theorem pairsTo_len (l : List Pt) : ∀ m, (pairsTo l m).length ≤ m * l.length
  | 0 => by simp [pairsTo]
  | m + 1 => by
    have := pairsTo_len l m
    have := rowP_len l m l.length
    rw [pairsTo, List.length_append, Nat.add_mul, Nat.one_mul]
    omega
def getI (g : List Int) (x : Int) : Int := g.getD x.toNat 0
def mrg (g : List Int) (a b : Int) : List Int := g.map fun x => if x = b then a else x
/-- The roads that join what was not joined. -/
def krus : List Rd → List Int → List Rd
  | [], _ => []
  | r :: rs, g => if getI g r.f = getI g r.t then krus rs g else r :: krus rs (mrg g (getI g r.f) (getI g r.t))
theorem krus_len : ∀ (d : List Rd) (g : List Int), (krus d g).length ≤ d.length
  | [], _ => by simp [krus]
  | r :: rs, g => by
    unfold krus
    split
    · have := krus_len rs g; simp; omega
    · have := krus_len rs (mrg g (getI g r.f) (getI g r.t)); simp; omega
def iotaTo (n t : Nat) : List Int := (List.range n).map fun i => if i < t then (i : Int) else 0
abbrev iota (n : Nat) : List Int := iotaTo n n
theorem iotaTo_len (n t : Nat) : (iotaTo n t).length = n := by simp [iotaTo]
theorem iotaTo_set {n t : Nat} (h : t < n) : (iotaTo n t).set t (t : Int) = iotaTo n (t + 1) := by
  refine List.ext_getElem? fun i => ?_
  rw [List.getElem?_set]
  by_cases e : t = i
  · subst e
    rw [if_pos rfl, if_pos (by rw [iotaTo_len]; exact h)]
    simp [iotaTo, h]
  · rw [if_neg e]
    simp only [iotaTo, List.getElem?_map]
    by_cases hi : i < n
    · rw [List.getElem?_range hi]
      simp only [Option.map_some]
      congr 1
      by_cases q : i < t
      · rw [if_pos q, if_pos (by omega)]
      · rw [if_neg q, if_neg (by omega)]
    · rw [List.getElem?_eq_none (by simpa using hi)]; rfl
theorem iotaTo_zero (n : Nat) : List.replicate n [vi 0] = cells (iotaTo n 0) := by
  refine List.ext_getElem? fun i => ?_
  by_cases hi : i < n
  · simp [iotaTo, cells, hi]
  · rw [List.getElem?_eq_none (by simpa using hi), List.getElem?_eq_none (by simpa [iotaTo, cells] using hi)]
theorem cells_set (g : List Int) (i : Nat) (x : Int) : (cells g).set i [vi x] = cells (g.set i x) := by simp [cells, List.map_set]
theorem cells_len (g : List Int) : (cells g).length = g.length := by simp [cells]
theorem cells_get {g : List Int} {i : Nat} {x : Int} (h : g[i]? = some x) : ∃ e : List Value, List.get?Internal (cells g) i = some e ∧ List.take 1 (List.drop 0 e) = [vi x] := ⟨[vi x], by show (cells g)[i]? = _; simp [cells, h], rfl⟩
theorem getI_some {g : List Int} {x : Int} (h0 : 0 ≤ x) (h : x.toNat < g.length) : g[x.toNat]? = some (getI g x) := by
  unfold getI
  rw [List.getD_eq_getElem?_getD, List.getElem?_eq_getElem h]; rfl
def mrgTo (g : List Int) (a b : Int) (s : Nat) : List Int := mrg (g.take s) a b ++ g.drop s
theorem mrgTo_len (g : List Int) (a b : Int) (s : Nat) : (mrgTo g a b s).length = g.length := by simp [mrgTo, mrg]; omega
theorem mrgTo_step {g : List Int} {a b : Int} {s : Nat} (h : s < g.length) : ∃ x, (mrgTo g a b s)[s]? = some x ∧
    (x = b → (mrgTo g a b s).set s a = mrgTo g a b (s + 1)) ∧ (x ≠ b → mrgTo g a b s = mrgTo g a b (s + 1)) := by
  obtain ⟨x, hd, htk, hx⟩ := drop_cons (l := g) (k := s) h
  have hl : (mrg (g.take s) a b).length = s := by simp [mrg]; omega
  refine ⟨x, ?_, ?_, ?_⟩
  · unfold mrgTo
    rw [List.getElem?_append_right (by omega), hl, Nat.sub_self, hd]; rfl
  · rintro rfl
    unfold mrgTo
    rw [htk, hd, List.set_append_right _ _ (by omega), hl, Nat.sub_self]
    simp [mrg]
  · intro hne
    unfold mrgTo
    rw [htk, hd]
    simp [mrg, hne]
abbrev PtU (p : Pt) : Prop := U32 p.x ∧ U32 p.y
theorem atP_get {l : List Pt} {i : Nat} (h : i < l.length) : l[i]? = some (atP l i) := by
  unfold atP
  rw [List.getD_eq_getElem?_getD, List.getElem?_eq_getElem h]; rfl
theorem fld {H : Heap} {A : Addr} {p : Pt} (h : H.has A (ptC p)) : H.has (A.add 1) [.int .u32 p.x] ∧ H.has (A.add 2) [.int .u32 p.y] := by
  refine ⟨fun j x hj => ?_, fun j x hj => ?_⟩
  · have hj0 : j = 0 := by have := (List.getElem?_eq_some_iff.1 hj).1; simp at this; omega
    subst hj0
    have e : (A.add 1).add 0 = A.add 1 := by cases A with | mk b o s => cases s <;> rfl
    rw [e]
    exact h 1 x hj
  · have hj0 : j = 0 := by have := (List.getElem?_eq_some_iff.1 hj).1; simp at this; omega
    subst hj0
    have e : (A.add 2).add 0 = A.add 2 := by cases A with | mk b o s => cases s <;> rfl
    rw [e]
    exact h 2 x hj
section
variable {H : Heap} {R : Ending → Heap → Prop}
theorem cmpM_road : CmpM prog 99 rdC cmpR := by
  intro x y H R k
  refine spec_of func99 (by kernel_rfl) (fun t h => by cases h) ?_ (vc_rcmp x.f x.t x.hi x.lo y.f y.t y.hi y.lo R H) ?_
  · simp [argsR, SV.rep, SC.rep, Sx.one, SegsRep]
  unfold nf_rcmp
  refine ⟨H, fun _ _ e => e, s_wcmp ⟨keep_same _ _ _, _, rfl, s_cmpi ⟨keep_same _ _ _, _, rfl, s_cmpi ⟨keep_same _ _ _, _, rfl, fun v H' hle hf hb hrow => ?_⟩⟩⟩⟩
  simp only [delLs_nil] at hle hf hb ⊢
  refine s_cor (l := [cmpD x.hi x.lo y.hi y.lo, sgn3 x.f y.f, sgn3 x.t y.t]) (row_slice hrow) (by simp) ⟨keep_same _ _ _, _, rfl, ?_⟩
  show R _ (Heap.delO H' (blockOf v))
  rw [lend_off hle hf hb]
  exact k
theorem s_rall {v : Value} {l : List Pt} (h : SliceAt H v 4 (pts l)) (hr : ∀ p ∈ l, PtU p) (hl : l.length ≤ 14)
    (k : ∀ d v' H', d.Perm (pairsL l) → d.Pairwise (fun x y => ¬ rLt y x) → H ≤ H' → (∀ b, blockOf v' = some b → H b = none) → RowAt H' v' 31 4 (rds d) → R (.returned v') H') : Meets prog 59 [v] H R := by
  obtain ⟨a, n, c, e, hn⟩ := h
  subst e
  have h : SliceAt H (.slice a n c) 4 (pts l) := ⟨a, n, c, rfl, hn⟩
  have hln : l.length = n := by simpa using hn.1
  have hU : ∀ i, i < n → PtU (atP l i) := fun i hi => hr _ (List.mem_of_getElem? (atP_get (by omega)))
  have bnd : ∀ t, t ≤ n → (pairsTo l t).length ≤ 196 := fun t ht => by
    have := pairsTo_len l t
    have h2 : t * l.length ≤ 14 * 14 := Nat.mul_le_mul (by omega) hl
    omega
  refine spec_of func59 (by kernel_rfl) (fun t h => by cases h) ?_ (vc_rall a n c R H) ?_
  · simp [argsR, SV.rep, SC.rep, Sx.one]
  unfold nf_rall
  simp only [true_and]
  refine ⟨fun p H' => ∃ t : Nat, p.1.1 = (t : Int) ∧ t ≤ n ∧ p.1.2.1 = rds (pairsTo l t) ∧ H' = H, fun p _ => (n - p.1.1).toNat, ⟨0, rfl, by omega, rfl, rfl⟩, ?_⟩
  rintro ⟨⟨i, rows, _⟩, _⟩ H1 ⟨t, hi, ht, hrows, rfl⟩
  simp only at hi hrows ⊢
  subst hi hrows
  refine br (fun q1 => ?_) fun q1 => ?_
  · simp only [decide_eq_true_eq] at q1
    have htn : t < n := by omega
    obtain ⟨A, e, g1⟩ := pr_get h (i := t) (atP_get (by omega))
    subst e
    rw [wi64 (k := (t : Int) + 1) (by omega)]
    refine ⟨⟨by omega, by omega⟩, ptr rfl (ptr rfl ⟨_, _, _, _, g1, ?_⟩)⟩
    refine ⟨fun p H' => ∃ s : Nat, p.1.1 = (s : Int) ∧ t + 1 ≤ s ∧ s ≤ n ∧ p.1.2.1 = rds (pairsTo l t ++ rowP l t s) ∧ H' = H1, fun p _ => (n - p.1.1).toNat, ⟨t + 1, rfl, by omega, by omega, by rw [rowP_low l t (t + 1) (by omega), List.append_nil], rfl⟩, ?_⟩
    rintro ⟨⟨i, rows, _⟩, _⟩ H2 ⟨s, hi, hs, hsn, hrows, rfl⟩
    simp only at hi hrows ⊢
    subst hi hrows
    refine br (fun q2 => ?_) fun q2 => ?_
    · simp only [decide_eq_true_eq] at q2
      obtain ⟨A', e, g2⟩ := pr_get h (i := s) (atP_get (by omega))
      cases e
      have g3 := fld g2
      have hap : List.append (rds (pairsTo l t ++ rowP l t s)) [[vi (t : Int), vi (s : Int), .int .u64 (dis (atP l t) (atP l s) / 18446744073709551616), .int .u64 (dis (atP l t) (atP l s) % 18446744073709551616)]] = rds (pairsTo l t ++ rowP l t (s + 1)) := by
        rw [rowP, if_pos (by omega)]
        simp [rds, rdAt]
      refine ⟨H2, fun _ _ e => e, ⟨by omega, by omega⟩, ptr rfl (ptr rfl (ptr rfl ⟨_, g3.1, ⟨by omega, by omega⟩, ptr rfl (ptr rfl (ptr rfl ⟨_, g3.2, ?_⟩))⟩))⟩
      refine s_wbet (hU t htn).1 (hU t htn).2 (hU s (by omega)).1 (hU s (by omega)).2 ⟨keep_same _ _ _, _, _, rfl, ?_, ?_⟩
      · rw [hap]
        have := bnd t (by omega)
        have := rowP_len l t (s + 1)
        simp only [rds, List.length_map, List.length_append]
        omega
      · rw [hap, wi64 (by omega), delLs_nil]
        exact ⟨⟨s + 1, by simp, by omega, by omega, rfl, rfl⟩, by simp; omega⟩
    · simp only [decide_eq_false_iff_not] at q2
      obtain rfl : s = n := by omega
      refine ⟨⟨t + 1, by simp, by omega, ?_, by trivial⟩, by simp; omega⟩
      rw [pairsTo, hln]
  · simp only [decide_eq_false_iff_not] at q1
    obtain rfl : t = n := by omega
    intro v1 H2 hle hf hb hrow
    refine meets_sortFunc (enc := rdC) (cf := cmpR) (k := 4) Go.Proofs.sortRoad isAgg31 sizeOf31 (fun _ => rfl) (fun x v hv => by simp at hv; rcases hv with rfl | rfl | rfl | rfl <;> rfl) swoR (by kernel_rfl) (by kernel_rfl) cmpM_road hrow (by have := bnd t (by omega); omega) ?_
    intro d H3 hp hs hr3 hm
    refine ⟨rfl, _, hr3, fun v2 H4 hle4 hf4 hb4 hrow4 => ?_⟩
    rw [mod_off hm, lend_off hle hf hb] at hle4 hf4
    refine k d v2 H4 (by have q := hp; rw [← hln] at q; exact q) (hs.imp fun {x y} h => ?_) hle4 hf4 hrow4
    rw [lt_cmpR] at h
    exact of_decide_eq_false h
theorem pair_rng {l : List Pt} {r : Rd} (h : r ∈ pairsL l) : 0 ≤ r.f ∧ r.f < r.t ∧ r.t < (l.length : Int) := by
  obtain ⟨i, j, h1, h2, h3, rfl⟩ := mem_pairsTo.1 h
  simp only [rdAt]
  omega
theorem rd_get {H : Heap} {a : Option Addr} {n cp : Nat} {l : List Rd} (h : SliceAt H (.slice a n cp) 4 (rds l)) {i : Nat} {x : Rd} (hx : l[i]? = some x) : ∃ A, a = some A ∧ H.has (A.add (i * 4)) (rdC x) := by
  obtain ⟨A, e, _, g⟩ := slice_get h (i := i) (e := rdC x) (by simp [rds, hx])
  exact ⟨A, e, g⟩
theorem s_roads {v : Value} {l : List Pt} (h : SliceAt H v 4 (pts l)) (hr : ∀ p ∈ l, PtU p) (hl : l.length ≤ 14)
    (k : ∀ d v' H', d.Perm (pairsL l) → d.Pairwise (fun x y => ¬ rLt y x) → H ≤ H' → (∀ b, blockOf v' = some b → H b = none) → RowAt H' v' 31 4 (rds (krus d (iota l.length))) → R (.returned v') H') : Meets prog 21 [v] H R := by
  obtain ⟨a, n, c, e, hn⟩ := h
  subst e
  have h : SliceAt H (.slice a n c) 4 (pts l) := ⟨a, n, c, rfl, hn⟩
  have hln : l.length = n := by simpa using hn.1
  refine spec_of func21 (by kernel_rfl) (fun t h => by cases h) ?_ (vc_roads a n c R H) ?_
  · simp [argsR, SV.rep, SC.rep, Sx.one]
  unfold nf_roads
  simp only [true_and]
  refine ⟨⟨by omega, by omega⟩, fun p H' => ∃ t : Nat, p.1.1 = (t : Int) ∧ t ≤ n ∧ p.1.2.1 = cells (iotaTo n t) ∧ H' = H, fun p _ => (n - p.1.1).toNat, ⟨0, rfl, by omega, by rw [Int.toNat_natCast]; exact iotaTo_zero n, rfl⟩, ?_⟩
  rintro ⟨⟨i, rows, _⟩, _⟩ H1 ⟨t, hi, ht, hrows, rfl⟩
  simp only at hi hrows ⊢
  subst hi hrows
  refine br (fun q1 => ?_) fun q1 => ?_
  · simp only [decide_eq_true_eq, List.length_replicate, Int.toNat_natCast] at q1
    rw [cells_len, iotaTo_len, wi64 (by omega), Int.toNat_natCast, cells_set, iotaTo_set (by omega)]
    exact ⟨⟨by omega, by omega⟩, by omega, ⟨t + 1, by simp, by omega, rfl, by trivial⟩, by simp; omega⟩
  · simp only [decide_eq_false_iff_not, List.length_replicate, Int.toNat_natCast] at q1
    obtain rfl : t = n := by omega
    refine s_rall h hr hl fun d v1 H2 hp hs hle hf hrow => ?_
    obtain ⟨a1, c1, rfl⟩ := row_val hrow
    have hd := row_slice hrow
    have hdl : (rds d).length = d.length := by simp
    have hdn : d.length ≤ 196 := by
      rw [hp.length_eq]
      have h1 : (pairsL l).length ≤ l.length * l.length := pairsTo_len l l.length
      have h2 : l.length * l.length ≤ 14 * 14 := Nat.mul_le_mul hl hl
      omega
    refine ⟨a1, _, c1, rfl, ?_⟩
    rw [hdl]
    refine ⟨fun p H' => ∃ (s : Nat) (g : List Int) (o : List Rd), p.1.1 = (s : Int) ∧ s ≤ d.length ∧ p.1.2.1 = cells g ∧ p.1.2.2.1 = rds o ∧ g.length = t ∧ krus d (iota t) = o ++ krus (d.drop s) g ∧ H' = H2, fun p _ => (d.length - p.1.1).toNat, ⟨0, iota t, [], rfl, by omega, rfl, rfl, iotaTo_len _ _, rfl, rfl⟩, ?_⟩
    rintro ⟨⟨i, rows, outs, _⟩, _⟩ H3 ⟨s, g, o, hi, hs1, hrows, houts, hg, hk, rfl⟩
    simp only at hi hrows houts ⊢
    subst hi hrows houts
    refine br (fun q2 => ?_) fun q2 => ?_
    · simp only [decide_eq_true_eq] at q2
      obtain ⟨x, hdr, _, hx⟩ := drop_cons (l := d) (k := s) (by omega)
      rw [hdl] at hd
      obtain ⟨A, e, gA⟩ := rd_get hd (i := s) hx
      subst e
      obtain ⟨r0, r1, r2⟩ := pair_rng (hp.subset (List.mem_of_getElem? hx))
      rw [cells_len, hg]
      have hol : o.length ≤ 196 := by
        have := krus_len d (iota t)
        rw [hk, List.length_append] at this
        omega
      refine ⟨⟨by omega, by omega⟩, ptr rfl (ptr rfl ⟨_, _, _, _, gA, ⟨r0, by omega⟩, _, cells_get (getI_some r0 (by omega)), ⟨by omega, by omega⟩, _, cells_get (getI_some (by omega) (by omega)), ?_⟩)⟩
      rw [hdr, krus] at hk
      rw [wi64 (by omega)]
      refine br (fun q3 => ?_) fun q3 => ?_
      · rw [if_pos (by simpa using q3)] at hk
        exact ⟨⟨s + 1, g, o, by simp, by omega, rfl, rfl, hg, hk, by trivial⟩, by simp; omega⟩
      · rw [if_neg (by simpa using q3)] at hk
        have hap : List.append (rds o) [[vi x.f, vi x.t, .int .u64 x.hi, .int .u64 x.lo]] = rds (o ++ [x]) := by simp [rds]
        rw [hap]
        refine ⟨by simp; omega, ?_⟩
        refine ⟨fun p H' => ∃ u : Nat, p.1.1 = (u : Int) ∧ u ≤ t ∧ p.1.2.1 = cells (mrgTo g (getI g x.f) (getI g x.t) u) ∧ H' = H3, fun p _ => (t - p.1.1).toNat, ⟨0, rfl, by omega, by simp [mrgTo, mrg], rfl⟩, ?_⟩
        rintro ⟨⟨i, rows, _⟩, _⟩ H4 ⟨u, hi, hu, hrows, rfl⟩
        simp only at hi hrows ⊢
        subst hi hrows
        rw [cells_len, mrgTo_len, hg]
        refine br (fun q4 => ?_) fun q4 => ?_
        · simp only [decide_eq_true_eq] at q4
          obtain ⟨y, hy, hy1, hy2⟩ := mrgTo_step (g := g) (a := getI g x.f) (b := getI g x.t) (s := u) (by omega)
          refine ⟨⟨by omega, by omega⟩, y, cells_get (by rw [Int.toNat_natCast]; exact hy), ?_⟩
          rw [wi64 (by omega)]
          refine br (fun q5 => ?_) fun q5 => ?_
          · rw [Int.toNat_natCast, cells_set, hy1 (by simpa using q5)]
            exact ⟨⟨by omega, by omega⟩, by omega, ⟨u + 1, by simp, by omega, rfl, by trivial⟩, by simp; omega⟩
          · rw [hy2 (by simpa using q5)]
            exact ⟨⟨u + 1, by simp, by omega, rfl, by trivial⟩, by simp; omega⟩
        · simp only [decide_eq_false_iff_not] at q4
          obtain rfl : u = t := by omega
          have e1 : mrgTo g (getI g x.f) (getI g x.t) u = mrg g (getI g x.f) (getI g x.t) := by
            unfold mrgTo
            rw [List.take_of_length_le (by omega), List.drop_of_length_le (by omega), List.append_nil]
          rw [e1]
          refine ⟨⟨s + 1, _, o ++ [x], by simp, by omega, rfl, rfl, by simp [mrg, hg], ?_, by trivial⟩, by simp; omega⟩
          rw [hk, List.append_assoc]; rfl
    · simp only [decide_eq_false_iff_not] at q2
      obtain rfl : s = d.length := by omega
      rw [List.drop_length, krus, List.append_nil] at hk
      intro v2 H4 hle4 hf4 hb4 hrow4
      refine k d v2 H4 hp hs (heap_trans hle hle4) (fun b hb => ?_) (by rw [hln, hk]; exact hrow4)
      have := hf4 b hb
      cases q : H1 b with
      | none => rfl
      | some ob => rw [hle _ _ q] at this; cases this
end
end Cr

set_option linter.unusedVariables false
set_option linter.unusedSimpArgs false
namespace Cr
open Go Sx
open Go.Proofs.Try
set_option maxRecDepth 100000
def h_bes : Hints := { give := [47], loops := [(3, ⟨[0, 1, 2, 6, 12, 13], [.f 14 (.int .i64), .row 7 3 1], []⟩)] }
def h_far : Hints := { loops := [(3, ⟨[0, 1, 2, 6, 15], [.f 16 (.int .i64), .row 7 3 1], []⟩), (9, ⟨[0, 1, 2, 6], [.row 7 3 1, .row 9 3 1], []⟩), (12, ⟨[0, 1, 2, 6, 38, 39], [.f 40 (.int .i64), .row 7 3 1, .row 9 3 1], []⟩)] }
def h_way : Hints := { deep := true, loops := [(9, ⟨[0, 1, 2, 3, 8, 9, 10], [.f 12 (.int .i64), .row 11 3 1], []⟩), (11, ⟨[0, 1, 2, 3, 8, 9, 10, 11, 12, 52, 53], [.f 54 (.int .i64)], [.keep 11]⟩)] }
def h_joi : Hints := { loops := [(2, ⟨[0, 1, 2, 6], [.f 7 (.int .i64)], []⟩)] }
def h_lways : Hints := { deep := true, cuts := [(6, ⟨[0, 2, 3, 8], [.f 1 .slc], []⟩)], loops := [(11, ⟨[0, 1, 2, 3, 8, 9, 10], [.f 12 (.int .i64), .row 11 3 1], []⟩), (16, ⟨[0, 1, 2, 3, 8, 9, 10], [.f 13 (.int .i64), .row 11 3 1], []⟩), (19, ⟨[0, 1, 2, 3, 8, 9, 10, 13], [.f 14 (.int .i64), .row 11 3 1], []⟩), (22, ⟨[0, 1, 2, 3, 8, 9, 10, 13, 14], [.f 15 (.int .i64), .row 11 3 1], []⟩), (30, ⟨[0, 1, 2, 3, 8, 9, 10, 11], [.f 16 (.int .i64), .f 17 (.int .i64)], [.keep 11]⟩), (35, ⟨[0, 1, 2, 3, 8, 9, 10, 11, 17], [.f 16 (.int .i64), .f 18 (.int .i64)], [.keep 11]⟩)] }
def nf_bes (m : Int) (a : Option Addr) (n : Nat) (c : Nat) (x : Int) (R : Ending → Heap → Prop) (H : Heap) : Prop := m = m ∧ a = a ∧ n = n ∧ c = c ∧ x = x ∧ (none : Option Addr) = none ∧ (0 : Nat) = (0 : Nat) ∧ (0 : Nat) = (0 : Nat) ∧ a = a ∧ n = n ∧ c = c ∧ (↑n : Int) = (↑n : Int) ∧ LoopP (fun (K : (Int × List (List Value) × PUnit) × PUnit → (Nat → Option Obj) → Prop) (p : (Int × List (List Value) × PUnit) × PUnit) (H : Nat → Option Obj) ↦ Br (decide (p.fst.fst < (↑n : Int))) (((0 : Int) ≤ p.fst.fst ∧ p.fst.fst < (↑n : Int)) ∧ PtrK a fun (A : Addr) ↦ PtrK (some (Addr.add A (Int.toNat p.fst.fst * (4 : Nat)))) fun (a_1 : Addr) ↦ ∃ (n_1 : Int), ∃ (n_2 : Int), ∃ (n_3 : Int), ∃ (n_4 : Int), Heap.has H a_1 [Value.int IntKind.i64 n_1, Value.int IntKind.i64 n_2, Value.int IntKind.u64 n_3, Value.int IntKind.u64 n_4] ∧ Br (n_2 == x) (Br (n_2 == x) (Br (decide (n_1 ≥ (0 : Int))) (Br (decide (n_1 < m)) (List.length (List.append p.fst.snd.fst [[Value.int IntKind.i64 n_1]]) * (8 : Nat) ≤ (140737488355328 : Nat) ∧ m = m ∧ a = a ∧ n = n ∧ c = c ∧ x = x ∧ (none : Option Addr) = none ∧ (0 : Nat) = (0 : Nat) ∧ (0 : Nat) = (0 : Nat) ∧ a = a ∧ n = n ∧ c = c ∧ (↑n : Int) = (↑n : Int) ∧ K ((IntKind.wrap IntKind.i64 (p.fst.fst + (1 : Int)), List.append p.fst.snd.fst [[Value.int IntKind.i64 n_1]], PUnit.unit), PUnit.unit) H) (m = m ∧ a = a ∧ n = n ∧ c = c ∧ x = x ∧ (none : Option Addr) = none ∧ (0 : Nat) = (0 : Nat) ∧ (0 : Nat) = (0 : Nat) ∧ a = a ∧ n = n ∧ c = c ∧ (↑n : Int) = (↑n : Int) ∧ K ((IntKind.wrap IntKind.i64 (p.fst.fst + (1 : Int)), p.fst.snd.fst, PUnit.unit), PUnit.unit) H)) (m = m ∧ a = a ∧ n = n ∧ c = c ∧ x = x ∧ (none : Option Addr) = none ∧ (0 : Nat) = (0 : Nat) ∧ (0 : Nat) = (0 : Nat) ∧ a = a ∧ n = n ∧ c = c ∧ (↑n : Int) = (↑n : Int) ∧ K ((IntKind.wrap IntKind.i64 (p.fst.fst + (1 : Int)), p.fst.snd.fst, PUnit.unit), PUnit.unit) H)) (m = m ∧ a = a ∧ n = n ∧ c = c ∧ x = x ∧ (none : Option Addr) = none ∧ (0 : Nat) = (0 : Nat) ∧ (0 : Nat) = (0 : Nat) ∧ a = a ∧ n = n ∧ c = c ∧ (↑n : Int) = (↑n : Int) ∧ K ((IntKind.wrap IntKind.i64 (p.fst.fst + (1 : Int)), p.fst.snd.fst, PUnit.unit), PUnit.unit) H)) (Br (n_1 == x) (Br (decide (n_2 ≥ (0 : Int))) (Br (decide (n_2 < m)) (List.length (List.append p.fst.snd.fst [[Value.int IntKind.i64 n_2]]) * (8 : Nat) ≤ (140737488355328 : Nat) ∧ m = m ∧ a = a ∧ n = n ∧ c = c ∧ x = x ∧ (none : Option Addr) = none ∧ (0 : Nat) = (0 : Nat) ∧ (0 : Nat) = (0 : Nat) ∧ a = a ∧ n = n ∧ c = c ∧ (↑n : Int) = (↑n : Int) ∧ K ((IntKind.wrap IntKind.i64 (p.fst.fst + (1 : Int)), List.append p.fst.snd.fst [[Value.int IntKind.i64 n_2]], PUnit.unit), PUnit.unit) H) (m = m ∧ a = a ∧ n = n ∧ c = c ∧ x = x ∧ (none : Option Addr) = none ∧ (0 : Nat) = (0 : Nat) ∧ (0 : Nat) = (0 : Nat) ∧ a = a ∧ n = n ∧ c = c ∧ (↑n : Int) = (↑n : Int) ∧ K ((IntKind.wrap IntKind.i64 (p.fst.fst + (1 : Int)), p.fst.snd.fst, PUnit.unit), PUnit.unit) H)) (m = m ∧ a = a ∧ n = n ∧ c = c ∧ x = x ∧ (none : Option Addr) = none ∧ (0 : Nat) = (0 : Nat) ∧ (0 : Nat) = (0 : Nat) ∧ a = a ∧ n = n ∧ c = c ∧ (↑n : Int) = (↑n : Int) ∧ K ((IntKind.wrap IntKind.i64 (p.fst.fst + (1 : Int)), p.fst.snd.fst, PUnit.unit), PUnit.unit) H)) (m = m ∧ a = a ∧ n = n ∧ c = c ∧ x = x ∧ (none : Option Addr) = none ∧ (0 : Nat) = (0 : Nat) ∧ (0 : Nat) = (0 : Nat) ∧ a = a ∧ n = n ∧ c = c ∧ (↑n : Int) = (↑n : Int) ∧ K ((IntKind.wrap IntKind.i64 (p.fst.fst + (1 : Int)), p.fst.snd.fst, PUnit.unit), PUnit.unit) H))) (∀ (v : Value) (H' : Nat → Option Obj), H ≤ H' → (∀ (b : Nat), blockOf v = some b → H b = none) → (∀ (b : Nat) (o : Obj), H' b = some o → H b = some o ∨ blockOf v = some b) → RowAt H' v (3 : Nat) (1 : Nat) p.fst.snd.fst → Meets prog (101 : Nat) [v] H' fun (e : Ending) (H' : Nat → Option Obj) ↦ e = Ending.returned (Value.tuple { toList := [] }) ∧ ∃ (es : List (List Value)), RowAt H' v (3 : Nat) (1 : Nat) es ∧ ∀ (v_1 : Value) (H'_1 : Nat → Option Obj), Heap.delO H' (blockOf v) ≤ H'_1 → (∀ (b : Nat), blockOf v_1 = some b → Heap.delO H' (blockOf v) b = none) → (∀ (b : Nat) (o : Obj), H'_1 b = some o → Heap.delO H' (blockOf v) b = some o ∨ blockOf v_1 = some b) → RowAt H'_1 v_1 (3 : Nat) (1 : Nat) es → Meets prog (102 : Nat) [v_1] H'_1 fun (e : Ending) (H' : Nat → Option Obj) ↦ (fun (x : Nat) ↦ none) ≤ H' ∧ ∃ (a : Option Addr), ∃ (n : Nat), ∃ (c : Nat), e = Ending.returned (Value.slice a n c) ∧ R (Ending.returned (Value.slice a n c)) H')) (((0 : Int), [], PUnit.unit), PUnit.unit) H
theorem vc_bes (m : Int) (a : Option Addr) (n : Nat) (c : Nat) (x : Int) (R : Ending → Heap → Prop) (H : Heap) : vcFun prog h_bes f64 [SV.c (SC.v (Value.int IntKind.i64 m)), SV.c (SC.v (Value.slice a n c)), SV.c (SC.v (Value.int IntKind.i64 x))] R H = nf_bes m a n c x R H := by kernel_rfl

def nf_far (m : Int) (a : Option Addr) (n : Nat) (c : Nat) (x : Int) (R : Ending → Heap → Prop) (H : Heap) : Prop := ((0 : Int) ≤ m ∧ m = m ∧ m * (↑(8 : Nat) : Int) ≤ (↑(140737488355328 : Nat) : Int)) ∧ m = m ∧ a = a ∧ n = n ∧ c = c ∧ x = x ∧ (none : Option Addr) = none ∧ (0 : Nat) = (0 : Nat) ∧ (0 : Nat) = (0 : Nat) ∧ (↑(List.length (List.replicate (Int.toNat m) [Value.int IntKind.i64 (0 : Int)])) : Int) = (↑(List.length (List.replicate (Int.toNat m) [Value.int IntKind.i64 (0 : Int)])) : Int) ∧ LoopP (fun (K : (Int × List (List Value) × PUnit) × PUnit → (Nat → Option Obj) → Prop) (p : (Int × List (List Value) × PUnit) × PUnit) (H : Nat → Option Obj) ↦ Br (decide (p.fst.fst < (↑(List.length (List.replicate (Int.toNat m) [Value.int IntKind.i64 (0 : Int)])) : Int))) (((0 : Int) ≤ p.fst.fst ∧ p.fst.fst < (↑(List.length p.fst.snd.fst) : Int)) ∧ Int.toNat p.fst.fst < List.length p.fst.snd.fst ∧ m = m ∧ a = a ∧ n = n ∧ c = c ∧ x = x ∧ (none : Option Addr) = none ∧ (0 : Nat) = (0 : Nat) ∧ (0 : Nat) = (0 : Nat) ∧ (↑(List.length (List.replicate (Int.toNat m) [Value.int IntKind.i64 (0 : Int)])) : Int) = (↑(List.length (List.replicate (Int.toNat m) [Value.int IntKind.i64 (0 : Int)])) : Int) ∧ K ((IntKind.wrap IntKind.i64 (p.fst.fst + (1 : Int)), List.set p.fst.snd.fst (Int.toNat p.fst.fst) [Value.int IntKind.i64 (-1 : Int)], PUnit.unit), PUnit.unit) H) (((0 : Int) ≤ x ∧ x < (↑(List.length p.fst.snd.fst) : Int)) ∧ Int.toNat x < List.length p.fst.snd.fst ∧ m = m ∧ a = a ∧ n = n ∧ c = c ∧ x = x ∧ (none : Option Addr) = none ∧ (0 : Nat) = (0 : Nat) ∧ (0 : Nat) = (0 : Nat) ∧ LoopP (fun (K : (List (List Value) × List (List Value) × PUnit) × PUnit → (Nat → Option Obj) → Prop) (p : (List (List Value) × List (List Value) × PUnit) × PUnit) (H : Nat → Option Obj) ↦ Br (decide ((↑(List.length p.fst.snd.fst) : Int) > (0 : Int))) (((0 : Int) ≤ (0 : Int) ∧ (0 : Int) < (↑(List.length p.fst.snd.fst) : Int)) ∧ ∃ (n_1 : Int), (∃ (e : List Value), List.get?Internal p.fst.snd.fst (0 : Nat) = some e ∧ List.take (1 : Nat) (List.drop (0 : Nat) e) = [Value.int IntKind.i64 n_1]) ∧ Meets prog (64 : Nat) [Value.int IntKind.i64 m, Value.slice a n c, Value.int IntKind.i64 n_1] H fun (e : Ending) (H' : Nat → Option Obj) ↦ ∃ (a_1 : Option Addr), ∃ (n_2 : Nat), ∃ (c_1 : Nat), e = Ending.returned (Value.slice a_1 n_2 c_1) ∧ m = m ∧ a = a ∧ n = n ∧ c = c ∧ x = x ∧ (none : Option Addr) = none ∧ (0 : Nat) = (0 : Nat) ∧ (0 : Nat) = (0 : Nat) ∧ a_1 = a_1 ∧ n_2 = n_2 ∧ c_1 = c_1 ∧ (↑n_2 : Int) = (↑n_2 : Int) ∧ LoopP (fun (K_1 : (Int × List (List Value) × List (List Value) × PUnit) × PUnit → (Nat → Option Obj) → Prop) (p : (Int × List (List Value) × List (List Value) × PUnit) × PUnit) (H : Nat → Option Obj) ↦ Br (decide (p.fst.fst < (↑n_2 : Int))) (((0 : Int) ≤ p.fst.fst ∧ p.fst.fst < (↑n_2 : Int)) ∧ PtrK a_1 fun (A : Addr) ↦ PtrK (some (Addr.add A (Int.toNat p.fst.fst * (1 : Nat)))) fun (a_2 : Addr) ↦ ∃ (n_3 : Int), Heap.has H a_2 [Value.int IntKind.i64 n_3] ∧ ((0 : Int) ≤ n_3 ∧ n_3 < (↑(List.length p.fst.snd.fst) : Int)) ∧ ∃ (n_4 : Int), (∃ (e : List Value), List.get?Internal p.fst.snd.fst (Int.toNat n_3) = some e ∧ List.take (1 : Nat) (List.drop (0 : Nat) e) = [Value.int IntKind.i64 n_4]) ∧ Br (decide (n_4 < (0 : Int))) (((0 : Int) ≤ (0 : Int) ∧ (0 : Int) < (↑(List.length p.fst.snd.snd.fst) : Int)) ∧ ∃ (n_5 : Int), (∃ (e : List Value), List.get?Internal p.fst.snd.snd.fst (0 : Nat) = some e ∧ List.take (1 : Nat) (List.drop (0 : Nat) e) = [Value.int IntKind.i64 n_5]) ∧ ((0 : Int) ≤ n_5 ∧ n_5 < (↑(List.length p.fst.snd.fst) : Int)) ∧ ∃ (n_6 : Int), (∃ (e : List Value), List.get?Internal p.fst.snd.fst (Int.toNat n_5) = some e ∧ List.take (1 : Nat) (List.drop (0 : Nat) e) = [Value.int IntKind.i64 n_6]) ∧ ((0 : Int) ≤ n_3 ∧ n_3 < (↑(List.length p.fst.snd.fst) : Int)) ∧ Int.toNat n_3 < List.length p.fst.snd.fst ∧ List.length (List.append p.fst.snd.snd.fst [[Value.int IntKind.i64 n_3]]) * (8 : Nat) ≤ (140737488355328 : Nat) ∧ m = m ∧ a = a ∧ n = n ∧ c = c ∧ x = x ∧ (none : Option Addr) = none ∧ (0 : Nat) = (0 : Nat) ∧ (0 : Nat) = (0 : Nat) ∧ a_1 = a_1 ∧ n_2 = n_2 ∧ c_1 = c_1 ∧ (↑n_2 : Int) = (↑n_2 : Int) ∧ K_1 ((IntKind.wrap IntKind.i64 (p.fst.fst + (1 : Int)), List.set p.fst.snd.fst (Int.toNat n_3) [Value.int IntKind.i64 (IntKind.wrap IntKind.i64 (n_6 + (1 : Int)))], List.append p.fst.snd.snd.fst [[Value.int IntKind.i64 n_3]], PUnit.unit), PUnit.unit) H) (m = m ∧ a = a ∧ n = n ∧ c = c ∧ x = x ∧ (none : Option Addr) = none ∧ (0 : Nat) = (0 : Nat) ∧ (0 : Nat) = (0 : Nat) ∧ a_1 = a_1 ∧ n_2 = n_2 ∧ c_1 = c_1 ∧ (↑n_2 : Int) = (↑n_2 : Int) ∧ K_1 ((IntKind.wrap IntKind.i64 (p.fst.fst + (1 : Int)), p.fst.snd.fst, p.fst.snd.snd.fst, PUnit.unit), PUnit.unit) H)) (((0 : Int) ≤ (1 : Int) ∧ (1 : Int) ≤ (↑(List.length p.fst.snd.snd.fst) : Int)) ∧ m = m ∧ a = a ∧ n = n ∧ c = c ∧ x = x ∧ (none : Option Addr) = none ∧ (0 : Nat) = (0 : Nat) ∧ (0 : Nat) = (0 : Nat) ∧ K ((p.fst.snd.fst, List.take (List.length p.fst.snd.snd.fst - (1 : Nat)) (List.drop (1 : Nat) p.fst.snd.snd.fst), PUnit.unit), PUnit.unit) H)) (((0 : Int), p.fst.fst, p.fst.snd.fst, PUnit.unit), PUnit.unit) H') (∀ (v : Value) (H' : Nat → Option Obj), H ≤ H' → (∀ (b : Nat), blockOf v = some b → H b = none) → (∀ (b : Nat) (o : Obj), H' b = some o → H b = some o ∨ blockOf v = some b) → RowAt H' v (3 : Nat) (1 : Nat) p.fst.fst → R (Ending.returned v) H')) ((List.set p.fst.snd.fst (Int.toNat x) [Value.int IntKind.i64 (0 : Int)], [[Value.int IntKind.i64 x]], PUnit.unit), PUnit.unit) H)) (((0 : Int), List.replicate (Int.toNat m) [Value.int IntKind.i64 (0 : Int)], PUnit.unit), PUnit.unit) H
theorem vc_far (m : Int) (a : Option Addr) (n : Nat) (c : Nat) (x : Int) (R : Ending → Heap → Prop) (H : Heap) : vcFun prog h_far f63 [SV.c (SC.v (Value.int IntKind.i64 m)), SV.c (SC.v (Value.slice a n c)), SV.c (SC.v (Value.int IntKind.i64 x))] R H = nf_far m a n c x R H := by kernel_rfl

def nf_way (m : Int) (a : Option Addr) (n : Nat) (c : Nat) (x : Int) (y : Int) (R : Ending → Heap → Prop) (H : Heap) : Prop := Br (decide (x < (0 : Int))) (R (Ending.returned (Value.tuple { toList := [Value.slice none (0 : Nat) (0 : Nat), Value.bool false] })) H) (Br (decide (x ≥ minI (maxI m (0 : Int)) (4096 : Int))) (R (Ending.returned (Value.tuple { toList := [Value.slice none (0 : Nat) (0 : Nat), Value.bool false] })) H) (Br (decide (y < (0 : Int))) (R (Ending.returned (Value.tuple { toList := [Value.slice none (0 : Nat) (0 : Nat), Value.bool false] })) H) (Br (decide (y ≥ minI (maxI m (0 : Int)) (4096 : Int))) (R (Ending.returned (Value.tuple { toList := [Value.slice none (0 : Nat) (0 : Nat), Value.bool false] })) H) (Meets prog (63 : Nat) [Value.int IntKind.i64 (minI (maxI m (0 : Int)) (4096 : Int)), Value.slice a n c, Value.int IntKind.i64 y] H fun (e : Ending) (H' : Nat → Option Obj) ↦ ∃ (a_1 : Option Addr), ∃ (n_1 : Nat), ∃ (c_1 : Nat), e = Ending.returned (Value.slice a_1 n_1 c_1) ∧ ((0 : Int) ≤ x ∧ x < (↑n_1 : Int)) ∧ PtrK a_1 fun (A : Addr) ↦ PtrK (some (Addr.add A (Int.toNat x * (1 : Nat)))) fun (a_2 : Addr) ↦ ∃ (n_2 : Int), Heap.has H' a_2 [Value.int IntKind.i64 n_2] ∧ Br (decide (n_2 < (0 : Int))) (R (Ending.returned (Value.tuple { toList := [Value.slice none (0 : Nat) (0 : Nat), Value.bool false] })) H') (minI (maxI m (0 : Int)) (4096 : Int) = minI (maxI m (0 : Int)) (4096 : Int) ∧ a = a ∧ n = n ∧ c = c ∧ x = x ∧ y = y ∧ (none : Option Addr) = none ∧ (0 : Nat) = (0 : Nat) ∧ (0 : Nat) = (0 : Nat) ∧ false = false ∧ a_1 = a_1 ∧ n_1 = n_1 ∧ c_1 = c_1 ∧ LoopP (fun (K : (Int × List (List Value) × PUnit) × PUnit → (Nat → Option Obj) → Prop) (p : (Int × List (List Value) × PUnit) × PUnit) (H : Nat → Option Obj) ↦ Br (p.fst.fst != y) (Meets prog (64 : Nat) [Value.int IntKind.i64 (minI (maxI m (0 : Int)) (4096 : Int)), Value.slice a n c, Value.int IntKind.i64 p.fst.fst] H fun (e : Ending) (H' : Nat → Option Obj) ↦ ∃ (a_3 : Option Addr), ∃ (n_3 : Nat), ∃ (c_2 : Nat), e = Ending.returned (Value.slice a_3 n_3 c_2) ∧ minI (maxI m (0 : Int)) (4096 : Int) = minI (maxI m (0 : Int)) (4096 : Int) ∧ a = a ∧ n = n ∧ c = c ∧ x = x ∧ y = y ∧ (none : Option Addr) = none ∧ (0 : Nat) = (0 : Nat) ∧ (0 : Nat) = (0 : Nat) ∧ false = false ∧ a_1 = a_1 ∧ n_1 = n_1 ∧ c_1 = c_1 ∧ p.fst.fst = p.fst.fst ∧ a_3 = a_3 ∧ n_3 = n_3 ∧ c_2 = c_2 ∧ (↑n_3 : Int) = (↑n_3 : Int) ∧ p.fst.snd.fst = p.fst.snd.fst ∧ LoopP (fun (K_1 : (Int × PUnit) × PUnit × PUnit → (Nat → Option Obj) → Prop) (p_1 : (Int × PUnit) × PUnit × PUnit) (H : Nat → Option Obj) ↦ Br (decide (p_1.fst.fst < (↑n_3 : Int))) (((0 : Int) ≤ p_1.fst.fst ∧ p_1.fst.fst < (↑n_3 : Int)) ∧ PtrK a_3 fun (A : Addr) ↦ PtrK (some (Addr.add A (Int.toNat p_1.fst.fst * (1 : Nat)))) fun (a_4 : Addr) ↦ ∃ (n_4 : Int), Heap.has H a_4 [Value.int IntKind.i64 n_4] ∧ ((0 : Int) ≤ n_4 ∧ n_4 < (↑n_1 : Int)) ∧ PtrK a_1 fun (A : Addr) ↦ PtrK (some (Addr.add A (Int.toNat n_4 * (1 : Nat)))) fun (a_5 : Addr) ↦ ∃ (n_5 : Int), Heap.has H a_5 [Value.int IntKind.i64 n_5] ∧ ((0 : Int) ≤ p.fst.fst ∧ p.fst.fst < (↑n_1 : Int)) ∧ PtrK a_1 fun (A : Addr) ↦ PtrK (some (Addr.add A (Int.toNat p.fst.fst * (1 : Nat)))) fun (a_6 : Addr) ↦ ∃ (n_6 : Int), Heap.has H a_6 [Value.int IntKind.i64 n_6] ∧ Br (n_5 == IntKind.wrap IntKind.i64 (n_6 - (1 : Int))) (List.length (List.append p.fst.snd.fst [[Value.int IntKind.i64 n_4]]) * (8 : Nat) ≤ (140737488355328 : Nat) ∧ minI (maxI m (0 : Int)) (4096 : Int) = minI (maxI m (0 : Int)) (4096 : Int) ∧ a = a ∧ n = n ∧ c = c ∧ x = x ∧ y = y ∧ (none : Option Addr) = none ∧ (0 : Nat) = (0 : Nat) ∧ (0 : Nat) = (0 : Nat) ∧ false = false ∧ a_1 = a_1 ∧ n_1 = n_1 ∧ c_1 = c_1 ∧ K ((n_4, List.append p.fst.snd.fst [[Value.int IntKind.i64 n_4]], PUnit.unit), PUnit.unit) H) (minI (maxI m (0 : Int)) (4096 : Int) = minI (maxI m (0 : Int)) (4096 : Int) ∧ a = a ∧ n = n ∧ c = c ∧ x = x ∧ y = y ∧ (none : Option Addr) = none ∧ (0 : Nat) = (0 : Nat) ∧ (0 : Nat) = (0 : Nat) ∧ false = false ∧ a_1 = a_1 ∧ n_1 = n_1 ∧ c_1 = c_1 ∧ p.fst.fst = p.fst.fst ∧ a_3 = a_3 ∧ n_3 = n_3 ∧ c_2 = c_2 ∧ (↑n_3 : Int) = (↑n_3 : Int) ∧ p.fst.snd.fst = p.fst.snd.fst ∧ K_1 ((IntKind.wrap IntKind.i64 (p_1.fst.fst + (1 : Int)), PUnit.unit), PUnit.unit, PUnit.unit) H)) (R (Ending.returned (Value.tuple { toList := [Value.slice none (0 : Nat) (0 : Nat), Value.bool false] })) H)) (((0 : Int), PUnit.unit), PUnit.unit, PUnit.unit) H') (∀ (v : Value) (H' : Nat → Option Obj), H ≤ H' → (∀ (b : Nat), blockOf v = some b → H b = none) → (∀ (b : Nat) (o : Obj), H' b = some o → H b = some o ∨ blockOf v = some b) → RowAt H' v (3 : Nat) (1 : Nat) p.fst.snd.fst → R (Ending.returned (Value.tuple { toList := [v, Value.bool true] })) H')) ((x, [[Value.int IntKind.i64 x]], PUnit.unit), PUnit.unit) H')))))
theorem vc_way (m : Int) (a : Option Addr) (n : Nat) (c : Nat) (x : Int) (y : Int) (R : Ending → Heap → Prop) (H : Heap) : vcFun prog h_way f26 [SV.c (SC.v (Value.int IntKind.i64 m)), SV.c (SC.v (Value.slice a n c)), SV.c (SC.v (Value.int IntKind.i64 x)), SV.c (SC.v (Value.int IntKind.i64 y))] R H = nf_way m a n c x y R H := by kernel_rfl

def nf_joi (a : Option Addr) (n : Nat) (c : Nat) (x : Int) (y : Int) (R : Ending → Heap → Prop) (H : Heap) : Prop := a = a ∧ n = n ∧ c = c ∧ x = x ∧ y = y ∧ false = false ∧ LoopP (fun (K : (Int × PUnit) × PUnit → (Nat → Option Obj) → Prop) (p : (Int × PUnit) × PUnit) (H : Nat → Option Obj) ↦ Br (decide (p.fst.fst < (↑n : Int))) (((0 : Int) ≤ p.fst.fst ∧ p.fst.fst < (↑n : Int)) ∧ PtrK a fun (A : Addr) ↦ PtrK (some (Addr.add A (Int.toNat p.fst.fst * (4 : Nat)))) fun (a_1 : Addr) ↦ PtrK (some (Addr.add a_1 (0 : Nat))) fun (a_2 : Addr) ↦ ∃ (n_1 : Int), Heap.has H a_2 [Value.int IntKind.i64 n_1] ∧ Br (n_1 == x) (((0 : Int) ≤ p.fst.fst ∧ p.fst.fst < (↑n : Int)) ∧ PtrK a fun (A : Addr) ↦ PtrK (some (Addr.add A (Int.toNat p.fst.fst * (4 : Nat)))) fun (a_3 : Addr) ↦ PtrK (some (Addr.add a_3 (1 : Nat))) fun (a_4 : Addr) ↦ ∃ (n_2 : Int), Heap.has H a_4 [Value.int IntKind.i64 n_2] ∧ Br (n_2 == y) (R (Ending.returned (Value.bool true)) H) (((0 : Int) ≤ p.fst.fst ∧ p.fst.fst < (↑n : Int)) ∧ PtrK a fun (A : Addr) ↦ PtrK (some (Addr.add A (Int.toNat p.fst.fst * (4 : Nat)))) fun (a_5 : Addr) ↦ PtrK (some (Addr.add a_5 (0 : Nat))) fun (a_6 : Addr) ↦ ∃ (n_3 : Int), Heap.has H a_6 [Value.int IntKind.i64 n_3] ∧ Br (n_3 == y) (((0 : Int) ≤ p.fst.fst ∧ p.fst.fst < (↑n : Int)) ∧ PtrK a fun (A : Addr) ↦ PtrK (some (Addr.add A (Int.toNat p.fst.fst * (4 : Nat)))) fun (a_7 : Addr) ↦ PtrK (some (Addr.add a_7 (1 : Nat))) fun (a_8 : Addr) ↦ ∃ (n_4 : Int), Heap.has H a_8 [Value.int IntKind.i64 n_4] ∧ Br (n_4 == x) (R (Ending.returned (Value.bool true)) H) (a = a ∧ n = n ∧ c = c ∧ x = x ∧ y = y ∧ false = false ∧ K ((IntKind.wrap IntKind.i64 (p.fst.fst + (1 : Int)), PUnit.unit), PUnit.unit) H)) (a = a ∧ n = n ∧ c = c ∧ x = x ∧ y = y ∧ false = false ∧ K ((IntKind.wrap IntKind.i64 (p.fst.fst + (1 : Int)), PUnit.unit), PUnit.unit) H))) (((0 : Int) ≤ p.fst.fst ∧ p.fst.fst < (↑n : Int)) ∧ PtrK a fun (A : Addr) ↦ PtrK (some (Addr.add A (Int.toNat p.fst.fst * (4 : Nat)))) fun (a_3 : Addr) ↦ PtrK (some (Addr.add a_3 (0 : Nat))) fun (a_4 : Addr) ↦ ∃ (n_2 : Int), Heap.has H a_4 [Value.int IntKind.i64 n_2] ∧ Br (n_2 == y) (((0 : Int) ≤ p.fst.fst ∧ p.fst.fst < (↑n : Int)) ∧ PtrK a fun (A : Addr) ↦ PtrK (some (Addr.add A (Int.toNat p.fst.fst * (4 : Nat)))) fun (a_5 : Addr) ↦ PtrK (some (Addr.add a_5 (1 : Nat))) fun (a_6 : Addr) ↦ ∃ (n_3 : Int), Heap.has H a_6 [Value.int IntKind.i64 n_3] ∧ Br (n_3 == x) (R (Ending.returned (Value.bool true)) H) (a = a ∧ n = n ∧ c = c ∧ x = x ∧ y = y ∧ false = false ∧ K ((IntKind.wrap IntKind.i64 (p.fst.fst + (1 : Int)), PUnit.unit), PUnit.unit) H)) (a = a ∧ n = n ∧ c = c ∧ x = x ∧ y = y ∧ false = false ∧ K ((IntKind.wrap IntKind.i64 (p.fst.fst + (1 : Int)), PUnit.unit), PUnit.unit) H))) (R (Ending.returned (Value.bool false)) H)) (((0 : Int), PUnit.unit), PUnit.unit) H
theorem vc_joi (a : Option Addr) (n : Nat) (c : Nat) (x : Int) (y : Int) (R : Ending → Heap → Prop) (H : Heap) : vcFun prog h_joi f27 [SV.c (SC.v (Value.slice a n c)), SV.c (SC.v (Value.int IntKind.i64 x)), SV.c (SC.v (Value.int IntKind.i64 y))] R H = nf_joi a n c x y R H := by kernel_rfl

def nf_lways (m : Int) (a : Option Addr) (n : Nat) (c : Nat) (x : Int) (y : Int) (R : Ending → Heap → Prop) (H : Heap) : Prop := Meets prog (20 : Nat) [] H fun (e : Ending) (H' : Nat → Option Obj) ↦ ∃ (b : Bool), e = Ending.returned (Value.bool b) ∧ Br (!b) (R (Ending.returned (Value.bool false)) H') ((10 : Int) ≠ (0 : Int) ∧ (10 : Int) ≠ (0 : Int) ∧ CutP (fun (I : ((Option Addr × Nat × Nat) × PUnit) × PUnit → (Nat → Option Obj) → Prop) ↦ Br (decide ((↑n : Int) > (20 : Int))) (((0 : Int) ≤ (20 : Int) ∧ (20 : Int) ≤ (↑c : Int)) ∧ Int.tmod (IntKind.wrap IntKind.i64 (Int.tmod m (10 : Int) + (10 : Int))) (10 : Int) = Int.tmod (IntKind.wrap IntKind.i64 (Int.tmod m (10 : Int) + (10 : Int))) (10 : Int) ∧ x = x ∧ y = y ∧ false = false ∧ I (((subAddr a c (0 : Nat) (4 : Nat), (20 : Nat), c - (0 : Nat)), PUnit.unit), PUnit.unit) H') (Int.tmod (IntKind.wrap IntKind.i64 (Int.tmod m (10 : Int) + (10 : Int))) (10 : Int) = Int.tmod (IntKind.wrap IntKind.i64 (Int.tmod m (10 : Int) + (10 : Int))) (10 : Int) ∧ x = x ∧ y = y ∧ false = false ∧ I (((a, n, c), PUnit.unit), PUnit.unit) H')) fun (p : ((Option Addr × Nat × Nat) × PUnit) × PUnit) (H : Nat → Option Obj) ↦ Meets prog (26 : Nat) [Value.int IntKind.i64 (Int.tmod (IntKind.wrap IntKind.i64 (Int.tmod m (10 : Int) + (10 : Int))) (10 : Int)), Value.slice p.fst.fst.1 p.fst.fst.snd.fst p.fst.fst.snd.snd, Value.int IntKind.i64 x, Value.int IntKind.i64 y] H fun (e : Ending) (H' : Nat → Option Obj) ↦ ∃ (a : Option Addr), ∃ (n : Nat), ∃ (c : Nat), ∃ (b : Bool), e = Ending.returned (Value.tuple { toList := [Value.slice a n c, Value.bool b] }) ∧ Br (decide (x < (0 : Int))) (Br (!b) (R (Ending.returned (Value.bool ((↑n : Int) == (0 : Int)))) H') (R (Ending.returned (Value.bool false)) H')) (Br (decide (x ≥ Int.tmod (IntKind.wrap IntKind.i64 (Int.tmod m (10 : Int) + (10 : Int))) (10 : Int))) (Br (!b) (R (Ending.returned (Value.bool ((↑n : Int) == (0 : Int)))) H') (R (Ending.returned (Value.bool false)) H')) (Br (decide (y < (0 : Int))) (Br (!b) (R (Ending.returned (Value.bool ((↑n : Int) == (0 : Int)))) H') (R (Ending.returned (Value.bool false)) H')) (Br (decide (y ≥ Int.tmod (IntKind.wrap IntKind.i64 (Int.tmod m (10 : Int) + (10 : Int))) (10 : Int))) (Br (!b) (R (Ending.returned (Value.bool ((↑n : Int) == (0 : Int)))) H') (R (Ending.returned (Value.bool false)) H')) (((0 : Int) ≤ Int.tmod (IntKind.wrap IntKind.i64 (Int.tmod m (10 : Int) + (10 : Int))) (10 : Int) ∧ Int.tmod (IntKind.wrap IntKind.i64 (Int.tmod m (10 : Int) + (10 : Int))) (10 : Int) = Int.tmod (IntKind.wrap IntKind.i64 (Int.tmod m (10 : Int) + (10 : Int))) (10 : Int) ∧ Int.tmod (IntKind.wrap IntKind.i64 (Int.tmod m (10 : Int) + (10 : Int))) (10 : Int) * (↑(8 : Nat) : Int) ≤ (↑(140737488355328 : Nat) : Int)) ∧ Int.tmod (IntKind.wrap IntKind.i64 (Int.tmod m (10 : Int) + (10 : Int))) (10 : Int) = Int.tmod (IntKind.wrap IntKind.i64 (Int.tmod m (10 : Int) + (10 : Int))) (10 : Int) ∧ p.fst.fst.1 = p.fst.fst.1 ∧ p.fst.fst.snd.fst = p.fst.fst.snd.fst ∧ p.fst.fst.snd.snd = p.fst.fst.snd.snd ∧ x = x ∧ y = y ∧ false = false ∧ a = a ∧ n = n ∧ c = c ∧ b = b ∧ LoopP (fun (K : (Int × List (List Value) × PUnit) × PUnit → (Nat → Option Obj) → Prop) (p_1 : (Int × List (List Value) × PUnit) × PUnit) (H : Nat → Option Obj) ↦ Br (decide (p_1.fst.fst < Int.tmod (IntKind.wrap IntKind.i64 (Int.tmod m (10 : Int) + (10 : Int))) (10 : Int))) (((0 : Int) ≤ p_1.fst.fst ∧ p_1.fst.fst < (↑(List.length p_1.fst.snd.fst) : Int)) ∧ Int.toNat p_1.fst.fst < List.length p_1.fst.snd.fst ∧ Int.tmod (IntKind.wrap IntKind.i64 (Int.tmod m (10 : Int) + (10 : Int))) (10 : Int) = Int.tmod (IntKind.wrap IntKind.i64 (Int.tmod m (10 : Int) + (10 : Int))) (10 : Int) ∧ p.fst.fst.1 = p.fst.fst.1 ∧ p.fst.fst.snd.fst = p.fst.fst.snd.fst ∧ p.fst.fst.snd.snd = p.fst.fst.snd.snd ∧ x = x ∧ y = y ∧ false = false ∧ a = a ∧ n = n ∧ c = c ∧ b = b ∧ K ((IntKind.wrap IntKind.i64 (p_1.fst.fst + (1 : Int)), List.set p_1.fst.snd.fst (Int.toNat p_1.fst.fst) [Value.int IntKind.i64 (99 : Int)], PUnit.unit), PUnit.unit) H) (((0 : Int) ≤ y ∧ y < (↑(List.length p_1.fst.snd.fst) : Int)) ∧ Int.toNat y < List.length p_1.fst.snd.fst ∧ Int.tmod (IntKind.wrap IntKind.i64 (Int.tmod m (10 : Int) + (10 : Int))) (10 : Int) = Int.tmod (IntKind.wrap IntKind.i64 (Int.tmod m (10 : Int) + (10 : Int))) (10 : Int) ∧ p.fst.fst.1 = p.fst.fst.1 ∧ p.fst.fst.snd.fst = p.fst.fst.snd.fst ∧ p.fst.fst.snd.snd = p.fst.fst.snd.snd ∧ x = x ∧ y = y ∧ false = false ∧ a = a ∧ n = n ∧ c = c ∧ b = b ∧ LoopP (fun (K : (Int × List (List Value) × PUnit) × PUnit → (Nat → Option Obj) → Prop) (p_2 : (Int × List (List Value) × PUnit) × PUnit) (H : Nat → Option Obj) ↦ Br (decide (p_2.fst.fst < Int.tmod (IntKind.wrap IntKind.i64 (Int.tmod m (10 : Int) + (10 : Int))) (10 : Int))) (Int.tmod (IntKind.wrap IntKind.i64 (Int.tmod m (10 : Int) + (10 : Int))) (10 : Int) = Int.tmod (IntKind.wrap IntKind.i64 (Int.tmod m (10 : Int) + (10 : Int))) (10 : Int) ∧ p.fst.fst.1 = p.fst.fst.1 ∧ p.fst.fst.snd.fst = p.fst.fst.snd.fst ∧ p.fst.fst.snd.snd = p.fst.fst.snd.snd ∧ x = x ∧ y = y ∧ false = false ∧ a = a ∧ n = n ∧ c = c ∧ b = b ∧ p_2.fst.fst = p_2.fst.fst ∧ LoopP (fun (K_1 : (Int × List (List Value) × PUnit) × PUnit → (Nat → Option Obj) → Prop) (p_3 : (Int × List (List Value) × PUnit) × PUnit) (H : Nat → Option Obj) ↦ Br (decide (p_3.fst.fst < Int.tmod (IntKind.wrap IntKind.i64 (Int.tmod m (10 : Int) + (10 : Int))) (10 : Int))) (Int.tmod (IntKind.wrap IntKind.i64 (Int.tmod m (10 : Int) + (10 : Int))) (10 : Int) = Int.tmod (IntKind.wrap IntKind.i64 (Int.tmod m (10 : Int) + (10 : Int))) (10 : Int) ∧ p.fst.fst.1 = p.fst.fst.1 ∧ p.fst.fst.snd.fst = p.fst.fst.snd.fst ∧ p.fst.fst.snd.snd = p.fst.fst.snd.snd ∧ x = x ∧ y = y ∧ false = false ∧ a = a ∧ n = n ∧ c = c ∧ b = b ∧ p_2.fst.fst = p_2.fst.fst ∧ p_3.fst.fst = p_3.fst.fst ∧ LoopP (fun (K : (Int × List (List Value) × PUnit) × PUnit → (Nat → Option Obj) → Prop) (p_4 : (Int × List (List Value) × PUnit) × PUnit) (H : Nat → Option Obj) ↦ Br (decide (p_4.fst.fst < Int.tmod (IntKind.wrap IntKind.i64 (Int.tmod m (10 : Int) + (10 : Int))) (10 : Int))) (((0 : Int) ≤ p_4.fst.fst ∧ p_4.fst.fst < (↑(List.length p_4.fst.snd.fst) : Int)) ∧ ∃ (n_1 : Int), (∃ (e : List Value), List.get?Internal p_4.fst.snd.fst (Int.toNat p_4.fst.fst) = some e ∧ List.take (1 : Nat) (List.drop (0 : Nat) e) = [Value.int IntKind.i64 n_1]) ∧ Br (decide (n_1 < (99 : Int))) (Meets prog (27 : Nat) [Value.slice p.fst.fst.1 p.fst.fst.snd.fst p.fst.fst.snd.snd, Value.int IntKind.i64 p_3.fst.fst, Value.int IntKind.i64 p_4.fst.fst] H fun (e : Ending) (H' : Nat → Option Obj) ↦ ∃ (b_1 : Bool), e = Ending.returned (Value.bool b_1) ∧ Br b_1 (((0 : Int) ≤ p_3.fst.fst ∧ p_3.fst.fst < (↑(List.length p_4.fst.snd.fst) : Int)) ∧ ∃ (n_2 : Int), (∃ (e : List Value), List.get?Internal p_4.fst.snd.fst (Int.toNat p_3.fst.fst) = some e ∧ List.take (1 : Nat) (List.drop (0 : Nat) e) = [Value.int IntKind.i64 n_2]) ∧ ((0 : Int) ≤ p_4.fst.fst ∧ p_4.fst.fst < (↑(List.length p_4.fst.snd.fst) : Int)) ∧ ∃ (n_3 : Int), (∃ (e : List Value), List.get?Internal p_4.fst.snd.fst (Int.toNat p_4.fst.fst) = some e ∧ List.take (1 : Nat) (List.drop (0 : Nat) e) = [Value.int IntKind.i64 n_3]) ∧ ((0 : Int) ≤ p_3.fst.fst ∧ p_3.fst.fst < (↑(List.length p_4.fst.snd.fst) : Int)) ∧ Int.toNat p_3.fst.fst < List.length p_4.fst.snd.fst ∧ Int.tmod (IntKind.wrap IntKind.i64 (Int.tmod m (10 : Int) + (10 : Int))) (10 : Int) = Int.tmod (IntKind.wrap IntKind.i64 (Int.tmod m (10 : Int) + (10 : Int))) (10 : Int) ∧ p.fst.fst.1 = p.fst.fst.1 ∧ p.fst.fst.snd.fst = p.fst.fst.snd.fst ∧ p.fst.fst.snd.snd = p.fst.fst.snd.snd ∧ x = x ∧ y = y ∧ false = false ∧ a = a ∧ n = n ∧ c = c ∧ b = b ∧ p_2.fst.fst = p_2.fst.fst ∧ p_3.fst.fst = p_3.fst.fst ∧ K ((IntKind.wrap IntKind.i64 (p_4.fst.fst + (1 : Int)), List.set p_4.fst.snd.fst (Int.toNat p_3.fst.fst) [Value.int IntKind.i64 (minI n_2 (IntKind.wrap IntKind.i64 (n_3 + (1 : Int))))], PUnit.unit), PUnit.unit) H') (Int.tmod (IntKind.wrap IntKind.i64 (Int.tmod m (10 : Int) + (10 : Int))) (10 : Int) = Int.tmod (IntKind.wrap IntKind.i64 (Int.tmod m (10 : Int) + (10 : Int))) (10 : Int) ∧ p.fst.fst.1 = p.fst.fst.1 ∧ p.fst.fst.snd.fst = p.fst.fst.snd.fst ∧ p.fst.fst.snd.snd = p.fst.fst.snd.snd ∧ x = x ∧ y = y ∧ false = false ∧ a = a ∧ n = n ∧ c = c ∧ b = b ∧ p_2.fst.fst = p_2.fst.fst ∧ p_3.fst.fst = p_3.fst.fst ∧ K ((IntKind.wrap IntKind.i64 (p_4.fst.fst + (1 : Int)), p_4.fst.snd.fst, PUnit.unit), PUnit.unit) H')) (Int.tmod (IntKind.wrap IntKind.i64 (Int.tmod m (10 : Int) + (10 : Int))) (10 : Int) = Int.tmod (IntKind.wrap IntKind.i64 (Int.tmod m (10 : Int) + (10 : Int))) (10 : Int) ∧ p.fst.fst.1 = p.fst.fst.1 ∧ p.fst.fst.snd.fst = p.fst.fst.snd.fst ∧ p.fst.fst.snd.snd = p.fst.fst.snd.snd ∧ x = x ∧ y = y ∧ false = false ∧ a = a ∧ n = n ∧ c = c ∧ b = b ∧ p_2.fst.fst = p_2.fst.fst ∧ p_3.fst.fst = p_3.fst.fst ∧ K ((IntKind.wrap IntKind.i64 (p_4.fst.fst + (1 : Int)), p_4.fst.snd.fst, PUnit.unit), PUnit.unit) H)) (Int.tmod (IntKind.wrap IntKind.i64 (Int.tmod m (10 : Int) + (10 : Int))) (10 : Int) = Int.tmod (IntKind.wrap IntKind.i64 (Int.tmod m (10 : Int) + (10 : Int))) (10 : Int) ∧ p.fst.fst.1 = p.fst.fst.1 ∧ p.fst.fst.snd.fst = p.fst.fst.snd.fst ∧ p.fst.fst.snd.snd = p.fst.fst.snd.snd ∧ x = x ∧ y = y ∧ false = false ∧ a = a ∧ n = n ∧ c = c ∧ b = b ∧ p_2.fst.fst = p_2.fst.fst ∧ K_1 ((IntKind.wrap IntKind.i64 (p_3.fst.fst + (1 : Int)), p_4.fst.snd.fst, PUnit.unit), PUnit.unit) H)) (((0 : Int), p_3.fst.snd.fst, PUnit.unit), PUnit.unit) H) (Int.tmod (IntKind.wrap IntKind.i64 (Int.tmod m (10 : Int) + (10 : Int))) (10 : Int) = Int.tmod (IntKind.wrap IntKind.i64 (Int.tmod m (10 : Int) + (10 : Int))) (10 : Int) ∧ p.fst.fst.1 = p.fst.fst.1 ∧ p.fst.fst.snd.fst = p.fst.fst.snd.fst ∧ p.fst.fst.snd.snd = p.fst.fst.snd.snd ∧ x = x ∧ y = y ∧ false = false ∧ a = a ∧ n = n ∧ c = c ∧ b = b ∧ K ((IntKind.wrap IntKind.i64 (p_2.fst.fst + (1 : Int)), p_3.fst.snd.fst, PUnit.unit), PUnit.unit) H)) (((0 : Int), p_2.fst.snd.fst, PUnit.unit), PUnit.unit) H) (((0 : Int) ≤ x ∧ x < (↑(List.length p_2.fst.snd.fst) : Int)) ∧ ∃ (n_1 : Int), (∃ (e : List Value), List.get?Internal p_2.fst.snd.fst (Int.toNat x) = some e ∧ List.take (1 : Nat) (List.drop (0 : Nat) e) = [Value.int IntKind.i64 n_1]) ∧ Br (n_1 == (99 : Int)) (Br (!b) (R (Ending.returned (Value.bool ((↑n : Int) == (0 : Int)))) H) (R (Ending.returned (Value.bool false)) H)) (Int.tmod (IntKind.wrap IntKind.i64 (Int.tmod m (10 : Int) + (10 : Int))) (10 : Int) = Int.tmod (IntKind.wrap IntKind.i64 (Int.tmod m (10 : Int) + (10 : Int))) (10 : Int) ∧ p.fst.fst.1 = p.fst.fst.1 ∧ p.fst.fst.snd.fst = p.fst.fst.snd.fst ∧ p.fst.fst.snd.snd = p.fst.fst.snd.snd ∧ x = x ∧ y = y ∧ false = false ∧ a = a ∧ n = n ∧ c = c ∧ b = b ∧ p_2.fst.snd.fst = p_2.fst.snd.fst ∧ LoopP (fun (K : (Int × Int × PUnit) × PUnit × PUnit → (Nat → Option Obj) → Prop) (p_3 : (Int × Int × PUnit) × PUnit × PUnit) (H : Nat → Option Obj) ↦ Br (decide (p_3.fst.snd.fst < (↑n : Int))) (((0 : Int) ≤ p_3.fst.snd.fst ∧ p_3.fst.snd.fst < (↑n : Int)) ∧ PtrK a fun (A : Addr) ↦ PtrK (some (Addr.add A (Int.toNat p_3.fst.snd.fst * (1 : Nat)))) fun (a_1 : Addr) ↦ ∃ (n_2 : Int), Heap.has H a_1 [Value.int IntKind.i64 n_2] ∧ Br (n_2 != p_3.fst.fst) (R (Ending.returned (Value.bool false)) H) (Int.tmod (IntKind.wrap IntKind.i64 (Int.tmod m (10 : Int) + (10 : Int))) (10 : Int) = Int.tmod (IntKind.wrap IntKind.i64 (Int.tmod m (10 : Int) + (10 : Int))) (10 : Int) ∧ p.fst.fst.1 = p.fst.fst.1 ∧ p.fst.fst.snd.fst = p.fst.fst.snd.fst ∧ p.fst.fst.snd.snd = p.fst.fst.snd.snd ∧ x = x ∧ y = y ∧ false = false ∧ a = a ∧ n = n ∧ c = c ∧ b = b ∧ p_3.fst.snd.fst = p_3.fst.snd.fst ∧ p_2.fst.snd.fst = p_2.fst.snd.fst ∧ LoopP (fun (K_1 : (Int × Int × PUnit) × PUnit × PUnit → (Nat → Option Obj) → Prop) (p_4 : (Int × Int × PUnit) × PUnit × PUnit) (H : Nat → Option Obj) ↦ Br (decide (p_4.fst.snd.fst ≥ (0 : Int))) (∃ (G : Nat → Option Obj), G ≤ H ∧ ((0 : Int) ≤ p_3.fst.snd.fst ∧ p_3.fst.snd.fst < (↑n : Int)) ∧ PtrK a fun (A : Addr) ↦ PtrK (some (Addr.add A (Int.toNat p_3.fst.snd.fst * (1 : Nat)))) fun (a_2 : Addr) ↦ ∃ (n_3 : Int), Heap.has G a_2 [Value.int IntKind.i64 n_3] ∧ ((0 : Int) ≤ n_3 ∧ n_3 < (↑(List.length p_2.fst.snd.fst) : Int)) ∧ ∃ (n_4 : Int), (∃ (e : List Value), List.get?Internal p_2.fst.snd.fst (Int.toNat n_3) = some e ∧ List.take (1 : Nat) (List.drop (0 : Nat) e) = [Value.int IntKind.i64 n_4]) ∧ Br (decide (n_4 > (0 : Int))) (((0 : Int) ≤ p_4.fst.snd.fst ∧ p_4.fst.snd.fst < (↑(List.length p_2.fst.snd.fst) : Int)) ∧ ∃ (n_5 : Int), (∃ (e : List Value), List.get?Internal p_2.fst.snd.fst (Int.toNat p_4.fst.snd.fst) = some e ∧ List.take (1 : Nat) (List.drop (0 : Nat) e) = [Value.int IntKind.i64 n_5]) ∧ ((0 : Int) ≤ p_3.fst.snd.fst ∧ p_3.fst.snd.fst < (↑n : Int)) ∧ PtrK a fun (A : Addr) ↦ PtrK (some (Addr.add A (Int.toNat p_3.fst.snd.fst * (1 : Nat)))) fun (a_3 : Addr) ↦ ∃ (n_6 : Int), Heap.has G a_3 [Value.int IntKind.i64 n_6] ∧ ((0 : Int) ≤ n_6 ∧ n_6 < (↑(List.length p_2.fst.snd.fst) : Int)) ∧ ∃ (n_7 : Int), (∃ (e : List Value), List.get?Internal p_2.fst.snd.fst (Int.toNat n_6) = some e ∧ List.take (1 : Nat) (List.drop (0 : Nat) e) = [Value.int IntKind.i64 n_7]) ∧ Br (n_5 == IntKind.wrap IntKind.i64 (n_7 - (1 : Int))) (((0 : Int) ≤ p_3.fst.snd.fst ∧ p_3.fst.snd.fst < (↑n : Int)) ∧ PtrK a fun (A : Addr) ↦ PtrK (some (Addr.add A (Int.toNat p_3.fst.snd.fst * (1 : Nat)))) fun (a_4 : Addr) ↦ ∃ (n_8 : Int), Heap.has G a_4 [Value.int IntKind.i64 n_8] ∧ Meets prog (27 : Nat) [Value.slice p.fst.fst.1 p.fst.fst.snd.fst p.fst.fst.snd.snd, Value.int IntKind.i64 n_8, Value.int IntKind.i64 p_4.fst.snd.fst] H fun (e : Ending) (H' : Nat → Option Obj) ↦ Keep G H H H' ∧ ∃ (b_1 : Bool), e = Ending.returned (Value.bool b_1) ∧ Br b_1 (Int.tmod (IntKind.wrap IntKind.i64 (Int.tmod m (10 : Int) + (10 : Int))) (10 : Int) = Int.tmod (IntKind.wrap IntKind.i64 (Int.tmod m (10 : Int) + (10 : Int))) (10 : Int) ∧ p.fst.fst.1 = p.fst.fst.1 ∧ p.fst.fst.snd.fst = p.fst.fst.snd.fst ∧ p.fst.fst.snd.snd = p.fst.fst.snd.snd ∧ x = x ∧ y = y ∧ false = false ∧ a = a ∧ n = n ∧ c = c ∧ b = b ∧ p_3.fst.snd.fst = p_3.fst.snd.fst ∧ p_2.fst.snd.fst = p_2.fst.snd.fst ∧ K_1 ((p_4.fst.snd.fst, IntKind.wrap IntKind.i64 (p_4.fst.snd.fst - (1 : Int)), PUnit.unit), PUnit.unit, PUnit.unit) (delLs H' [])) (Int.tmod (IntKind.wrap IntKind.i64 (Int.tmod m (10 : Int) + (10 : Int))) (10 : Int) = Int.tmod (IntKind.wrap IntKind.i64 (Int.tmod m (10 : Int) + (10 : Int))) (10 : Int) ∧ p.fst.fst.1 = p.fst.fst.1 ∧ p.fst.fst.snd.fst = p.fst.fst.snd.fst ∧ p.fst.fst.snd.snd = p.fst.fst.snd.snd ∧ x = x ∧ y = y ∧ false = false ∧ a = a ∧ n = n ∧ c = c ∧ b = b ∧ p_3.fst.snd.fst = p_3.fst.snd.fst ∧ p_2.fst.snd.fst = p_2.fst.snd.fst ∧ K_1 ((p_4.fst.fst, IntKind.wrap IntKind.i64 (p_4.fst.snd.fst - (1 : Int)), PUnit.unit), PUnit.unit, PUnit.unit) (delLs H' []))) (Int.tmod (IntKind.wrap IntKind.i64 (Int.tmod m (10 : Int) + (10 : Int))) (10 : Int) = Int.tmod (IntKind.wrap IntKind.i64 (Int.tmod m (10 : Int) + (10 : Int))) (10 : Int) ∧ p.fst.fst.1 = p.fst.fst.1 ∧ p.fst.fst.snd.fst = p.fst.fst.snd.fst ∧ p.fst.fst.snd.snd = p.fst.fst.snd.snd ∧ x = x ∧ y = y ∧ false = false ∧ a = a ∧ n = n ∧ c = c ∧ b = b ∧ p_3.fst.snd.fst = p_3.fst.snd.fst ∧ p_2.fst.snd.fst = p_2.fst.snd.fst ∧ K_1 ((p_4.fst.fst, IntKind.wrap IntKind.i64 (p_4.fst.snd.fst - (1 : Int)), PUnit.unit), PUnit.unit, PUnit.unit) H)) (Int.tmod (IntKind.wrap IntKind.i64 (Int.tmod m (10 : Int) + (10 : Int))) (10 : Int) = Int.tmod (IntKind.wrap IntKind.i64 (Int.tmod m (10 : Int) + (10 : Int))) (10 : Int) ∧ p.fst.fst.1 = p.fst.fst.1 ∧ p.fst.fst.snd.fst = p.fst.fst.snd.fst ∧ p.fst.fst.snd.snd = p.fst.fst.snd.snd ∧ x = x ∧ y = y ∧ false = false ∧ a = a ∧ n = n ∧ c = c ∧ b = b ∧ p_3.fst.snd.fst = p_3.fst.snd.fst ∧ p_2.fst.snd.fst = p_2.fst.snd.fst ∧ K_1 ((p_4.fst.fst, IntKind.wrap IntKind.i64 (p_4.fst.snd.fst - (1 : Int)), PUnit.unit), PUnit.unit, PUnit.unit) H)) (Int.tmod (IntKind.wrap IntKind.i64 (Int.tmod m (10 : Int) + (10 : Int))) (10 : Int) = Int.tmod (IntKind.wrap IntKind.i64 (Int.tmod m (10 : Int) + (10 : Int))) (10 : Int) ∧ p.fst.fst.1 = p.fst.fst.1 ∧ p.fst.fst.snd.fst = p.fst.fst.snd.fst ∧ p.fst.fst.snd.snd = p.fst.fst.snd.snd ∧ x = x ∧ y = y ∧ false = false ∧ a = a ∧ n = n ∧ c = c ∧ b = b ∧ p_2.fst.snd.fst = p_2.fst.snd.fst ∧ K ((p_4.fst.fst, IntKind.wrap IntKind.i64 (p_3.fst.snd.fst + (1 : Int)), PUnit.unit), PUnit.unit, PUnit.unit) H)) ((p_3.fst.fst, IntKind.wrap IntKind.i64 (Int.tmod (IntKind.wrap IntKind.i64 (Int.tmod m (10 : Int) + (10 : Int))) (10 : Int) - (1 : Int)), PUnit.unit), PUnit.unit, PUnit.unit) H)) (Br b (((0 : Int) ≤ x ∧ x < (↑(List.length p_2.fst.snd.fst) : Int)) ∧ ∃ (n_2 : Int), (∃ (e : List Value), List.get?Internal p_2.fst.snd.fst (Int.toNat x) = some e ∧ List.take (1 : Nat) (List.drop (0 : Nat) e) = [Value.int IntKind.i64 n_2]) ∧ Br ((↑n : Int) == IntKind.wrap IntKind.i64 (n_2 + (1 : Int))) (((0 : Int) ≤ IntKind.wrap IntKind.i64 ((↑n : Int) - (1 : Int)) ∧ IntKind.wrap IntKind.i64 ((↑n : Int) - (1 : Int)) < (↑n : Int)) ∧ PtrK a fun (A : Addr) ↦ PtrK (some (Addr.add A (Int.toNat (IntKind.wrap IntKind.i64 ((↑n : Int) - (1 : Int))) * (1 : Nat)))) fun (a : Addr) ↦ ∃ (n : Int), Heap.has H a [Value.int IntKind.i64 n] ∧ R (Ending.returned (Value.bool (n == y))) H) (R (Ending.returned (Value.bool false)) H)) (R (Ending.returned (Value.bool false)) H))) ((x, (0 : Int), PUnit.unit), PUnit.unit, PUnit.unit) H))) (((0 : Int), List.set p_1.fst.snd.fst (Int.toNat y) [Value.int IntKind.i64 (0 : Int)], PUnit.unit), PUnit.unit) H)) (((0 : Int), List.replicate (Int.toNat (Int.tmod (IntKind.wrap IntKind.i64 (Int.tmod m (10 : Int) + (10 : Int))) (10 : Int))) [Value.int IntKind.i64 (0 : Int)], PUnit.unit), PUnit.unit) H')))))
theorem vc_lways (m : Int) (a : Option Addr) (n : Nat) (c : Nat) (x : Int) (y : Int) (R : Ending → Heap → Prop) (H : Heap) : vcFun prog h_lways f5 [SV.c (SC.v (Value.int IntKind.i64 m)), SV.c (SC.v (Value.slice a n c)), SV.c (SC.v (Value.int IntKind.i64 x)), SV.c (SC.v (Value.int IntKind.i64 y))] R H = nf_lways m a n c x y R H := by kernel_rfl

end Cr

set_option linter.unusedVariables false
set_option linter.unusedSimpArgs false
namespace Cr
open Go Sx Go.Proofs
open Go.Proofs.Try
set_option maxRecDepth 100000
/-- By a road. -/
def Joi (r : List Rd) (a b : Int) : Prop := ∃ x ∈ r, (x.f = a ∧ x.t = b) ∨ (x.f = b ∧ x.t = a)
theorem joi_comm {r : List Rd} {a b : Int} (h : Joi r a b) : Joi r b a := by
  obtain ⟨x, hx, h | h⟩ := h
  · exact ⟨x, hx, .inr h⟩
  · exact ⟨x, hx, .inl h⟩
/-! ### slices.Compact of a sorted row -/
theorem compact_sorted {l : List Int} (hs : l.Pairwise (· ≤ ·)) : (Go.Lib.compact l).Pairwise (· < ·) := by
  unfold Go.Lib.compact Go.Lib.compactUpTo
  rw [List.pairwise_map]
  have h0 : ((List.range l.length).filter (Go.Lib.keeps l.toArray)).Pairwise (· < ·) := List.Pairwise.filter _ List.pairwise_lt_range
  refine h0.imp_of_mem ?_
  intro i j hi hj hij
  obtain ⟨hj1, hj2⟩ := List.mem_filter.1 hj
  have hj1 := List.mem_range.1 hj1
  have hj3 : j = 0 ∨ l.toArray[j]! ≠ l.toArray[j - 1]! := of_decide_eq_true hj2
  have g : ∀ k, k < l.length → l.toArray[k]! = l[k]! := fun k hk => by simp [hk]
  rw [g i (by omega), g j hj1]
  rw [g j hj1, g (j - 1) (by omega)] at hj3
  have hs := List.pairwise_iff_getElem.1 hs
  have le : ∀ a b (hb : b < l.length), a ≤ b → l[a]! ≤ l[b]! := fun a b hb hab => by
    by_cases e : a = b
    · subst e; exact Int.le_refl _
    · have := hs a b (by omega) hb (by omega)
      simpa [show a < l.length by omega, hb] using this
  have h1 := le i (j - 1) (by omega) (by omega)
  have h2 := le (j - 1) j hj1 (by omega)
  omega
theorem compact_mem {l : List Int} {x : Int} : x ∈ Go.Lib.compact l ↔ x ∈ l := by
  unfold Go.Lib.compact Go.Lib.compactUpTo
  have g : ∀ k, k < l.length → l.toArray[k]! = l[k]! := fun k hk => by simp [hk]
  constructor
  · intro h
    obtain ⟨j, hj, rfl⟩ := List.mem_map.1 h
    have hj1 := List.mem_range.1 (List.mem_filter.1 hj).1
    rw [g j hj1]
    simp [hj1]
  · intro h
    obtain ⟨j, hj, rfl⟩ := List.mem_iff_getElem.1 h
    have key : ∀ n, ∀ j (hj : j < l.length), j ≤ n → l[j] ∈ ((List.range l.length).filter (Go.Lib.keeps l.toArray)).map (l.toArray[·]!) := by
      intro n
      induction n with
      | zero =>
        intro j hj hn
        refine List.mem_map.2 ⟨j, List.mem_filter.2 ⟨List.mem_range.2 hj, decide_eq_true (.inl (by omega))⟩, ?_⟩
        rw [g j hj]; simp [hj]
      | succ n ih =>
        intro j hj hn
        by_cases q : j = 0 ∨ l.toArray[j]! ≠ l.toArray[j - 1]!
        · refine List.mem_map.2 ⟨j, List.mem_filter.2 ⟨List.mem_range.2 hj, decide_eq_true q⟩, ?_⟩
          rw [g j hj]; simp [hj]
        · have q0 : j ≠ 0 := fun e => q (.inl e)
          have q1 : l.toArray[j]! = l.toArray[j - 1]! := Classical.byContradiction fun e => q (.inr e)
          rw [g j hj, g (j - 1) (by omega)] at q1
          have := ih (j - 1) (by omega) (by omega)
          have e : l[j] = l[j - 1] := by simpa [hj, show j - 1 < l.length by omega] using q1
          rw [e]; exact this
    exact key j j hj (Nat.le_refl _)
/-- What the loop in beside gathers. -/
def gath (m at_ : Int) : List Rd → List Int
  | [] => []
  | x :: r => (if x.t = at_ then (if x.f ≥ 0 ∧ x.f < m then [x.f] else []) else if x.f = at_ then (if x.t ≥ 0 ∧ x.t < m then [x.t] else []) else []) ++ gath m at_ r
theorem mem_gath {m a b : Int} : ∀ {r : List Rd}, b ∈ gath m a r ↔ (0 ≤ b ∧ b < m) ∧ Joi r a b
  | [] => by simp [gath, Joi]
  | x :: r => by
    unfold gath
    rw [List.mem_append, mem_gath]
    constructor
    · rintro (h | ⟨h1, y, hy, h2⟩)
      · by_cases q : x.t = a
        · rw [if_pos q] at h
          split at h
          · simp at h; subst h; exact ⟨by omega, x, List.mem_cons_self, .inr ⟨rfl, q⟩⟩
          · cases h
        · rw [if_neg q] at h
          by_cases q2 : x.f = a
          · rw [if_pos q2] at h
            split at h
            · simp at h; subst h; exact ⟨by omega, x, List.mem_cons_self, .inl ⟨q2, rfl⟩⟩
            · cases h
          · rw [if_neg q2] at h; cases h
      · exact ⟨h1, y, List.mem_cons_of_mem _ hy, h2⟩
    · rintro ⟨h1, y, hy, h2⟩
      rcases List.mem_cons.1 hy with rfl | hy
      · refine .inl ?_
        by_cases q : y.t = a
        · rw [if_pos q]
          rcases h2 with ⟨e1, e2⟩ | ⟨e1, e2⟩
          · have : y.f = b := by omega
            rw [if_pos (by omega)]; simp [this]
          · rw [if_pos (by omega)]; simp [e1]
        · rw [if_neg q]
          rcases h2 with ⟨e1, e2⟩ | ⟨e1, e2⟩
          · rw [if_pos e1, if_pos (by omega)]; simp [e2]
          · exact (q e2).elim
      · exact .inr ⟨h1, y, hy, h2⟩
theorem gath_len {m a : Int} : ∀ {r : List Rd}, (gath m a r).length ≤ r.length
  | [] => by simp [gath]
  | x :: r => by
    have := gath_len (m := m) (a := a) (r := r)
    unfold gath
    rw [List.length_append, List.length_cons]
    have : (if x.t = a then (if x.f ≥ 0 ∧ x.f < m then [x.f] else []) else if x.f = a then (if x.t ≥ 0 ∧ x.t < m then [x.t] else []) else [] : List Int).length ≤ 1 := by
      split
      · split <;> simp
      · split
        · split <;> simp
        · simp
    omega
theorem gath_snoc {m a : Int} {x : Rd} : ∀ {r : List Rd}, gath m a (r ++ [x]) = gath m a r ++ (if x.t = a then (if x.f ≥ 0 ∧ x.f < m then [x.f] else []) else if x.f = a then (if x.t ≥ 0 ∧ x.t < m then [x.t] else []) else [])
  | [] => by simp [gath]
  | y :: r => by
    rw [List.cons_append, gath, gath_snoc, gath, List.append_assoc]
/-- What is beside a place. -/
structure Bes (m : Int) (r : List Rd) (a : Int) (B : List Int) : Prop where
  up : B.Pairwise (· < ·)
  mem : ∀ b, b ∈ B ↔ (0 ≤ b ∧ b < m) ∧ Joi r a b
section
variable {H : Heap} {R : Ending → Heap → Prop}
theorem s_bes {v : Value} {r : List Rd} {m x : Int} (h : SliceAt H v 4 (rds r)) (hl : r.length ≤ 10000000000000)
    (k : ∀ B v' H', Bes m r x B → H ≤ H' → B.length ≤ r.length → RowAt H' v' 3 1 (cells B) → R (.returned v') H') : Meets prog 64 [vi m, v, vi x] H R := by
  obtain ⟨a, n, c, e, hn⟩ := h
  subst e
  have h : SliceAt H (.slice a n c) 4 (rds r) := ⟨a, n, c, rfl, hn⟩
  have hln : r.length = n := by simpa using hn.1
  refine spec_of func64 (by kernel_rfl) (fun t h => by cases h) ?_ (vc_bes m a n c x R H) ?_
  · simp [argsR, SV.rep, SC.rep, Sx.one]
  unfold nf_bes
  simp only [true_and]
  refine ⟨fun p H' => ∃ t : Nat, p.1.1 = (t : Int) ∧ t ≤ n ∧ p.1.2.1 = cells (gath m x (r.take t)) ∧ H' = H, fun p _ => (n - p.1.1).toNat, ⟨0, rfl, by omega, rfl, rfl⟩, ?_⟩
  rintro ⟨⟨i, rows, _⟩, _⟩ H1 ⟨t, hi, ht, hrows, rfl⟩
  simp only at hi hrows ⊢
  subst hi hrows
  refine br (fun q1 => ?_) fun q1 => ?_
  · simp only [decide_eq_true_eq] at q1
    obtain ⟨y, _, htk, hy⟩ := drop_cons (l := r) (k := t) (by omega)
    obtain ⟨A, e, g⟩ := rd_get h (i := t) hy
    subst e
    rw [wi64 (by omega)]
    have hg := gath_len (m := m) (a := x) (r := r.take t)
    have hg2 : (r.take t).length = t := by simp; omega
    have hs := gath_snoc (m := m) (a := x) (x := y) (r := r.take t)
    rw [← htk] at hs
    have yes : ∀ z : Int, gath m x (r.take (t + 1)) = gath m x (r.take t) ++ [z] → (List.append (cells (gath m x (r.take t))) [[vi z]]).length * 8 ≤ 140737488355328 ∧ List.append (cells (gath m x (r.take t))) [[vi z]] = cells (gath m x (r.take (t + 1))) := fun z e => by
      have e2 : List.append (cells (gath m x (r.take t))) [[vi z]] = cells (gath m x (r.take (t + 1))) := by rw [e]; simp [cells]
      refine ⟨?_, e2⟩
      rw [e2, cells_len, e, List.length_append, List.length_singleton]
      omega
    refine ⟨⟨by omega, by omega⟩, ptr rfl (ptr rfl ⟨_, _, _, _, g, br (fun q2 => br (fun _ => br (fun q3 => br (fun q4 => ?_) fun q4 => ?_) fun q3 => ?_) fun q => ?_) fun q2 => br (fun q5 => br (fun q3 => br (fun q4 => ?_) fun q4 => ?_) fun q3 => ?_) fun q5 => ?_⟩)⟩
    · rw [if_pos (by simpa using q2), if_pos ⟨by simpa using q3, by simpa using q4⟩] at hs
      obtain ⟨y1, y2⟩ := yes _ hs
      rw [y2] at y1 ⊢
      exact ⟨y1, ⟨t + 1, by simp, by omega, rfl, by trivial⟩, by simp; omega⟩
    · rw [if_pos (by simpa using q2), if_neg (by simp at q4; omega), List.append_nil] at hs
      exact ⟨⟨t + 1, by simp, by omega, by rw [hs], by trivial⟩, by simp; omega⟩
    · rw [if_pos (by simpa using q2), if_neg (by simp at q3; omega), List.append_nil] at hs
      exact ⟨⟨t + 1, by simp, by omega, by rw [hs], by trivial⟩, by simp; omega⟩
    · rw [q2] at q; cases q
    · rw [if_neg (by simpa using q2), if_pos (by simpa using q5), if_pos ⟨by simpa using q3, by simpa using q4⟩] at hs
      obtain ⟨y1, y2⟩ := yes _ hs
      rw [y2] at y1 ⊢
      exact ⟨y1, ⟨t + 1, by simp, by omega, rfl, by trivial⟩, by simp; omega⟩
    · rw [if_neg (by simpa using q2), if_pos (by simpa using q5), if_neg (by simp at q4; omega), List.append_nil] at hs
      exact ⟨⟨t + 1, by simp, by omega, by rw [hs], by trivial⟩, by simp; omega⟩
    · rw [if_neg (by simpa using q2), if_pos (by simpa using q5), if_neg (by simp at q3; omega), List.append_nil] at hs
      exact ⟨⟨t + 1, by simp, by omega, by rw [hs], by trivial⟩, by simp; omega⟩
    · rw [if_neg (by simpa using q2), if_neg (by simpa using q5), List.append_nil] at hs
      exact ⟨⟨t + 1, by simp, by omega, by rw [hs], by trivial⟩, by simp; omega⟩
  · simp only [decide_eq_false_iff_not] at q1
    obtain rfl : t = n := by omega
    rw [List.take_of_length_le (by omega)]
    have hg := gath_len (m := m) (a := x) (r := r)
    generalize hL : gath m x r = L at *
    intro v1 H2 hle hf hb hrow
    refine meets_sortInt Go.Proofs.sortInt (by kernel_rfl) hrow (by omega) fun H3 hr3 hm => ?_
    refine ⟨rfl, _, hr3, fun v2 H4 hle4 hf4 hb4 hrow4 => ?_⟩
    rw [mod_off hm, lend_off hle hf hb] at hle4 hf4
    have hsl : (L.mergeSort fun x y => decide (x ≤ y)).length = L.length := List.length_mergeSort _
    refine meets_compactInt Go.Proofs.compInt (by kernel_rfl) hrow4 (by omega) fun v3 H5 hr5 hb5 hm5 => ?_
    obtain ⟨a5, c5, rfl⟩ := row_val hr5
    refine ⟨(fun _ _ e => by cases e), a5, _, c5, rfl, k _ _ _ ⟨?_, ?_⟩ ?_ ?_ hr5⟩
    · refine compact_sorted ?_
      have := List.pairwise_mergeSort (le := fun x y : Int => decide (x ≤ y)) (fun a b c h1 h2 => by simp at *; omega) (fun a b => by simp; omega) L
      exact this.imp fun h => by simpa using h
    · intro b
      rw [compact_mem, (List.mergeSort_perm _ _).mem_iff, ← hL, mem_gath]
    · intro b o e
      have := hle4 b o e
      rw [hm5 b (fun e2 => by rw [hf4 b e2] at e; cases e)]
      exact this
    · have := compact_len (L.mergeSort fun x y => decide (x ≤ y))
      omega
theorem s_joi {v : Value} {r : List Rd} {x y : Int} (h : SliceAt H v 4 (rds r)) (hl : r.length ≤ 10000000000000) (k : ∀ b : Bool, (b = true ↔ Joi r x y) → R (.returned (.bool b)) H) : Meets prog 27 [v, vi x, vi y] H R := by
  obtain ⟨a, n, c, e, hn⟩ := h
  subst e
  have h : SliceAt H (.slice a n c) 4 (rds r) := ⟨a, n, c, rfl, hn⟩
  have hln : r.length = n := by simpa using hn.1
  refine spec_of func27 (by kernel_rfl) (fun t h => by cases h) ?_ (vc_joi a n c x y R H) ?_
  · simp [argsR, SV.rep, SC.rep, Sx.one]
  unfold nf_joi
  simp only [true_and]
  refine ⟨fun p H' => ∃ t : Nat, p.1.1 = (t : Int) ∧ t ≤ n ∧ ¬ Joi (r.take t) x y ∧ H' = H, fun p _ => (n - p.1.1).toNat, ⟨0, rfl, by omega, by simp [Joi], rfl⟩, ?_⟩
  rintro ⟨⟨i, _⟩, _⟩ H1 ⟨t, hi, ht, hj, rfl⟩
  simp only at hi ⊢
  subst hi
  refine br (fun q1 => ?_) fun q1 => ?_
  · simp only [decide_eq_true_eq] at q1
    obtain ⟨z, _, htk, hz⟩ := drop_cons (l := r) (k := t) (by omega)
    obtain ⟨A, e, g⟩ := rd_get h (i := t) hz
    subst e
    have g0 : H1.has ((A.add (t * 4)).add 0) [vi z.f] := fun j w hw => by
      have hj0 : j = 0 := by have := (List.getElem?_eq_some_iff.1 hw).1; simp at this; omega
      subst hj0; exact g 0 w hw
    have g1 : H1.has ((A.add (t * 4)).add 1) [vi z.t] := fun j w hw => by
      have hj0 : j = 0 := by have := (List.getElem?_eq_some_iff.1 hw).1; simp at this; omega
      subst hj0
      have e : ((A.add (t * 4)).add 1).add 0 = (A.add (t * 4)).add 1 := rfl
      rw [e]; exact g 1 w hw
    have bd : (0 : Int) ≤ (t : Int) ∧ (t : Int) < (n : Int) := ⟨by omega, by omega⟩
    rw [wi64 (by omega)]
    have hyes : (z.f = x ∧ z.t = y) ∨ (z.f = y ∧ z.t = x) → R (.returned (.bool true)) H1 := fun e => k true ⟨fun _ => ⟨z, List.mem_of_getElem? hz, e⟩, fun _ => rfl⟩
    have hno : ¬ ((z.f = x ∧ z.t = y) ∨ (z.f = y ∧ z.t = x)) → ¬ Joi (r.take (t + 1)) x y := fun e ⟨w, hw, hw2⟩ => by
      rw [htk, List.mem_append, List.mem_singleton] at hw
      rcases hw with hw | rfl
      · exact hj ⟨w, hw, hw2⟩
      · exact e hw2
    refine ⟨bd, ptr rfl (ptr rfl (ptr rfl ⟨_, g0, br (fun q2 => ⟨bd, ptr rfl (ptr rfl (ptr rfl ⟨_, g1, br (fun q3 => ?_) fun q3 => ⟨bd, ptr rfl (ptr rfl (ptr rfl ⟨_, g0, br (fun q4 => ⟨bd, ptr rfl (ptr rfl (ptr rfl ⟨_, g1, br (fun q5 => ?_) fun q5 => ?_⟩))⟩) fun q4 => ?_⟩))⟩⟩))⟩) fun q2 =>
      ⟨bd, ptr rfl (ptr rfl (ptr rfl ⟨_, g0, br (fun q4 => ⟨bd, ptr rfl (ptr rfl (ptr rfl ⟨_, g1, br (fun q5 => ?_) fun q5 => ?_⟩))⟩) fun q4 => ?_⟩))⟩⟩))⟩
    all_goals simp only [beq_iff_eq, beq_eq_false_iff_ne, ne_eq] at *
    · exact hyes (.inl ⟨q2, q3⟩)
    · exact hyes (.inr ⟨q4, q5⟩)
    · exact ⟨⟨t + 1, by simp, by omega, hno (by omega), by trivial⟩, by simp; omega⟩
    · exact ⟨⟨t + 1, by simp, by omega, hno (by omega), by trivial⟩, by simp; omega⟩
    · exact hyes (.inr ⟨q4, q5⟩)
    · exact ⟨⟨t + 1, by simp, by omega, hno (by omega), by trivial⟩, by simp; omega⟩
    · exact ⟨⟨t + 1, by simp, by omega, hno (by omega), by trivial⟩, by simp; omega⟩
  · simp only [decide_eq_false_iff_not] at q1
    rw [List.take_of_length_le (by omega)] at hj
    exact k false ⟨(fun q => by cases q), fun q => (hj q).elim⟩
end
end Cr

set_option linter.unusedVariables false
set_option linter.unusedSimpArgs false
namespace Cr
open Go Sx Go.Proofs
open Go.Proofs.Try
set_option maxRecDepth 100000
abbrev Rng (n : Nat) (i : Int) : Prop := 0 ≤ i ∧ i < (n : Int)
structure Dis (n : Nat) (r : List Rd) (to : Int) (d : List Int) : Prop where
  len : d.length = n
  rng : Rng n to
  zero : getI d to = 0
  lo : ∀ i, Rng n i → -1 ≤ getI d i
  one0 : ∀ i, Rng n i → getI d i = 0 → i = to
  edge : ∀ i j, Rng n i → Rng n j → Joi r i j → 0 ≤ getI d i → 0 ≤ getI d j ∧ getI d j ≤ getI d i + 1
  pre : ∀ i, Rng n i → 0 < getI d i → ∃ j, Rng n j ∧ Joi r i j ∧ getI d j = getI d i - 1
  bnd : ∀ i, Rng n i → getI d i + 1 ≤ (n : Int)
def neg (d : List Int) : Nat := d.countP fun x => decide (x < 0)
theorem getI_set {d : List Int} {b i v : Int} (hb : Rng d.length b) (hi : Rng d.length i) : getI (d.set b.toNat v) i = if i = b then v else getI d i := by
  unfold getI
  rw [List.getD_eq_getElem?_getD, List.getElem?_set]
  by_cases e : i = b
  · subst e
    rw [if_pos rfl, if_pos rfl, if_pos (by omega)]; rfl
  · rw [if_neg e, if_neg (by omega), List.getD_eq_getElem?_getD]
theorem neg_set {v : Int} (hv : 0 ≤ v) : ∀ {d : List Int} {k : Nat} {x : Int}, d[k]? = some x → x < 0 → neg (d.set k v) + 1 = neg d
  | [], k, x, h, _ => by simp at h
  | y :: r, 0, x, h, hx => by
    simp at h; subst h
    unfold neg
    rw [List.set_cons_zero, List.countP_cons, List.countP_cons, decide_eq_true hx, decide_eq_false (by omega)]
    simp
  | y :: r, k + 1, x, h, hx => by
    have := neg_set hv (d := r) (k := k) (x := x) (by simpa using h) hx
    unfold neg at *
    rw [List.set_cons_succ, List.countP_cons, List.countP_cons]
    omega
/-- On the way, with a queue. -/
structure Bf (n : Nat) (r : List Rd) (to : Int) (d Q : List Int) : Prop where
  len : d.length = n
  rng : Rng n to
  zero : getI d to = 0
  lo : ∀ i, Rng n i → -1 ≤ getI d i
  one0 : ∀ i, Rng n i → getI d i = 0 → i = to
  pre : ∀ i, Rng n i → 0 < getI d i → ∃ j, Rng n j ∧ Joi r i j ∧ getI d j = getI d i - 1
  negs : Q.length + neg d ≤ n
  bnd : ∀ i, Rng n i → getI d i + 1 + neg d ≤ (n : Int)
  qin : ∀ x ∈ Q, Rng n x ∧ 0 ≤ getI d x
  qsort : Q.Pairwise fun x y => getI d x ≤ getI d y
  qmax : ∀ h t, Q = h :: t → ∀ i, Rng n i → getI d i ≤ getI d h + 1
  done : ∀ i, Rng n i → 0 ≤ getI d i → i ∉ Q → ∀ j, Rng n j → Joi r i j → 0 ≤ getI d j ∧ getI d j ≤ getI d i + 1
theorem Bf.dis {n : Nat} {r : List Rd} {to : Int} {d : List Int} (h : Bf n r to d []) : Dis n r to d where
  len := h.len
  rng := h.rng
  zero := h.zero
  lo := h.lo
  one0 := h.one0
  edge i j hi hj hij h0 := h.done i hi h0 (by simp) j hj hij
  pre := h.pre
  bnd i hi := by have := h.bnd i hi; omega
theorem Bf.next {n : Nat} {r : List Rd} {to : Int} {d Q : List Int} {hd : Int} (h : Bf n r to d (hd :: Q)) (part : ∀ b, Rng n b → Joi r hd b → 0 ≤ getI d b ∧ getI d b ≤ getI d hd + 1) : Bf n r to d Q where
  len := h.len
  rng := h.rng
  zero := h.zero
  lo := h.lo
  one0 := h.one0
  pre := h.pre
  negs := by have := h.negs; simp at this; omega
  bnd := h.bnd
  qin x hx := h.qin x (List.mem_cons_of_mem _ hx)
  qsort := (List.pairwise_cons.1 h.qsort).2
  qmax h' t e i hi := by
    have h1 := h.qmax hd Q rfl i hi
    have h2 := (List.pairwise_cons.1 h.qsort).1 h' (by rw [e]; exact List.mem_cons_self)
    omega
  done i hi h0 hq j hj hij := by
    by_cases e : i = hd
    · subst e; exact part j hj hij
    · exact h.done i hi h0 (by simp [e, hq]) j hj hij
theorem Bf.push {n : Nat} {r : List Rd} {to : Int} {d Q : List Int} {hd b : Int} (h : Bf n r to d (hd :: Q)) (hb : Rng n b) (hj : Joi r hd b) (hn : getI d b < 0) :
    Bf n r to (d.set b.toNat (getI d hd + 1)) ((hd :: Q) ++ [b]) ∧ neg (d.set b.toNat (getI d hd + 1)) + 1 = neg d ∧ (∀ i, Rng n i → 0 ≤ getI d i → getI (d.set b.toNat (getI d hd + 1)) i = getI d i) ∧ getI (d.set b.toNat (getI d hd + 1)) b = getI d hd + 1 := by
  obtain ⟨hh, h0⟩ := h.qin hd List.mem_cons_self
  have hl := h.len
  have gs : ∀ i, Rng n i → getI (d.set b.toNat (getI d hd + 1)) i = if i = b then getI d hd + 1 else getI d i := fun i hi => getI_set (by rw [hl]; exact hb) (by rw [hl]; exact hi)
  have hne : ∀ i, 0 ≤ getI d i → i ≠ b := fun i hi e => by subst e; omega
  have same : ∀ i, Rng n i → 0 ≤ getI d i → getI (d.set b.toNat (getI d hd + 1)) i = getI d i := fun i hi h0 => by rw [gs i hi, if_neg (hne i h0)]
  have hbb : getI (d.set b.toNat (getI d hd + 1)) b = getI d hd + 1 := by rw [gs b hb, if_pos rfl]
  have hng := neg_set (v := getI d hd + 1) (by omega) (getI_some (g := d) hb.1 (by omega)) hn
  have hmax := h.qmax hd Q rfl
  refine ⟨?_, hng, same, hbb⟩
  refine ⟨by simpa using hl, h.rng, ?_, ?_, ?_, ?_, ?_, ?_, ?_, ?_, ?_, ?_⟩
  · rw [same to h.rng (by rw [h.zero]; omega)]; exact h.zero
  · intro i hi
    rw [gs i hi]
    split
    · omega
    · exact h.lo i hi
  · intro i hi e
    rw [gs i hi] at e
    split at e
    · omega
    · exact h.one0 i hi e
  · intro i hi e
    rw [gs i hi] at e ⊢
    by_cases q : i = b
    · rw [if_pos q]
      exact ⟨hd, hh, by rw [q]; exact joi_comm hj, by rw [same hd hh h0]; omega⟩
    · rw [if_neg q] at e ⊢
      obtain ⟨j, j1, j2, j3⟩ := h.pre i hi e
      exact ⟨j, j1, j2, by rw [same j j1 (by omega)]; exact j3⟩
  · have := h.negs
    simp only [List.length_append, List.length_cons, List.length_nil] at *
    omega
  · intro i hi
    have h1 := h.bnd hd hh
    have h2 := h.bnd i hi
    rw [gs i hi]
    split <;> omega
  · intro x hx
    rcases List.mem_append.1 hx with hx | hx
    · obtain ⟨a, b⟩ := h.qin x hx
      exact ⟨a, by rw [same x a b]; exact b⟩
    · simp at hx; subst hx
      exact ⟨hb, by rw [hbb]; omega⟩
  · rw [List.pairwise_append]
    refine ⟨?_, by simp, ?_⟩
    · refine h.qsort.imp_of_mem ?_
      intro x y hx hy hxy
      obtain ⟨x1, x2⟩ := h.qin x hx
      obtain ⟨y1, y2⟩ := h.qin y hy
      rw [same x x1 x2, same y y1 y2]; exact hxy
    · intro x hx y hy
      simp at hy; subst hy
      obtain ⟨x1, x2⟩ := h.qin x hx
      rw [same x x1 x2, hbb]
      exact hmax x x1
  · intro h' t e i hi
    have e1 : h' = hd := by simp at e; exact e.1.symm
    subst e1
    rw [same h' hh h0, gs i hi]
    split
    · omega
    · exact hmax i hi
  · intro i hi hi0 hq j hj' hij
    simp only [List.mem_append, not_or, List.mem_singleton] at hq
    rw [gs i hi, if_neg hq.2] at hi0 ⊢
    obtain ⟨a1, a2⟩ := h.done i hi hi0 hq.1 j hj' hij
    rw [same j hj' a1]; exact ⟨a1, a2⟩
def negC (rows : List (List Value)) : Nat := rows.countP fun e => match e with | [.int _ x] => decide (x < 0) | _ => false
theorem negC_cells (d : List Int) : negC (cells d) = neg d := by
  unfold negC neg cells
  rw [List.countP_map]
  rfl
theorem neg_rep (n : Nat) : neg (List.replicate n (-1)) = n := by
  unfold neg
  rw [List.countP_replicate]; simp
theorem rep_getI {n : Nat} {i : Int} (hi : Rng n i) : getI (List.replicate n (-1)) i = -1 := by
  unfold getI
  rw [List.getD_eq_getElem?_getD, List.getElem?_replicate, if_pos (by omega)]; rfl
theorem bf_start {n : Nat} {r : List Rd} {to : Int} (h : Rng n to) : Bf n r to ((List.replicate n (-1)).set to.toNat 0) [to] := by
  have gs : ∀ i, Rng n i → getI ((List.replicate n (-1)).set to.toNat 0) i = if i = to then 0 else -1 := fun i hi => by
    rw [getI_set (by rw [List.length_replicate]; exact h) (by rw [List.length_replicate]; exact hi), rep_getI hi]
  have hng : neg ((List.replicate n (-1)).set to.toNat 0) + 1 = n := by
    have := neg_set (v := 0) (by omega) (getI_some (g := List.replicate n (-1)) h.1 (by rw [List.length_replicate]; omega)) (by rw [rep_getI h]; omega)
    rw [neg_rep] at this
    exact this
  refine ⟨by simp, h, by rw [gs to h, if_pos rfl], fun i hi => by rw [gs i hi]; split <;> omega, fun i hi e => ?_, fun i hi e => ?_, by simp; omega, fun i hi => by rw [gs i hi]; split <;> omega, ?_, by simp, ?_, ?_⟩
  · rw [gs i hi] at e
    split at e
    · assumption
    · omega
  · rw [gs i hi] at e
    split at e <;> omega
  · intro x hx
    simp at hx; subst hx
    exact ⟨h, by rw [gs x h, if_pos rfl]; omega⟩
  · intro h' t e i hi
    simp at e
    obtain ⟨rfl, _⟩ := e
    rw [gs i hi, gs to h, if_pos rfl]
    split <;> omega
  · intro i hi h0 hq
    rw [gs i hi] at h0
    simp at hq
    rw [if_neg hq] at h0
    omega
section
variable {H : Heap} {R : Ending → Heap → Prop}
def repTo (n t : Nat) : List Int := (List.range n).map fun i => if i < t then -1 else 0
theorem repTo_len (n t : Nat) : (repTo n t).length = n := by simp [repTo]
theorem repTo_set {n t : Nat} (h : t < n) : (repTo n t).set t (-1) = repTo n (t + 1) := by
  refine List.ext_getElem? fun i => ?_
  rw [List.getElem?_set]
  by_cases e : t = i
  · subst e
    rw [if_pos rfl, if_pos (by rw [repTo_len]; exact h)]
    simp [repTo, h]
  · rw [if_neg e]
    simp only [repTo, List.getElem?_map]
    by_cases hi : i < n
    · rw [List.getElem?_range hi]
      simp only [Option.map_some]
      congr 1
      by_cases q : i < t
      · rw [if_pos q, if_pos (by omega)]
      · rw [if_neg q, if_neg (by omega)]
    · rw [List.getElem?_eq_none (by simpa using hi)]; rfl
theorem repTo_zero (n : Nat) : List.replicate n [vi 0] = cells (repTo n 0) := by
  refine List.ext_getElem? fun i => ?_
  by_cases hi : i < n
  · simp [repTo, cells, hi]
  · rw [List.getElem?_eq_none (by simpa using hi), List.getElem?_eq_none (by simpa [repTo, cells] using hi)]
theorem repTo_all (n : Nat) : repTo n n = List.replicate n (-1) := by
  refine List.ext_getElem? fun i => ?_
  by_cases hi : i < n
  · simp [repTo, hi]
  · rw [List.getElem?_eq_none (by simpa [repTo] using hi), List.getElem?_eq_none (by simpa using hi)]
theorem s_far {v : Value} {r : List Rd} {n : Nat} {to : Int} (h : SliceAt H v 4 (rds r)) (hl : r.length ≤ 10000000000000) (hn : n ≤ 4096) (ht : Rng n to)
    (k : ∀ d v' H', Dis n r to d → H ≤ H' → RowAt H' v' 3 1 (cells d) → R (.returned v') H') : Meets prog 63 [vi (n : Int), v, vi to] H R := by
  obtain ⟨a, w, c, e, hw⟩ := h
  subst e
  have h : SliceAt H (.slice a w c) 4 (rds r) := ⟨a, w, c, rfl, hw⟩
  refine spec_of func63 (by kernel_rfl) (fun t h => by cases h) ?_ (vc_far (n : Int) a w c to R H) ?_
  · simp [argsR, SV.rep, SC.rep, Sx.one]
  unfold nf_far
  simp only [true_and]
  refine ⟨⟨by omega, by omega⟩, fun p H' => ∃ t : Nat, p.1.1 = (t : Int) ∧ t ≤ n ∧ p.1.2.1 = cells (repTo n t) ∧ H' = H, fun p _ => (n - p.1.1).toNat, ⟨0, rfl, by omega, by rw [Int.toNat_natCast]; exact repTo_zero n, rfl⟩, ?_⟩
  rintro ⟨⟨i, rows, _⟩, _⟩ H1 ⟨t, hi, ht1, hrows, rfl⟩
  simp only at hi hrows ⊢
  subst hi hrows
  refine br (fun q1 => ?_) fun q1 => ?_
  · simp only [decide_eq_true_eq, List.length_replicate, Int.toNat_natCast] at q1
    rw [cells_len, repTo_len, wi64 (by omega), Int.toNat_natCast, cells_set, repTo_set (by omega)]
    exact ⟨⟨by omega, by omega⟩, by omega, ⟨t + 1, by simp, by omega, rfl, by trivial⟩, by simp; omega⟩
  simp only [decide_eq_false_iff_not, List.length_replicate, Int.toNat_natCast] at q1
  obtain rfl : t = n := by omega
  rw [cells_len, repTo_len, cells_set, repTo_all]
  refine ⟨⟨ht.1, ht.2⟩, by omega, fun p H' => ∃ d Q, p.1.1 = cells d ∧ p.1.2.1 = cells Q ∧ Bf t r to d Q ∧ H1 ≤ H', fun p _ => negC p.1.1 + p.1.2.1.length, ⟨_, [to], rfl, rfl, bf_start ht, fun _ _ e => e⟩, ?_⟩
  rintro ⟨⟨rows, qs, _⟩, _⟩ H2 ⟨d, Q, hrows, hqs, hB, hle⟩
  simp only at hrows hqs ⊢
  subst hrows hqs
  rw [cells_len, negC_cells]
  refine br (fun q2 => ?_) fun q2 => ?_
  · simp only [gt_iff_lt, decide_eq_true_eq] at q2
    obtain ⟨hd, Q', rfl⟩ : ∃ hd Q', Q = hd :: Q' := by
      cases Q with
      | nil => simp at q2
      | cons x y => exact ⟨x, y, rfl⟩
    obtain ⟨hh, hh0⟩ := hB.qin hd List.mem_cons_self
    refine ⟨⟨by omega, q2⟩, hd, cells_get (g := hd :: Q') (i := 0) rfl, s_bes (slice_le h hle) hl fun B v1 H3 hBes hle3 hBl hrow3 => ?_⟩
    have hs3 := row_slice hrow3
    obtain ⟨a1, c1, rfl⟩ := row_val hrow3
    rw [cells_len] at hs3 ⊢
    refine ⟨a1, _, c1, rfl, ?_⟩
    refine ⟨fun p H' => ∃ (s : Nat) (d' Q2 : List Int), p.1.1 = (s : Int) ∧ s ≤ B.length ∧ p.1.2.1 = cells d' ∧ p.1.2.2.1 = cells (hd :: Q2) ∧ Bf t r to d' (hd :: Q2) ∧ (∀ b ∈ B.take s, 0 ≤ getI d' b ∧ getI d' b ≤ getI d' hd + 1) ∧ neg d' + Q2.length = neg d + Q'.length ∧ H' = H3, fun p _ => (B.length - p.1.1).toNat, ⟨0, d, Q', rfl, by omega, rfl, rfl, hB, by simp, rfl, rfl⟩, ?_⟩
    rintro ⟨⟨i, rows, qs, _⟩, _⟩ H4 ⟨s, d', Q2, hi, hs, hrows, hqs, hB', hpart, hcnt, rfl⟩
    simp only at hi hrows hqs ⊢
    subst hi hrows hqs
    refine br (fun q3 => ?_) fun q3 => ?_
    · simp only [decide_eq_true_eq] at q3
      obtain ⟨b, _, htk, hb⟩ := drop_cons (l := B) (k := s) (by omega)
      obtain ⟨A, e, g⟩ := ir_get hs3 (i := s) hb
      subst e
      obtain ⟨hbr, hbj⟩ := (hBes.mem b).1 (List.mem_of_getElem? hb)
      obtain ⟨hh', hh0'⟩ := hB'.qin hd List.mem_cons_self
      have hl' := hB'.len
      have hneg := hB'.negs
      have hbd := hB'.bnd hd hh'
      simp only [cells_len, List.length_cons] at hneg ⊢
      rw [wi64 (k := (s : Int) + 1) (by omega), hl']
      refine ⟨⟨by omega, by omega⟩, ptr rfl (ptr rfl ⟨_, g, hbr, _, cells_get (getI_some hbr.1 (by have := hbr.2; omega)), br (fun q4 => ?_) fun q4 => ?_⟩)⟩
      · obtain ⟨p1, p2, p3, p4⟩ := hB'.push hbr hbj (by simpa using q4)
        refine ⟨⟨by omega, by omega⟩, hd, cells_get (g := hd :: Q2) (i := 0) rfl, hh', _, cells_get (getI_some hh'.1 (by have := hh'.2; omega)), hbr, by have := hbr.2; omega, ?_⟩
        have hap : List.append (cells (hd :: Q2)) [[vi b]] = cells (hd :: (Q2 ++ [b])) := by simp [cells]
        rw [hap, wi64 (k := getI d' hd + 1) (by omega), cells_set]
        refine ⟨by simp [cells]; omega, ⟨s + 1, _, Q2 ++ [b], by simp, by omega, rfl, rfl, p1, ?_, by simp; omega, by trivial⟩, by simp; omega⟩
        intro x hx
        rw [p3 hd hh' hh0']
        rw [htk, List.mem_append, List.mem_singleton] at hx
        rcases hx with hx | rfl
        · obtain ⟨x1, x2⟩ := hpart x hx
          have hxr := ((hBes.mem x).1 (List.mem_of_mem_take hx)).1
          rw [p3 x hxr x1]; exact ⟨x1, x2⟩
        · rw [p4]; omega
      · refine ⟨⟨s + 1, d', Q2, by simp, by omega, rfl, rfl, hB', ?_, hcnt, by trivial⟩, by simp; omega⟩
        intro x hx
        rw [htk, List.mem_append, List.mem_singleton] at hx
        rcases hx with hx | rfl
        · exact hpart x hx
        · exact ⟨by simpa using q4, hB'.qmax hd Q2 rfl x hbr⟩
    · simp only [decide_eq_false_iff_not] at q3
      obtain rfl : s = B.length := by omega
      rw [List.take_length] at hpart
      have e1 : List.take ((cells (hd :: Q2)).length - 1) (List.drop 1 (cells (hd :: Q2))) = cells Q2 := by
        show List.take ((cells Q2).length + 1 - 1) (cells Q2) = cells Q2
        exact List.take_of_length_le (by omega)
      rw [e1]
      have hB2 := hB'.next fun b hb hj => hpart b ((hBes.mem b).2 ⟨hb, hj⟩)
      refine ⟨by simp [cells]; omega, ⟨d', Q2, rfl, rfl, hB2, heap_trans hle hle3⟩, ?_⟩
      rw [negC_cells, cells_len]
      simp only [List.length_cons]
      omega
  · have hQ : Q = [] := by simpa using q2
    subst hQ
    intro v2 H4 hle4 hf4 hb4 hrow4
    exact k d v2 H4 hB.dis (heap_trans hle hle4) hrow4
end
end Cr

set_option linter.unusedVariables false
set_option linter.unusedSimpArgs false
namespace Cr
open Go Sx Go.Proofs
open Go.Proofs.Try
set_option maxRecDepth 100000
/-- The next place. -/
structure Nxt (n : Nat) (r : List Rd) (d : List Int) (a b : Int) : Prop where
  rng : Rng n b
  joi : Joi r a b
  dist : getI d b = getI d a - 1
  least : ∀ c, Rng n c → Joi r a c → getI d c = getI d a - 1 → b ≤ c
/-- A way's beginning: from one place to another one. -/
structure Wy (n : Nat) (r : List Rd) (d : List Int) (x y : Int) (w : List Int) : Prop where
  len : (w.length : Int) = getI d x - getI d y + 1
  first : w[0]? = some x
  last : w[w.length - 1]? = some y
  step : ∀ i a b, w[i]? = some a → w[i + 1]? = some b → Nxt n r d a b
  val : ∀ (i : Nat) (a : Int), w[i]? = some a → Rng n a ∧ getI d a = getI d x - i
theorem Wy.snoc {n : Nat} {r : List Rd} {d : List Int} {x y z : Int} {w : List Int} (h : Wy n r d x y w) (hz : Nxt n r d y z) : Wy n r d x z (w ++ [z]) := by
  have hl : 0 < w.length := (List.getElem?_eq_some_iff.1 h.first).1
  refine ⟨?_, ?_, ?_, ?_, ?_⟩
  · have := h.len; have := hz.dist
    simp only [List.length_append, List.length_singleton]; omega
  · rw [List.getElem?_append_left hl]; exact h.first
  · rw [List.length_append, List.length_singleton, Nat.add_sub_cancel, List.getElem?_append_right (by omega), Nat.sub_self]; rfl
  · intro i a b ha hb
    by_cases e : i + 1 < w.length
    · rw [List.getElem?_append_left (by omega)] at ha hb
      exact h.step i a b ha hb
    · have hi : i + 1 = w.length := by have := (List.getElem?_eq_some_iff.1 hb).1; simp at this; omega
      rw [List.getElem?_append_left (by omega)] at ha
      rw [List.getElem?_append_right (by omega), hi, Nat.sub_self] at hb
      have hl := h.last
      rw [show w.length - 1 = i by omega, ha] at hl
      cases hl
      simp at hb
      subst hb
      exact hz
  · intro i a ha
    by_cases e : i < w.length
    · rw [List.getElem?_append_left e] at ha
      exact h.val i a ha
    · have hi : i = w.length := by have := (List.getElem?_eq_some_iff.1 ha).1; simp at this; omega
      rw [List.getElem?_append_right (by omega), hi, Nat.sub_self] at ha
      simp at ha
      subst ha
      have := h.len; have := hz.dist
      exact ⟨hz.rng, by omega⟩
section
variable {H : Heap} {R : Ending → Heap → Prop}
theorem s_way {v : Value} {r : List Rd} {n : Nat} {x y : Int} (h : SliceAt H v 4 (rds r)) (hl : r.length ≤ 10000000000000) (hn : n ≤ 4096)
    (k0 : ¬ (Rng n x ∧ Rng n y) → R (.returned (.tuple #[.slice none 0 0, .bool false])) H)
    (k1 : Rng n x → Rng n y → ∀ d H', Dis n r y d → getI d x < 0 → H ≤ H' → R (.returned (.tuple #[.slice none 0 0, .bool false])) H')
    (k2 : Rng n x → Rng n y → ∀ d w v H', Dis n r y d → 0 ≤ getI d x → Wy n r d x y w → H ≤ H' → RowAt H' v 3 1 (cells w) → R (.returned (.tuple #[v, .bool true])) H') :
    Meets prog 26 [vi (n : Int), v, vi x, vi y] H R := by
  obtain ⟨a, u, c, e, hw⟩ := h
  subst e
  have h : SliceAt H (.slice a u c) 4 (rds r) := ⟨a, u, c, rfl, hw⟩
  refine spec_of func26 (by kernel_rfl) (fun t h => by cases h) ?_ (vc_way (n : Int) a u c x y R H) ?_
  · simp [argsR, SV.rep, SC.rep, Sx.one]
  unfold nf_way
  have em : minI (maxI (n : Int) 0) 4096 = (n : Int) := by rw [minI_eq, maxI_eq]; omega
  rw [em]
  refine br (fun q => k0 fun e => ?_) fun q1 => br (fun q => k0 fun e => ?_) fun q2 => br (fun q => k0 fun e => ?_) fun q3 => br (fun q => k0 fun e => ?_) fun q4 => ?_
  · have := e.1.1; simp at q; omega
  · have := e.1.2; simp at q; omega
  · have := e.2.1; simp at q; omega
  · have := e.2.2; simp at q; omega
  have hx : Rng n x := by simp at q1 q2; omega
  have hy : Rng n y := by simp at q3 q4; omega
  refine s_far h hl hn hy fun d v1 H1 hD hle hrow => ?_
  have hs := row_slice hrow
  obtain ⟨a1, c1, rfl⟩ := row_val hrow
  rw [cells_len, hD.len] at hs ⊢
  obtain ⟨A, e, g⟩ := ir_get hs (getI_some (g := d) hx.1 (by rw [hD.len]; have := hx.2; omega))
  subst e
  simp only [true_and]
  refine ⟨_, n, c1, rfl, hx, ptr rfl (ptr rfl ⟨_, g, br (fun q => k1 hx hy d H1 hD (by simpa using q) hle) fun q => ?_⟩)⟩
  have hx0 : 0 ≤ getI d x := by simpa using q
  refine ⟨fun p H' => ∃ w : List Int, p.1.2.1 = cells w ∧ Rng n p.1.1 ∧ 0 ≤ getI d p.1.1 ∧ Wy n r d x p.1.1 w ∧ H1 ≤ H', fun p _ => (getI d p.1.1).toNat, ⟨[x], rfl, hx, hx0, ⟨by simp, rfl, rfl, by intro i a b _ hb; simp at hb, ?_⟩, fun _ _ e => e⟩, ?_⟩
  · intro i a ha
    have hi : i = 0 := by have := (List.getElem?_eq_some_iff.1 ha).1; simp at this; omega
    subst hi
    simp at ha; subst ha
    exact ⟨hx, by simp⟩
  rintro ⟨⟨at_, rows, _⟩, _⟩ H2 ⟨w, hrows, hat, hat0, hW, hle2⟩
  simp only at hrows hat hat0 hW ⊢
  subst hrows
  refine br (fun q5 => ?_) fun q5 => ?_
  · have hne : at_ ≠ y := by simpa using q5
    have hpos : 0 < getI d at_ := by
      by_cases e : getI d at_ = 0
      · exact (hne (hD.one0 _ hat e)).elim
      · omega
    refine s_bes (slice_le h (heap_trans hle hle2)) hl fun B v3 H3 hB hle3 _ hrow3 => ?_
    have hs3 := row_slice hrow3
    obtain ⟨a3, c3, rfl⟩ := row_val hrow3
    rw [cells_len] at hs3 ⊢
    refine ⟨a3, _, c3, rfl, fun p H' => ∃ s : Nat, p.1.1 = (s : Int) ∧ s ≤ B.length ∧ (∀ b ∈ B.take s, getI d b ≠ getI d at_ - 1) ∧ H' = H3, fun p _ => (B.length - p.1.1).toNat, ⟨0, rfl, by omega, by simp, rfl⟩, ?_⟩
    rintro ⟨⟨i, _⟩, _⟩ H4 ⟨s, hi, hs4, hno, rfl⟩
    simp only at hi ⊢
    subst hi
    refine br (fun q6 => ?_) fun q6 => ?_
    · simp only [decide_eq_true_eq] at q6
      obtain ⟨b, hdr, htk, hb⟩ := drop_cons (l := B) (k := s) (by omega)
      obtain ⟨A3, e, g3⟩ := ir_get hs3 (i := s) hb
      subst e
      obtain ⟨hbr, hbj⟩ := (hB.mem b).1 (List.mem_of_getElem? hb)
      have hs' := slice_le hs (heap_trans hle2 hle3)
      obtain ⟨A5, e, g5⟩ := ir_get hs' (getI_some (g := d) hbr.1 (by rw [hD.len]; have := hbr.2; omega))
      cases e
      obtain ⟨A6, e, g6⟩ := ir_get hs' (getI_some (g := d) hat.1 (by rw [hD.len]; have := hat.2; omega))
      cases e
      have hbx := hD.bnd x hx
      have hba := hD.bnd at_ hat
      refine ⟨⟨by omega, by omega⟩, ptr rfl (ptr rfl ⟨_, g3, hbr, ptr rfl (ptr rfl ⟨_, g5, hat, ptr rfl (ptr rfl ⟨_, g6, ?_⟩)⟩)⟩)⟩
      rw [wi64 (k := getI d at_ - 1) (by omega)]
      refine br (fun q7 => ?_) fun q7 => ?_
      · have q7 : getI d b = getI d at_ - 1 := by simpa using q7
        have hap : List.append (cells w) [[vi b]] = cells (w ++ [b]) := by simp [cells]
        rw [hap]
        have hlen := hW.len
        have hnx : Nxt n r d at_ b := ⟨hbr, hbj, q7, fun c hc hcj hcd => by
          have hm := (hB.mem c).2 ⟨hc, hcj⟩
          rw [← List.take_append_drop s B, List.mem_append] at hm
          rcases hm with hm | hm
          · exact (hno c hm hcd).elim
          · rw [hdr] at hm
            rcases List.mem_cons.1 hm with rfl | hm
            · omega
            · have hu := hB.up
              rw [← List.take_append_drop s B, List.pairwise_append, hdr] at hu
              have := (List.pairwise_cons.1 hu.2.1).1 c hm
              omega⟩
        refine ⟨by simp [cells]; omega, ⟨w ++ [b], rfl, hbr, by omega, hW.snoc hnx, heap_trans hle2 hle3⟩, by omega⟩
      · rw [wi64 (by omega)]
        refine ⟨⟨s + 1, by simp, by omega, ?_, by trivial⟩, by simp; omega⟩
        intro z hz
        rw [htk, List.mem_append, List.mem_singleton] at hz
        rcases hz with hz | rfl
        · exact hno z hz
        · simpa using q7
    · exfalso
      simp only [decide_eq_false_iff_not] at q6
      obtain rfl : s = B.length := by omega
      rw [List.take_length] at hno
      obtain ⟨j, j1, j2, j3⟩ := hD.pre at_ hat hpos
      exact hno j ((hB.mem j).2 ⟨j1, j2⟩) j3
  · have hat' : at_ = y := by simpa using q5
    subst hat'
    intro v4 H4 hle4 hf4 hb4 hrow4
    exact k2 hx hy d w v4 H4 hD hx0 hW (heap_trans hle (heap_trans hle2 hle4)) hrow4
end
end Cr

set_option linter.unusedVariables false
set_option linter.unusedSimpArgs false
namespace Cr
open Go Sx
open Go.Proofs.Try
set_option maxRecDepth 100000
theorem eq_of {t : Nat} {l : List Nat} (h : memN l t = true) : t ∈ l := by
  induction l with
  | nil => cases h
  | cons x r ih =>
    unfold memN at h
    split at h
    · rename_i q; rw [nbt q]; exact List.mem_cons_self
    · exact List.mem_cons_of_mem _ (ih h)
theorem rowat_known {H : Heap} {v : Value} {ty sz : Nat} {es : List (List Value)} (h : RowAt H v ty sz es) {b : Nat} (hb : blockOf v = some b) : H b ≠ none := by
  rcases h with ⟨rfl, _⟩ | ⟨b', o, cap, c, rfl, h1, _⟩
  · cases hb
  · simp only [blockOf, Option.some.injEq] at hb
    subst hb
    rw [h1]; simp
theorem row_delO {H : Heap} {v : Value} {ty sz : Nat} {es : List (List Value)} {o : Option Nat} (h : RowAt H v ty sz es) (hn : ∀ b, blockOf v = some b → o ≠ some b) : RowAt (H.delO o) v ty sz es := by
  rcases h with h | ⟨b, off, cap, c, rfl, h1, h2⟩
  · exact .inl h
  · refine .inr ⟨b, off, cap, c, rfl, ?_, h2⟩
    cases o with
    | none => exact h1
    | some k => show (if b = k then none else H b) = _; rw [if_neg (fun e => hn b rfl (by rw [e]))]; exact h1
theorem le_delO {H H' : Heap} {o : Option Nat} (h : H ≤ H') (hn : ∀ b, o = some b → H b = none) : H ≤ H'.delO o := fun b ob e => by
  cases o with
  | none => exact h b ob e
  | some k =>
    show (if b = k then none else H' b) = some ob
    rw [if_neg (by rintro rfl; rw [hn b rfl] at e; cases e)]
    exact h b ob e
section
variable {H : Heap} {R : Ending → Heap → Prop}
theorem s_alive42 (k : ∀ H', H ≤ H' → R (.returned (.bool true)) H') : Meets prog 20 [] H R := by
  refine spec_of func20 (by kernel_rfl) (fun t h => by
    have := eq_of h
    simp [h_al42] at this
    subst this
    exact eqOK_of (by kernel_rfl) (by kernel_rfl) (by kernel_rfl)) ?_ (vc_alive42 R H) ?_
  · simp [argsR]
  unfold nf_alive42
  intro v H1 hle1 hf1 hb1 hrow1
  let p0 : Pt := ⟨0, 0, 0, { data := #[] }⟩
  let p1 : Pt := ⟨0, 3, 0, { data := #[] }⟩
  have hrow1 : RowAt H1 v 36 4 (pts [p0, p1]) := hrow1
  have u0 : PtU p0 := by show U32 0 ∧ U32 0; omega
  have u1 : PtU p1 := by show U32 3 ∧ U32 0; omega
  refine s_roads (row_slice hrow1) (by intro p hp; simp only [List.mem_cons, List.not_mem_nil, or_false] at hp; rcases hp with rfl | rfl; exact u0; exact u1) (by simp) fun d v' H2 hp _ hle2 hf2 hrow2 => ?_
  have hd : d = [rdAt [p0, p1] 0 1] := List.perm_singleton.1 hp
  subst hd
  have hkr : krus [rdAt [p0, p1] 0 1] (iota [p0, p1].length) = [rdAt [p0, p1] 0 1] := by decide
  rw [hkr] at hrow2
  obtain ⟨a2, c2, rfl⟩ := row_val hrow2
  refine ⟨a2, _, c2, rfl, _, row_le hrow1 (fun b o _ => hle2 b o), fun v3 H3 hle3 hf3 hb3 hrow3 => ?_⟩
  have hrow3 : RowAt H3 v3 36 4 (pts [p0]) := hrow3
  refine s_roads (row_slice hrow3) (by intro p hp; simp only [List.mem_cons, List.not_mem_nil, or_false] at hp; subst hp; exact u0) (by simp) fun d v' H4 hp _ hle4 hf4 hrow4 => ?_
  have hd : d = [] := List.perm_nil.1 hp
  subst hd
  obtain ⟨a4, c4, rfl⟩ := row_val hrow4
  refine ⟨a4, _, c4, rfl, _, row_le hrow3 (fun b o _ => hle4 b o), br (fun _ => br (fun _ => ?_) fun q => by simp at q) fun q => by simp [krus] at q⟩
  have hn12 : ∀ b, blockOf (.slice a2 (rds [rdAt [p0, p1] 0 1]).length c2) = some b → blockOf v ≠ some b := fun b hb e => rowat_known hrow1 e (hf2 b hb)
  have r3 : RowAt (Heap.delO H2 (blockOf v)) (.slice a2 (rds [rdAt [p0, p1] 0 1]).length c2) 31 4 (rds [rdAt [p0, p1] 0 1]) := row_delO hrow2 hn12
  have hn3 : ∀ b, blockOf (.slice a2 (rds [rdAt [p0, p1] 0 1]).length c2) = some b → blockOf v3 ≠ some b := fun b hb e => rowat_known r3 hb (hf3 b e)
  have r4 := row_delO (row_le r3 fun b o _ e => hle4 b o (hle3 b o e)) hn3
  obtain ⟨A, e, gA⟩ := rd_get (row_slice r4) (i := 0) rfl
  subst e
  have g2 : Heap.has (Heap.delO H4 (blockOf v3)) (((A.add 0).add 2)) [.int .u64 (rdAt [p0, p1] 0 1).hi, .int .u64 (rdAt [p0, p1] 0 1).lo] := by
    intro j x hj
    have e : ((A.add 0).add 2).add j = (A.add (0 * 4)).add (2 + j) := by cases A with | mk b o s => cases s <;> simp [Addr.add, Nat.add_assoc]
    rw [e]
    refine gA (2 + j) x ?_
    match j, hj with
    | 0, hj => exact hj
    | 1, hj => exact hj
  refine ⟨by decide, ptr rfl (ptr rfl (ptr rfl ⟨_, _, g2, ?_⟩))⟩
  have e9 : dis (atP [p0, p1] 0) (atP [p0, p1] 1) = 9 := by decide
  have hb : andO (some (andO none ((rdAt [p0, p1] 0 1).hi == 0))) ((rdAt [p0, p1] 0 1).lo == 9) = true := by
    simp only [rdAt, e9]; decide
  rw [hb]
  exact k _ (le_delO (heap_trans (le_delO (heap_trans hle1 hle2) hf1) (heap_trans hle3 hle4)) fun b hb => by
    cases q : H b with
    | none => rfl
    | some o =>
      have h12 : H ≤ Heap.delO H2 (blockOf v) := le_delO (heap_trans hle1 hle2) hf1
      have := hf3 b hb
      rw [h12 b o q] at this; cases this)
end
end Cr

set_option linter.unusedVariables false
set_option linter.unusedSimpArgs false
namespace Sx
open Go
section
variable {P : Program} {H : Type} {enc : TypeId × Value → H} {W : World}
theorem open_sl {E : Type} [Inhabited E] {tS tE sz by_ : Nat} {cell : E → List Value} {Q : E → Prop} (hS : P.underlying tS = some (.slice tE)) (hc : P.cellsOf tE = sz) (hby : P.bytesOf tE = by_) (hsz : 0 < sz) (hcl : ∀ e, (cell e).length = sz)
    (hon : ∀ e, ∀ x ∈ cell e, one x = true)
    (op : ∀ (fuel : Nat) (cs : List Value) (y : DataW H × List MemPlace), DataW.trod enc P W 0 (fun _ => true) true fuel tE cs = some y → ∃ e, cs = cell e ∧ Q e)
    {v : Value} {d : DataW H} {ps : List MemPlace} {base : Nat} (hv : Value.okWide P W .any base tS v) (h : DataW.Trod enc P W 0 (fun _ => true) true tS v d ps) :
    ∃ l : List E, SliceAt (full W) v sz (l.map cell) ∧ (∀ e ∈ l, Q e) ∧ ((d.weights P tS).all (· ≤ reachBytes) = true → l.length * by_ ≤ reachBytes) := by
  obtain ⟨a, len, cap, rfl⟩ := Go.WideShapes.okWide_slice hS hv
  obtain ⟨fuel, hf⟩ := h
  rcases Go.Deep.open_slice hS hf with ⟨e, e2⟩ | ⟨A, ln, cp, m, n, D, Pl, e, hb, hl, hm, hmm, e2, hx⟩
  · cases e
    exact ⟨[], ⟨none, 0, 0, rfl, rfl, Nat.le_refl _, by simp, by simp, by simp⟩, by simp, by simp⟩
  · cases e
    obtain ⟨rfl, -⟩ := Prod.mk.inj e2
    simp only [if_true] at hmm
    subst hmm
    have a0 : A.add (0 * sz) = A := by rw [Nat.zero_mul]; rfl
    have a1 : ∀ B : Addr, B.add 0 = B := fun B => rfl
    have pick : ∀ i, ∃ p : E, i < len → Q p ∧ (full W).has (A.add (i * sz)) (cell p) ∧ A.spot = none := fun i => by
      by_cases hi : i < len
      · obtain ⟨cs', h1, h2⟩ := hx i (by omega)
        rw [hc] at h1
        obtain ⟨p, rfl, hp⟩ := op _ _ _ h2
        obtain ⟨_, h3, h4⟩ := World.cells?_some h1
        refine ⟨p, fun _ => ⟨hp, ?_, ?_⟩⟩
        · intro j x hj
          have hj4 : j < sz := by have := (List.getElem?_eq_some_iff.1 hj).1; rw [hcl] at this; exact this
          have := h4 j hj4
          rw [hj] at this
          exact this
        · obtain ⟨cs0, k1, k2⟩ := hx 0 (by omega)
          rw [hc] at k1
          obtain ⟨k5, k3, k4⟩ := World.cells?_some k1
          have := k4 0 hsz
          rw [a0, a1, List.getElem?_eq_getElem (by omega)] at this
          unfold World.cell? at this
          split at this
          · split at this
            · cases this
            · rename_i hs
              simpa using hs
          · cases this
      · exact ⟨default, fun h => absurd h hi⟩
    obtain ⟨f, hf⟩ := Classical.axiomOfChoice pick
    refine ⟨(List.range len).map f, ⟨some A, len, _, rfl, by simp, hl, ?_, ?_, fun i e he => ?_⟩, ?_, fun hw => ?_⟩
    · intro e he
      obtain ⟨p, _, rfl⟩ := List.mem_map.1 he
      exact hcl p
    · intro e he
      obtain ⟨p, _, rfl⟩ := List.mem_map.1 he
      exact hon p
    · simp only [List.getElem?_map] at he
      obtain ⟨p, hp, rfl⟩ := Option.map_eq_some_iff.1 he
      obtain ⟨i', hi', rfl⟩ := Option.map_eq_some_iff.1 hp
      have hlt := (List.getElem?_eq_some_iff.1 hi').1
      have hii : i' = i := by have := (List.getElem?_eq_some_iff.1 hi').2; simp at this; omega
      subst hii
      obtain ⟨_, g1, g2⟩ := hf i' (by simpa using hlt)
      exact ⟨A, rfl, g2, g1⟩
    · intro p hp
      obtain ⟨i, hi, rfl⟩ := List.mem_map.1 hp
      exact (hf i (List.mem_range.1 hi)).1
    · simp only [DataW.weights, hS, List.all_cons, Bool.and_eq_true, decide_eq_true_eq, List.length_map, List.length_range, hby] at hw
      simp only [List.length_map, List.length_range]
      have h0 := hw.1
      exact Nat.le_trans (Nat.mul_le_mul_right _ (Nat.le_add_right _ _)) h0
theorem weigh_of {t : TypeId} {ts : List TypeId} {d : DataW H} {ds : List (DataW H)} {p : Nat → Bool} (h : (DataW.weightsEach P (t :: ts) (d :: ds)).all p = true) : (d.weights P t).all p = true ∧ (DataW.weightsEach P ts ds).all p = true := by
  simp only [DataW.weightsEach, List.all_append, Bool.and_eq_true] at h
  exact h
end
end Sx

set_option linter.unusedVariables false
set_option linter.unusedSimpArgs false
namespace Cr
open Go Sx
open Go.Proofs.Try
set_option maxRecDepth 100000
theorem own : ownKnob Go.Proofs.Try.prog.godebug = none := by kernel_rfl
theorem laidOut : laidOutB Go.Proofs.Try.prog = true := by kernel_rfl
section
variable {H : Type} {enc : TypeId × Value → H} {W : World}
theorem i64_wf {b : Int} (w : (Lit.int .i64 b).wf = true) : -9223372036854775808 ≤ b ∧ b ≤ 9223372036854775807 := by simp [Lit.wf, IntKind.min, IntKind.max, IntKind.bits, IntKind.signed] at w; omega
abbrev I64 (x : Int) : Prop := -9223372036854775808 ≤ x ∧ x ≤ 9223372036854775807
theorem openI {v : Value} {d : DataW H} {ps : List MemPlace} {base : Nat} (hv : Value.okWide prog W .any base 3 v) (h : DataW.Trod enc prog W 0 (fun _ => true) true 3 v d ps) : ∃ a : Int, v = vi a ∧ I64 a := by
  obtain ⟨n, rfl, _, _, hw⟩ := Go.ChangeShapes.open_int Go.Proofs.Try.underlying3 hv h
  exact ⟨n, rfl, i64_wf hw⟩
end
end Cr

set_option linter.unusedVariables false
set_option linter.unusedSimpArgs false
namespace Cr
open Go Sx
open Go.Proofs.Try
set_option maxRecDepth 100000
section
variable {H : Type} {enc : TypeId × Value → H} {W : World}
theorem openRd {fuel : Nat} {cs : List Value} {y : DataW H × List MemPlace} (h : DataW.trod enc prog W 0 (fun _ => true) true fuel 31 cs = some y) : ∃ r : Rd, cs = rdC r ∧ (I64 r.f ∧ I64 r.t) := by
  obtain ⟨y0, y1, y2, n, _, hl, h0, h1, h2⟩ := Go.Deep.trod_struct3 Go.Proofs.Try.underlying31 h
  obtain ⟨a, e0, _, w0⟩ := DataW.trod_int Go.Proofs.Try.underlying3 h0
  obtain ⟨b, e1, _, w1⟩ := DataW.trod_int Go.Proofs.Try.underlying3 h1
  obtain ⟨z0, z1, m, _, hl2, g0, g1⟩ := Go.ChangeShapes.trod_struct2 Go.Proofs.Try.underlying29 h2
  obtain ⟨c, e2, _, _⟩ := DataW.trod_int Go.Proofs.Try.underlying27 g0
  obtain ⟨d, e3, _, _⟩ := DataW.trod_int Go.Proofs.Try.underlying27 g1
  have c4 : prog.cellsOf 31 = 4 := by kernel_rfl
  have c1 : prog.cellsOf 3 = 1 := by kernel_rfl
  have c2 : prog.cellsOf 29 = 2 := by kernel_rfl
  have c3 : prog.cellsOf 27 = 1 := by kernel_rfl
  rw [c4] at hl
  match cs, hl with
  | [q0, q1, q2, q3], _ =>
    simp only [c1, c2, c3, List.drop_zero, List.drop_succ_cons, List.take_succ_cons, List.take_zero] at e0 e1 e2 e3
    cases e0; cases e1; cases e2; cases e3
    exact ⟨⟨a, b, c, d⟩, rfl, i64_wf w0, i64_wf w1⟩
theorem openRds {v : Value} {d : DataW H} {ps : List MemPlace} {base : Nat} (hv : Value.okWide prog W .any base 24 v) (h : DataW.Trod enc prog W 0 (fun _ => true) true 24 v d ps) :
    ∃ l : List Rd, SliceAt (full W) v 4 (rds l) ∧ (∀ r ∈ l, I64 r.f ∧ I64 r.t) ∧ ((d.weights prog 24).all (· ≤ reachBytes) = true → l.length ≤ 10000000000000) := by
  obtain ⟨l, h1, h2, h3⟩ := open_sl (P := prog) (cell := rdC) (Q := fun r => I64 r.f ∧ I64 r.t) (sz := 4) (by_ := 32) Go.Proofs.Try.underlying24 (by kernel_rfl) (by kernel_rfl) (by omega) (fun _ => rfl) (fun x v hv => by simp at hv; rcases hv with rfl | rfl | rfl | rfl <;> rfl) (fun _ _ _ h => openRd h) hv h
  refine ⟨l, h1, h2, fun hw => ?_⟩
  have := h3 hw
  unfold reachBytes at this
  omega
end
end Cr

set_option linter.unusedVariables false
set_option linter.unusedSimpArgs false
namespace Cr
open Go Sx Go.Proofs
open Go.Proofs.Try
set_option maxRecDepth 100000
def dd (d : List Int) (i : Int) : Int := if getI d i < 0 then 99 else getI d i
/-- On the way to the law's distances. -/
structure Fb (n : Nat) (r : List Rd) (d : List Int) (k i m : Int) (F : List Int) : Prop where
  len : F.length = n
  low : ∀ j, Rng n j → dd d j ≤ getI F j ∧ getI F j ≤ 99
  up0 : ∀ j, Rng n j → 0 ≤ getI d j → getI d j ≤ k → getI F j ≤ getI d j
  up1 : ∀ j, Rng n j → j < i → 0 ≤ getI d j → getI d j ≤ k + 1 → getI F j ≤ getI d j
  up2 : ∀ j, Rng n j → j < m → Joi r i j → 0 ≤ getI d j → getI d j ≤ k → getI F i ≤ getI d j + 1
theorem Fb.set {n : Nat} {r : List Rd} {to : Int} {d : List Int} {k i m : Int} {F : List Int} (hD : Dis n r to d) (h : Fb n r d k i m F) (hi : Rng n i) (hm : Rng n m) (hj : Joi r i m) (hF : getI F m < 99) :
    Fb n r d k i (m + 1) (F.set i.toNat (min (getI F i) (getI F m + 1))) := by
  have hl := h.len
  have gs : ∀ j, Rng n j → getI (F.set i.toNat (min (getI F i) (getI F m + 1))) j = if j = i then min (getI F i) (getI F m + 1) else getI F j := fun j hj => getI_set (by rw [hl]; exact hi) (by rw [hl]; exact hj)
  have le : ∀ j, Rng n j → getI (F.set i.toNat (min (getI F i) (getI F m + 1))) j ≤ getI F j := fun j hj => by
    rw [gs j hj]; split
    · rename_i e; subst e; omega
    · omega
  have hlm := h.low m hm
  have hli := h.low i hi
  have hdm : 0 ≤ getI d m := by
    by_cases q : getI d m < 0
    · unfold dd at hlm; rw [if_pos q] at hlm; omega
    · omega
  have hdm2 : getI d m ≤ getI F m := by unfold dd at hlm; rw [if_neg (by omega)] at hlm; omega
  have he := hD.edge m i hm hi (joi_comm hj) hdm
  refine ⟨by simpa using hl, fun j hj' => ?_, fun j hj' a b => Int.le_trans (le j hj') (h.up0 j hj' a b), fun j hj' a b c => Int.le_trans (le j hj') (h.up1 j hj' a b c), fun j hj' a b c e => ?_⟩
  · rw [gs j hj']
    split
    · rename_i e; subst e
      refine ⟨?_, by omega⟩
      have : dd d j = getI d j := by unfold dd; rw [if_neg (by omega)]
      omega
    · exact h.low j hj'
  · by_cases q : j = m
    · subst q
      have := h.up0 j hj' c e
      rw [gs i hi, if_pos rfl]; omega
    · exact Int.le_trans (le i hi) (h.up2 j hj' (by omega) b c e)
theorem Fb.skip {n : Nat} {r : List Rd} {to : Int} {d : List Int} {k i m : Int} {F : List Int} (hD : Dis n r to d) (hn : n ≤ 50) (h : Fb n r d k i m F) (hi : Rng n i) (hm : Rng n m) (hj : ¬ (getI F m < 99 ∧ Joi r i m)) : Fb n r d k i (m + 1) F where
  len := h.len
  low := h.low
  up0 := h.up0
  up1 := h.up1
  up2 j hj' a b c e := by
    by_cases q : j = m
    · subst q
      have h1 := h.up0 j hj' c e
      have h2 := hD.bnd j hj'
      exact (hj ⟨by omega, b⟩).elim
    · exact h.up2 j hj' (by omega) b c e
theorem Fb.row {n : Nat} {r : List Rd} {to : Int} {d : List Int} {k i m : Int} {F : List Int} (hD : Dis n r to d) (h : Fb n r d k i m F) (hk : 0 ≤ k) (hi : Rng n i) (hm : (n : Int) ≤ m) : Fb n r d k (i + 1) 0 F where
  len := h.len
  low := h.low
  up0 := h.up0
  up1 j hj a b c := by
    by_cases q : j = i
    · subst q
      by_cases e : getI d j ≤ k
      · exact h.up0 j hj b e
      · obtain ⟨z, z1, z2, z3⟩ := hD.pre j hj (by omega)
        have := h.up2 z z1 (by have := z1.2; omega) z2 (by omega) (by omega)
        omega
    · exact h.up1 j hj (by omega) b c
  up2 j hj a := by have := hj.1; omega
theorem Fb.round {n : Nat} {r : List Rd} {d : List Int} {k i m : Int} {F : List Int} (h : Fb n r d k i m F) (hi : (n : Int) ≤ i) : Fb n r d (k + 1) 0 0 F where
  len := h.len
  low := h.low
  up0 j hj a b := h.up1 j hj (by have := hj.2; omega) a b
  up1 j hj a := by have := hj.1; omega
  up2 j hj a := by have := hj.1; omega
theorem Fb.all {n : Nat} {r : List Rd} {to : Int} {d : List Int} {k i m : Int} {F : List Int} (hD : Dis n r to d) (h : Fb n r d k i m F) (hk : (n : Int) ≤ k) {j : Int} (hj : Rng n j) : getI F j = dd d j := by
  have h1 := h.low j hj
  by_cases q : getI d j < 0
  · unfold dd at *; rw [if_pos q] at *; omega
  · have h2 := hD.bnd j hj
    have h3 := h.up0 j hj (by omega) (by omega)
    unfold dd at *; rw [if_neg q] at *; omega
def nine (n t : Nat) : List Int := (List.range n).map fun i => if i < t then 99 else 0
theorem nine_len (n t : Nat) : (nine n t).length = n := by simp [nine]
theorem nine_set {n t : Nat} (h : t < n) : (nine n t).set t 99 = nine n (t + 1) := by
  refine List.ext_getElem? fun i => ?_
  rw [List.getElem?_set]
  by_cases e : t = i
  · subst e
    rw [if_pos rfl, if_pos (by rw [nine_len]; exact h)]
    simp [nine, h]
  · rw [if_neg e]
    simp only [nine, List.getElem?_map]
    by_cases hi : i < n
    · rw [List.getElem?_range hi]
      simp only [Option.map_some]
      congr 1
      by_cases q : i < t
      · rw [if_pos q, if_pos (by omega)]
      · rw [if_neg q, if_neg (by omega)]
    · rw [List.getElem?_eq_none (by simpa using hi)]; rfl
theorem nine_zero (n : Nat) : List.replicate n [vi 0] = cells (nine n 0) := by
  refine List.ext_getElem? fun i => ?_
  by_cases hi : i < n
  · simp [nine, cells, hi]
  · rw [List.getElem?_eq_none (by simpa using hi), List.getElem?_eq_none (by simpa [nine, cells] using hi)]
theorem nine_get {n : Nat} {j : Int} (hj : Rng n j) : getI (nine n n) j = 99 := by
  have h1 := getI_some (g := nine n n) hj.1 (by rw [nine_len]; have := hj.2; omega)
  unfold nine at h1
  rw [List.getElem?_map, List.getElem?_range (by have := hj.2; omega)] at h1
  simp only [Option.map_some] at h1
  rw [if_pos (by have := hj.2; omega)] at h1
  exact (Option.some.inj h1).symm
theorem fb_start {n : Nat} {r : List Rd} {to : Int} {d : List Int} (hD : Dis n r to d) (hn : n ≤ 50) : Fb n r d 0 0 0 ((nine n n).set to.toNat 0) := by
  have gs : ∀ j, Rng n j → getI ((nine n n).set to.toNat 0) j = if j = to then 0 else 99 := fun j hj => by
    rw [getI_set (by rw [nine_len]; exact hD.rng) (by rw [nine_len]; exact hj), nine_get hj]
  refine ⟨by simp [nine], fun j hj => ?_, fun j hj a b => ?_, fun j hj a => by have := hj.1; omega, fun j hj a => by have := hj.1; omega⟩
  · rw [gs j hj]
    have := hD.bnd j hj
    split
    · rename_i e; subst e
      unfold dd; rw [hD.zero]; omega
    · unfold dd; split <;> omega
  · have e := hD.one0 j hj (by omega)
    rw [gs j hj, if_pos e]; exact a
/-- The places that a way may go on to. -/
def Cand (n : Nat) (r : List Rd) (d : List Int) (a c : Int) : Prop := Rng n c ∧ Joi r a c ∧ 0 < getI d a ∧ getI d c = getI d a - 1
theorem mod10 {m : Int} (hm : -9223372036854775808 ≤ m ∧ m ≤ 9223372036854775807) : 0 ≤ Int.tmod (IntKind.i64.wrap (Int.tmod m 10 + 10)) 10 ∧ Int.tmod (IntKind.i64.wrap (Int.tmod m 10 + 10)) 10 < 10 := by
  have h1 : -10 < Int.tmod m 10 ∧ Int.tmod m 10 < 10 := by
    have h0 := Int.tmod_lt_of_pos m (b := 10) (by omega)
    have h2 := Int.tmod_lt_of_pos (-m) (b := 10) (by omega)
    rw [Int.neg_tmod] at h2
    omega
  rw [wi64 (by omega), Int.tmod_eq_emod_of_nonneg (by omega)]
  omega
theorem cut_rds {H : Heap} {l : List Rd} {a : Option Addr} {n c m : Nat} (h : SliceAt H (.slice a n c) 4 (rds l)) (hm : m ≤ n) : SliceAt H (.slice (subAddr a c 0 4) m (c - 0)) 4 (rds (l.take m)) := by
  obtain ⟨a', n', c', e, h1, h2, h3, h4, h5⟩ := h
  cases e
  have hl : l.length = n := by simpa using h1
  refine ⟨_, _, _, rfl, by simp; omega, by omega, ?_, ?_, fun i x hx => ?_⟩
  · intro e he
    obtain ⟨p, _, rfl⟩ := List.mem_map.1 he
    rfl
  · intro e he
    obtain ⟨p, _, rfl⟩ := List.mem_map.1 he
    intro v hv
    simp at hv; rcases hv with rfl | rfl | rfl | rfl <;> rfl
  · have hx2 : (rds l)[i]? = some x := by
      simp only [rds, List.getElem?_map, List.getElem?_take] at hx ⊢
      split at hx
      · exact hx
      · simp at hx
    obtain ⟨A, rfl, h6, h7⟩ := h5 i x hx2
    refine ⟨A, ?_, h6, h7⟩
    unfold subAddr
    split
    · rfl
    · rw [Nat.zero_mul]; rfl
section
variable {H : Heap} {R : Ending → Heap → Prop}
theorem s_lways {v : Value} {l : List Rd} {m x y : Int} (h : SliceAt H v 4 (rds l)) (hl : l.length ≤ 10000000000000) (hm : I64 m) (hx64 : I64 x) (hy64 : I64 y) (k : ∀ H', H ≤ H' → R (.returned (.bool true)) H') : Meets prog 5 [vi m, v, vi x, vi y] H R := by
  obtain ⟨a, u, c, e, hw⟩ := h
  subst e
  have h : SliceAt H (.slice a u c) 4 (rds l) := ⟨a, u, c, rfl, hw⟩
  have hlu : l.length = u := by simpa using hw.1
  refine spec_of func5 (by kernel_rfl) (fun t h => by cases h) ?_ (vc_lways m a u c x y R H) ?_
  · simp [argsR, SV.rep, SC.rep, Sx.one]
  unfold nf_lways
  simp only [true_and]
  refine s_alive42 fun H1 hle => ⟨true, rfl, br (fun q => by cases q) fun _ => ⟨by decide, by decide, ?_⟩⟩
  have h1 := slice_le h hle
  refine ⟨fun p H' => H' = H1 ∧ ∃ l' : List Rd, SliceAt H1 (.slice p.1.1.1 p.1.1.2.1 p.1.1.2.2) 4 (rds l') ∧ l'.length ≤ 10000000000000, ?_, ?_⟩
  · refine br (fun q => ?_) fun q => ?_
    · simp only [decide_eq_true_eq] at q
      have := hw.2.1
      refine ⟨⟨by omega, by omega⟩, rfl, l.take 20, cut_rds (m := 20) h1 (by omega), by simp; omega⟩
    · exact ⟨rfl, l, h1, hl⟩
  clear h1 h hw hl hlu
  rintro ⟨⟨⟨a, u, c⟩, _⟩, _⟩ H0 ⟨rfl, r, h, hl⟩
  simp only at h ⊢
  have hmod := mod10 hm
  generalize Int.tmod (IntKind.i64.wrap (Int.tmod m 10 + 10)) 10 = M at *
  obtain ⟨n, rfl⟩ := Int.eq_ofNat_of_zero_le hmod.1
  have hn : n < 10 := by omega
  refine Meets.mono (R := fun e H' => H0 ≤ H' ∧ ∃ a w c b, e = .returned (.tuple #[.slice a w c, .bool b]) ∧
    ((¬ (Rng n x ∧ Rng n y) ∧ w = 0 ∧ b = false) ∨ (Rng n x ∧ Rng n y ∧ ∃ d, Dis n r y d ∧ ((getI d x < 0 ∧ w = 0 ∧ b = false) ∨ (0 ≤ getI d x ∧ b = true ∧ ∃ W, SliceAt H' (.slice a w c) 1 (cells W) ∧ W.length = w ∧ Wy n r d x y W))))) ?_ ?_
  · refine s_way h hl (by omega) (fun e => ⟨fun _ _ e => e, none, 0, 0, false, rfl, .inl ⟨e, rfl, rfl⟩⟩) (fun hx hy d H2 hD hd hle2 => ⟨hle2, none, 0, 0, false, rfl, .inr ⟨hx, hy, d, hD, .inl ⟨hd, rfl, rfl⟩⟩⟩) (fun hx hy d W v2 H2 hD hd hW hle2 hrow => ?_)
    have hs := row_slice hrow
    obtain ⟨a2, c2, rfl⟩ := row_val hrow
    rw [cells_len] at hs ⊢
    exact ⟨hle2, a2, _, c2, true, rfl, .inr ⟨hx, hy, d, hD, .inr ⟨hd, rfl, W, hs, rfl, hW⟩⟩⟩
  rintro e H2 ⟨hle2, a2, w, c2, b, rfl, hcase⟩
  refine ⟨a2, w, c2, b, rfl, ?_⟩
  have fin : R (.returned (.bool true)) H2 := k H2 (heap_trans hle hle2)
  have early : ¬ (Rng n x ∧ Rng n y) → Br (!b) (R (.returned (.bool ((w : Int) == 0))) H2) (R (.returned (.bool false)) H2) := fun e => by
    rcases hcase with ⟨_, rfl, rfl⟩ | ⟨q1, q2, _⟩
    · exact br (fun _ => fin) fun q => by cases q
    · exact (e ⟨q1, q2⟩).elim
  refine br (fun q => early fun e => by have := e.1.1; simp at q; omega) fun q1 => br (fun q => early fun e => by have := e.1.2; simp at q; omega) fun q2 => br (fun q => early fun e => by have := e.2.1; simp at q; omega) fun q3 => br (fun q => early fun e => by have := e.2.2; simp at q; omega) fun q4 => ?_
  have hx : Rng n x := by simp at q1 q2; omega
  have hy : Rng n y := by simp at q3 q4; omega
  clear q1 q2 q3 q4 early
  obtain ⟨d, hD, hcase⟩ : ∃ d, Dis n r y d ∧ ((getI d x < 0 ∧ w = 0 ∧ b = false) ∨ (0 ≤ getI d x ∧ b = true ∧ ∃ W, SliceAt H2 (.slice a2 w c2) 1 (cells W) ∧ W.length = w ∧ Wy n r d x y W)) := by
    rcases hcase with ⟨e, _⟩ | ⟨_, _, q⟩
    · exact (e ⟨hx, hy⟩).elim
    · exact q
  have hr2 := slice_le h hle2
  refine ⟨⟨by omega, by omega⟩, fun p H' => ∃ t : Nat, p.1.1 = (t : Int) ∧ t ≤ n ∧ p.1.2.1 = cells (nine n t) ∧ H' = H2, fun p _ => (n - p.1.1).toNat, ⟨0, rfl, by omega, by rw [Int.toNat_natCast]; exact nine_zero n, rfl⟩, ?_⟩
  rintro ⟨⟨i, rows, _⟩, _⟩ H3 ⟨t, hi, ht, hrows, rfl⟩
  simp only at hi hrows ⊢
  subst hi hrows
  refine br (fun q1 => ?_) fun q1 => ?_
  · simp only [decide_eq_true_eq] at q1
    rw [cells_len, nine_len, wi64 (by omega), Int.toNat_natCast, cells_set, nine_set (by omega)]
    exact ⟨⟨by omega, by omega⟩, by omega, ⟨t + 1, by simp, by omega, rfl, by trivial⟩, by simp; omega⟩
  simp only [decide_eq_false_iff_not] at q1
  obtain rfl : t = n := by omega
  rw [cells_len, nine_len, cells_set]
  refine ⟨hy, by have := hy.2; omega, fun p H' => ∃ (K : Nat) (F : List Int), p.1.1 = (K : Int) ∧ K ≤ t ∧ p.1.2.1 = cells F ∧ Fb t r d K 0 0 F ∧ H' = H3, fun p _ => (t - p.1.1).toNat, ⟨0, _, rfl, by omega, rfl, fb_start hD (by omega), rfl⟩, ?_⟩
  rintro ⟨⟨i, rows, _⟩, _⟩ H4 ⟨K, F, hi, hK, hrows, hF, rfl⟩
  simp only at hi hrows ⊢
  subst hi hrows
  refine br (fun q2 => ?_) fun q2 => ?_
  · simp only [decide_eq_true_eq] at q2
    refine ⟨fun p H' => ∃ (I : Nat) (F : List Int), p.1.1 = (I : Int) ∧ I ≤ t ∧ p.1.2.1 = cells F ∧ Fb t r d K I 0 F ∧ H' = H4, fun p _ => (t - p.1.1).toNat, ⟨0, F, rfl, by omega, rfl, hF, rfl⟩, ?_⟩
    rintro ⟨⟨i, rows, _⟩, _⟩ H5 ⟨I, F, hi, hI, hrows, hF, rfl⟩
    simp only at hi hrows ⊢
    subst hi hrows
    refine br (fun q3 => ?_) fun q3 => ?_
    · simp only [decide_eq_true_eq] at q3
      have hIr : Rng t (I : Int) := ⟨by omega, by omega⟩
      refine ⟨fun p H' => ∃ (J : Nat) (F : List Int), p.1.1 = (J : Int) ∧ J ≤ t ∧ p.1.2.1 = cells F ∧ Fb t r d K I J F ∧ H' = H5, fun p _ => (t - p.1.1).toNat, ⟨0, F, rfl, by omega, rfl, hF, rfl⟩, ?_⟩
      rintro ⟨⟨i, rows, _⟩, _⟩ H6 ⟨J, F, hi, hJ, hrows, hF, rfl⟩
      simp only at hi hrows ⊢
      subst hi hrows
      refine br (fun q4 => ?_) fun q4 => ?_
      · simp only [decide_eq_true_eq] at q4
        have hJr : Rng t (J : Int) := ⟨by omega, by omega⟩
        have gJ := cells_get (getI_some (g := F) hJr.1 (by rw [hF.len]; have := hJr.2; omega))
        have gI := cells_get (getI_some (g := F) hIr.1 (by rw [hF.len]; have := hIr.2; omega))
        rw [cells_len, hF.len, wi64 (k := (J : Int) + 1) (by omega)]
        refine ⟨hJr, _, gJ, br (fun q5 => s_joi hr2 hl fun b1 hb1 => ⟨_, rfl, br (fun q6 => ?_) fun q6 => ?_⟩) fun q5 => ?_⟩
        · refine ⟨hIr, _, gI, hJr, _, gJ, hIr, by have := hIr.2; omega, ?_⟩
          have hlo := hF.low J hJr
          have hdd : -1 ≤ dd d J := by unfold dd; split <;> omega
          rw [minI_eq, wi64 (k := getI F J + 1) (by omega), cells_set]
          exact ⟨⟨J + 1, _, by simp, by omega, rfl, hF.set hD hIr hJr (hb1.1 q6) (by simpa using q5), by trivial⟩, by simp; omega⟩
        · exact ⟨⟨J + 1, F, by simp, by omega, rfl, hF.skip hD (by omega) hIr hJr (fun q => by rw [hb1.2 q.2] at q6; cases q6), by trivial⟩, by simp; omega⟩
        · exact ⟨⟨J + 1, F, by simp, by omega, rfl, hF.skip hD (by omega) hIr hJr (fun q => by have := q.1; simp at q5; omega), by trivial⟩, by simp; omega⟩
      · simp only [decide_eq_false_iff_not] at q4
        rw [wi64 (by omega)]
        exact ⟨⟨I + 1, F, by simp, by omega, rfl, hF.row hD (by omega) hIr (by omega), by trivial⟩, by simp; omega⟩
    · simp only [decide_eq_false_iff_not] at q3
      rw [wi64 (by omega)]
      exact ⟨⟨K + 1, F, by simp, by omega, rfl, hF.round (by omega), by trivial⟩, by simp; omega⟩
  simp only [decide_eq_false_iff_not] at q2
  have hall : ∀ {j : Int}, Rng t j → getI F j = dd d j := fun {j} hj => hF.all hD (by omega) hj
  have gF : ∀ {j : Int}, Rng t j → ∃ e : List Value, List.get?Internal (cells F) j.toNat = some e ∧ List.take 1 (List.drop 0 e) = [vi (getI F j)] := fun {j} hj => cells_get (getI_some (g := F) hj.1 (by rw [hF.len]; have := hj.2; omega))
  rw [cells_len, hF.len]
  refine ⟨hx, _, gF hx, ?_⟩
  rw [hall hx]
  have hbx := hD.bnd x hx
  refine br (fun q3 => ?_) fun q3 => ?_
  · rcases hcase with ⟨_, rfl, rfl⟩ | ⟨h0, _⟩
    · exact br (fun _ => fin) fun q => by cases q
    · unfold dd at q3
      rw [if_neg (by omega)] at q3
      simp at q3; omega
  rcases hcase with ⟨h0, _⟩ | ⟨h0, rfl, W, hW, hWl, hWy⟩
  · unfold dd at q3
    rw [if_pos h0] at q3
    simp at q3
  subst hWl
  have hW0 : 0 < W.length := (List.getElem?_eq_some_iff.1 hWy.first).1
  have hlen := hWy.len
  rw [hD.zero] at hlen
  refine ⟨fun p H' => ∃ i : Nat, p.1.2.1 = (i : Int) ∧ i ≤ W.length ∧ (∀ z, W[i]? = some z → p.1.1 = z) ∧ H' = H4, fun p _ => (W.length - p.1.2.1).toNat, ⟨0, rfl, by omega, fun z hz => by rw [hWy.first] at hz; exact Option.some.inj hz, rfl⟩, ?_⟩
  rintro ⟨⟨at_, i, _⟩, _⟩ H5 ⟨s, hi, hs, hat, rfl⟩
  simp only at hi hat ⊢
  subst hi
  refine br (fun q4 => ?_) fun q4 => ?_
  · simp only [decide_eq_true_eq] at q4
    obtain ⟨z, _, _, hz⟩ := drop_cons (l := W) (k := s) (by omega)
    obtain rfl := hat z hz
    obtain ⟨A, e, g⟩ := ir_get hW (i := s) hz
    subst e
    obtain ⟨hzr, hzd⟩ := hWy.val s at_ hz
    have hd0 : 0 ≤ getI d at_ := by omega
    have hFz : getI F at_ = getI d at_ := by rw [hall hzr]; unfold dd; rw [if_neg (by omega)]
    have hbz := hD.bnd at_ hzr
    have sb : (0 : Int) ≤ (s : Int) ∧ (s : Int) < (W.length : Int) := ⟨by omega, by omega⟩
    refine ⟨sb, ptr rfl (ptr rfl ⟨_, g, br (fun q => by simp at q) fun _ => ?_⟩)⟩
    rw [wi64 (k := (t : Int) - 1) (by omega)]
    refine ⟨fun p H' => (-1 ≤ p.1.2.1 ∧ p.1.2.1 < (t : Int)) ∧ ((Cand t r d at_ p.1.1 ∧ p.1.2.1 < p.1.1 ∧ ∀ c, Cand t r d at_ c → p.1.2.1 < c → p.1.1 ≤ c) ∨ ∀ c, Cand t r d at_ c → ¬ p.1.2.1 < c) ∧ H' = H5, fun p _ => (p.1.2.1 + 1).toNat, ⟨by simp only; omega, .inr fun c hc => by have := hc.1.2; simp only; omega, rfl⟩, ?_⟩
    rintro ⟨⟨at2, j, _⟩, _⟩ H6 ⟨hj, hc, rfl⟩
    simp only at hj hc ⊢
    refine br (fun q5 => ?_) fun q5 => ?_
    · have hj0 : 0 ≤ j := by simpa using q5
      have hjr : Rng t j := ⟨hj0, hj.2⟩
      have yes : Cand t r d at_ j → (-1 ≤ j - 1 ∧ j - 1 < (t : Int)) ∧ ((Cand t r d at_ j ∧ j - 1 < j ∧ ∀ c, Cand t r d at_ c → j - 1 < c → j ≤ c) ∨ ∀ c, Cand t r d at_ c → ¬ j - 1 < c) := fun e => ⟨by omega, .inl ⟨e, by omega, fun c _ _ => by omega⟩⟩
      have no : ¬ Cand t r d at_ j → (-1 ≤ j - 1 ∧ j - 1 < (t : Int)) ∧ ((Cand t r d at_ at2 ∧ j - 1 < at2 ∧ ∀ c, Cand t r d at_ c → j - 1 < c → at2 ≤ c) ∨ ∀ c, Cand t r d at_ c → ¬ j - 1 < c) := fun e => by
        refine ⟨by omega, ?_⟩
        rcases hc with ⟨c1, c2, c3⟩ | hc
        · refine .inl ⟨c1, by omega, fun c hcc hlt => ?_⟩
          by_cases q : c = j
          · subst q; exact (e hcc).elim
          · exact c3 c hcc (by omega)
        · refine .inr fun c hcc hlt => ?_
          by_cases q : c = j
          · subst q; exact e hcc
          · exact hc c hcc (by omega)
      rw [wi64 (k := j - 1) (by omega)]
      have ms : (j - 1 + 1).toNat < (j + 1).toNat := by omega
      refine ⟨H6, fun _ _ e => e, sb, ptr rfl (ptr rfl ⟨_, g, hzr, _, gF hzr, ?_⟩)⟩
      rw [hFz]
      refine br (fun q6 => ?_) fun q6 => ⟨⟨(no fun q => by have := q.2.2.1; simp at q6; omega).1, (no fun q => by have := q.2.2.1; simp at q6; omega).2, by trivial⟩, ms⟩
      have hpos : 0 < getI d at_ := by simpa using q6
      refine ⟨hjr, _, gF hjr, sb, ptr rfl (ptr rfl ⟨_, g, hzr, _, gF hzr, ?_⟩)⟩
      rw [hFz, hall hjr, wi64 (k := getI d at_ - 1) (by omega)]
      have hej : dd d j = getI d at_ - 1 ↔ getI d j = getI d at_ - 1 := by
        unfold dd
        split
        · constructor <;> omega
        · exact Iff.rfl
      refine br (fun q7 => ?_) fun q7 => ⟨⟨(no fun q => by have := hej.2 q.2.2.2; simp at q7; exact q7 this).1, (no fun q => by have := hej.2 q.2.2.2; simp at q7; exact q7 this).2, by trivial⟩, ms⟩
      refine ⟨sb, ptr rfl (ptr rfl ⟨_, g, s_joi hr2 hl fun b1 hb1 => ⟨keep_same _ _ _, _, rfl, br (fun q8 => ?_) fun q8 => ?_⟩⟩)⟩
      · rw [delLs_nil]
        have e : Cand t r d at_ j := ⟨hjr, hb1.1 q8, hpos, hej.1 (by simpa using q7)⟩
        exact ⟨⟨(yes e).1, (yes e).2, by trivial⟩, ms⟩
      · rw [delLs_nil]
        have e : ¬ Cand t r d at_ j := fun q => by rw [hb1.2 q.2.1] at q8; cases q8
        exact ⟨⟨(no e).1, (no e).2, by trivial⟩, ms⟩
    · have hj1 : j = -1 := by simp at q5; omega
      subst hj1
      rw [wi64 (by omega)]
      refine ⟨⟨s + 1, by simp, by omega, fun z' hz' => ?_, by trivial⟩, by simp; omega⟩
      have hnx := hWy.step s at_ z' hz hz'
      have hzd' := (hWy.val (s + 1) z' hz').2
      have hl1 : s + 1 < W.length := (List.getElem?_eq_some_iff.1 hz').1
      have hcz : Cand t r d at_ z' := ⟨hnx.rng, hnx.joi, by omega, hnx.dist⟩
      rcases hc with ⟨c1, c2, c3⟩ | hc
      · have h1 := c3 z' hcz (by have := hcz.1.1; omega)
        have h2 := hnx.least at2 c1.1 c1.2.1 c1.2.2.2
        omega
      · exact (hc z' hcz (by have := hcz.1.1; omega)).elim
  · obtain ⟨A, e, g⟩ := ir_get hW (i := W.length - 1) hWy.last
    subst e
    have hFx : dd d x = getI d x := by unfold dd; rw [if_neg (by omega)]
    refine br (fun _ => ⟨hx, _, gF hx, ?_⟩) fun q => by cases q
    rw [hall hx, hFx, wi64 (k := getI d x + 1) (by omega), wi64 (k := (W.length : Int) - 1) (by omega)]
    have et : ((W.length : Int) - 1).toNat = W.length - 1 := by omega
    rw [et]
    refine br (fun _ => ⟨⟨by omega, by omega⟩, ptr rfl (ptr rfl ⟨_, g, ?_⟩)⟩) fun q => by simp at q; omega
    rw [beq_self_eq_true]
    exact fin
end
end Cr
