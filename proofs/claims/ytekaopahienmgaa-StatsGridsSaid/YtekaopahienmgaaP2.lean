/- Bits of numbers. -/
import Derived.Test.YtekaopahienmgaaSxW
import Derived.IntWalk
set_option linter.unusedVariables false
set_option linter.unusedSimpArgs false
namespace Bt
open Go Sx
theorem wu32 {k : Int} (h : 0 ≤ k ∧ k ≤ 4294967295) : IntKind.u32.wrap k = k := IntWalk.u32_in _ (by omega)
theorem ofI {n : Nat} {x : Int} (h : 0 ≤ x) : BitVec.ofInt n x = BitVec.ofNat n x.toNat := by
  obtain ⟨y, rfl⟩ := Int.eq_ofNat_of_zero_le h
  simp
theorem pow32 {h : Nat} (hh : h ≤ 32) : (2 : Nat) ^ h ≤ 4294967296 := by
  have := Nat.pow_le_pow_right (n := 2) (by omega) hh
  simpa using this
theorem clr_bits {x h : Nat} (hx : x < 4294967296) (hh : h ≤ 32) : (BitVec.ofNat 32 x &&& ~~~ BitVec.ofNat 32 (2 ^ h - 1)).toNat = x / 2 ^ h * 2 ^ h := by
  apply Nat.eq_of_testBit_eq
  intro i
  rw [BitVec.testBit_toNat, ← Nat.shiftRight_eq_div_pow, ← Nat.shiftLeft_eq, Nat.testBit_shiftLeft, Nat.testBit_shiftRight]
  simp only [BitVec.getLsbD_and, BitVec.getLsbD_not, BitVec.getLsbD_ofNat, Nat.testBit_two_pow_sub_one]
  by_cases hi : i < 32
  · by_cases hih : i < h
    · simp [hi, hih, Nat.not_le.2 hih]
    · simp only [hi, hih, decide_true, decide_false, Bool.and_false, Bool.not_false, Bool.true_and, Bool.and_true, Nat.not_lt.1 hih, ge_iff_le]
      rw [show h + (i - h) = i by omega]
  · have : x.testBit i = false := Nat.testBit_lt_two_pow (Nat.lt_of_lt_of_le (by omega : x < 2 ^ 32) (Nat.pow_le_pow_right (by omega) (by omega)))
    by_cases hih : i < h
    · omega
    · simp only [hi, decide_false, Bool.false_and]
      rw [show h + (i - h) = i by omega, this, Bool.and_false]
theorem and_not {x : Int} {h : Nat} (h0 : 0 ≤ x) (h1 : x < 4294967296) (hh : h ≤ 32) : bitOp .andNot .u32 x (2 ^ h - 1) = x / 2 ^ h * 2 ^ h := by
  obtain ⟨y, rfl⟩ := Int.eq_ofNat_of_zero_le h0
  have hp : (0 : Int) ≤ 2 ^ h - 1 := by have : (0 : Int) < 2 ^ h := Int.pow_pos (by decide); omega
  have e1 : ((2 : Int) ^ h - 1).toNat = 2 ^ h - 1 := by
    have : ((2 : Int) ^ h) = ((2 ^ h : Nat) : Int) := by simp
    rw [this]; have : 0 < 2 ^ h := Nat.pow_pos (by decide); omega
  have e := clr_bits (x := y) (h := h) (by omega) hh
  show IntKind.u32.wrap _ = _
  have hb : IntKind.u32.bits = 32 := rfl
  rw [hb, ofI (by omega), ofI hp, e1, Int.toNat_natCast, e]
  have hle : y / 2 ^ h * 2 ^ h ≤ y := Nat.div_mul_le_self _ _
  rw [wu32 (by omega)]
  simp
theorem and_one {x : Int} (h0 : 0 ≤ x) (h1 : x < 4294967296) : bitOp .and .u32 x 1 = x % 2 := by
  obtain ⟨y, rfl⟩ := Int.eq_ofNat_of_zero_le h0
  show IntKind.u32.wrap _ = _
  have hb : IntKind.u32.bits = 32 := rfl
  rw [hb, ofI (by omega), ofI (by omega), BitVec.toNat_and]
  simp only [BitVec.toNat_ofNat, Int.toNat_natCast]
  rw [show (1 : Int).toNat % 2 ^ 32 = 1 by decide, Nat.and_one_is_mod, Nat.mod_eq_of_lt (a := y) (by omega), wu32 (by omega)]
  omega
theorem and_i64 {x : Int} (h0 : 0 ≤ x) (h1 : x < 4294967296) : bitOp .and .i64 x 1 = x % 2 ∧ (x < 4 → bitOp .and .i64 x 2 = x / 2 * 2) := by
  obtain ⟨y, rfl⟩ := Int.eq_ofNat_of_zero_le h0
  have hb : IntKind.i64.bits = 64 := rfl
  constructor
  · show IntKind.i64.wrap _ = _
    rw [hb, ofI (by omega), ofI (by omega), BitVec.toNat_and]
    simp only [BitVec.toNat_ofNat, Int.toNat_natCast]
    rw [show (1 : Int).toNat % 2 ^ 64 = 1 by decide, Nat.and_one_is_mod, Nat.mod_eq_of_lt (a := y) (by omega), IntWalk.i64_in _ (by omega)]
    omega
  · intro h4
    have : y = 0 ∨ y = 1 ∨ y = 2 ∨ y = 3 := by omega
    rcases this with rfl | rfl | rfl | rfl <;> decide
theorem or_add {x y : Int} {h : Nat} (hx : x % 2 ^ h = 0) (h0 : 0 ≤ x) (h1 : 0 ≤ y) (h2 : y < 2 ^ h) (h3 : x + y < 4294967296) : bitOp .or .u32 x y = x + y := by
  obtain ⟨a, rfl⟩ := Int.eq_ofNat_of_zero_le h0
  obtain ⟨b, rfl⟩ := Int.eq_ofNat_of_zero_le h1
  have hx' : a % 2 ^ h = 0 := by
    have : ((a % 2 ^ h : Nat) : Int) = 0 := by simpa using hx
    omega
  have h2' : b < 2 ^ h := by
    have : ((b : Nat) : Int) < ((2 ^ h : Nat) : Int) := by simpa using h2
    omega
  show IntKind.u32.wrap _ = _
  have hb : IntKind.u32.bits = 32 := rfl
  rw [hb, ofI (by omega), ofI (by omega), BitVec.toNat_or]
  simp only [BitVec.toNat_ofNat, Int.toNat_natCast]
  rw [Nat.mod_eq_of_lt (a := a) (by omega), Nat.mod_eq_of_lt (a := b) (by omega)]
  have e : a = 2 ^ h * (a / 2 ^ h) := by have := Nat.div_add_mod a (2 ^ h); omega
  have : a ||| b = a + b := by
    rw [e, ← Nat.two_pow_add_eq_or_of_lt h2']
  rw [this, wu32 (by omega)]
  omega
theorem shr_u32 {x : Int} {k : Nat} (h0 : 0 ≤ x) (hk : k ≤ 32) : shrI .u32 x (k : Int) = x / 2 ^ k := by
  unfold shrI
  have hb : IntKind.u32.bits = 32 := rfl
  rw [hb, Int.toNat_natCast, Nat.min_eq_left hk, Int.fdiv_eq_ediv_of_nonneg]
  exact Int.le_of_lt (Int.pow_pos (by decide))
theorem shl_one {k : Nat} (hk : k ≤ 32) : IntKind.u32.wrap (shlI .u32 1 (k : Int) - 1) = 2 ^ k - 1 := by
  have : k = 0 ∨ k = 1 ∨ k = 2 ∨ k = 3 ∨ k = 4 ∨ k = 5 ∨ k = 6 ∨ k = 7 ∨ k = 8 ∨ k = 9 ∨ k = 10 ∨ k = 11 ∨ k = 12 ∨ k = 13 ∨ k = 14 ∨ k = 15 ∨ k = 16 ∨ k = 17 ∨ k = 18 ∨ k = 19 ∨ k = 20 ∨ k = 21 ∨ k = 22 ∨ k = 23 ∨ k = 24 ∨ k = 25 ∨ k = 26 ∨ k = 27 ∨ k = 28 ∨ k = 29 ∨ k = 30 ∨ k = 31 ∨ k = 32 := by omega
  rcases this with rfl | rfl | rfl | rfl | rfl | rfl | rfl | rfl | rfl | rfl | rfl | rfl | rfl | rfl | rfl | rfl | rfl | rfl | rfl | rfl | rfl | rfl | rfl | rfl | rfl | rfl | rfl | rfl | rfl | rfl | rfl | rfl | rfl <;> decide
end Bt
