/- Cells; searching and thinning out rows of points. -/
import Derived.Test.YtekaopahienmgaaG2
import Derived.Test.YtekaopahienmgaaP2
set_option linter.unusedVariables false
set_option linter.unusedSimpArgs false
namespace Cr
open Go Sx Stb Bt
open Go.Proofs.Try
set_option maxRecDepth 100000
abbrev ceA (x y lv : Int) : SV := .agg [.c (.v (.int .u32 x)), .c (.v (.int .u32 y)), .c (.v (.int .i64 lv))]
def h_idx : Hints := { loops := [(2, ⟨[0, 1, 4, 7], [.f 8 (.int .i64)], []⟩)] }
def h_del : Hints := { loops := [(5, ⟨[0, 1, 4], [.f 5 (.int .i64), .f 6 (.int .i64)], []⟩)] }
def nf_side (lv : Int) (R : Ending → Heap → Prop) (H : Heap) : Prop := (0 : Int) ≤ IntKind.wrap IntKind.i64 ((32 : Int) - lv) ∧ R (Ending.returned (Value.int IntKind.u32 (IntKind.wrap IntKind.u32 (shlI IntKind.u32 (1 : Int) (IntKind.wrap IntKind.i64 ((32 : Int) - lv)) - (1 : Int))))) H
theorem vc_side (lv : Int) (R : Ending → Heap → Prop) (H : Heap) : vcFun prog { } f123 [SV.c (SC.v (Value.int IntKind.i64 lv))] R H = nf_side lv R H := by kernel_rfl

def nf_fix (x : Int) (y : Int) (lv : Int) (R : Ending → Heap → Prop) (H : Heap) : Prop := Meets prog (123 : Nat) [Value.int IntKind.i64 (minI (maxI lv (0 : Int)) (32 : Int))] H fun (e : Ending) (H' : Nat → Option Obj) ↦ ∃ (n : Int), e = Ending.returned (Value.int IntKind.u32 n) ∧ R (Ending.returned (Value.agg { toList := [Value.int IntKind.u32 (bitOp BinOp.andNot IntKind.u32 x n), Value.int IntKind.u32 (bitOp BinOp.andNot IntKind.u32 y n), Value.int IntKind.i64 (minI (maxI lv (0 : Int)) (32 : Int))] })) H'
theorem vc_fix (x : Int) (y : Int) (lv : Int) (R : Ending → Heap → Prop) (H : Heap) : vcFun prog { } f86 [ceA x y lv] R H = nf_fix x y lv R H := by kernel_rfl

def nf_quar (x : Int) (y : Int) (lv : Int) (px : Int) (py : Int) (R : Ending → Heap → Prop) (H : Heap) : Prop := Meets prog (86 : Nat) [Value.agg { toList := [Value.int IntKind.u32 x, Value.int IntKind.u32 y, Value.int IntKind.i64 lv] }] H fun (e : Ending) (H' : Nat → Option Obj) ↦ ∃ (n : Int), ∃ (n_1 : Int), ∃ (n_2 : Int), e = Ending.returned (Value.agg { toList := [Value.int IntKind.u32 n, Value.int IntKind.u32 n_1, Value.int IntKind.i64 n_2] }) ∧ Br (n_2 == (32 : Int)) (R (Ending.returned (Value.int IntKind.i64 (0 : Int))) H') ((0 : Int) ≤ IntKind.wrap IntKind.i64 ((31 : Int) - n_2) ∧ (0 : Int) ≤ IntKind.wrap IntKind.i64 ((31 : Int) - n_2) ∧ (0 : Int) ≤ (1 : Int) ∧ R (Ending.returned (Value.int IntKind.i64 (IntKind.wrap IntKind.i64 (bitOp BinOp.or IntKind.u32 (bitOp BinOp.and IntKind.u32 (shrI IntKind.u32 px (IntKind.wrap IntKind.i64 ((31 : Int) - n_2))) (1 : Int)) (shlI IntKind.u32 (bitOp BinOp.and IntKind.u32 (shrI IntKind.u32 py (IntKind.wrap IntKind.i64 ((31 : Int) - n_2))) (1 : Int)) (1 : Int)))))) H')
theorem vc_quar (x : Int) (y : Int) (lv : Int) (px : Int) (py : Int) (R : Ending → Heap → Prop) (H : Heap) : vcFun prog { } f94 [ceA x y lv, SV.c (SC.v (Value.int IntKind.u32 px)), SV.c (SC.v (Value.int IntKind.u32 py))] R H = nf_quar x y lv px py R H := by kernel_rfl

def nf_kid (x : Int) (y : Int) (lv : Int) (q : Int) (R : Ending → Heap → Prop) (H : Heap) : Prop := Meets prog (86 : Nat) [Value.agg { toList := [Value.int IntKind.u32 x, Value.int IntKind.u32 y, Value.int IntKind.i64 lv] }] H fun (e : Ending) (H' : Nat → Option Obj) ↦ ∃ (n : Int), ∃ (n_1 : Int), ∃ (n_2 : Int), e = Ending.returned (Value.agg { toList := [Value.int IntKind.u32 n, Value.int IntKind.u32 n_1, Value.int IntKind.i64 n_2] }) ∧ Br (n_2 == (32 : Int)) (R (Ending.returned (Value.agg { toList := [Value.int IntKind.u32 n, Value.int IntKind.u32 n_1, Value.int IntKind.i64 n_2] })) H') (Meets prog (123 : Nat) [Value.int IntKind.i64 (IntKind.wrap IntKind.i64 (n_2 + (1 : Int)))] H' fun (e : Ending) (H' : Nat → Option Obj) ↦ ∃ (n_3 : Int), e = Ending.returned (Value.int IntKind.u32 n_3) ∧ Br (bitOp BinOp.and IntKind.i64 q (1 : Int) == (1 : Int)) (Br (bitOp BinOp.and IntKind.i64 q (2 : Int) == (2 : Int)) (R (Ending.returned (Value.agg { toList := [Value.int IntKind.u32 (bitOp BinOp.or IntKind.u32 n (IntKind.wrap IntKind.u32 (n_3 + (1 : Int)))), Value.int IntKind.u32 (bitOp BinOp.or IntKind.u32 n_1 (IntKind.wrap IntKind.u32 (n_3 + (1 : Int)))), Value.int IntKind.i64 (IntKind.wrap IntKind.i64 (n_2 + (1 : Int)))] })) H') (R (Ending.returned (Value.agg { toList := [Value.int IntKind.u32 (bitOp BinOp.or IntKind.u32 n (IntKind.wrap IntKind.u32 (n_3 + (1 : Int)))), Value.int IntKind.u32 n_1, Value.int IntKind.i64 (IntKind.wrap IntKind.i64 (n_2 + (1 : Int)))] })) H')) (Br (bitOp BinOp.and IntKind.i64 q (2 : Int) == (2 : Int)) (R (Ending.returned (Value.agg { toList := [Value.int IntKind.u32 n, Value.int IntKind.u32 (bitOp BinOp.or IntKind.u32 n_1 (IntKind.wrap IntKind.u32 (n_3 + (1 : Int)))), Value.int IntKind.i64 (IntKind.wrap IntKind.i64 (n_2 + (1 : Int)))] })) H') (R (Ending.returned (Value.agg { toList := [Value.int IntKind.u32 n, Value.int IntKind.u32 n_1, Value.int IntKind.i64 (IntKind.wrap IntKind.i64 (n_2 + (1 : Int)))] })) H')))
theorem vc_kid (x : Int) (y : Int) (lv : Int) (q : Int) (R : Ending → Heap → Prop) (H : Heap) : vcFun prog { } f96 [ceA x y lv, SV.c (SC.v (Value.int IntKind.i64 q))] R H = nf_kid x y lv q R H := by kernel_rfl

def nf_croot (R : Ending → Heap → Prop) (H : Heap) : Prop := R (Ending.returned (Value.agg { toList := [Value.int IntKind.u32 (0 : Int), Value.int IntKind.u32 (0 : Int), Value.int IntKind.i64 (0 : Int)] })) H
theorem vc_croot (R : Ending → Heap → Prop) (H : Heap) : vcFun prog { } f63 [] R H = nf_croot R H := by kernel_rfl

def nf_idx (a : Option Addr) (n : Nat) (c : Nat) (g : Nat) (caps : Array Value) (R : Ending → Heap → Prop) (H : Heap) : Prop := a = a ∧ n = n ∧ c = c ∧ Value.func (Fn.func g) { toList := [] } caps = Value.func (Fn.func g) { toList := [] } caps ∧ (0 : Int) = (0 : Int) ∧ (↑n : Int) = (↑n : Int) ∧ LoopP (fun (K : (Int × PUnit) × PUnit → (Nat → Option Obj) → Prop) (p : (Int × PUnit) × PUnit) (H : Nat → Option Obj) ↦ Br (decide (p.fst.fst < (↑n : Int))) (((0 : Int) ≤ p.fst.fst ∧ p.fst.fst < (↑n : Int)) ∧ PtrK a fun (A : Addr) ↦ PtrK (some (Addr.add A (Int.toNat p.fst.fst * (4 : Nat)))) fun (a_1 : Addr) ↦ ∃ (n_1 : Int), ∃ (n_2 : Int), ∃ (n_3 : Int), ∃ (s : ByteArray), Heap.has H a_1 [Value.int IntKind.i64 n_1, Value.int IntKind.u32 n_2, Value.int IntKind.u32 n_3, Value.string s] ∧ Meets prog g (Value.agg { toList := [Value.int IntKind.i64 n_1, Value.int IntKind.u32 n_2, Value.int IntKind.u32 n_3, Value.string s] } :: caps.1) H fun (e : Ending) (H' : Nat → Option Obj) ↦ ∃ (b : Bool), e = Ending.returned (Value.bool b) ∧ Br b (R (Ending.returned (Value.int IntKind.i64 p.fst.fst)) H') (a = a ∧ n = n ∧ c = c ∧ Value.func (Fn.func g) { toList := [] } caps = Value.func (Fn.func g) { toList := [] } caps ∧ (0 : Int) = (0 : Int) ∧ (↑n : Int) = (↑n : Int) ∧ K ((IntKind.wrap IntKind.i64 (p.fst.fst + (1 : Int)), PUnit.unit), PUnit.unit) H')) (R (Ending.returned (Value.int IntKind.i64 (-1 : Int))) H)) (((0 : Int), PUnit.unit), PUnit.unit) H
theorem vc_idx (a : Option Addr) (n : Nat) (c : Nat) (g : Nat) (caps : Array Value) (R : Ending → Heap → Prop) (H : Heap) : vcFun prog h_idx f109 [SV.c (SC.v (Value.slice a n c)), SV.c (SC.v (Value.func (Fn.func g) #[] caps))] R H = nf_idx a n c g caps R H := by kernel_rfl

def nf_del (a : Option Addr) (n : Nat) (c : Nat) (g : Nat) (caps : Array Value) (R : Ending → Heap → Prop) (H : Heap) : Prop := Meets prog (109 : Nat) [Value.slice a n c, Value.func (Fn.func g) { toList := [] } caps] H fun (e : Ending) (H' : Nat → Option Obj) ↦ ∃ (n_1 : Int), e = Ending.returned (Value.int IntKind.i64 n_1) ∧ Br (n_1 == (-1 : Int)) (R (Ending.returned (Value.slice a n c)) H') (a = a ∧ n = n ∧ c = c ∧ Value.func (Fn.func g) { toList := [] } caps = Value.func (Fn.func g) { toList := [] } caps ∧ (none : Option Addr) = none ∧ (0 : Nat) = (0 : Nat) ∧ (0 : Nat) = (0 : Nat) ∧ LoopP (fun (K : (Int × Int × PUnit) × PUnit → (Nat → Option Obj) → Prop) (p : (Int × Int × PUnit) × PUnit) (H : Nat → Option Obj) ↦ Br (decide (p.fst.snd.fst < (↑n : Int))) (((0 : Int) ≤ p.fst.snd.fst ∧ p.fst.snd.fst < (↑n : Int)) ∧ PtrK a fun (A : Addr) ↦ PtrK (some (Addr.add A (Int.toNat p.fst.snd.fst * (4 : Nat)))) fun (a_1 : Addr) ↦ ∃ (n_2 : Int), ∃ (n_3 : Int), ∃ (n_4 : Int), ∃ (s : ByteArray), Heap.has H a_1 [Value.int IntKind.i64 n_2, Value.int IntKind.u32 n_3, Value.int IntKind.u32 n_4, Value.string s] ∧ Meets prog g (Value.agg { toList := [Value.int IntKind.i64 n_2, Value.int IntKind.u32 n_3, Value.int IntKind.u32 n_4, Value.string s] } :: caps.1) H fun (e : Ending) (H' : Nat → Option Obj) ↦ ∃ (b : Bool), e = Ending.returned (Value.bool b) ∧ Br (!b) (((0 : Int) ≤ p.fst.fst ∧ p.fst.fst < (↑n : Int)) ∧ PtrK a fun (A : Addr) ↦ PtrK (some (Addr.add A (Int.toNat p.fst.fst * (4 : Nat)))) fun (A : Addr) ↦ ∃ (c_1 : Array Value), ∃ (ty : Nat), (H' A.block = some (Obj.cells c_1 ty) ∧ A.spot = none ∧ A.off + (4 : Nat) ≤ Array.size c_1) ∧ a = a ∧ n = n ∧ c = c ∧ Value.func (Fn.func g) { toList := [] } caps = Value.func (Fn.func g) { toList := [] } caps ∧ (none : Option Addr) = none ∧ (0 : Nat) = (0 : Nat) ∧ (0 : Nat) = (0 : Nat) ∧ K ((IntKind.wrap IntKind.i64 (p.fst.fst + (1 : Int)), IntKind.wrap IntKind.i64 (p.fst.snd.fst + (1 : Int)), PUnit.unit), PUnit.unit) (Heap.upd H' A.block (Obj.cells (writeCells c_1 A.off [Value.int IntKind.i64 n_2, Value.int IntKind.u32 n_3, Value.int IntKind.u32 n_4, Value.string s]) ty))) (a = a ∧ n = n ∧ c = c ∧ Value.func (Fn.func g) { toList := [] } caps = Value.func (Fn.func g) { toList := [] } caps ∧ (none : Option Addr) = none ∧ (0 : Nat) = (0 : Nat) ∧ (0 : Nat) = (0 : Nat) ∧ K ((p.fst.fst, IntKind.wrap IntKind.i64 (p.fst.snd.fst + (1 : Int)), PUnit.unit), PUnit.unit) H')) (((0 : Int) ≤ p.fst.fst ∧ p.fst.fst ≤ (↑n : Int)) ∧ (n - Int.toNat p.fst.fst = (0 : Nat) ∧ ((0 : Int) ≤ p.fst.fst ∧ p.fst.fst ≤ (↑c : Int)) ∧ R (Ending.returned (Value.slice (subAddr a c (0 : Nat) (4 : Nat)) (Int.toNat p.fst.fst - (0 : Nat)) (c - (0 : Nat)))) H ∨ ∃ (A : Addr), ∃ (c_1 : Array Value), ∃ (ty : Nat), subAddr a c (Int.toNat p.fst.fst) (4 : Nat) = some A ∧ (H A.block = some (Obj.cells c_1 ty) ∧ A.spot = none ∧ A.off + (n - Int.toNat p.fst.fst) * (4 : Nat) ≤ Array.size c_1) ∧ ((0 : Int) ≤ p.fst.fst ∧ p.fst.fst ≤ (↑c : Int)) ∧ R (Ending.returned (Value.slice (subAddr a c (0 : Nat) (4 : Nat)) (Int.toNat p.fst.fst - (0 : Nat)) (c - (0 : Nat)))) (Heap.upd H A.block (Obj.cells (writeCells c_1 A.off (List.flatten (List.replicate (n - Int.toNat p.fst.fst) [Value.int IntKind.i64 (0 : Int), Value.int IntKind.u32 (0 : Int), Value.int IntKind.u32 (0 : Int), Value.string { data := #[] }]))) ty))))) ((n_1, IntKind.wrap IntKind.i64 (n_1 + (1 : Int)), PUnit.unit), PUnit.unit) H')
theorem vc_del (a : Option Addr) (n : Nat) (c : Nat) (g : Nat) (caps : Array Value) (R : Ending → Heap → Prop) (H : Heap) : vcFun prog h_del f92 [SV.c (SC.v (Value.slice a n c)), SV.c (SC.v (Value.func (Fn.func g) #[] caps))] R H = nf_del a n c g caps R H := by kernel_rfl

/-- Coordinates that may be. -/
def PtR (p : Pt) : Prop := 0 ≤ p.x ∧ p.x < 4294967296 ∧ 0 ≤ p.y ∧ p.y < 4294967296
def qt (h : Nat) (p : Pt) : Int := p.x / 2 ^ h % 2 + 2 * (p.y / 2 ^ h % 2)
abbrev ceV (x y lv : Int) : Value := .agg { toList := [.int .u32 x, .int .u32 y, .int .i64 lv] }
/-- A corner of a cell of height h. -/
def Cor (h : Nat) (x : Int) : Prop := 0 ≤ x ∧ x + 2 ^ h ≤ 4294967296 ∧ x % 2 ^ h = 0
theorem pow_le {h : Nat} (hh : h ≤ 32) : (1 : Int) ≤ 2 ^ h ∧ (2 : Int) ^ h ≤ 4294967296 := by
  have h1 := pow32 hh
  have h2 : 1 ≤ 2 ^ h := Nat.one_le_two_pow
  have : ((2 : Int) ^ h) = ((2 ^ h : Nat) : Int) := by simp
  rw [this]; omega
theorem Cor.fix {h : Nat} {x : Int} (hx : Cor h x) : x / 2 ^ h * 2 ^ h = x := by
  have := Int.mul_ediv_add_emod x (2 ^ h)
  rw [hx.2.2, Int.mul_comm] at this
  omega
theorem Cor.lt {h : Nat} (hh : h ≤ 32) {x : Int} (hx : Cor h x) : 0 ≤ x ∧ x < 4294967296 := by
  have := pow_le hh
  exact ⟨hx.1, by have := hx.2.1; omega⟩
theorem Cor.kid {h : Nat} (hh : h < 32) {x b : Int} (hx : Cor (h + 1) x) (hb : b = 0 ∨ b = 1) : Cor h (x + b * 2 ^ h) := by
  obtain ⟨h1, h2, h3⟩ := hx
  have hp := pow_le (h := h) (by omega)
  rw [Int.pow_succ] at h2 h3
  refine ⟨?_, ?_, ?_⟩
  · rcases hb with rfl | rfl <;> omega
  · rcases hb with rfl | rfl <;> omega
  · have hd : (2 : Int) ^ h ∣ x := Int.dvd_trans ⟨2, rfl⟩ (Int.dvd_of_emod_eq_zero h3)
    rw [Int.add_mul_emod_self_right]
    exact Int.emod_eq_zero_of_dvd hd
section
variable {R : Ending → Heap → Prop} {H : Heap}
theorem s_side {lv : Int} {h : Nat} (hh : h ≤ 32) (hl : lv = 32 - h) (k : R (.returned (.int .u32 (2 ^ h - 1))) H) : Meets prog 123 [vi lv] H R := by
  refine spec_of func123 (by kernel_rfl) (fun t h => by cases h) ?_ (vc_side lv R H) ?_
  · simp [argsR, SV.rep, SC.rep, one]
  unfold nf_side
  have e : (32 : Int) - lv = (h : Int) := by omega
  rw [e, w64 (by omega), shl_one hh]
  exact ⟨by omega, k⟩
theorem s_fix {x y lv : Int} {h : Nat} (hh : h ≤ 32) (hl : minI (maxI lv 0) 32 = 32 - (h : Int)) (hx : 0 ≤ x ∧ x < 4294967296) (hy : 0 ≤ y ∧ y < 4294967296) (k : R (.returned (ceV (x / 2 ^ h * 2 ^ h) (y / 2 ^ h * 2 ^ h) (32 - h))) H) :
    Meets prog 86 [ceV x y lv] H R := by
  refine spec_of func86 (by kernel_rfl) (fun t h => by cases h) ?_ (vc_fix x y lv R H) ?_
  · simp [argsR, SV.rep, SegsRep, SC.rep, one]
  unfold nf_fix
  rw [hl]
  refine s_side hh rfl ⟨_, rfl, ?_⟩
  rw [and_not hx.1 hx.2 hh, and_not hy.1 hy.2 hh]
  exact k
theorem lv_fix {h : Nat} (hh : h ≤ 32) : minI (maxI (32 - (h : Int)) 0) 32 = 32 - (h : Int) := by
  unfold minI maxI
  split <;> split <;> omega
theorem s_quar {x y px py : Int} {h : Nat} (hh : h < 32) (hx : 0 ≤ x ∧ x < 4294967296) (hy : 0 ≤ y ∧ y < 4294967296) (hpx : 0 ≤ px ∧ px < 4294967296) (hpy : 0 ≤ py ∧ py < 4294967296)
    (k : R (.returned (vi (px / 2 ^ h % 2 + 2 * (py / 2 ^ h % 2)))) H) : Meets prog 94 [ceV x y (32 - ((h + 1 : Nat) : Int)), .int .u32 px, .int .u32 py] H R := by
  refine spec_of func94 (by kernel_rfl) (fun t h => by cases h) ?_ (vc_quar x y (32 - ((h + 1 : Nat) : Int)) px py R H) ?_
  · simp [argsR, SV.rep, SegsRep, SC.rep, one]
  unfold nf_quar
  refine s_fix (h := h + 1) (by omega) (lv_fix (by omega)) hx hy ⟨_, _, _, rfl, br (fun q => ?_) fun q => ?_⟩
  · simp at q; omega
  · have e : (31 : Int) - (32 - ((h + 1 : Nat) : Int)) = (h : Int) := by omega
    rw [e, w64 (k := (h : Int)) (by omega), shr_u32 hpx.1 (by omega), shr_u32 hpy.1 (by omega)]
    have hp := pow_le (h := h) (by omega)
    have b1 : 0 ≤ px / 2 ^ h ∧ px / 2 ^ h < 4294967296 := ⟨Int.ediv_nonneg hpx.1 (by omega), Int.lt_of_le_of_lt (Int.ediv_le_self _ hpx.1) hpx.2⟩
    have b2 : 0 ≤ py / 2 ^ h ∧ py / 2 ^ h < 4294967296 := ⟨Int.ediv_nonneg hpy.1 (by omega), Int.lt_of_le_of_lt (Int.ediv_le_self _ hpy.1) hpy.2⟩
    rw [and_one b1.1 b1.2, and_one b2.1 b2.2]
    refine ⟨by omega, by omega, by omega, ?_⟩
    have c1 : px / 2 ^ h % 2 = 0 ∨ px / 2 ^ h % 2 = 1 := by omega
    have c2 : py / 2 ^ h % 2 = 0 ∨ py / 2 ^ h % 2 = 1 := by omega
    have : IntKind.i64.wrap (bitOp .or .u32 (px / 2 ^ h % 2) (shlI .u32 (py / 2 ^ h % 2) 1)) = px / 2 ^ h % 2 + 2 * (py / 2 ^ h % 2) := by
      rcases c1 with c1 | c1 <;> rcases c2 with c2 | c2 <;> rw [c1, c2] <;> decide
    rw [this]
    exact k
theorem s_quar0 {x y px py : Int} (hx : 0 ≤ x ∧ x < 4294967296) (hy : 0 ≤ y ∧ y < 4294967296) (k : R (.returned (vi 0)) H) : Meets prog 94 [ceV x y 32, .int .u32 px, .int .u32 py] H R := by
  refine spec_of func94 (by kernel_rfl) (fun t h => by cases h) ?_ (vc_quar x y 32 px py R H) ?_
  · simp [argsR, SV.rep, SegsRep, SC.rep, one]
  unfold nf_quar
  exact s_fix (h := 0) (by omega) (by decide) hx hy ⟨_, _, _, rfl, br (fun q => k) fun q => by simp at q⟩
theorem s_croot (k : R (.returned (ceV 0 0 0)) H) : Meets prog 63 [] H R := by
  refine spec_of func63 (by kernel_rfl) (fun t h => by cases h) ?_ (vc_croot R H) ?_
  · simp [argsR]
  exact k
theorem s_kid {x y : Int} {q : Nat} {h : Nat} (hh : h < 32) (hx : Cor (h + 1) x) (hy : Cor (h + 1) y) (hq : q < 4) (k : R (.returned (ceV (x + ((q % 2 : Nat) : Int) * 2 ^ h) (y + ((q / 2 : Nat) : Int) * 2 ^ h) (32 - h))) H) :
    Meets prog 96 [ceV x y (32 - ((h + 1 : Nat) : Int)), vi q] H R := by
  refine spec_of func96 (by kernel_rfl) (fun t h => by cases h) ?_ (vc_kid x y (32 - ((h + 1 : Nat) : Int)) q R H) ?_
  · simp [argsR, SV.rep, SegsRep, SC.rep, one]
  unfold nf_kid
  refine s_fix (h := h + 1) (by omega) (lv_fix (by omega)) (hx.lt (by omega)) (hy.lt (by omega)) ⟨_, _, _, rfl, br (fun q => ?_) fun q1 => ?_⟩
  · simp at q; omega
  · have e : (32 : Int) - ((h + 1 : Nat) : Int) + 1 = 32 - (h : Int) := by omega
    rw [hx.fix, hy.fix, e, w64 (k := 32 - (h : Int)) (by omega)]
    refine s_side (h := h) (by omega) rfl ⟨_, rfl, ?_⟩
    have hp := pow_le (h := h) (by omega)
    have hp32 : (2 : Int) ^ h < 4294967296 := by
      have h1 : 2 ^ h < 2 ^ 32 := Nat.pow_lt_pow_right (by omega) hh
      have : ((2 : Int) ^ h) = ((2 ^ h : Nat) : Int) := by simp
      rw [this]; omega
    have hps : (2 : Int) ^ (h + 1) = 2 ^ h * 2 := Int.pow_succ _ _
    rw [show (2 : Int) ^ h - 1 + 1 = 2 ^ h by omega, wu32 (by omega)]
    have ox : bitOp .or .u32 x (2 ^ h) = x + 2 ^ h := or_add hx.2.2 hx.1 (by omega) (by omega) (by have := hx.2.1; omega)
    have oy : bitOp .or .u32 y (2 ^ h) = y + 2 ^ h := or_add hy.2.2 hy.1 (by omega) (by omega) (by have := hy.2.1; omega)
    rw [ox, oy, (and_i64 (x := (q : Int)) (by omega) (by omega)).1, (and_i64 (x := (q : Int)) (by omega) (by omega)).2 (by omega)]
    have hq4 : q = 0 ∨ q = 1 ∨ q = 2 ∨ q = 3 := by omega
    rcases hq4 with rfl | rfl | rfl | rfl <;> refine br (fun a => br (fun b => ?_) fun b => ?_) fun a => br (fun b => ?_) fun b => ?_ <;> first | (exfalso; revert a; decide) | (exfalso; revert b; decide) | (simpa using k)
/-! ### Searching, thinning out -/
/-- A function that tells of points, in whatever memory of a kind. -/
def PredOK (Q : Pt → Prop) (I : Heap → Prop) (g : Nat) (caps : Array Value) (f : Pt → Bool) : Prop := ∀ (p : Pt) (H : Heap) (R : Ending → Heap → Prop), Q p → I H → R (.returned (.bool (f p))) H → Meets prog g (ptV p :: caps.toList) H R
theorem s_idx {Q : Pt → Prop} {I : Heap → Prop} {g : Nat} {caps : Array Value} {f : Pt → Bool} (hf : PredOK Q I g caps f) {v : Value} {l : List Pt} (h : SliceAt H v 4 (pts l)) (hI : I H) (hQ : ∀ p ∈ l, Q p) (hl : l.length ≤ 1000000)
    (k1 : ∀ i : Nat, l.findIdx? f = some i → R (.returned (vi i)) H) (k2 : l.findIdx? f = none → R (.returned (vi (-1))) H) : Meets prog 109 [v, .func (.func g) #[] caps] H R := by
  obtain ⟨a, n, c, e, hn⟩ := h
  subst e
  have h : SliceAt H (.slice a n c) 4 (pts l) := ⟨a, n, c, rfl, hn⟩
  have hln : l.length = n := by simpa [pts] using hn.1
  refine spec_of func109 (by kernel_rfl) (fun t h => by cases h) ?_ (vc_idx a n c g caps R H) ?_
  · simp [argsR, SV.rep, SC.rep, one]
  unfold nf_idx
  simp only [true_and]
  refine ⟨fun p H' => ∃ t : Nat, p.1.1 = t ∧ t ≤ n ∧ (∀ x ∈ l.take t, f x = false) ∧ H' = H, fun p _ => (n - p.1.1).toNat, ⟨0, rfl, by omega, by simp, rfl⟩, ?_⟩
  rintro ⟨⟨i, _⟩, _⟩ H1 ⟨t, hi, ht, f1, rfl⟩
  simp only at hi ⊢
  subst hi
  refine br (fun q => ?_) fun q => ?_
  · simp only [decide_eq_true_eq] at q
    obtain ⟨x, hd, htk, hx⟩ := drop_cons (l := l) (k := t) (by omega)
    obtain ⟨A, e, g1⟩ := pr_get h (i := t) hx
    subst e
    refine ⟨⟨by omega, by omega⟩, ptr rfl (ptr rfl ⟨_, _, _, _, g1, ?_⟩)⟩
    refine hf x _ _ (hQ x (List.mem_of_getElem? hx)) hI ⟨_, rfl, br (fun q1 => ?_) fun q1 => ?_⟩
    · refine k1 t ?_
      rw [List.findIdx?_eq_some_iff_getElem]
      refine ⟨by omega, ?_, fun j hj => ?_⟩
      · rw [List.getElem?_eq_getElem (by omega)] at hx
        cases hx; exact q1
      · have : l[j] ∈ l.take t := by
          rw [List.mem_take_iff_getElem]
          exact ⟨j, by omega, rfl⟩
        simpa using f1 _ this
    · rw [w64 (by omega)]
      refine ⟨⟨t + 1, by omega, by omega, fun z hz => ?_, by trivial⟩, by omega⟩
      rw [htk] at hz
      rcases List.mem_append.1 hz with hz | hz
      · exact f1 z hz
      · simp at hz; subst hz; exact q1
  · simp only [decide_eq_false_iff_not] at q
    refine k2 ?_
    rw [List.findIdx?_eq_none_iff]
    intro z hz
    refine f1 z ?_
    rw [List.take_of_length_le (by omega)]; exact hz
theorem s_del {Q : Pt → Prop} {I : Heap → Prop} {g : Nat} {caps : Array Value} {f : Pt → Bool} (hf : PredOK Q I g caps f) {v : Value} {l : List Pt} {ty : Nat} (h : RowAt H v ty 4 (pts l)) (hI : I H) (hIM : ∀ H' H'', I H' → Mod v H' H'' → I H'') (hQ : ∀ p ∈ l, Q p) (hl : l.length ≤ 1000000)
    (k : ∀ v' H', RowAt H' v' ty 4 (pts (l.filter fun p => !f p)) → blockOf v' = blockOf v → Mod v H H' → R (.returned v') H') : Meets prog 92 [v, .func (.func g) #[] caps] H R := by
  obtain ⟨a, c, rfl⟩ := row_val h
  have hpl : (pts l).length = l.length := by simp [pts]
  rw [hpl] at h hIM k ⊢
  refine spec_of func92 (by kernel_rfl) (fun t h => by cases h) ?_ (vc_del a l.length c g caps R H) ?_
  · simp [argsR, SV.rep, SC.rep, one]
  unfold nf_del
  simp only [true_and]
  refine s_idx hf (row_slice h) hI hQ hl (fun i hi => ⟨_, rfl, br (fun q => ?_) fun _ => ?_⟩) fun hn => ⟨_, rfl, br (fun _ => ?_) fun q => ?_⟩
  · simp at q
  · rw [List.findIdx?_eq_some_iff_getElem] at hi
    obtain ⟨hil, hfi, hlt⟩ := hi
    have hw0 : IntKind.i64.wrap ((i : Int) + 1) = ((i + 1 : Nat) : Int) := by rw [w64 (by omega)]; omega
    rw [hw0]
    obtain ⟨A, rfl⟩ : ∃ A, a = some A := by
      obtain ⟨A, e, _⟩ := pr_get (row_slice h) (i := i) (p := l[i]) (List.getElem?_eq_getElem hil)
      exact ⟨A, e⟩
    have hkeep : (l.take (i + 1)).filter (fun p => !f p) = l.take i := by
      rw [List.take_add_one, List.getElem?_eq_getElem hil, List.filter_append]
      simp only [Option.toList_some, List.filter_cons, hfi, Bool.not_true, Bool.false_eq_true, if_false, List.filter_nil, List.append_nil]
      rw [List.filter_eq_self]
      intro z hz
      obtain ⟨j, hj, rfl⟩ := List.mem_take_iff_getElem.1 hz
      simpa using hlt j (by omega)
    refine ⟨fun p H' => ∃ (t : Nat) (M : List Pt), p.1.2.1 = t ∧ t ≤ l.length ∧ p.1.1 = ((l.take t).filter fun p => !f p).length ∧ 0 < M.length ∧ ((l.take t).filter fun p => !f p).length + M.length = t ∧ RowAt H' (.slice (some A) l.length c) ty 4 (pts ((l.take t).filter (fun p => !f p) ++ M ++ l.drop t)) ∧ Mod (.slice (some A) l.length c) H H', fun p _ => (l.length - p.1.2.1).toNat, ⟨i + 1, [l[i]], rfl, by omega, ?_, by simp, ?_, ?_, Mod.refl _ _⟩, ?_⟩
    · rw [hkeep, List.length_take]; simp; omega
    · rw [hkeep, List.length_take]; simp; omega
    · rw [hkeep]
      have : l.take i ++ [l[i]] ++ l.drop (i + 1) = l := by
        rw [List.append_assoc, List.singleton_append, ← List.drop_eq_getElem_cons hil, List.take_append_drop]
      rw [this]; exact h
    rintro ⟨⟨i', j, _⟩, _⟩ H1 ⟨t, M, hj, ht, hi', hM, hlen, hrow, hmod⟩
    simp only at hj hi' ⊢
    subst hj; subst hi'
    generalize hF : (l.take t).filter (fun p => !f p) = F at *
    refine br (fun q => ?_) fun q => ?_
    · simp only [decide_eq_true_eq] at q
      obtain ⟨x, hd, htk, hx⟩ := drop_cons (l := l) (k := t) (by omega)
      have hxl : x ∈ l := List.mem_of_getElem? hx
      have hget : (F ++ M ++ l.drop t)[t]? = some x := by
        rw [List.getElem?_append_right (by rw [List.length_append]; omega), List.length_append, hlen, Nat.sub_self, hd]; rfl
      obtain ⟨A', e, g1⟩ := pr_get (row_slice hrow) (i := t) hget
      cases e
      have hFn : (l.take (t + 1)).filter (fun p => !f p) = F ++ if f x then [] else [x] := by
        rw [htk, List.filter_append, hF]
        congr 1
        cases hfx : f x <;> simp [hfx]
      refine ⟨⟨by omega, by omega⟩, ptr rfl (ptr rfl ⟨_, _, _, _, g1, ?_⟩)⟩
      refine hf x _ _ (hQ x hxl) (hIM _ _ hI hmod) ⟨_, rfl, br (fun q1 => ?_) fun q1 => ?_⟩
      · have q1 : f x = false := by simpa using q1
        rw [q1] at hFn
        simp only [Bool.false_eq_true, if_false] at hFn
        obtain ⟨m0, M', rfl⟩ : ∃ m0 M', M = m0 :: M' := by cases M with | nil => simp at hM | cons a b => exact ⟨a, b, rfl⟩
        obtain ⟨c1, m1, r1, d1⟩ := pr_put hrow (i := F.length) (by simp at hlen; omega) x
        have hset : (F ++ m0 :: M' ++ l.drop t).set F.length x = F ++ [x] ++ (M' ++ [x]) ++ l.drop (t + 1) := by
          rw [List.append_assoc, List.set_append_right _ _ (Nat.le_refl _), Nat.sub_self, List.cons_append, List.set_cons_zero, hd]
          simp
        rw [hset] at r1
        rw [w64 (by simp at hlen; omega), w64 (by omega)]
        refine ⟨⟨by omega, by simp at hlen; omega⟩, ptr rfl (ptr rfl ⟨_, _, m1, ⟨t + 1, M' ++ [x], by omega, by omega, ?_, by simp, ?_, ?_, hmod.trans d1⟩, by omega⟩)⟩
        · rw [hFn]; simp
        · rw [hFn]; simp at hlen ⊢; omega
        · rw [hFn]; exact r1
      · have q1 : f x = true := by simpa using q1
        rw [q1] at hFn
        simp only [if_true, List.append_nil] at hFn
        rw [w64 (by omega)]
        refine ⟨⟨t + 1, M ++ [x], by omega, by omega, by rw [hFn], by simp, ?_, ?_, hmod⟩, by omega⟩
        · rw [hFn]; simp; omega
        · rw [hFn]; rw [hd] at hrow; simpa using hrow
    · simp only [decide_eq_false_iff_not] at q
      have htl : t = l.length := by omega
      subst htl
      rw [List.drop_length, List.append_nil] at hrow
      rw [List.take_length] at hF
      rw [hF] at k
      have hcap := (row_len hrow).2
      have hz : pts (F ++ M) = pts F ++ pts M := by simp [pts]
      rw [hz] at hrow
      obtain ⟨cl, ⟨e1, e2, e3⟩, r1, d1⟩ := row_fill hrow (ws := List.replicate (l.length - F.length) [vi 0, .int .u32 0, .int .u32 0, .string { data := #[] }]) (by simp [pts]; omega) (by intro e he; rw [List.eq_of_mem_replicate he]; rfl) (by intro e he x hx; rw [List.eq_of_mem_replicate he] at hx; simp at hx; rcases hx with rfl | rfl | rfl | rfl <;> rfl)
      have hfl : (pts F).length = F.length := by simp [pts]
      have hsub : subAddr (some A) c F.length 4 = some ⟨A.block, A.off + F.length * 4, none⟩ := by
        unfold subAddr
        rw [if_neg (by omega)]
        simp [add_spot e2]
      have hsub0 : subAddr (some A) c 0 4 = some A := by
        unfold subAddr
        split
        · rfl
        · simp
      rw [Int.toNat_natCast, hsub0, Nat.sub_zero, Nat.sub_zero]
      rw [List.length_replicate] at e3
      refine ⟨⟨by omega, by omega⟩, .inr ⟨_, cl, ty, hsub, ⟨e1, rfl, ?_⟩, ⟨by omega, by omega⟩, ?_⟩⟩
      · rw [hfl] at e3; exact e3
      · rw [hfl] at r1 d1
        have := row_prefix r1
        rw [hfl] at this
        exact k _ _ this rfl (hmod.trans d1)
  · have : l.filter (fun p => !f p) = l := by
      rw [List.filter_eq_self]
      intro z hz
      simpa using List.findIdx?_eq_none_iff.1 hn z hz
    rw [this] at k
    exact k _ _ h rfl (Mod.refl _ _)
  · simp at q
end
end Cr
