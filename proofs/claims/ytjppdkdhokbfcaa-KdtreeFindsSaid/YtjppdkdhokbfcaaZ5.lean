/- Own texts, one behind the other: D1, E1, E3, SxSortC, E2, E4, E5, E6, SxApr, E7, E9, D2, A5, A16, D3, D4, E10. -/
import Derived.Test.YtjppdkdhokbfcaaZ4
set_option linter.unusedVariables false
set_option linter.unusedSimpArgs false
namespace Cr
open Go Sx Stb
open Go.Sort (SWO)
open Go.Proofs.Try
set_option maxRecDepth 100000
abbrev ptA (i x y : Int) (d : ByteArray) : SV := .agg [.c (.v (.int .i64 i)), .c (.v (.int .u32 x)), .c (.v (.int .u32 y)), .c (.v (.string d))]
def h_ints : Hints := { loops := [(4, ⟨[0, 1, 4], [.f 5 (.int .i64)], []⟩)] }
def h_points : Hints := { eqs := [44], loops := [(4, ⟨[0, 1, 4], [.f 5 (.int .i64)], []⟩)] }
def h_in : Hints := { loops := [(2, ⟨[0, 1, 4], [.f 5 (.int .i64)], []⟩)] }
def h_rsort : Hints := { loops := [(3, ⟨[0, 2], [.row 3 44 4, .f 4 (.int .i64)], []⟩), (6, ⟨[0, 2, 4], [.row 3 44 4, .f 5 (.int .i64)], []⟩)] }
def nf_clone (a : Option Addr) (n : Nat) (c : Nat) (R : Ending → Heap → Prop) (H : Heap) : Prop := Br (Option.isNone a) (R (Ending.returned (Value.slice none (0 : Nat) (0 : Nat))) H) (∃ (es2 : List (List Value)), SliceAt H (Value.slice a n c) (4 : Nat) es2 ∧ List.length es2 * (32 : Nat) ≤ (140737488355328 : Nat) ∧ ∀ (v : Value) (H' : Nat → Option Obj), H ≤ H' → (∀ (b : Nat), blockOf v = some b → H b = none) → (∀ (b : Nat) (o : Obj), H' b = some o → H b = some o ∨ blockOf v = some b) → RowAt H' v (44 : Nat) (4 : Nat) es2 → R (Ending.returned v) H')
theorem vc_clone (a : Option Addr) (n : Nat) (c : Nat) (R : Ending → Heap → Prop) (H : Heap) : vcFun prog { } f32 [SV.c (SC.v (Value.slice a n c))] R H = nf_clone a n c R H := by kernel_rfl

def nf_cmpc (x : Int) (y : Int) (R : Ending → Heap → Prop) (H : Heap) : Prop := Meets prog (50 : Nat) [Value.int IntKind.i64 x] H fun (e : Ending) (H' : Nat → Option Obj) ↦ ∃ (b : Bool), e = Ending.returned (Value.bool b) ∧ Meets prog (50 : Nat) [Value.int IntKind.i64 y] H' fun (e : Ending) (H' : Nat → Option Obj) ↦ ∃ (b_1 : Bool), e = Ending.returned (Value.bool b_1) ∧ Br b (Br b_1 (R (Ending.returned (Value.int IntKind.i64 (0 : Int))) H') (R (Ending.returned (Value.int IntKind.i64 (-1 : Int))) H')) (Br b_1 (R (Ending.returned (Value.int IntKind.i64 (1 : Int))) H') (Br (decide (x < y)) (R (Ending.returned (Value.int IntKind.i64 (-1 : Int))) H') (Br (decide (x > y)) (R (Ending.returned (Value.int IntKind.i64 (1 : Int))) H') (R (Ending.returned (Value.int IntKind.i64 (0 : Int))) H'))))
theorem vc_cmpc (x : Int) (y : Int) (R : Ending → Heap → Prop) (H : Heap) : vcFun prog { } f37 [SV.c (SC.v (Value.int IntKind.i64 x)), SV.c (SC.v (Value.int IntKind.i64 y))] R H = nf_cmpc x y R H := by kernel_rfl

def nf_isnan (x : Int) (R : Ending → Heap → Prop) (H : Heap) : Prop := R (Ending.returned (Value.bool (x != x))) H
theorem vc_isnan (x : Int) (R : Ending → Heap → Prop) (H : Heap) : vcFun prog { } f50 [SV.c (SC.v (Value.int IntKind.i64 x))] R H = nf_isnan x R H := by kernel_rfl

def nf_srt1 (i : Int) (x : Int) (y : Int) (d : ByteArray) (i' : Int) (x' : Int) (y' : Int) (d' : ByteArray) (R : Ending → Heap → Prop) (H : Heap) : Prop := Meets prog (37 : Nat) [Value.int IntKind.i64 i, Value.int IntKind.i64 i'] H fun (e : Ending) (H' : Nat → Option Obj) ↦ ∃ (n : Int), e = Ending.returned (Value.int IntKind.i64 n) ∧ R (Ending.returned (Value.int IntKind.i64 n)) H'
theorem vc_srt1 (i : Int) (x : Int) (y : Int) (d : ByteArray) (i' : Int) (x' : Int) (y' : Int) (d' : ByteArray) (R : Ending → Heap → Prop) (H : Heap) : vcFun prog { } f36 [ptA i x y d, ptA i' x' y' d'] R H = nf_srt1 i x y d i' x' y' d' R H := by kernel_rfl

def nf_sst (a : Option Addr) (n : Nat) (c : Nat) (g : Nat) (R : Ending → Heap → Prop) (H : Heap) : Prop := Meets prog (49 : Nat) [Value.slice a n c, Value.int IntKind.i64 (↑n : Int), Value.func (Fn.func g) { toList := [] } { toList := [] }] H fun (e : Ending) (H' : Nat → Option Obj) ↦ e = Ending.returned (Value.tuple { toList := [] }) ∧ R (Ending.returned (Value.tuple { toList := [] })) H'
theorem vc_sst (a : Option Addr) (n : Nat) (c : Nat) (g : Nat) (R : Ending → Heap → Prop) (H : Heap) : vcFun prog { } f35 [SV.c (SC.v (Value.slice a n c)), SV.c (SC.v (Value.func (Fn.func g) #[] #[]))] R H = nf_sst a n c g R H := by kernel_rfl

def nf_stb0 (g : Nat) (R : Ending → Heap → Prop) (H : Heap) : Prop := (none : Option Addr) = none ∧ (0 : Nat) = (0 : Nat) ∧ (0 : Nat) = (0 : Nat) ∧ (0 : Int) = (0 : Int) ∧ Value.func (Fn.func g) { toList := [] } { toList := [] } = Value.func (Fn.func g) { toList := [] } { toList := [] } ∧ (20 : Int) = (20 : Int) ∧ LoopP (fun (K : (Int × Int × PUnit) × PUnit → (Nat → Option Obj) → Prop) (p : (Int × Int × PUnit) × PUnit) (H : Nat → Option Obj) ↦ Br (decide (p.fst.snd.fst ≤ (0 : Int))) (Meets prog (56 : Nat) [Value.slice none (0 : Nat) (0 : Nat), Value.int IntKind.i64 p.fst.fst, Value.int IntKind.i64 p.fst.snd.fst, Value.func (Fn.func g) { toList := [] } { toList := [] }] H fun (e : Ending) (H' : Nat → Option Obj) ↦ e = Ending.returned (Value.tuple { toList := [] }) ∧ (none : Option Addr) = none ∧ (0 : Nat) = (0 : Nat) ∧ (0 : Nat) = (0 : Nat) ∧ (0 : Int) = (0 : Int) ∧ Value.func (Fn.func g) { toList := [] } { toList := [] } = Value.func (Fn.func g) { toList := [] } { toList := [] } ∧ (20 : Int) = (20 : Int) ∧ K ((p.fst.snd.fst, IntKind.wrap IntKind.i64 (p.fst.snd.fst + (20 : Int)), PUnit.unit), PUnit.unit) H') (Meets prog (56 : Nat) [Value.slice none (0 : Nat) (0 : Nat), Value.int IntKind.i64 p.fst.fst, Value.int IntKind.i64 (0 : Int), Value.func (Fn.func g) { toList := [] } { toList := [] }] H fun (e : Ending) (H' : Nat → Option Obj) ↦ e = Ending.returned (Value.tuple { toList := [] }) ∧ (none : Option Addr) = none ∧ (0 : Nat) = (0 : Nat) ∧ (0 : Nat) = (0 : Nat) ∧ (0 : Int) = (0 : Int) ∧ Value.func (Fn.func g) { toList := [] } { toList := [] } = Value.func (Fn.func g) { toList := [] } { toList := [] } ∧ LoopP (fun (K : (Int × PUnit) × PUnit → (Nat → Option Obj) → Prop) (p : (Int × PUnit) × PUnit) (H : Nat → Option Obj) ↦ Br (decide (p.fst.fst < (0 : Int))) ((none : Option Addr) = none ∧ (0 : Nat) = (0 : Nat) ∧ (0 : Nat) = (0 : Nat) ∧ (0 : Int) = (0 : Int) ∧ Value.func (Fn.func g) { toList := [] } { toList := [] } = Value.func (Fn.func g) { toList := [] } { toList := [] } ∧ p.fst.fst = p.fst.fst ∧ LoopP (fun (K_1 : (Int × Int × PUnit) × PUnit → (Nat → Option Obj) → Prop) (p_1 : (Int × Int × PUnit) × PUnit) (H : Nat → Option Obj) ↦ Br (decide (p_1.fst.snd.fst ≤ (0 : Int))) (Meets prog (67 : Nat) [Value.slice none (0 : Nat) (0 : Nat), Value.int IntKind.i64 p_1.fst.fst, Value.int IntKind.i64 (IntKind.wrap IntKind.i64 (p_1.fst.fst + p.fst.fst)), Value.int IntKind.i64 p_1.fst.snd.fst, Value.func (Fn.func g) { toList := [] } { toList := [] }] H fun (e : Ending) (H' : Nat → Option Obj) ↦ e = Ending.returned (Value.tuple { toList := [] }) ∧ (none : Option Addr) = none ∧ (0 : Nat) = (0 : Nat) ∧ (0 : Nat) = (0 : Nat) ∧ (0 : Int) = (0 : Int) ∧ Value.func (Fn.func g) { toList := [] } { toList := [] } = Value.func (Fn.func g) { toList := [] } { toList := [] } ∧ p.fst.fst = p.fst.fst ∧ K_1 ((p_1.fst.snd.fst, IntKind.wrap IntKind.i64 (p_1.fst.snd.fst + IntKind.wrap IntKind.i64 ((2 : Int) * p.fst.fst)), PUnit.unit), PUnit.unit) H') (Br (decide (IntKind.wrap IntKind.i64 (p_1.fst.fst + p.fst.fst) < (0 : Int))) (Meets prog (67 : Nat) [Value.slice none (0 : Nat) (0 : Nat), Value.int IntKind.i64 p_1.fst.fst, Value.int IntKind.i64 (IntKind.wrap IntKind.i64 (p_1.fst.fst + p.fst.fst)), Value.int IntKind.i64 (0 : Int), Value.func (Fn.func g) { toList := [] } { toList := [] }] H fun (e : Ending) (H' : Nat → Option Obj) ↦ e = Ending.returned (Value.tuple { toList := [] }) ∧ (none : Option Addr) = none ∧ (0 : Nat) = (0 : Nat) ∧ (0 : Nat) = (0 : Nat) ∧ (0 : Int) = (0 : Int) ∧ Value.func (Fn.func g) { toList := [] } { toList := [] } = Value.func (Fn.func g) { toList := [] } { toList := [] } ∧ K ((IntKind.wrap IntKind.i64 (p.fst.fst * (2 : Int)), PUnit.unit), PUnit.unit) H') ((none : Option Addr) = none ∧ (0 : Nat) = (0 : Nat) ∧ (0 : Nat) = (0 : Nat) ∧ (0 : Int) = (0 : Int) ∧ Value.func (Fn.func g) { toList := [] } { toList := [] } = Value.func (Fn.func g) { toList := [] } { toList := [] } ∧ K ((IntKind.wrap IntKind.i64 (p.fst.fst * (2 : Int)), PUnit.unit), PUnit.unit) H))) (((0 : Int), IntKind.wrap IntKind.i64 ((2 : Int) * p.fst.fst), PUnit.unit), PUnit.unit) H) (R (Ending.returned (Value.tuple { toList := [] })) H)) (((20 : Int), PUnit.unit), PUnit.unit) H')) (((0 : Int), (20 : Int), PUnit.unit), PUnit.unit) H
theorem vc_stb0 (g : Nat) (R : Ending → Heap → Prop) (H : Heap) : vcFun prog h_stb f49 [SV.c (SC.v (Value.slice none (0 : Nat) (0 : Nat))), SV.c (SC.v (Value.int IntKind.i64 (0 : Int))), SV.c (SC.v (Value.func (Fn.func g) #[] #[]))] R H = nf_stb0 g R H := by kernel_rfl

def nf_ins0 (g : Nat) (R : Ending → Heap → Prop) (H : Heap) : Prop := (none : Option Addr) = none ∧ (0 : Nat) = (0 : Nat) ∧ (0 : Nat) = (0 : Nat) ∧ (0 : Int) = (0 : Int) ∧ (0 : Int) = (0 : Int) ∧ Value.func (Fn.func g) { toList := [] } { toList := [] } = Value.func (Fn.func g) { toList := [] } { toList := [] } ∧ LoopP (fun (K : (Int × PUnit) × PUnit → (Nat → Option Obj) → Prop) (p : (Int × PUnit) × PUnit) (H : Nat → Option Obj) ↦ Br (decide (p.fst.fst < (0 : Int))) ((none : Option Addr) = none ∧ (0 : Nat) = (0 : Nat) ∧ (0 : Nat) = (0 : Nat) ∧ (0 : Int) = (0 : Int) ∧ (0 : Int) = (0 : Int) ∧ Value.func (Fn.func g) { toList := [] } { toList := [] } = Value.func (Fn.func g) { toList := [] } { toList := [] } ∧ p.fst.fst = p.fst.fst ∧ LoopP (fun (K_1 : (Int × PUnit) × PUnit → (Nat → Option Obj) → Prop) (p_1 : (Int × PUnit) × PUnit) (H : Nat → Option Obj) ↦ ∃ (G : Nat → Option Obj), G ≤ H ∧ Br (decide (p_1.fst.fst > (0 : Int))) (((0 : Int) ≤ p_1.fst.fst ∧ p_1.fst.fst < (↑(0 : Nat) : Int)) ∧ PtrK none fun (A : Addr) ↦ PtrK (some (Addr.add A (Int.toNat p_1.fst.fst * (4 : Nat)))) fun (a : Addr) ↦ ∃ (n : Int), ∃ (n_1 : Int), ∃ (n_2 : Int), ∃ (s : ByteArray), Heap.has G a [Value.int IntKind.i64 n, Value.int IntKind.u32 n_1, Value.int IntKind.u32 n_2, Value.string s] ∧ ((0 : Int) ≤ IntKind.wrap IntKind.i64 (p_1.fst.fst - (1 : Int)) ∧ IntKind.wrap IntKind.i64 (p_1.fst.fst - (1 : Int)) < (↑(0 : Nat) : Int)) ∧ PtrK none fun (A : Addr) ↦ PtrK (some (Addr.add A (Int.toNat (IntKind.wrap IntKind.i64 (p_1.fst.fst - (1 : Int))) * (4 : Nat)))) fun (a : Addr) ↦ ∃ (n_3 : Int), ∃ (n_4 : Int), ∃ (n_5 : Int), ∃ (s_1 : ByteArray), Heap.has G a [Value.int IntKind.i64 n_3, Value.int IntKind.u32 n_4, Value.int IntKind.u32 n_5, Value.string s_1] ∧ Meets prog g [Value.agg { toList := [Value.int IntKind.i64 n, Value.int IntKind.u32 n_1, Value.int IntKind.u32 n_2, Value.string s] }, Value.agg { toList := [Value.int IntKind.i64 n_3, Value.int IntKind.u32 n_4, Value.int IntKind.u32 n_5, Value.string s_1] }] H fun (e : Ending) (H' : Nat → Option Obj) ↦ Keep G H H H' ∧ ∃ (n : Int), e = Ending.returned (Value.int IntKind.i64 n) ∧ Br (decide (n < (0 : Int))) (((0 : Int) ≤ IntKind.wrap IntKind.i64 (p_1.fst.fst - (1 : Int)) ∧ IntKind.wrap IntKind.i64 (p_1.fst.fst - (1 : Int)) < (↑(0 : Nat) : Int)) ∧ PtrK none fun (A : Addr) ↦ PtrK (some (Addr.add A (Int.toNat (IntKind.wrap IntKind.i64 (p_1.fst.fst - (1 : Int))) * (4 : Nat)))) fun (a : Addr) ↦ ∃ (n : Int), ∃ (n_6 : Int), ∃ (n_7 : Int), ∃ (s : ByteArray), Heap.has (delLs H' []) a [Value.int IntKind.i64 n, Value.int IntKind.u32 n_6, Value.int IntKind.u32 n_7, Value.string s] ∧ ((0 : Int) ≤ p_1.fst.fst ∧ p_1.fst.fst < (↑(0 : Nat) : Int)) ∧ PtrK none fun (A : Addr) ↦ PtrK (some (Addr.add A (Int.toNat p_1.fst.fst * (4 : Nat)))) fun (a : Addr) ↦ ∃ (n_8 : Int), ∃ (n_9 : Int), ∃ (n_10 : Int), ∃ (s_2 : ByteArray), Heap.has (delLs H' []) a [Value.int IntKind.i64 n_8, Value.int IntKind.u32 n_9, Value.int IntKind.u32 n_10, Value.string s_2] ∧ ((0 : Int) ≤ p_1.fst.fst ∧ p_1.fst.fst < (↑(0 : Nat) : Int)) ∧ PtrK none fun (A : Addr) ↦ PtrK (some (Addr.add A (Int.toNat p_1.fst.fst * (4 : Nat)))) fun (A : Addr) ↦ ∃ (c : Array Value), ∃ (ty : Nat), (delLs H' [] A.block = some (Obj.cells c ty) ∧ A.spot = none ∧ A.off + (4 : Nat) ≤ Array.size c) ∧ ((0 : Int) ≤ IntKind.wrap IntKind.i64 (p_1.fst.fst - (1 : Int)) ∧ IntKind.wrap IntKind.i64 (p_1.fst.fst - (1 : Int)) < (↑(0 : Nat) : Int)) ∧ PtrK none fun (A_1 : Addr) ↦ PtrK (some (Addr.add A_1 (Int.toNat (IntKind.wrap IntKind.i64 (p_1.fst.fst - (1 : Int))) * (4 : Nat)))) fun (A_2 : Addr) ↦ ∃ (c_1 : Array Value), ∃ (ty_1 : Nat), (Heap.upd (delLs H' ([] ++ ([] ++ ([] ++ ([] ++ ([] ++ []))) ++ ([] ++ ([] ++ ([] ++ ([] ++ []))) ++ [])))) A.block (Obj.cells (writeCells c A.off [Value.int IntKind.i64 n, Value.int IntKind.u32 n_6, Value.int IntKind.u32 n_7, Value.string s]) ty) A_2.block = some (Obj.cells c_1 ty_1) ∧ A_2.spot = none ∧ A_2.off + (4 : Nat) ≤ Array.size c_1) ∧ (none : Option Addr) = none ∧ (0 : Nat) = (0 : Nat) ∧ (0 : Nat) = (0 : Nat) ∧ (0 : Int) = (0 : Int) ∧ (0 : Int) = (0 : Int) ∧ Value.func (Fn.func g) { toList := [] } { toList := [] } = Value.func (Fn.func g) { toList := [] } { toList := [] } ∧ p.fst.fst = p.fst.fst ∧ K_1 ((IntKind.wrap IntKind.i64 (p_1.fst.fst - (1 : Int)), PUnit.unit), PUnit.unit) (Heap.upd (Heap.upd (delLs H' []) A.block (Obj.cells (writeCells c A.off [Value.int IntKind.i64 n, Value.int IntKind.u32 n_6, Value.int IntKind.u32 n_7, Value.string s]) ty)) A_2.block (Obj.cells (writeCells c_1 A_2.off [Value.int IntKind.i64 n_8, Value.int IntKind.u32 n_9, Value.int IntKind.u32 n_10, Value.string s_2]) ty_1))) ((none : Option Addr) = none ∧ (0 : Nat) = (0 : Nat) ∧ (0 : Nat) = (0 : Nat) ∧ (0 : Int) = (0 : Int) ∧ (0 : Int) = (0 : Int) ∧ Value.func (Fn.func g) { toList := [] } { toList := [] } = Value.func (Fn.func g) { toList := [] } { toList := [] } ∧ K ((IntKind.wrap IntKind.i64 (p.fst.fst + (1 : Int)), PUnit.unit), PUnit.unit) (delLs H' []))) ((none : Option Addr) = none ∧ (0 : Nat) = (0 : Nat) ∧ (0 : Nat) = (0 : Nat) ∧ (0 : Int) = (0 : Int) ∧ (0 : Int) = (0 : Int) ∧ Value.func (Fn.func g) { toList := [] } { toList := [] } = Value.func (Fn.func g) { toList := [] } { toList := [] } ∧ K ((IntKind.wrap IntKind.i64 (p.fst.fst + (1 : Int)), PUnit.unit), PUnit.unit) H)) ((p.fst.fst, PUnit.unit), PUnit.unit) H) (R (Ending.returned (Value.tuple { toList := [] })) H)) ((IntKind.wrap IntKind.i64 ((0 : Int) + (1 : Int)), PUnit.unit), PUnit.unit) H
theorem vc_ins0 (g : Nat) (R : Ending → Heap → Prop) (H : Heap) : vcFun prog h_ins f56 [SV.c (SC.v (Value.slice none (0 : Nat) (0 : Nat))), SV.c (SC.v (Value.int IntKind.i64 (0 : Int))), SV.c (SC.v (Value.int IntKind.i64 (0 : Int))), SV.c (SC.v (Value.func (Fn.func g) #[] #[]))] R H = nf_ins0 g R H := by kernel_rfl

def nf_srt (a : Option Addr) (n : Nat) (c : Nat) (R : Ending → Heap → Prop) (H : Heap) : Prop := Meets prog (32 : Nat) [Value.slice a n c] H fun (e : Ending) (H' : Nat → Option Obj) ↦ ∃ (a : Option Addr), ∃ (n : Nat), ∃ (c : Nat), e = Ending.returned (Value.slice a n c) ∧ Meets prog (35 : Nat) [Value.slice a n c, Value.func (Fn.func (36 : Nat)) { toList := [] } { toList := [] }] H' fun (e : Ending) (H' : Nat → Option Obj) ↦ e = Ending.returned (Value.tuple { toList := [] }) ∧ R (Ending.returned (Value.slice a n c)) H'
theorem vc_srt (a : Option Addr) (n : Nat) (c : Nat) (R : Ending → Heap → Prop) (H : Heap) : vcFun prog { } f23 [SV.c (SC.v (Value.slice a n c))] R H = nf_srt a n c R H := by kernel_rfl

def nf_ints (a : Option Addr) (n : Nat) (c : Nat) (a' : Option Addr) (n' : Nat) (c' : Nat) (R : Ending → Heap → Prop) (H : Heap) : Prop := Br ((↑n : Int) != (↑n' : Int)) (R (Ending.returned (Value.bool false)) H) (a = a ∧ n = n ∧ c = c ∧ a' = a' ∧ n' = n' ∧ c' = c' ∧ false = false ∧ LoopP (fun (K : (Int × PUnit) × PUnit → (Nat → Option Obj) → Prop) (p : (Int × PUnit) × PUnit) (H : Nat → Option Obj) ↦ Br (decide (p.fst.fst < (↑n : Int))) (((0 : Int) ≤ p.fst.fst ∧ p.fst.fst < (↑n : Int)) ∧ PtrK a fun (A : Addr) ↦ PtrK (some (Addr.add A (Int.toNat p.fst.fst * (1 : Nat)))) fun (a_1 : Addr) ↦ ∃ (n_1 : Int), Heap.has H a_1 [Value.int IntKind.i64 n_1] ∧ ((0 : Int) ≤ p.fst.fst ∧ p.fst.fst < (↑n' : Int)) ∧ PtrK a' fun (A : Addr) ↦ PtrK (some (Addr.add A (Int.toNat p.fst.fst * (1 : Nat)))) fun (a_2 : Addr) ↦ ∃ (n_2 : Int), Heap.has H a_2 [Value.int IntKind.i64 n_2] ∧ Br (n_1 != n_2) (R (Ending.returned (Value.bool false)) H) (a = a ∧ n = n ∧ c = c ∧ a' = a' ∧ n' = n' ∧ c' = c' ∧ false = false ∧ K ((IntKind.wrap IntKind.i64 (p.fst.fst + (1 : Int)), PUnit.unit), PUnit.unit) H)) (R (Ending.returned (Value.bool true)) H)) (((0 : Int), PUnit.unit), PUnit.unit) H)
theorem vc_ints (a : Option Addr) (n : Nat) (c : Nat) (a' : Option Addr) (n' : Nat) (c' : Nat) (R : Ending → Heap → Prop) (H : Heap) : vcFun prog h_ints f10 [SV.c (SC.v (Value.slice a n c)), SV.c (SC.v (Value.slice a' n' c'))] R H = nf_ints a n c a' n' c' R H := by kernel_rfl

def nf_points (a : Option Addr) (n : Nat) (c : Nat) (a' : Option Addr) (n' : Nat) (c' : Nat) (R : Ending → Heap → Prop) (H : Heap) : Prop := Br ((↑n : Int) != (↑n' : Int)) (R (Ending.returned (Value.bool false)) H) (a = a ∧ n = n ∧ c = c ∧ a' = a' ∧ n' = n' ∧ c' = c' ∧ false = false ∧ LoopP (fun (K : (Int × PUnit) × PUnit → (Nat → Option Obj) → Prop) (p : (Int × PUnit) × PUnit) (H : Nat → Option Obj) ↦ Br (decide (p.fst.fst < (↑n : Int))) (((0 : Int) ≤ p.fst.fst ∧ p.fst.fst < (↑n : Int)) ∧ PtrK a fun (A : Addr) ↦ PtrK (some (Addr.add A (Int.toNat p.fst.fst * (4 : Nat)))) fun (a_1 : Addr) ↦ ∃ (n_1 : Int), ∃ (n_2 : Int), ∃ (n_3 : Int), ∃ (s : ByteArray), Heap.has H a_1 [Value.int IntKind.i64 n_1, Value.int IntKind.u32 n_2, Value.int IntKind.u32 n_3, Value.string s] ∧ ((0 : Int) ≤ p.fst.fst ∧ p.fst.fst < (↑n' : Int)) ∧ PtrK a' fun (A : Addr) ↦ PtrK (some (Addr.add A (Int.toNat p.fst.fst * (4 : Nat)))) fun (a_2 : Addr) ↦ ∃ (n_4 : Int), ∃ (n_5 : Int), ∃ (n_6 : Int), ∃ (s_1 : ByteArray), Heap.has H a_2 [Value.int IntKind.i64 n_4, Value.int IntKind.u32 n_5, Value.int IntKind.u32 n_6, Value.string s_1] ∧ Br (!andO (some (andO (some (andO (some (andO none (n_1 == n_4))) (n_2 == n_5))) (n_3 == n_6))) (s == s_1)) (R (Ending.returned (Value.bool false)) H) (a = a ∧ n = n ∧ c = c ∧ a' = a' ∧ n' = n' ∧ c' = c' ∧ false = false ∧ K ((IntKind.wrap IntKind.i64 (p.fst.fst + (1 : Int)), PUnit.unit), PUnit.unit) H)) (R (Ending.returned (Value.bool true)) H)) (((0 : Int), PUnit.unit), PUnit.unit) H)
theorem vc_points (a : Option Addr) (n : Nat) (c : Nat) (a' : Option Addr) (n' : Nat) (c' : Nat) (R : Ending → Heap → Prop) (H : Heap) : vcFun prog h_points f13 [SV.c (SC.v (Value.slice a n c)), SV.c (SC.v (Value.slice a' n' c'))] R H = nf_points a n c a' n' c' R H := by kernel_rfl

def nf_inn (a : Option Addr) (n : Nat) (c : Nat) (x : Int) (R : Ending → Heap → Prop) (H : Heap) : Prop := a = a ∧ n = n ∧ c = c ∧ x = x ∧ false = false ∧ LoopP (fun (K : (Int × PUnit) × PUnit → (Nat → Option Obj) → Prop) (p : (Int × PUnit) × PUnit) (H : Nat → Option Obj) ↦ Br (decide (p.fst.fst < (↑n : Int))) (((0 : Int) ≤ p.fst.fst ∧ p.fst.fst < (↑n : Int)) ∧ PtrK a fun (A : Addr) ↦ PtrK (some (Addr.add A (Int.toNat p.fst.fst * (1 : Nat)))) fun (a_1 : Addr) ↦ ∃ (n_1 : Int), Heap.has H a_1 [Value.int IntKind.i64 n_1] ∧ Br (n_1 == x) (R (Ending.returned (Value.bool true)) H) (a = a ∧ n = n ∧ c = c ∧ x = x ∧ false = false ∧ K ((IntKind.wrap IntKind.i64 (p.fst.fst + (1 : Int)), PUnit.unit), PUnit.unit) H)) (R (Ending.returned (Value.bool false)) H)) (((0 : Int), PUnit.unit), PUnit.unit) H
theorem vc_inn (a : Option Addr) (n : Nat) (c : Nat) (x : Int) (R : Ending → Heap → Prop) (H : Heap) : vcFun prog h_in f19 [SV.c (SC.v (Value.slice a n c)), SV.c (SC.v (Value.int IntKind.i64 x))] R H = nf_inn a n c x R H := by kernel_rfl

def nf_rsort (a : Option Addr) (n : Nat) (c : Nat) (R : Ending → Heap → Prop) (H : Heap) : Prop := a = a ∧ n = n ∧ c = c ∧ (none : Option Addr) = none ∧ (0 : Nat) = (0 : Nat) ∧ (0 : Nat) = (0 : Nat) ∧ LoopP (fun (K : (List (List Value) × Int × PUnit) × PUnit → (Nat → Option Obj) → Prop) (p : (List (List Value) × Int × PUnit) × PUnit) (H : Nat → Option Obj) ↦ Br (decide (p.fst.snd.fst < (↑n : Int))) (a = a ∧ n = n ∧ c = c ∧ (none : Option Addr) = none ∧ (0 : Nat) = (0 : Nat) ∧ (0 : Nat) = (0 : Nat) ∧ p.fst.snd.fst = p.fst.snd.fst ∧ LoopP (fun (K_1 : (List (List Value) × Int × PUnit) × PUnit → (Nat → Option Obj) → Prop) (p_1 : (List (List Value) × Int × PUnit) × PUnit) (H : Nat → Option Obj) ↦ Br (decide (p_1.fst.snd.fst > (0 : Int))) (((0 : Int) ≤ IntKind.wrap IntKind.i64 (p_1.fst.snd.fst - (1 : Int)) ∧ IntKind.wrap IntKind.i64 (p_1.fst.snd.fst - (1 : Int)) < (↑(List.length p_1.fst.fst) : Int)) ∧ ∃ (n_1 : Int), (∃ (e : List Value), List.get?Internal p_1.fst.fst (Int.toNat (IntKind.wrap IntKind.i64 (p_1.fst.snd.fst - (1 : Int)))) = some e ∧ List.take (1 : Nat) (List.drop (0 : Nat) e) = [Value.int IntKind.i64 n_1]) ∧ ((0 : Int) ≤ p.fst.snd.fst ∧ p.fst.snd.fst < (↑n : Int)) ∧ PtrK a fun (A : Addr) ↦ PtrK (some (Addr.add A (Int.toNat p.fst.snd.fst * (4 : Nat)))) fun (a_1 : Addr) ↦ PtrK (some (Addr.add a_1 (0 : Nat))) fun (a_2 : Addr) ↦ ∃ (n_2 : Int), Heap.has H a_2 [Value.int IntKind.i64 n_2] ∧ Br (decide (n_1 > n_2)) (a = a ∧ n = n ∧ c = c ∧ (none : Option Addr) = none ∧ (0 : Nat) = (0 : Nat) ∧ (0 : Nat) = (0 : Nat) ∧ p.fst.snd.fst = p.fst.snd.fst ∧ K_1 ((p_1.fst.fst, IntKind.wrap IntKind.i64 (p_1.fst.snd.fst - (1 : Int)), PUnit.unit), PUnit.unit) H) (((0 : Int) ≤ p_1.fst.snd.fst ∧ p_1.fst.snd.fst ≤ (↑(List.length p_1.fst.fst) : Int)) ∧ ((0 : Int) ≤ p.fst.snd.fst ∧ p.fst.snd.fst < (↑n : Int)) ∧ PtrK a fun (A : Addr) ↦ PtrK (some (Addr.add A (Int.toNat p.fst.snd.fst * (4 : Nat)))) fun (a_3 : Addr) ↦ ∃ (n_3 : Int), ∃ (n_4 : Int), ∃ (n_5 : Int), ∃ (s : ByteArray), Heap.has H a_3 [Value.int IntKind.i64 n_3, Value.int IntKind.u32 n_4, Value.int IntKind.u32 n_5, Value.string s] ∧ ((0 : Int) ≤ p_1.fst.snd.fst ∧ p_1.fst.snd.fst ≤ (↑(List.length p_1.fst.fst) : Int)) ∧ List.length (List.take (Int.toNat p_1.fst.snd.fst - (0 : Nat)) (List.drop (0 : Nat) p_1.fst.fst)) * (32 : Nat) ≤ (140737488355328 : Nat) ∧ List.length (List.append (List.take (Int.toNat p_1.fst.snd.fst - (0 : Nat)) (List.drop (0 : Nat) p_1.fst.fst)) [[Value.int IntKind.i64 n_3, Value.int IntKind.u32 n_4, Value.int IntKind.u32 n_5, Value.string s]]) * (32 : Nat) ≤ (140737488355328 : Nat) ∧ List.length (List.append (List.append (List.take (Int.toNat p_1.fst.snd.fst - (0 : Nat)) (List.drop (0 : Nat) p_1.fst.fst)) [[Value.int IntKind.i64 n_3, Value.int IntKind.u32 n_4, Value.int IntKind.u32 n_5, Value.string s]]) (List.take (List.length p_1.fst.fst - Int.toNat p_1.fst.snd.fst) (List.drop (Int.toNat p_1.fst.snd.fst) p_1.fst.fst))) * (32 : Nat) ≤ (140737488355328 : Nat) ∧ a = a ∧ n = n ∧ c = c ∧ (none : Option Addr) = none ∧ (0 : Nat) = (0 : Nat) ∧ (0 : Nat) = (0 : Nat) ∧ K ((List.append (List.append (List.take (Int.toNat p_1.fst.snd.fst - (0 : Nat)) (List.drop (0 : Nat) p_1.fst.fst)) [[Value.int IntKind.i64 n_3, Value.int IntKind.u32 n_4, Value.int IntKind.u32 n_5, Value.string s]]) (List.take (List.length p_1.fst.fst - Int.toNat p_1.fst.snd.fst) (List.drop (Int.toNat p_1.fst.snd.fst) p_1.fst.fst)), IntKind.wrap IntKind.i64 (p.fst.snd.fst + (1 : Int)), PUnit.unit), PUnit.unit) H)) (((0 : Int) ≤ p_1.fst.snd.fst ∧ p_1.fst.snd.fst ≤ (↑(List.length p_1.fst.fst) : Int)) ∧ ((0 : Int) ≤ p.fst.snd.fst ∧ p.fst.snd.fst < (↑n : Int)) ∧ PtrK a fun (A : Addr) ↦ PtrK (some (Addr.add A (Int.toNat p.fst.snd.fst * (4 : Nat)))) fun (a_1 : Addr) ↦ ∃ (n_1 : Int), ∃ (n_2 : Int), ∃ (n_3 : Int), ∃ (s : ByteArray), Heap.has H a_1 [Value.int IntKind.i64 n_1, Value.int IntKind.u32 n_2, Value.int IntKind.u32 n_3, Value.string s] ∧ ((0 : Int) ≤ p_1.fst.snd.fst ∧ p_1.fst.snd.fst ≤ (↑(List.length p_1.fst.fst) : Int)) ∧ List.length (List.take (Int.toNat p_1.fst.snd.fst - (0 : Nat)) (List.drop (0 : Nat) p_1.fst.fst)) * (32 : Nat) ≤ (140737488355328 : Nat) ∧ List.length (List.append (List.take (Int.toNat p_1.fst.snd.fst - (0 : Nat)) (List.drop (0 : Nat) p_1.fst.fst)) [[Value.int IntKind.i64 n_1, Value.int IntKind.u32 n_2, Value.int IntKind.u32 n_3, Value.string s]]) * (32 : Nat) ≤ (140737488355328 : Nat) ∧ List.length (List.append (List.append (List.take (Int.toNat p_1.fst.snd.fst - (0 : Nat)) (List.drop (0 : Nat) p_1.fst.fst)) [[Value.int IntKind.i64 n_1, Value.int IntKind.u32 n_2, Value.int IntKind.u32 n_3, Value.string s]]) (List.take (List.length p_1.fst.fst - Int.toNat p_1.fst.snd.fst) (List.drop (Int.toNat p_1.fst.snd.fst) p_1.fst.fst))) * (32 : Nat) ≤ (140737488355328 : Nat) ∧ a = a ∧ n = n ∧ c = c ∧ (none : Option Addr) = none ∧ (0 : Nat) = (0 : Nat) ∧ (0 : Nat) = (0 : Nat) ∧ K ((List.append (List.append (List.take (Int.toNat p_1.fst.snd.fst - (0 : Nat)) (List.drop (0 : Nat) p_1.fst.fst)) [[Value.int IntKind.i64 n_1, Value.int IntKind.u32 n_2, Value.int IntKind.u32 n_3, Value.string s]]) (List.take (List.length p_1.fst.fst - Int.toNat p_1.fst.snd.fst) (List.drop (Int.toNat p_1.fst.snd.fst) p_1.fst.fst)), IntKind.wrap IntKind.i64 (p.fst.snd.fst + (1 : Int)), PUnit.unit), PUnit.unit) H)) ((p.fst.fst, (↑(List.length p.fst.fst) : Int), PUnit.unit), PUnit.unit) H) (∀ (v : Value) (H' : Nat → Option Obj), H ≤ H' → (∀ (b : Nat), blockOf v = some b → H b = none) → (∀ (b : Nat) (o : Obj), H' b = some o → H b = some o ∨ blockOf v = some b) → RowAt H' v (44 : Nat) (4 : Nat) p.fst.fst → R (Ending.returned v) H')) (([], (0 : Int), PUnit.unit), PUnit.unit) H
theorem vc_rsort (a : Option Addr) (n : Nat) (c : Nat) (R : Ending → Heap → Prop) (H : Heap) : vcFun prog h_rsort f20 [SV.c (SC.v (Value.slice a n c))] R H = nf_rsort a n c R H := by kernel_rfl

section
variable {H : Heap} {R : Ending → Heap → Prop}
@[simp] theorem add0 (a : Addr) : Addr.add a 0 = a := rfl
theorem slice_nil (H : Heap) {sz : Nat} : SliceAt H (.slice none 0 0) sz [] := ⟨none, 0, 0, rfl, rfl, Nat.le_refl _, by simp, by simp, by simp⟩
theorem s_clone {v : Value} {l : List Pt} (h : SliceAt H v 4 (pts l)) (hl : l.length ≤ 1000000) (k : ∀ v H', H ≤ H' → (∀ b, blockOf v = some b → H b = none) → RowAt H' v tPt 4 (pts l) → R (.returned v) H') :
    Meets prog 32 [v] H R := by
  obtain ⟨a, n, c, e, hn⟩ := h
  subst e
  have h : SliceAt H (.slice a n c) 4 (pts l) := ⟨a, n, c, rfl, hn⟩
  refine spec_of func32 (by kernel_rfl) (fun t h => by cases h) ?_ (vc_clone a n c R H) ?_
  · simp [argsR, SV.rep, SC.rep, one]
  unfold nf_clone
  refine br (fun q => ?_) fun q => ?_
  · have : l = [] := by
      cases l with
      | nil => rfl
      | cons p l =>
        obtain ⟨A, e, _⟩ := pr_get h (i := 0) (p := p) rfl
        subst e
        simp at q
    subst this
    exact k _ _ (fun _ _ h => h) (by simp [blockOf]) (.inl ⟨rfl, rfl⟩)
  · refine ⟨_, h, ?_, fun v H' h1 h2 h3 h4 => k v H' h1 h2 h4⟩
    simp [pts]; omega
theorem memN_one {a t : Nat} (h : memN [a] t = true) : t = a := by
  simp only [memN] at h
  split at h
  · rename_i e; exact (Nat.eq_of_beq_eq_true e).symm
  · cases h
theorem ba_beq (a b : ByteArray) : (a == b) = decide (a = b) := by
  cases a with | mk x => cases b with | mk y =>
  have : ((⟨x⟩ : ByteArray) == ⟨y⟩) = (x == y) := rfl
  rw [this, Bool.eq_iff_iff]
  simp
theorem upd_le {H : Heap} {b : Nat} {o : Obj} (h : H b = none) : H ≤ H.upd b o := fun x y e => by
  rw [upd_ne _ _ (fun q => by subst q; rw [h] at e; cases e)]; exact e
abbrev ltI (p q : Pt) : Bool := decide (p.id < q.id)
def cmpI (p q : Pt) : Int := if p.id < q.id then -1 else if p.id > q.id then 1 else 0
theorem ltc_cmpI : ltc cmpI = ltI := by
  funext p q
  unfold ltc cmpI ltI
  split
  · simp_all
  · split <;> simp_all
theorem swo_I : SWO ltI := ⟨fun x => by simp, fun x y z => by simp; omega, fun x y z => by simp; omega⟩
/-- Points, by Id. -/
def sortP (l : List Pt) : List Pt := isort ltI l
theorem sortP_len (l : List Pt) : (sortP l).length = l.length := isort_len l
theorem s_cmpc {x y : Int} (k : R (.returned (vi (if x < y then -1 else if x > y then 1 else 0))) H) : Meets prog 37 [vi x, vi y] H R := by
  refine spec_of func37 (by kernel_rfl) (fun t h => by cases h) ?_ (vc_cmpc x y R H) ?_
  · simp [argsR, SV.rep, SC.rep, one]
  unfold nf_cmpc
  have nan : ∀ (z : Int) (R : Ending → Heap → Prop) (H : Heap), R (.returned (.bool false)) H → Meets prog 50 [vi z] H R := fun z R H k => by
    refine spec_of func50 (by kernel_rfl) (fun t h => by cases h) ?_ (vc_isnan z R H) ?_
    · simp [argsR, SV.rep, SC.rep, one]
    unfold nf_isnan
    simpa using k
  refine nan _ _ _ ⟨_, rfl, nan _ _ _ ⟨_, rfl, br (fun q => by cases q) fun _ => br (fun q => by cases q) fun _ => br (fun q => ?_) fun q => br (fun q1 => ?_) fun q1 => ?_⟩⟩
  all_goals simp only [decide_eq_true_eq, decide_eq_false_iff_not] at *
  · rwa [if_pos q] at k
  · rwa [if_neg q, if_pos q1] at k
  · rwa [if_neg q, if_neg q1] at k
theorem cmp_srt1 : CmpOK 36 cmpI := fun p q H R k => by
  refine spec_of func36 (by kernel_rfl) (fun t h => by cases h) ?_ (vc_srt1 p.id p.x p.y p.data q.id q.x q.y q.data R H) ?_
  · simp [argsR, SV.rep, SegsRep, SC.rep, one]
  unfold nf_srt1
  exact s_cmpc ⟨_, rfl, k⟩
theorem s_sst {g : Nat} {cf : Pt → Pt → Int} (hc : CmpOK g cf) (hs : SWO (ltc cf)) {v : Value} {ty : Nat} {l : List Pt} (hrow : RowAt H v ty 4 (pts l)) (hl : l.length ≤ 1000000) (hcap : ∀ a n c, v = .slice a n c → n ≤ 1000000)
    (k : ∀ H', RowAt H' v ty 4 (pts (isort (ltc cf) l)) → Mod v H H' → R (.returned (.tuple #[])) H') : Meets prog 35 [v, .func (.func g) #[] #[]] H R := by
  obtain ⟨a, c, rfl⟩ := row_val hrow
  have hpl : (pts l).length = l.length := by simp [pts]
  rw [hpl] at hrow k ⊢
  refine spec_of func35 (by kernel_rfl) (fun t h => by cases h) ?_ (vc_sst a l.length c g R H) ?_
  · simp [argsR, SV.rep, SC.rep, one]
  unfold nf_sst
  cases a with
  | some A => exact s_stb hc hs hl rfl hrow fun H' h1 h2 => ⟨rfl, k H' h1 h2⟩
  | none =>
    obtain ⟨rfl, rfl⟩ : l = [] ∧ c = 0 := by
      rcases hrow with ⟨e, e2⟩ | ⟨_, _, _, _, e, _⟩
      · simp only [Value.slice.injEq] at e
        exact ⟨by simpa [pts] using e2, e.2.2⟩
      · cases e
    refine spec_of func49 (by kernel_rfl) (fun t h => by cases h) ?_ (vc_stb0 g _ H) ?_
    · simp [argsR, SV.rep, SC.rep, one]
    unfold nf_stb0
    have i0 : ∀ (R : Ending → Heap → Prop), R (.returned (.tuple #[])) H → Meets prog 56 [.slice none 0 0, vi 0, vi 0, .func (.func g) #[] #[]] H R := fun R k => by
      refine spec_of func56 (by kernel_rfl) (fun t h => by cases h) ?_ (vc_ins0 g _ H) ?_
      · simp [argsR, SV.rep, SC.rep, one]
      unfold nf_ins0
      simp only [true_and]
      refine ⟨fun p H' => p.1.1 = 1 ∧ H' = H, fun _ _ => 0, ⟨by decide, rfl⟩, ?_⟩
      rintro ⟨⟨i, _⟩, _⟩ H1 ⟨h1, rfl⟩
      simp only at h1 ⊢
      subst h1
      exact br (fun q => by simp at q) fun _ => k
    simp only [true_and]
    refine ⟨fun p H' => p.1.1 = 0 ∧ p.1.2.1 = 20 ∧ H' = H, fun _ _ => 0, ⟨rfl, rfl, rfl⟩, ?_⟩
    rintro ⟨⟨i, j, _⟩, _⟩ H1 ⟨h1, h2, rfl⟩
    simp only at h1 h2 ⊢
    subst h1; subst h2
    refine br (fun q => by simp at q) fun _ => i0 _ ⟨rfl, fun p H' => p.1.1 = 20 ∧ H' = H1, fun _ _ => 0, ⟨rfl, rfl⟩, ?_⟩
    rintro ⟨⟨i, _⟩, _⟩ H2 ⟨h1, rfl⟩
    simp only at h1 ⊢
    subst h1
    exact br (fun q => by simp at q) fun _ => k _ hrow (Mod.refl _ _)
/-- What is new is apart from what there was. -/
theorem mod_le {v : Value} {H H' H'' : Heap} (h : H ≤ H') (hn : ∀ b, blockOf v = some b → H b = none) (hm : Mod v H' H'') : H ≤ H'' := fun b o e => by
  rw [hm b fun q => by rw [hn b q] at e; cases e]
  exact h b o e
theorem s_srt {v : Value} {l : List Pt} (h : SliceAt H v 4 (pts l)) (hl : l.length ≤ 1000000) (k : ∀ v H', H ≤ H' → (∀ b, blockOf v = some b → H b = none) → RowAt H' v tPt 4 (pts (sortP l)) → R (.returned v) H') :
    Meets prog 23 [v] H R := by
  obtain ⟨a, n, c, e, hn⟩ := h
  subst e
  refine spec_of func23 (by kernel_rfl) (fun t h => by cases h) ?_ (vc_srt a n c R H) ?_
  · simp [argsR, SV.rep, SC.rep, one]
  unfold nf_srt
  refine s_clone ⟨a, n, c, rfl, hn⟩ hl fun v H' h1 h2 h3 => ?_
  obtain ⟨a', c', rfl⟩ := row_val h3
  refine ⟨_, _, _, rfl, s_sst cmp_srt1 (ltc_cmpI ▸ swo_I) h3 hl (fun _ _ _ e => by cases e; simpa [pts] using hl) fun H'' h4 h5 => ⟨rfl, ?_⟩⟩
  rw [ltc_cmpI] at h4
  have e : (pts (sortP l)).length = (pts l).length := by simp [pts, sortP_len]
  exact k _ _ (mod_le h1 h2 h5) h2 h4
theorem s_in {v : Value} {l : List Int} {x : Int} (h : SliceAt H v 1 (cells l)) (hl : l.length ≤ 1000000) (k : R (.returned (.bool (decide (x ∈ l)))) H) : Meets prog 19 [v, vi x] H R := by
  obtain ⟨a, n, c, e, hn⟩ := h
  subst e
  have h : SliceAt H (.slice a n c) 1 (cells l) := ⟨a, n, c, rfl, hn⟩
  have hln : l.length = n := by simpa [cells] using hn.1
  refine spec_of func19 (by kernel_rfl) (fun t h => by cases h) ?_ (vc_inn a n c x R H) ?_
  · simp [argsR, SV.rep, SC.rep, one]
  unfold nf_inn
  simp only [true_and]
  refine ⟨fun p H' => ∃ t : Nat, p.1.1 = (t : Int) ∧ t ≤ n ∧ x ∉ l.take t ∧ H' = H, fun p _ => (n - p.1.1).toNat, ⟨0, rfl, by omega, by simp, rfl⟩, ?_⟩
  rintro ⟨⟨i, _⟩, _⟩ H1 ⟨t, hi, ht, f, rfl⟩
  simp only at hi ⊢
  subst hi
  refine br (fun q => ?_) fun q => ?_
  · simp only [decide_eq_true_eq] at q
    obtain ⟨y, hd, htk, hx⟩ := drop_cons (l := l) (k := t) (by omega)
    obtain ⟨A, e, g1⟩ := ir_get h (i := t) hx
    subst e
    refine ⟨⟨by omega, by omega⟩, ptr rfl (ptr rfl ⟨_, g1, br (fun q1 => ?_) fun q1 => ?_⟩)⟩
    · simp only [beq_iff_eq] at q1
      subst q1
      have : decide (y ∈ l) = true := by simpa using List.mem_of_getElem? hx
      rw [this] at k; exact k
    · rw [w64 (by omega)]
      refine ⟨⟨t + 1, by omega, by omega, ?_, by trivial⟩, by omega⟩
      rw [htk, List.mem_append]
      rintro (h | h)
      · exact f h
      · simp at h q1; exact q1 h.symm
  · simp only [decide_eq_false_iff_not] at q
    rw [List.take_of_length_le (by omega)] at f
    have : decide (x ∈ l) = false := by simpa using f
    rw [this] at k; exact k
theorem s_ints {v v' : Value} {l l' : List Int} (h : SliceAt H v 1 (cells l)) (h' : SliceAt H v' 1 (cells l')) (hl : l.length ≤ 10000000000000) (k : R (.returned (.bool (decide (l = l')))) H) : Meets prog 10 [v, v'] H R := by
  obtain ⟨a, n, c, e, hn⟩ := h
  subst e
  have h : SliceAt H (.slice a n c) 1 (cells l) := ⟨a, n, c, rfl, hn⟩
  have hln : l.length = n := by simpa [cells] using hn.1
  obtain ⟨a', n', c', e, hn'⟩ := h'
  subst e
  have h' : SliceAt H (.slice a' n' c') 1 (cells l') := ⟨a', n', c', rfl, hn'⟩
  have hln' : l'.length = n' := by simpa [cells] using hn'.1
  refine spec_of func10 (by kernel_rfl) (fun t h => by cases h) ?_ (vc_ints a n c a' n' c' R H) ?_
  · simp [argsR, SV.rep, SC.rep, one]
  unfold nf_ints
  refine br (fun q => ?_) fun q => ?_
  · have : decide (l = l') = false := decide_eq_false (by rintro rfl; simp at q; omega)
    rwa [this] at k
  simp only [bne_eq_false_iff_eq, Int.natCast_inj] at q
  simp only [true_and]
  refine ⟨fun p H' => ∃ t : Nat, p.1.1 = (t : Int) ∧ t ≤ n ∧ l.take t = l'.take t ∧ H' = H, fun p _ => (n - p.1.1).toNat, ⟨0, rfl, by omega, by simp, rfl⟩, ?_⟩
  rintro ⟨⟨i, _⟩, _⟩ H1 ⟨t, hi, ht, f, rfl⟩
  simp only at hi ⊢
  subst hi
  refine br (fun q1 => ?_) fun q1 => ?_
  · simp only [decide_eq_true_eq] at q1
    obtain ⟨y, hd, htk, hx⟩ := drop_cons (l := l) (k := t) (by omega)
    obtain ⟨y', hd', htk', hx'⟩ := drop_cons (l := l') (k := t) (by omega)
    obtain ⟨A, e, g1⟩ := ir_get h (i := t) hx
    subst e
    obtain ⟨A', e, g1'⟩ := ir_get h' (i := t) hx'
    subst e
    refine ⟨⟨by omega, by omega⟩, ptr rfl (ptr rfl ⟨_, g1, ⟨by omega, by omega⟩, ptr rfl (ptr rfl ⟨_, g1', br (fun q2 => ?_) fun q2 => ?_⟩)⟩)⟩
    · have : decide (l = l') = false := decide_eq_false (by rintro rfl; rw [hx] at hx'; cases hx'; simp at q2)
      rwa [this] at k
    · rw [w64 (by omega)]
      simp only [bne_eq_false_iff_eq] at q2
      exact ⟨⟨t + 1, by omega, by omega, by rw [htk, htk', f, q2], by trivial⟩, by omega⟩
  · simp only [decide_eq_false_iff_not] at q1
    rw [List.take_of_length_le (by omega), List.take_of_length_le (by omega)] at f
    rwa [decide_eq_true f] at k
theorem pt_eta {p q : Pt} (h1 : p.id = q.id) (h2 : p.x = q.x) (h3 : p.y = q.y) (h4 : p.data = q.data) : p = q := by
  cases p; cases q; simp_all
theorem s_points {v v' : Value} {l l' : List Pt} (h : SliceAt H v 4 (pts l)) (h' : SliceAt H v' 4 (pts l')) (hl : l.length ≤ 10000000000000) (k : R (.returned (.bool (decide (l = l')))) H) : Meets prog 13 [v, v'] H R := by
  obtain ⟨a, n, c, e, hn⟩ := h
  subst e
  have h : SliceAt H (.slice a n c) 4 (pts l) := ⟨a, n, c, rfl, hn⟩
  have hln : l.length = n := by simpa [pts] using hn.1
  obtain ⟨a', n', c', e, hn'⟩ := h'
  subst e
  have h' : SliceAt H (.slice a' n' c') 4 (pts l') := ⟨a', n', c', rfl, hn'⟩
  have hln' : l'.length = n' := by simpa [pts] using hn'.1
  refine spec_of func13 (by kernel_rfl) (fun t h => ?_) ?_ (vc_points a n c a' n' c' R H) ?_
  · have : t = 44 := memN_one h
    subst this
    exact eqOK_of (by kernel_rfl) (by kernel_rfl) (by kernel_rfl)
  · simp [argsR, SV.rep, SC.rep, one]
  unfold nf_points
  refine br (fun q => ?_) fun q => ?_
  · have : decide (l = l') = false := decide_eq_false (by rintro rfl; simp at q; omega)
    rwa [this] at k
  simp only [bne_eq_false_iff_eq, Int.natCast_inj] at q
  simp only [true_and]
  refine ⟨fun p H' => ∃ t : Nat, p.1.1 = (t : Int) ∧ t ≤ n ∧ l.take t = l'.take t ∧ H' = H, fun p _ => (n - p.1.1).toNat, ⟨0, rfl, by omega, by simp, rfl⟩, ?_⟩
  rintro ⟨⟨i, _⟩, _⟩ H1 ⟨t, hi, ht, f, rfl⟩
  simp only at hi ⊢
  subst hi
  refine br (fun q1 => ?_) fun q1 => ?_
  · simp only [decide_eq_true_eq] at q1
    obtain ⟨y, hd, htk, hx⟩ := drop_cons (l := l) (k := t) (by omega)
    obtain ⟨y', hd', htk', hx'⟩ := drop_cons (l := l') (k := t) (by omega)
    obtain ⟨A, e, g1⟩ := pr_get h (i := t) hx
    subst e
    obtain ⟨A', e, g1'⟩ := pr_get h' (i := t) hx'
    subst e
    refine ⟨⟨by omega, by omega⟩, ptr rfl (ptr rfl ⟨_, _, _, _, g1, ⟨by omega, by omega⟩, ptr rfl (ptr rfl ⟨_, _, _, _, g1', br (fun q2 => ?_) fun q2 => ?_⟩)⟩)⟩
    · have : decide (l = l') = false := decide_eq_false (by rintro rfl; rw [hx] at hx'; cases hx'; simp [andO, ba_beq] at q2)
      rwa [this] at k
    · rw [w64 (by omega)]
      have : y = y' := by
        simp [andO, ba_beq] at q2
        exact pt_eta q2.1.1.1 q2.1.1.2 q2.1.2 q2.2
      exact ⟨⟨t + 1, by omega, by omega, by rw [htk, htk', f, this], by trivial⟩, by omega⟩
  · simp only [decide_eq_false_iff_not] at q1
    rw [List.take_of_length_le (by omega), List.take_of_length_le (by omega)] at f
    rwa [decide_eq_true f] at k
theorem le_delO {H H' : Heap} {v : Value} (h : H ≤ H') (hn : ∀ b, blockOf v = some b → H b = none) : H ≤ H'.delO (blockOf v) := fun b o e => by
  cases hb : blockOf v with
  | none => exact h b o e
  | some b' =>
    show (if b = b' then none else H' b) = some o
    rw [if_neg (by rintro rfl; rw [hn b hb] at e; cases e)]
    exact h b o e
theorem has_first {H : Heap} {A : Addr} {x : Value} {l : List Value} (g : H.has A (x :: l)) : H.has A [x] := fun j y hj => g j y (by
  cases j with
  | zero => simpa using hj
  | succ j => simp at hj)
theorem has_one {H : Heap} {A : Addr} {l : List Value} {k : Nat} {x : Value} (g : H.has A l) (h : l[k]? = some x) (hs : A.spot = none) : H.has (A.add k) [x] := fun j y hj => by
  cases j with
  | zero => simp at hj; subst hj; rw [add0]; exact g k _ h
  | succ j => simp at hj
theorem pr_fld {a : Option Addr} {n c : Nat} {l : List Pt} (h : SliceAt H (.slice a n c) 4 (pts l)) {i : Nat} {p : Pt} (he : l[i]? = some p) :
    ∃ A, a = some A ∧ H.has (A.add (i * 4)) (ptC p) ∧ H.has ((A.add (i * 4)).add 0) [vi p.id] ∧ H.has ((A.add (i * 4)).add 1) [.int .u32 p.x] ∧ H.has ((A.add (i * 4)).add 2) [.int .u32 p.y] ∧ H.has ((A.add (i * 4)).add 3) [.string p.data] := by
  obtain ⟨A, h1, h0, h2⟩ := slice_get h (i := i) (e := ptC p) (by simp [pts, he])
  have hs : (A.add (i * 4)).spot = none := by rw [add_spot h0]
  exact ⟨A, h1, h2, has_one h2 rfl hs, has_one h2 rfl hs, has_one h2 rfl hs, has_one h2 rfl hs⟩
theorem s_rsort {v : Value} {l : List Pt} (h : SliceAt H v 4 (pts l)) (hl : l.length ≤ 1000000) (k : ∀ v H', H ≤ H' → (∀ b, blockOf v = some b → H b = none) → RowAt H' v tPt 4 (pts (sortP l)) → R (.returned v) H') :
    Meets prog 20 [v] H R := by
  obtain ⟨a, n, c, e, hn⟩ := h
  subst e
  have h : SliceAt H (.slice a n c) 4 (pts l) := ⟨a, n, c, rfl, hn⟩
  have hln : l.length = n := by simpa [pts] using hn.1
  refine spec_of func20 (by kernel_rfl) (fun t h => by cases h) ?_ (vc_rsort a n c R H) ?_
  · simp [argsR, SV.rep, SC.rep, one]
  unfold nf_rsort
  simp only [true_and]
  refine ⟨fun p H' => ∃ t : Nat, p.1.1 = pts (sortP (l.take t)) ∧ p.1.2.1 = (t : Int) ∧ t ≤ n ∧ H' = H, fun p _ => (n - p.1.2.1).toNat, ⟨0, by simp [sortP, isort], rfl, by omega, rfl⟩, ?_⟩
  rintro ⟨⟨e1, i, _⟩, _⟩ H1 ⟨t, h1, hi, ht, rfl⟩
  simp only at h1 hi ⊢
  subst h1; subst hi
  refine br (fun q => ?_) fun q => ?_
  · simp only [decide_eq_true_eq] at q
    obtain ⟨x, hd, htk, hx⟩ := drop_cons (l := l) (k := t) (by omega)
    obtain ⟨A, e, g, g0, g1, g2, g3⟩ := pr_fld h (i := t) hx
    subst e
    have hs : sortP (l.take (t + 1)) = insR ltI x (sortP (l.take t)) := by rw [htk]; exact isort_snoc _ _
    have hsl : (sortP (l.take t)).length = t := by rw [sortP_len, List.length_take]; omega
    have hsr : Srtd ltI (sortP (l.take t)) := isort_srtd swo_I _
    generalize sortP (l.take t) = S at *
    refine ⟨fun p H' => ∃ j : Nat, p.1.1 = pts S ∧ p.1.2.1 = (j : Int) ∧ j ≤ t ∧ (∀ y ∈ S.drop j, ltI x y = true) ∧ H' = H1, fun p _ => p.1.2.1.toNat, ⟨t, rfl, by simp [pts, hsl], by omega, by rw [List.drop_of_length_le (by omega)]; simp, rfl⟩, ?_⟩
    rintro ⟨⟨e1, j, _⟩, _⟩ H2 ⟨j, h1, hj, hjt, hgt, rfl⟩
    simp only at h1 hj ⊢
    subst h1; subst hj
    have fin : (∀ y ∈ S.take j, ltI x y = false) → List.append (List.append (List.take ((j : Int).toNat - 0) (List.drop 0 (pts S))) [[.int .i64 x.id, .int .u32 x.x, .int .u32 x.y, .string x.data]]) (List.take ((pts S).length - (j : Int).toNat) (List.drop (j : Int).toNat (pts S))) = pts (sortP (l.take (t + 1))) := fun hlo => by
      have := insR_at x (S.take j) (S.drop j) hlo hgt
      rw [List.take_append_drop] at this
      rw [hs, this]
      have e : (pts S).length - j = (List.drop j (pts S)).length := by simp
      simp only [Int.toNat_natCast, Nat.sub_zero, List.drop_zero]
      rw [e, List.take_length]
      simp [pts]
    have lens : ((pts S).length : Int) = t := by simp [pts, hsl]
    have l1 : (List.take ((j : Int).toNat - 0) (List.drop 0 (pts S))).length = j := by simp [pts, hsl]; omega
    have l2 : (List.append (List.take ((j : Int).toNat - 0) (List.drop 0 (pts S))) [[.int .i64 x.id, .int .u32 x.x, .int .u32 x.y, .string x.data]]).length = j + 1 := by
      rw [show ∀ a b : List (List Value), List.append a b = a ++ b from fun _ _ => rfl, List.length_append, l1]; rfl
    have last : (∀ y ∈ S.take j, ltI x y = false) → (0 ≤ (t : Int) ∧ (t : Int) < n) → (List.take ((j : Int).toNat - 0) (List.drop 0 (pts S))).length * 32 ≤ 140737488355328 ∧
        (List.append (List.take ((j : Int).toNat - 0) (List.drop 0 (pts S))) [[.int .i64 x.id, .int .u32 x.x, .int .u32 x.y, .string x.data]]).length * 32 ≤ 140737488355328 ∧
        (List.append (List.append (List.take ((j : Int).toNat - 0) (List.drop 0 (pts S))) [[.int .i64 x.id, .int .u32 x.x, .int .u32 x.y, .string x.data]]) (List.take ((pts S).length - (j : Int).toNat) (List.drop (j : Int).toNat (pts S)))).length * 32 ≤ 140737488355328 := fun hlo _ => by
      rw [l1, l2, fin hlo]
      have : (pts (sortP (l.take (t + 1)))).length = t + 1 := by simp [pts, sortP_len]; omega
      rw [this]; omega
    have step : (∀ y ∈ S.take j, ltI x y = false) → ∃ t', List.append (List.append (List.take ((j : Int).toNat - 0) (List.drop 0 (pts S))) [[.int .i64 x.id, .int .u32 x.x, .int .u32 x.y, .string x.data]]) (List.take ((pts S).length - (j : Int).toNat) (List.drop (j : Int).toNat (pts S))) = pts (sortP (l.take t')) ∧ IntKind.i64.wrap ((t : Int) + 1) = (t' : Int) ∧ t' ≤ n ∧ True := fun hlo => ⟨t + 1, fin hlo, by rw [w64 (by omega)]; omega, by omega, trivial⟩
    have meas : ((n : Int) - IntKind.i64.wrap ((t : Int) + 1)).toNat < ((n : Int) - t).toNat := by rw [w64 (by omega)]; omega
    refine br (fun q1 => ?_) fun q1 => ?_
    · simp only [decide_eq_true_eq] at q1
      obtain ⟨u, rfl⟩ : ∃ u, j = u + 1 := ⟨j - 1, by omega⟩
      have hy : S[u]? = some S[u] := List.getElem?_eq_getElem (by omega)
      have hw : IntKind.i64.wrap (((u + 1 : Nat) : Int) - 1) = u := by rw [w64 (by omega)]; omega
      rw [hw]
      refine ⟨⟨by omega, by omega⟩, S[u].id, ⟨ptC S[u], ?_, rfl⟩, ⟨by omega, by omega⟩, ptr rfl (ptr rfl (ptr rfl ⟨_, g0, br (fun q2 => ?_) fun q2 => ?_⟩))⟩
      · show (pts S)[(u : Int).toNat]? = _
        simp [pts, hy]
      · simp only [decide_eq_true_eq] at q2
        refine ⟨⟨u, rfl, by omega, by omega, fun y hy' => ?_, by trivial⟩, by omega⟩
        rw [List.drop_eq_getElem_cons (by omega)] at hy'
        rcases List.mem_cons.1 hy' with rfl | hy'
        · simpa using q2
        · exact hgt y hy'
      · simp only [decide_eq_false_iff_not] at q2
        have hlo : ∀ y ∈ S.take (u + 1), ltI x y = false := fun y hy' => by
          obtain ⟨i, hi, rfl⟩ := List.mem_take_iff_getElem.1 hy'
          simp only [decide_eq_false_iff_not]
          rcases Nat.lt_or_ge i u with hlt | hge
          · have := List.pairwise_iff_getElem.1 hsr i u (by omega) (by omega) hlt
            simp at this
            omega
          · have : i = u := by omega
            subst this; omega
        refine ⟨⟨by omega, by omega⟩, ⟨by omega, by omega⟩, ptr rfl (ptr rfl ⟨_, _, _, _, g, ⟨by omega, by omega⟩, (last hlo ⟨by omega, by omega⟩).1, (last hlo ⟨by omega, by omega⟩).2.1, (last hlo ⟨by omega, by omega⟩).2.2, step hlo, meas⟩)⟩
    · simp only [decide_eq_false_iff_not] at q1
      have hj0 : j = 0 := by omega
      have hlo : ∀ y ∈ S.take j, ltI x y = false := by subst hj0; simp
      exact ⟨⟨by omega, by omega⟩, ⟨by omega, by omega⟩, ptr rfl (ptr rfl ⟨_, _, _, _, g, ⟨by omega, by omega⟩, (last hlo ⟨by omega, by omega⟩).1, (last hlo ⟨by omega, by omega⟩).2.1, (last hlo ⟨by omega, by omega⟩).2.2, step hlo, meas⟩)⟩
  · simp only [decide_eq_false_iff_not] at q
    rw [List.take_of_length_le (by omega)]
    exact fun v H' a b _ d => k v H' a b d
/-- A part of a slice. -/
theorem slice_sub {H : Heap} {a : Option Addr} {n c sz lo hi : Nat} {es : List (List Value)} (h : SliceAt H (.slice a n c) sz es) (h1 : lo ≤ hi) (h2 : hi ≤ n) : SliceAt H (.slice (subAddr a c lo sz) (hi - lo) (c - lo)) sz ((es.drop lo).take (hi - lo)) := by
  obtain ⟨a', n', c', e, hl, hc, h3, h4, h5⟩ := h
  cases e
  refine ⟨_, _, _, rfl, by rw [List.length_take, List.length_drop]; omega, by omega, fun e he => h3 e (List.mem_of_mem_drop (List.mem_of_mem_take he)), fun e he => h4 e (List.mem_of_mem_drop (List.mem_of_mem_take he)), fun i e he => ?_⟩
  have hi' : i < hi - lo := by
    have := (List.getElem?_eq_some_iff.1 he).1
    rw [List.length_take] at this; omega
  rw [List.getElem?_take_of_lt hi', List.getElem?_drop] at he
  obtain ⟨A, rfl, q2, q3⟩ := h5 (lo + i) e he
  have hlc : c ≠ lo := by omega
  refine ⟨A.add (lo * sz), by simp [subAddr, hlc], by rw [add_spot q2], ?_⟩
  have : (A.add (lo * sz)).add (i * sz) = A.add ((lo + i) * sz) := by
    rw [add_spot q2, add_spot q2, add_spot rfl]
    simp [Nat.add_mul, Nat.add_assoc]
  rw [this]; exact q3
theorem slice_suf {H : Heap} {a : Option Addr} {n c sz lo : Nat} {es : List (List Value)} (h : SliceAt H (.slice a n c) sz es) (h2 : lo ≤ n) : SliceAt H (.slice (subAddr a c lo sz) (n - lo) (c - lo)) sz (es.drop lo) := by
  have hl := (slice_len h).1
  have := slice_sub h h2 (Nat.le_refl n)
  rwa [List.take_of_length_le (by rw [List.length_drop]; omega)] at this
end
end Cr

set_option linter.unusedVariables false
set_option linter.unusedSimpArgs false
namespace Cr
open Go Sx Stb
open Go.Proofs.Try
set_option maxRecDepth 100000
def h_kfix : Hints := { loops := [(4, ⟨[0, 2], [.f 5 (.int .i64), .row 3 44 4, .row 4 3 1], []⟩)] }
def nf_kby1 (i : Int) (x : Int) (y : Int) (d : ByteArray) (i' : Int) (x' : Int) (y' : Int) (d' : ByteArray) (A : Addr) (R : Ending → Heap → Prop) (H : Heap) : Prop := PtrK (some A) fun (a : Addr) ↦ ∃ (n : Int), Heap.has H a [Value.int IntKind.i64 n] ∧ Br (bitOp BinOp.and IntKind.i64 n (1 : Int) == (1 : Int)) (∃ (G : Nat → Option Obj), G ≤ H ∧ Meets prog (48 : Nat) [Value.int IntKind.u32 y, Value.int IntKind.u32 y'] H fun (e : Ending) (H' : Nat → Option Obj) ↦ Keep G H H H' ∧ ∃ (n : Int), e = Ending.returned (Value.int IntKind.i64 n) ∧ Meets prog (37 : Nat) [Value.int IntKind.i64 i, Value.int IntKind.i64 i'] (delLs H' []) fun (e : Ending) (H'_1 : Nat → Option Obj) ↦ Keep G (delLs H' []) (delLs H' []) H'_1 ∧ ∃ (n_1 : Int), e = Ending.returned (Value.int IntKind.i64 n_1) ∧ ∀ (v : Value) (H' : Nat → Option Obj), delLs H'_1 [] ≤ H' → (∀ (b : Nat), blockOf v = some b → delLs H'_1 [] b = none) → (∀ (b : Nat) (o : Obj), H' b = some o → delLs H'_1 [] b = some o ∨ blockOf v = some b) → RowAt H' v (3 : Nat) (1 : Nat) [[Value.int IntKind.i64 n], [Value.int IntKind.i64 n_1]] → Meets prog (47 : Nat) [v] H' fun (e : Ending) (H'_2 : Nat → Option Obj) ↦ Keep G (delLs H'_1 []) H' H'_2 ∧ ∃ (n : Int), e = Ending.returned (Value.int IntKind.i64 n) ∧ R (Ending.returned (Value.int IntKind.i64 n)) (delLs H'_2 [{ site := (19 : Nat), val := v, kind := LK.row (3 : Nat) (1 : Nat) }])) (∃ (G : Nat → Option Obj), G ≤ H ∧ Meets prog (48 : Nat) [Value.int IntKind.u32 x, Value.int IntKind.u32 x'] H fun (e : Ending) (H' : Nat → Option Obj) ↦ Keep G H H H' ∧ ∃ (n : Int), e = Ending.returned (Value.int IntKind.i64 n) ∧ Meets prog (37 : Nat) [Value.int IntKind.i64 i, Value.int IntKind.i64 i'] (delLs H' []) fun (e : Ending) (H'_1 : Nat → Option Obj) ↦ Keep G (delLs H' []) (delLs H' []) H'_1 ∧ ∃ (n_1 : Int), e = Ending.returned (Value.int IntKind.i64 n_1) ∧ ∀ (v : Value) (H' : Nat → Option Obj), delLs H'_1 [] ≤ H' → (∀ (b : Nat), blockOf v = some b → delLs H'_1 [] b = none) → (∀ (b : Nat) (o : Obj), H' b = some o → delLs H'_1 [] b = some o ∨ blockOf v = some b) → RowAt H' v (3 : Nat) (1 : Nat) [[Value.int IntKind.i64 n], [Value.int IntKind.i64 n_1]] → Meets prog (47 : Nat) [v] H' fun (e : Ending) (H'_2 : Nat → Option Obj) ↦ Keep G (delLs H'_1 []) H' H'_2 ∧ ∃ (n : Int), e = Ending.returned (Value.int IntKind.i64 n) ∧ R (Ending.returned (Value.int IntKind.i64 n)) (delLs H'_2 [{ site := (31 : Nat), val := v, kind := LK.row (3 : Nat) (1 : Nat) }]))
theorem vc_kby1 (i : Int) (x : Int) (y : Int) (d : ByteArray) (i' : Int) (x' : Int) (y' : Int) (d' : ByteArray) (A : Addr) (R : Ending → Heap → Prop) (H : Heap) : vcFun prog { } f46 [ptA i x y d, ptA i' x' y' d', SV.c (SC.v (Value.pointer (some A)))] R H = nf_kby1 i x y d i' x' y' d' A R H := by kernel_rfl

def nf_kby (dp : Int) (R : Ending → Heap → Prop) (H : Heap) : Prop := ∀ (b : Nat), H b = none → R (Ending.returned (Value.func (Fn.func (46 : Nat)) { toList := [] } { toList := [Value.pointer (some { block := b, off := (0 : Nat) })] })) (Heap.upd H b (Obj.cells { toList := [Value.int IntKind.i64 dp] } (3 : Nat)))
theorem vc_kby (dp : Int) (R : Ending → Heap → Prop) (H : Heap) : vcFun prog { } f34 [SV.c (SC.v (Value.int IntKind.i64 dp))] R H = nf_kby dp R H := by kernel_rfl

def nf_knew1 (i : Int) (x : Int) (y : Int) (d : ByteArray) (i' : Int) (x' : Int) (y' : Int) (d' : ByteArray) (R : Ending → Heap → Prop) (H : Heap) : Prop := R (Ending.returned (Value.bool (i == i'))) H
theorem vc_knew1 (i : Int) (x : Int) (y : Int) (d : ByteArray) (i' : Int) (x' : Int) (y' : Int) (d' : ByteArray) (R : Ending → Heap → Prop) (H : Heap) : vcFun prog { } f24 [ptA i x y d, ptA i' x' y' d'] R H = nf_knew1 i x y d i' x' y' d' R H := by kernel_rfl

def nf_knew (a : Option Addr) (n : Nat) (c : Nat) (R : Ending → Heap → Prop) (H : Heap) : Prop := Meets prog (23 : Nat) [Value.slice a n c] H fun (e : Ending) (H' : Nat → Option Obj) ↦ ∃ (a : Option Addr), ∃ (n : Nat), ∃ (c : Nat), e = Ending.returned (Value.slice a n c) ∧ Meets prog (22 : Nat) [Value.slice a n c, Value.func (Fn.func (24 : Nat)) { toList := [] } { toList := [] }] H' fun (e : Ending) (H' : Nat → Option Obj) ↦ ∃ (a : Option Addr), ∃ (n : Nat), ∃ (c : Nat), e = Ending.returned (Value.slice a n c) ∧ Meets prog (21 : Nat) [Value.slice a n c, Value.int IntKind.i64 (0 : Int)] H' fun (e : Ending) (H' : Nat → Option Obj) ↦ ∃ (a : Option Addr), e = Ending.returned (Value.pointer a) ∧ R (Ending.returned (Value.pointer a)) H'
theorem vc_knew (a : Option Addr) (n : Nat) (c : Nat) (R : Ending → Heap → Prop) (H : Heap) : vcFun prog { } f9 [SV.c (SC.v (Value.slice a n c))] R H = nf_knew a n c R H := by kernel_rfl

def nf_kis (t : Option Addr) (R : Ending → Heap → Prop) (H : Heap) : Prop := Br (!Option.isNone t) (PtrK t fun (a : Addr) ↦ PtrK (some a) fun (a : Addr) ↦ PtrK (some (Addr.add a (0 : Nat))) fun (a : Addr) ↦ ∃ (b : Bool), Heap.has H a [Value.bool b] ∧ R (Ending.returned (Value.bool b)) H) (R (Ending.returned (Value.bool false)) H)
theorem vc_kis (t : Option Addr) (R : Ending → Heap → Prop) (H : Heap) : vcFun prog { } f25 [SV.c (SC.v (Value.pointer t))] R H = nf_kis t R H := by kernel_rfl

def nf_kdep (t : Option Addr) (R : Ending → Heap → Prop) (H : Heap) : Prop := Meets prog (25 : Nat) [Value.pointer t] H fun (e : Ending) (H' : Nat → Option Obj) ↦ ∃ (b : Bool), e = Ending.returned (Value.bool b) ∧ Br (!b) (R (Ending.returned (Value.int IntKind.i64 (0 : Int))) H') (∃ (G : Nat → Option Obj), G ≤ H' ∧ PtrK t fun (a : Addr) ↦ PtrK (some a) fun (a : Addr) ↦ PtrK (some (Addr.add a (5 : Nat))) fun (a : Addr) ↦ ∃ (a_1 : Option Addr), Heap.has G a [Value.pointer a_1] ∧ PtrK t fun (a : Addr) ↦ PtrK (some a) fun (a : Addr) ↦ PtrK (some (Addr.add a (6 : Nat))) fun (a : Addr) ↦ ∃ (a_2 : Option Addr), Heap.has G a [Value.pointer a_2] ∧ Meets prog (12 : Nat) [Value.pointer a_1] H' fun (e : Ending) (H'_1 : Nat → Option Obj) ↦ Keep G H' H' H'_1 ∧ ∃ (n : Int), e = Ending.returned (Value.int IntKind.i64 n) ∧ Meets prog (12 : Nat) [Value.pointer a_2] (delLs H'_1 []) fun (e : Ending) (H' : Nat → Option Obj) ↦ Keep G (delLs H'_1 []) (delLs H'_1 []) H' ∧ ∃ (n_1 : Int), e = Ending.returned (Value.int IntKind.i64 n_1) ∧ R (Ending.returned (Value.int IntKind.i64 (IntKind.wrap IntKind.i64 ((1 : Int) + maxI n n_1)))) (delLs H' []))
theorem vc_kdep (t : Option Addr) (R : Ending → Heap → Prop) (H : Heap) : vcFun prog { } f12 [SV.c (SC.v (Value.pointer t))] R H = nf_kdep t R H := by kernel_rfl

def nf_kpart (i : Int) (x : Int) (y : Int) (d : ByteArray) (dp : Int) (R : Ending → Heap → Prop) (H : Heap) : Prop := Br (bitOp BinOp.and IntKind.i64 dp (1 : Int) == (1 : Int)) (R (Ending.returned (Value.int IntKind.u32 y)) H) (R (Ending.returned (Value.int IntKind.u32 x)) H)
theorem vc_kpart (i : Int) (x : Int) (y : Int) (d : ByteArray) (dp : Int) (R : Ending → Heap → Prop) (H : Heap) : vcFun prog { } f40 [ptA i x y d, SV.c (SC.v (Value.int IntKind.i64 dp))] R H = nf_kpart i x y d dp R H := by kernel_rfl

def nf_kfix (a : Option Addr) (n : Nat) (c : Nat) (R : Ending → Heap → Prop) (H : Heap) : Prop := a = a ∧ n = n ∧ c = c ∧ (none : Option Addr) = none ∧ (0 : Nat) = (0 : Nat) ∧ (0 : Nat) = (0 : Nat) ∧ LoopP (fun (K : (Int × List (List Value) × List (List Value) × PUnit) × PUnit → (Nat → Option Obj) → Prop) (p : (Int × List (List Value) × List (List Value) × PUnit) × PUnit) (H : Nat → Option Obj) ↦ Br (decide (p.fst.fst < (↑n : Int))) (Br (decide (p.fst.fst < (40 : Int))) (((0 : Int) ≤ p.fst.fst ∧ p.fst.fst < (↑n : Int)) ∧ PtrK a fun (A : Addr) ↦ PtrK (some (Addr.add A (Int.toNat p.fst.fst * (4 : Nat)))) fun (a_1 : Addr) ↦ PtrK (some (Addr.add a_1 (0 : Nat))) fun (a_2 : Addr) ↦ ∃ (n_1 : Int), Heap.has H a_2 [Value.int IntKind.i64 n_1] ∧ ∀ (v : Value) (H' : Nat → Option Obj), H ≤ H' → (∀ (b : Nat), blockOf v = some b → H b = none) → (∀ (b : Nat) (o : Obj), H' b = some o → H b = some o ∨ blockOf v = some b) → RowAt H' v (3 : Nat) (1 : Nat) p.fst.snd.snd.fst → Meets prog (19 : Nat) [v, Value.int IntKind.i64 n_1] H' fun (e : Ending) (H' : Nat → Option Obj) ↦ ∃ (b : Bool), e = Ending.returned (Value.bool b) ∧ ∃ (es : List (List Value)), RowAt H' v (3 : Nat) (1 : Nat) es ∧ Br (!b) (((0 : Int) ≤ p.fst.fst ∧ p.fst.fst < (↑n : Int)) ∧ PtrK a fun (A : Addr) ↦ PtrK (some (Addr.add A (Int.toNat p.fst.fst * (4 : Nat)))) fun (a_7 : Addr) ↦ ∃ (n_2 : Int), ∃ (n_3 : Int), ∃ (n_4 : Int), ∃ (s : ByteArray), Heap.has (Heap.delO H' (blockOf v)) a_7 [Value.int IntKind.i64 n_2, Value.int IntKind.u32 n_3, Value.int IntKind.u32 n_4, Value.string s] ∧ ((0 : Int) ≤ p.fst.fst ∧ p.fst.fst < (↑n : Int)) ∧ PtrK a fun (A : Addr) ↦ PtrK (some (Addr.add A (Int.toNat p.fst.fst * (4 : Nat)))) fun (a_8 : Addr) ↦ PtrK (some (Addr.add a_8 (0 : Nat))) fun (a_9 : Addr) ↦ ∃ (n_5 : Int), Heap.has (Heap.delO H' (blockOf v)) a_9 [Value.int IntKind.i64 n_5] ∧ List.length (List.append p.fst.snd.fst [[Value.int IntKind.i64 n_2, Value.int IntKind.u32 n_3, Value.int IntKind.u32 n_4, Value.string s]]) * (32 : Nat) ≤ (140737488355328 : Nat) ∧ List.length (List.append es [[Value.int IntKind.i64 n_5]]) * (8 : Nat) ≤ (140737488355328 : Nat) ∧ a = a ∧ n = n ∧ c = c ∧ (none : Option Addr) = none ∧ (0 : Nat) = (0 : Nat) ∧ (0 : Nat) = (0 : Nat) ∧ K ((IntKind.wrap IntKind.i64 (p.fst.fst + (1 : Int)), List.append p.fst.snd.fst [[Value.int IntKind.i64 n_2, Value.int IntKind.u32 n_3, Value.int IntKind.u32 n_4, Value.string s]], List.append es [[Value.int IntKind.i64 n_5]], PUnit.unit), PUnit.unit) (Heap.delO H' (blockOf v))) (a = a ∧ n = n ∧ c = c ∧ (none : Option Addr) = none ∧ (0 : Nat) = (0 : Nat) ∧ (0 : Nat) = (0 : Nat) ∧ K ((IntKind.wrap IntKind.i64 (p.fst.fst + (1 : Int)), p.fst.snd.fst, es, PUnit.unit), PUnit.unit) (Heap.delO H' (blockOf v)))) (∀ (v : Value) (H' : Nat → Option Obj), H ≤ H' → (∀ (b : Nat), blockOf v = some b → H b = none) → (∀ (b : Nat) (o : Obj), H' b = some o → H b = some o ∨ blockOf v = some b) → RowAt H' v (44 : Nat) (4 : Nat) p.fst.snd.fst → Meets prog (20 : Nat) [v] H' fun (e : Ending) (H' : Nat → Option Obj) ↦ ∃ (a : Option Addr), ∃ (n : Nat), ∃ (c : Nat), e = Ending.returned (Value.slice a n c) ∧ ∃ (es : List (List Value)), RowAt H' v (44 : Nat) (4 : Nat) es ∧ R (Ending.returned (Value.slice a n c)) (Heap.delO H' (blockOf v)))) (∀ (v : Value) (H' : Nat → Option Obj), H ≤ H' → (∀ (b : Nat), blockOf v = some b → H b = none) → (∀ (b : Nat) (o : Obj), H' b = some o → H b = some o ∨ blockOf v = some b) → RowAt H' v (44 : Nat) (4 : Nat) p.fst.snd.fst → Meets prog (20 : Nat) [v] H' fun (e : Ending) (H' : Nat → Option Obj) ↦ ∃ (a : Option Addr), ∃ (n : Nat), ∃ (c : Nat), e = Ending.returned (Value.slice a n c) ∧ ∃ (es : List (List Value)), RowAt H' v (44 : Nat) (4 : Nat) es ∧ R (Ending.returned (Value.slice a n c)) (Heap.delO H' (blockOf v)))) (((0 : Int), [], [], PUnit.unit), PUnit.unit) H
theorem vc_kfix (a : Option Addr) (n : Nat) (c : Nat) (R : Ending → Heap → Prop) (H : Heap) : vcFun prog h_kfix f8 [SV.c (SC.v (Value.slice a n c))] R H = nf_kfix a n c R H := by kernel_rfl

end Cr

set_option linter.unusedVariables false
set_option linter.unusedSimpArgs false
namespace Cr
open Go Sx Stb
open Go.Proofs.Try
set_option maxRecDepth 100000
def nf_kgrow (a : Option Addr) (n : Nat) (c : Nat) (dp : Int) (R : Ending → Heap → Prop) (H : Heap) : Prop := Br ((↑n : Int) == (0 : Int)) (R (Ending.returned (Value.pointer none)) H) (Meets prog (32 : Nat) [Value.slice a n c] H fun (e : Ending) (H' : Nat → Option Obj) ↦ ∃ (a : Option Addr), ∃ (n : Nat), ∃ (c : Nat), e = Ending.returned (Value.slice a n c) ∧ Meets prog (34 : Nat) [Value.int IntKind.i64 dp] H' fun (e : Ending) (H' : Nat → Option Obj) ↦ ∃ (f : Value), one f = true ∧ e = Ending.returned f ∧ Meets prog (33 : Nat) [Value.slice a n c, f] H' fun (e : Ending) (H' : Nat → Option Obj) ↦ e = Ending.returned (Value.tuple { toList := [] }) ∧ (2 : Int) ≠ (0 : Int) ∧ ∃ (G : Nat → Option Obj), G ≤ H' ∧ ((0 : Int) ≤ IntKind.wrap IntKind.i64 (Int.tdiv (↑n : Int) (2 : Int)) ∧ IntKind.wrap IntKind.i64 (Int.tdiv (↑n : Int) (2 : Int)) < (↑n : Int)) ∧ PtrK a fun (A : Addr) ↦ PtrK (some (Addr.add A (Int.toNat (IntKind.wrap IntKind.i64 (Int.tdiv (↑n : Int) (2 : Int))) * (4 : Nat)))) fun (a_1 : Addr) ↦ ∃ (n_1 : Int), ∃ (n_2 : Int), ∃ (n_3 : Int), ∃ (s : ByteArray), Heap.has G a_1 [Value.int IntKind.i64 n_1, Value.int IntKind.u32 n_2, Value.int IntKind.u32 n_3, Value.string s] ∧ ((0 : Int) ≤ IntKind.wrap IntKind.i64 (Int.tdiv (↑n : Int) (2 : Int)) ∧ IntKind.wrap IntKind.i64 (Int.tdiv (↑n : Int) (2 : Int)) ≤ (↑c : Int)) ∧ ((0 : Int) ≤ IntKind.wrap IntKind.i64 (IntKind.wrap IntKind.i64 (Int.tdiv (↑n : Int) (2 : Int)) + (1 : Int)) ∧ IntKind.wrap IntKind.i64 (IntKind.wrap IntKind.i64 (Int.tdiv (↑n : Int) (2 : Int)) + (1 : Int)) ≤ (↑n : Int)) ∧ Meets prog (21 : Nat) [Value.slice (subAddr a c (0 : Nat) (4 : Nat)) (Int.toNat (IntKind.wrap IntKind.i64 (Int.tdiv (↑n : Int) (2 : Int))) - (0 : Nat)) (c - (0 : Nat)), Value.int IntKind.i64 (IntKind.wrap IntKind.i64 (dp + (1 : Int)))] H' fun (e : Ending) (H'_1 : Nat → Option Obj) ↦ Keep G H' H' H'_1 ∧ ∃ (a_2 : Option Addr), e = Ending.returned (Value.pointer a_2) ∧ Meets prog (21 : Nat) [Value.slice (subAddr a c (Int.toNat (IntKind.wrap IntKind.i64 (IntKind.wrap IntKind.i64 (Int.tdiv (↑n : Int) (2 : Int)) + (1 : Int)))) (4 : Nat)) (n - Int.toNat (IntKind.wrap IntKind.i64 (IntKind.wrap IntKind.i64 (Int.tdiv (↑n : Int) (2 : Int)) + (1 : Int)))) (c - Int.toNat (IntKind.wrap IntKind.i64 (IntKind.wrap IntKind.i64 (Int.tdiv (↑n : Int) (2 : Int)) + (1 : Int)))), Value.int IntKind.i64 (IntKind.wrap IntKind.i64 (dp + (1 : Int)))] (delLs H'_1 []) fun (e : Ending) (H' : Nat → Option Obj) ↦ Keep G (delLs H'_1 []) (delLs H'_1 []) H' ∧ ∃ (a : Option Addr), e = Ending.returned (Value.pointer a) ∧ ∀ (b : Nat), delLs H' [] b = none → R (Ending.returned (Value.pointer (some { block := b, off := (0 : Nat) }))) (Heap.upd (delLs H' []) b (Obj.cells { toList := [Value.bool true, Value.int IntKind.i64 n_1, Value.int IntKind.u32 n_2, Value.int IntKind.u32 n_3, Value.string s, Value.pointer a_2, Value.pointer a] } (46 : Nat))))
theorem vc_kgrow (a : Option Addr) (n : Nat) (c : Nat) (dp : Int) (R : Ending → Heap → Prop) (H : Heap) : vcFun prog { } f21 [SV.c (SC.v (Value.slice a n c)), SV.c (SC.v (Value.int IntKind.i64 dp))] R H = nf_kgrow a n c dp R H := by kernel_rfl

def nf_kal44 (R : Ending → Heap → Prop) (H : Heap) : Prop := ∀ (v : Value) (H' : Nat → Option Obj), H ≤ H' → (∀ (b : Nat), blockOf v = some b → H b = none) → (∀ (b : Nat) (o : Obj), H' b = some o → H b = some o ∨ blockOf v = some b) → RowAt H' v (44 : Nat) (4 : Nat) [[Value.int IntKind.i64 (5 : Int), Value.int IntKind.u32 (0 : Int), Value.int IntKind.u32 (0 : Int), Value.string { data := #[] }]] → Meets prog (9 : Nat) [v] H' fun (e : Ending) (H' : Nat → Option Obj) ↦ ∃ (a : Option Addr), e = Ending.returned (Value.pointer a) ∧ ∃ (es : List (List Value)), RowAt H' v (44 : Nat) (4 : Nat) es ∧ Meets prog (12 : Nat) [Value.pointer a] (Heap.delO H' (blockOf v)) fun (e : Ending) (H' : Nat → Option Obj) ↦ ∃ (n : Int), e = Ending.returned (Value.int IntKind.i64 n) ∧ Br (n == (1 : Int)) (Meets prog (11 : Nat) [Value.pointer a] H' fun (e : Ending) (H' : Nat → Option Obj) ↦ ∃ (a : Option Addr), ∃ (n : Nat), ∃ (c : Nat), e = Ending.returned (Value.slice a n c) ∧ ∀ (v : Value) (H'_1 : Nat → Option Obj), H' ≤ H'_1 → (∀ (b : Nat), blockOf v = some b → H' b = none) → (∀ (b : Nat) (o : Obj), H'_1 b = some o → H' b = some o ∨ blockOf v = some b) → RowAt H'_1 v (3 : Nat) (1 : Nat) [[Value.int IntKind.i64 (5 : Int)]] → Meets prog (10 : Nat) [Value.slice a n c, v] H'_1 fun (e : Ending) (H' : Nat → Option Obj) ↦ ∃ (b : Bool), e = Ending.returned (Value.bool b) ∧ ∃ (es : List (List Value)), RowAt H' v (3 : Nat) (1 : Nat) es ∧ R (Ending.returned (Value.bool b)) (Heap.delO H' (blockOf v))) (R (Ending.returned (Value.bool false)) H')
theorem vc_kal44 (R : Ending → Heap → Prop) (H : Heap) : vcFun prog { } f6 [] R H = nf_kal44 R H := by kernel_rfl

end Cr

set_option linter.unusedVariables false
set_option linter.unusedSimpArgs false
namespace Sx
open Go Go.Proofs Go.Shelf Go.RowKit Go.Lib Go.Sort
section
variable {P : Program} {ρ : Ren} {α : Type} [Inhabited α]
/-- A comparing closure over structs, where what it holds is known. -/
def CmpC (P : Program) (g : Nat) (cb : Array Value) (enc : α → List Value) (cf : α → α → Int) (G : Heap) : Prop :=
  ∀ (x y : α) (H : Heap) (R : Ending → Heap → Prop), G ≤ H → R (.returned (.int .i64 (cf x y))) H → Meets P g ([.agg (enc x).toArray, .agg (enc y).toArray] ++ cb.toList) H R
theorem meets_sortFuncC (L : SlLaysF0.n6 P ρ) {k : Nat} (aE : ∀ w, (isAgg (ρ.t 24)).run P w = .ok true w) (zE : ∀ w, (Go.sizeOf (ρ.t 24)).run P w = .ok k w) {enc : α → List Value} (hk : ∀ x, (enc x).length = k)
    (h1 : ∀ x, ∀ v ∈ enc x, one v = true) {cf : α → α → Int} (hO : SWO (ltOf cf)) {g : Nat} {cb : Array Value} {G : Heap} (hg : callable P g = true) (hsf : callable P (ρ.f 6) = true) (hc : CmpC P g cb enc cf G)
    {H : Heap} {R : Ending → Heap → Prop} {v : Value} {ty : Nat} {l : List α} (h : RowAt H v ty k (l.map enc)) (hG : G ≤ H) (hGb : ∀ b, blockOf v = some b → G b = none) (hl : l.length < 4611686018427387904)
    (K : ∀ (d : List α) (H' : Heap), d.Perm l → d.Pairwise (fun x y => ltOf cf y x = false) → RowAt H' v ty k (d.map enc) → Mod v H H' → R (.returned (.tuple #[])) H') :
    Meets P (ρ.f 6) [v, .func (.func g) #[] cb] H R := by
  refine ⟨hsf, fun w hw => ?_⟩
  rcases h with ⟨rfl, he⟩ | ⟨b, o, cap, c, rfl, hb, hcap, hsz, hes, hfl, hon⟩
  · have hl0 : l = [] := by cases l with | nil => rfl | cons _ _ => simp at he
    subst hl0
    refine (AnyF.slices_SortFunc_none L none 0 (.func (.func g) #[] cb) w).mono ?_
    rintro e w' ⟨rfl, rfl⟩
    exact ⟨H, ⟨hw, rfl, Tp.refl _, rfl, Nat.le_refl _, fun _ _ _ => rfl, fun _ _ e => e⟩, K [] H (List.Perm.refl _) List.Pairwise.nil (.inl ⟨rfl, rfl⟩) (Mod.refl _ _)⟩
  · have hH : HoldsK enc k w b o l.toArray := by
      refine holds_row (es := l.map enc) hw hb hcap hsz hes hfl id (flatK enc k l.toArray) ?_ (by simp)
      have := flatK_list hk l.toArray
      rw [this]; simp
    have hblk : b < w.heap.size := (Array.getElem?_eq_some_iff.1 (hw b _ hb)).1
    have hone : ∀ x, ∀ v ∈ enc x, v.oneCell' = true := fun x v hv => by
      have := h1 x v hv
      cases v <;> first | rfl | cases this
    have put : ∀ (d : Array α) (n : Nat) (os : Array Obj), d.size = l.length → _ := fun d n os hdl =>
      put_row (es := l.map enc) (es' := d.toList.map enc) hw hb hcap hsz id (flatK enc k d) [] (flatK_list hk d) (by simp [hdl]) (by simp [hdl])
        (by intro x hx; simp at hx; obtain ⟨y, _, rfl⟩ := hx; exact hk y) (by intro x hx y hy; simp at hx; obtain ⟨z, _, rfl⟩ := hx; exact h1 z y hy) n os
    have lays : CmpLays P g cb enc k cf b o l.toArray.size w := by
      intro m os dk hs x y
      obtain ⟨H', st, _, hm⟩ := put dk m os (by simpa using hs)
      have hGf : G ≤ full (sortWorldK enc k w b o m dk os) := fun b' ob e => by
        refine st.sub b' ob ?_
        rw [hm b' ?_]
        · exact hG b' ob e
        · intro e2
          have := hGb b' (by simpa [blockOf] using e2)
          rw [this] at e; cases e
      have h := (hc x y (full (sortWorldK enc k w b o m dk os)) (fun e H' => e = .returned (.int .i64 (cf x y)) ∧ H' = full (sortWorldK enc k w b o m dk os)) hGf ⟨rfl, rfl⟩).2 _ (fun b o e => e)
      have ea : (#[Value.agg (enc x).toArray, .agg (enc y).toArray] ++ cb : Array Value) = ([Value.agg (enc x).toArray, .agg (enc y).toArray] ++ cb.toList).toArray := by simp
      rw [ea]
      refine h.mono ?_
      rintro e w' ⟨H', st, rfl, rfl⟩
      exact ⟨rfl, grow_of st⟩
    have h := AnyQ.slices_SortFunc L k aE zE enc hk hone cf hO g cb b o cap l.toArray w (callable_enters hg) lays hH hblk (by simpa using hl)
    have ea : (#[.slice (some ⟨b, o, none⟩) l.toArray.size cap, .func (.func g) #[] cb] : Array Value) = [Value.slice (some ⟨b, o, none⟩) (l.map enc).length cap, .func (.func g) #[] cb].toArray := by simp
    rw [ea] at h
    refine h.mono ?_
    rintro e w' ⟨rfl, d, n, os, hp, hso, rfl⟩
    obtain ⟨hds, _, hperm⟩ := hp
    have e1 : (d.extract 0 l.toArray.size).toList = d.toList := by rw [← hds]; simp
    have e2 : (l.toArray.extract 0 l.toArray.size).toList = l := by simp
    rw [e1, e2] at hperm
    have hdl : d.size = l.length := by simpa using hds
    obtain ⟨H', st, hr, hm⟩ := put d n os hdl
    have el : (d.toList.map enc).length = (l.map enc).length := by simp [hdl]
    rw [el] at hr hm
    refine ⟨H', st, K d.toList H' hperm ?_ hr hm⟩
    rw [List.pairwise_iff_getElem]
    intro i j hi hj hij
    have := hso i j (Nat.zero_le _) hij (by simpa [hdl] using hj)
    rw [getElem!_pos d j (by simpa using hj), getElem!_pos d i (by simpa using hi)] at this
    simpa using this
end
end Sx

set_option linter.unusedVariables false
set_option linter.unusedSimpArgs false
namespace Cr
open Go Sx Go.Proofs Go.Sort
open Go.Proofs.Try
set_option maxRecDepth 100000
def nf_nanw (x : Int) (R : Ending → Heap → Prop) (H : Heap) : Prop := R (Ending.returned (Value.bool (x != x))) H
theorem vc_nanw (x : Int) (R : Ending → Heap → Prop) (H : Heap) : vcFun prog { } f66 [SV.c (SC.v (Value.int IntKind.u32 x))] R H = nf_nanw x R H := by kernel_rfl

def nf_cmpw (x : Int) (y : Int) (R : Ending → Heap → Prop) (H : Heap) : Prop := Meets prog (66 : Nat) [Value.int IntKind.u32 x] H fun (e : Ending) (H' : Nat → Option Obj) ↦ ∃ (b : Bool), e = Ending.returned (Value.bool b) ∧ Meets prog (66 : Nat) [Value.int IntKind.u32 y] H' fun (e : Ending) (H' : Nat → Option Obj) ↦ ∃ (b_1 : Bool), e = Ending.returned (Value.bool b_1) ∧ Br b (Br b_1 (R (Ending.returned (Value.int IntKind.i64 (0 : Int))) H') (R (Ending.returned (Value.int IntKind.i64 (-1 : Int))) H')) (Br b_1 (R (Ending.returned (Value.int IntKind.i64 (1 : Int))) H') (Br (decide (x < y)) (R (Ending.returned (Value.int IntKind.i64 (-1 : Int))) H') (Br (decide (x > y)) (R (Ending.returned (Value.int IntKind.i64 (1 : Int))) H') (R (Ending.returned (Value.int IntKind.i64 (0 : Int))) H'))))
theorem vc_cmpw (x : Int) (y : Int) (R : Ending → Heap → Prop) (H : Heap) : vcFun prog { } f48 [SV.c (SC.v (Value.int IntKind.u32 x)), SV.c (SC.v (Value.int IntKind.u32 y))] R H = nf_cmpw x y R H := by kernel_rfl

/-- The coordinate that a depth looks at. -/
def odd (dp : Int) : Bool := bitOp .and .i64 dp 1 == 1
def coK (dp : Int) (p : Pt) : Int := if odd dp then p.y else p.x
def cfK (dp : Int) (p q : Pt) : Int := orL [sgn3 (coK dp p) (coK dp q), sgn3 p.id q.id]
theorem ltK {dp : Int} {p q : Pt} : ltOf (cfK dp) p q = decide (coK dp p < coK dp q ∨ (coK dp p = coK dp q ∧ p.id < q.id)) := by
  unfold ltOf
  congr 1
  unfold cfK orL orL orL sgn3
  apply propext
  repeat' split
  all_goals omega
theorem swoK (dp : Int) : SWO (ltOf (cfK dp)) where
  irrefl x := by rw [ltK]; simp
  trans x y z h1 h2 := by rw [ltK, decide_eq_true_eq] at *; omega
  ntrans x y z h1 h2 := by rw [ltK, decide_eq_false_iff_not] at *; omega
section
variable {H : Heap} {R : Ending → Heap → Prop}
theorem s_nanw {x : Int} (k : R (.returned (.bool false)) H) : Meets prog 66 [.int .u32 x] H R := by
  refine spec_of func66 (by kernel_rfl) (fun t h => by cases h) ?_ (vc_nanw x R H) ?_
  · simp [argsR, SV.rep, SC.rep, Sx.one]
  unfold nf_nanw
  rw [bne_self_eq_false]
  exact k
theorem s_cmpw {x y : Int} (k : R (.returned (vi (sgn3 x y))) H) : Meets prog 48 [.int .u32 x, .int .u32 y] H R := by
  refine spec_of func48 (by kernel_rfl) (fun t h => by cases h) ?_ (vc_cmpw x y R H) ?_
  · simp [argsR, SV.rep, SC.rep, Sx.one]
  unfold nf_cmpw
  refine s_nanw ⟨false, rfl, s_nanw ⟨false, rfl, br (fun q => by cases q) fun _ => br (fun q => by cases q) fun _ => ?_⟩⟩
  exact sgn3_br (Q := fun n => R (.returned (vi n)) H) k
theorem cmpC_by {dp : Int} {A : Addr} {G : Heap} (hG : G.has A [vi dp]) : CmpC prog 46 #[.pointer (some A)] ptC (cfK dp) G := by
  intro p q H R hle k
  refine spec_of func46 (by kernel_rfl) (fun t h => by cases h) ?_ (vc_kby1 p.id p.x p.y p.data q.id q.x q.y q.data A R H) ?_
  · simp [argsR, SV.rep, SC.rep, Sx.one, SegsRep]
  unfold nf_kby1
  refine ptr rfl ⟨dp, fun j x hj => ?_, br (fun o => ?_) fun o => ?_⟩
  · exact has_le hG hle j x hj
  all_goals
    refine ⟨H, fun _ _ e => e, s_cmpw ⟨keep_same _ _ _, _, rfl, s_cmpi ⟨keep_same _ _ _, _, rfl, fun v H' hle hf hb hrow => ?_⟩⟩⟩
    simp only [delLs_nil] at hle hf hb ⊢
  · refine s_cor (l := [sgn3 p.y q.y, sgn3 p.id q.id]) (row_slice hrow) (by simp) ⟨keep_same _ _ _, _, rfl, ?_⟩
    show R _ (Heap.delO H' (blockOf v))
    rw [lend_off hle hf hb]
    unfold cfK coK odd at k
    rw [o] at k
    exact k
  · refine s_cor (l := [sgn3 p.x q.x, sgn3 p.id q.id]) (row_slice hrow) (by simp) ⟨keep_same _ _ _, _, rfl, ?_⟩
    show R _ (Heap.delO H' (blockOf v))
    rw [lend_off hle hf hb]
    unfold cfK coK odd at k
    rw [show (bitOp BinOp.and IntKind.i64 dp 1 == 1) = false by simpa using o] at k
    exact k
end
end Cr

set_option linter.unusedVariables false
set_option linter.unusedSimpArgs false
namespace Cr
open Go Sx Go.Proofs Go.Sort
open Go.Proofs.Try
set_option maxRecDepth 100000
inductive KT | nil | node (p : Pt) (l r : KT)
abbrev nodeC (p : Pt) (a b : Option Addr) : List Value := [.bool true, vi p.id, .int .u32 p.x, .int .u32 p.y, .string p.data, .pointer a, .pointer b]
def KAt (H : Heap) : KT → Option Addr → Prop
  | .nil, t => t = none
  | .node p l r, t => ∃ A a b, t = some A ∧ H.has A (nodeC p a b) ∧ KAt H l a ∧ KAt H r b
def KT.dep : KT → Nat
  | .nil => 0
  | .node _ l r => 1 + max l.dep r.dep
def KT.some : KT → Bool
  | .nil => false
  | .node .. => true
def KT.pre : KT → List Int
  | .nil => []
  | .node p l r => p.id :: (l.pre ++ r.pre)
theorem kAt_le {H H' : Heap} (h : H ≤ H') : ∀ {T : KT} {t : Option Addr}, KAt H T t → KAt H' T t
  | .nil, _, e => e
  | .node _ _ _, _, ⟨A, a, b, e, g, h1, h2⟩ => ⟨A, a, b, e, has_le g h, kAt_le h h1, kAt_le h h2⟩
theorem has_at {H : Heap} {A : Addr} {l : List Value} (h : H.has A l) {k : Nat} {x : Value} (e : l[k]? = some x) : H.has (A.add k) [x] := by
  intro j y hj
  have hj0 : j = 0 := by have := (List.getElem?_eq_some_iff.1 hj).1; simp at this; omega
  subst hj0
  have e1 : (A.add k).add 0 = A.add k := by cases A with | mk b o s => cases s <;> rfl
  rw [e1]
  cases hj
  exact h k x e
section
variable {H : Heap} {R : Ending → Heap → Prop}
theorem s_kis {T : KT} {t : Option Addr} (h : KAt H T t) (k : R (.returned (.bool T.some)) H) : Meets prog 25 [.pointer t] H R := by
  refine spec_of func25 (by kernel_rfl) (fun t h => by cases h) ?_ (vc_kis t R H) ?_
  · simp [argsR, SV.rep, SC.rep, Sx.one]
  unfold nf_kis
  cases T with
  | nil =>
    obtain rfl : t = none := h
    exact br (fun q => by simp at q) fun _ => k
  | node p l r =>
    obtain ⟨A, a, b, rfl, g, _, _⟩ := h
    exact br (fun _ => ptr rfl (ptr rfl (ptr rfl ⟨true, has_at g rfl, k⟩))) fun q => by simp at q
theorem s_kdep : ∀ (T : KT) {H : Heap} {R : Ending → Heap → Prop} {t : Option Addr}, KAt H T t → T.dep ≤ 1000000 → R (.returned (vi T.dep)) H → Meets prog 12 [.pointer t] H R
  | .nil, H, R, t, h, hd, k => by
    refine spec_of func12 (by kernel_rfl) (fun t h => by cases h) ?_ (vc_kdep t R H) ?_
    · simp [argsR, SV.rep, SC.rep, Sx.one]
    unfold nf_kdep
    exact s_kis h ⟨_, rfl, br (fun _ => k) fun q => by simp [KT.some] at q⟩
  | .node p l r, H, R, t, h, hd, k => by
    have h0 := h
    obtain ⟨A, a, b, rfl, g, h1, h2⟩ := h
    have hd : 1 + max l.dep r.dep ≤ 1000000 := hd
    refine spec_of func12 (by kernel_rfl) (fun t h => by cases h) ?_ (vc_kdep (some A) R H) ?_
    · simp [argsR, SV.rep, SC.rep, Sx.one]
    unfold nf_kdep
    refine s_kis h0 ⟨_, rfl, br (fun q => by simp [KT.some] at q) fun _ => ⟨H, fun _ _ e => e, ptr rfl (ptr rfl (ptr rfl ⟨a, has_at g rfl, ptr rfl (ptr rfl (ptr rfl ⟨b, has_at g rfl, ?_⟩))⟩))⟩⟩
    refine s_kdep l h1 (by omega) ⟨keep_same _ _ _, _, rfl, ?_⟩
    simp only [delLs_nil]
    refine s_kdep r h2 (by omega) ⟨keep_same _ _ _, _, rfl, ?_⟩
    have e : IntKind.wrap .i64 (1 + maxI (l.dep : Int) (r.dep : Int)) = ((KT.node p l r).dep : Int) := by
      rw [wi64 (by unfold maxI; split <;> omega)]
      unfold maxI
      simp only [KT.dep]
      split <;> omega
    rw [e]
    exact k
end
end Cr

set_option linter.unusedVariables false
set_option linter.unusedSimpArgs false
namespace Cr
open Go Sx Go.Proofs Go.Sort
open Go.Proofs.Try
set_option maxRecDepth 100000
/-- A tree of some points, halved at a depth and below. -/
inductive Grow : Int → List Pt → KT → Prop
  | nil {dp : Int} : Grow dp [] .nil
  | node {dp : Int} {l s : List Pt} {p : Pt} {a b : KT} : s.Perm l → s.Pairwise (fun x y => ltOf (cfK dp) y x = false) → s[s.length / 2]? = some p →
      Grow (dp + 1) (s.take (s.length / 2)) a → Grow (dp + 1) (s.drop (s.length / 2 + 1)) b → Grow dp l (.node p a b)
theorem new_has {H : Heap} {b ty : Nat} {cs : List Value} : (H.upd b (.cells cs.toArray ty (0, 0))).has ⟨b, 0, none⟩ cs := by
  intro j x hj
  by_cases e : j = 0
  · subst e; simpa [Heap.cell?, Addr.add, upd_same] using hj
  · simpa [Heap.cell?, Addr.add, upd_same, e] using hj
/-- What is new in a memory. -/
def offH (H H' : Heap) : Heap := fun b => match H b with | none => H' b | some _ => none
theorem off_some {H H' : Heap} {b : Nat} {o : Obj} : offH H H' b = some o ↔ H b = none ∧ H' b = some o := by
  unfold offH
  cases H b <;> simp
theorem off_le {H H' : Heap} : offH H H' ≤ H' := fun b o e => (off_some.1 e).2
theorem off_mono {H H' A A' : Heap} (h : H ≤ A) (h' : A' ≤ H') : offH A A' ≤ offH H H' := fun b o e => by
  obtain ⟨h1, h2⟩ := off_some.1 e
  refine off_some.2 ⟨?_, h' b o h2⟩
  cases q : H b with
  | none => rfl
  | some x => rw [h b x q] at h1; cases h1
theorem off_del {H H' : Heap} {o : Option Nat} (h : ∀ b, o = some b → H b ≠ none) : offH H H' ≤ H'.delO o := fun b x e => by
  obtain ⟨h1, h2⟩ := off_some.1 e
  cases o with
  | none => exact h2
  | some z => show (if b = z then none else H' b) = some x; rw [if_neg (fun q => h z rfl (by rw [← q]; exact h1))]; exact h2
theorem off_new {H H' : Heap} {b ty : Nat} {cs : List Value} (h : H b = none) : (offH H (H'.upd b (.cells cs.toArray ty (0, 0)))).has ⟨b, 0, none⟩ cs := by
  intro j x hj
  have := new_has (H := H') (b := b) (ty := ty) j x hj
  unfold Heap.cell? at this ⊢
  have e : (({ block := b, off := 0, spot := none } : Addr).add j).block = b := by unfold Addr.add; split <;> (try split) <;> rfl
  rw [e] at this ⊢
  have e2 : offH H (H'.upd b (.cells cs.toArray ty (0, 0))) b = (H'.upd b (.cells cs.toArray ty (0, 0))) b := by unfold offH; rw [h]
  rw [e2]
  exact this
section
variable {H : Heap} {R : Ending → Heap → Prop}
theorem s_kby {dp : Int} (k : ∀ A H', H ≤ H' → H A.block = none → H'.has A [vi dp] → R (.returned (.func (.func 46) #[] #[.pointer (some A)])) H') : Meets prog 34 [vi dp] H R := by
  refine spec_of func34 (by kernel_rfl) (fun t h => by cases h) ?_ (vc_kby dp R H) ?_
  · simp [argsR, SV.rep, SC.rep, Sx.one]
  unfold nf_kby
  intro b hb
  exact k ⟨b, 0, none⟩ _ (upd_le hb) hb new_has
theorem s_kgrow : ∀ (N : Nat) {l : List Pt} {dp : Int} {H : Heap} {R : Ending → Heap → Prop} {v : Value}, l.length ≤ N → SliceAt H v 4 (pts l) → l.length ≤ 100000 → 0 ≤ dp → dp + N ≤ 1000000 →
    (∀ T t H', Grow dp l T → KAt (offH H H') T t → H ≤ H' → R (.returned (.pointer t)) H') → Meets prog 21 [v, vi dp] H R := by
  intro N
  induction N with
  | zero =>
    intro l dp H R v hN h hl h0 hd k
    obtain ⟨a, n, c, e, hn⟩ := h
    subst e
    have hln : l.length = n := by simpa using hn.1
    obtain rfl := List.eq_nil_of_length_eq_zero (show l.length = 0 by omega)
    refine spec_of func21 (by kernel_rfl) (fun t h => by cases h) ?_ (vc_kgrow a n c dp R H) ?_
    · simp [argsR, SV.rep, SC.rep, Sx.one]
    unfold nf_kgrow
    exact br (fun _ => k .nil none H .nil rfl fun _ _ e => e) fun q => by simp at q hln; omega
  | succ N ih =>
    intro l dp H R v hN h hl h0 hd k
    obtain ⟨a, n, c, e, hn⟩ := h
    subst e
    have h : SliceAt H (.slice a n c) 4 (pts l) := ⟨a, n, c, rfl, hn⟩
    have hln : l.length = n := by simpa using hn.1
    refine spec_of func21 (by kernel_rfl) (fun t h => by cases h) ?_ (vc_kgrow a n c dp R H) ?_
    · simp [argsR, SV.rep, SC.rep, Sx.one]
    unfold nf_kgrow
    refine br (fun q => ?_) fun q => ?_
    · obtain rfl := List.eq_nil_of_length_eq_zero (show l.length = 0 by simp at q; omega)
      exact k .nil none H .nil rfl fun _ _ e => e
    have hpos : 0 < l.length := by simp at q; omega
    refine s_clone h (by omega) fun v1 H1 hle1 hf1 hrow1 => ?_
    obtain ⟨a1, c1, rfl⟩ := row_val hrow1
    refine ⟨a1, _, c1, rfl, s_kby fun A H2 hle2 hA hg => ⟨_, rfl, rfl, ?_⟩⟩
    have hG : (fun b => if b = A.block then H2 b else none : Heap) ≤ H2 := fun b o e => by
      simp only at e
      split at e
      · exact e
      · cases e
    have hGA : Heap.has (fun b => if b = A.block then H2 b else none) A [vi dp] := fun j x hj => by
      have := hg j x hj
      unfold Heap.cell? at this ⊢
      have e : (A.add j).block = A.block := by unfold Addr.add; split <;> (try split) <;> rfl
      rw [e] at this ⊢
      simpa using this
    have hrow2 := row_le hrow1 (H' := H2) fun b o _ e => hle2 b o e
    refine meets_sortFuncC (enc := ptC) (cf := cfK dp) (k := 4) Go.Proofs.sortPt isAgg44 sizeOf44 (fun _ => rfl) (fun x v hv => by simp at hv; rcases hv with rfl | rfl | rfl | rfl <;> rfl) (swoK dp) (by kernel_rfl) (by kernel_rfl) (cmpC_by hGA) hrow2 hG (fun b hb => ?_) (by omega) ?_
    · show (if b = A.block then H2 b else none) = none
      rw [if_neg]
      rintro rfl
      rcases hrow1 with ⟨e, _⟩ | ⟨b', o, cap, c, e, hb', _⟩
      · rw [e] at hb; simp [blockOf] at hb
      · rw [e] at hb
        simp [blockOf] at hb
        rw [← hb, hb'] at hA
        cases hA
    intro s H3 hp hs hr3 hm
    have hle3 : H ≤ H3 := fun b o e => by
      rw [hm b fun e2 => by rw [hf1 b e2] at e; cases e]
      exact hle2 b o (hle1 b o e)
    have hsl : s.length = l.length := hp.length_eq
    have pl : (pts l).length = l.length := by simp [pts]
    have hs3 := row_slice hr3
    obtain ⟨p, hpm⟩ : ∃ p, s[l.length / 2]? = some p := ⟨_, List.getElem?_eq_getElem (by omega)⟩
    obtain ⟨B, e, g⟩ := pr_get hs3 (i := l.length / 2) hpm
    subst e
    have em : IntKind.wrap .i64 (Int.tdiv ((pts l).length : Int) 2) = ((l.length / 2 : Nat) : Int) := by
      rw [pl, show Int.tdiv (l.length : Int) 2 = ((l.length / 2 : Nat) : Int) from (Int.ofNat_tdiv l.length 2).symm]
      exact wi64 (by omega)
    have em1 : IntKind.wrap .i64 (((l.length / 2 : Nat) : Int) + 1) = ((l.length / 2 : Nat) : Int) + 1 := wi64 (by omega)
    have ed : IntKind.wrap .i64 (dp + 1) = dp + 1 := wi64 (by omega)
    rw [em, em1, ed, Int.toNat_natCast, show (((l.length / 2 : Nat) : Int) + 1).toNat = l.length / 2 + 1 by omega]
    have hc1 : (pts l).length ≤ c1 := by
      obtain ⟨_, _, _, e, _, hcc, _⟩ := hs3
      have e2 := Value.slice.inj e
      omega
    have hsa := slice_sub hs3 (lo := 0) (hi := l.length / 2) (by omega) (by omega)
    have hsb := slice_suf hs3 (lo := l.length / 2 + 1) (by omega)
    have e1 : List.take (l.length / 2 - 0) (List.drop 0 (s.map ptC)) = pts (s.take (l.length / 2)) := by simp [pts, List.map_take]
    have e2 : List.drop (l.length / 2 + 1) (s.map ptC) = pts (s.drop (l.length / 2 + 1)) := by simp [pts, List.map_drop]
    rw [e1] at hsa
    rw [e2] at hsb
    refine ⟨rfl, by decide, H3, fun _ _ e => e, ⟨by omega, by omega⟩, ptr rfl (ptr rfl ⟨_, _, _, _, g, ⟨by omega, by omega⟩, ⟨by omega, by omega⟩, ?_⟩)⟩
    refine ih (l := s.take (l.length / 2)) (by rw [List.length_take]; omega) hsa (by rw [List.length_take]; omega) (by omega) (by omega) fun T1 t1 H4 g1 k1 hle4 => ⟨fun b o h _ => hle4 b o h, t1, rfl, ?_⟩
    refine ih (l := s.drop (l.length / 2 + 1)) (by rw [List.length_drop]; omega) (slice_le hsb hle4) (by rw [List.length_drop]; omega) (by omega) (by omega) fun T2 t2 H5 g2 k2 hle5 => ⟨fun b o h _ => hle5 b o h, t2, rfl, fun b hb => ?_⟩
    have hb : H5 b = none := hb
    show R _ (H5.upd b _)
    exact k (.node p T1 T2) _ _ (.node hp hs (by rw [hsl]; exact hpm) (by rw [hsl]; exact g1) (by rw [hsl]; exact g2)) ⟨_, _, _, rfl, off_new (by
      cases q : H b with
      | none => rfl
      | some o => rw [hle5 b o (hle4 b o (hle3 b o q))] at hb; cases hb), kAt_le (off_mono hle3 (heap_trans hle5 (upd_le hb))) k1, kAt_le (off_mono (heap_trans hle3 hle4) (upd_le hb)) k2⟩ (heap_trans hle3 (heap_trans hle4 (heap_trans hle5 (upd_le hb))))
end
end Cr

set_option linter.unusedVariables false
set_option linter.unusedSimpArgs false
namespace Cr
open Go Sx Stb
open Go.Proofs.Try
set_option maxRecDepth 100000
def h_grw : Hints := { apr := [22] }
def h_cct : Hints := { apr := [33], loops := [(3, ⟨[0, 9, 10], [.f 3 (.int .i64), .f 11 (.int .i64)], []⟩), (11, ⟨[0, 25, 26], [.f 6 .slc, .f 27 (.int .i64)], []⟩)] }
def h_ord : Hints := { pub := [22] }
def h_kins : Hints := { apr := [25, 40], ovl := [71], deep := true }
def h_bsf : Hints := { loops := [(3, ⟨[0, 2, 4, 8], [.f 9 (.int .i64), .f 10 (.int .i64)], [.keep 4]⟩)] }
def nf_grw (a : Option Addr) (n : Nat) (c : Nat) (k : Int) (R : Ending → Heap → Prop) (H : Heap) : Prop := Br (decide (k < (0 : Int))) (R (Ending.panicked [{ v := Value.iface (9 : Nat) (Value.string { data := #[(99 : UInt8), (97 : UInt8), (110 : UInt8), (110 : UInt8), (111 : UInt8), (116 : UInt8), (32 : UInt8), (98 : UInt8), (101 : UInt8), (32 : UInt8), (110 : UInt8), (101 : UInt8), (103 : UInt8), (97 : UInt8), (116 : UInt8), (105 : UInt8), (118 : UInt8), (101 : UInt8)] }), recovered := false }]) H) (Br (decide (IntKind.wrap IntKind.i64 (k - IntKind.wrap IntKind.i64 ((↑c : Int) - (↑n : Int))) > (0 : Int))) (((0 : Int) ≤ (↑c : Int) ∧ (↑c : Int) ≤ (↑c : Int)) ∧ ∃ (es : List (List Value)), SliceAt H (Value.slice (subAddr a c (0 : Nat) (1 : Nat)) (Int.toNat (↑c : Int) - (0 : Nat)) (c - (0 : Nat))) (1 : Nat) es ∧ ((0 : Int) ≤ IntKind.wrap IntKind.i64 (k - IntKind.wrap IntKind.i64 ((↑c : Int) - (↑n : Int))) ∧ IntKind.wrap IntKind.i64 (k - IntKind.wrap IntKind.i64 ((↑c : Int) - (↑n : Int))) * (↑(8 : Nat) : Int) ≤ (↑(140737488355328 : Nat) : Int)) ∧ (Int.toNat (↑c : Int) - (0 : Nat) + List.length (List.replicate (Int.toNat (IntKind.wrap IntKind.i64 (k - IntKind.wrap IntKind.i64 ((↑c : Int) - (↑n : Int))))) [Value.int IntKind.i64 (0 : Int)]) ≤ c - (0 : Nat) → FillX (subAddr a c (0 : Nat) (1 : Nat)) (Int.toNat (↑c : Int) - (0 : Nat)) (1 : Nat) (List.replicate (Int.toNat (IntKind.wrap IntKind.i64 (k - IntKind.wrap IntKind.i64 ((↑c : Int) - (↑n : Int))))) [Value.int IntKind.i64 (0 : Int)]) H fun (H' : Nat → Option Obj) ↦ ((0 : Int) ≤ (↑n : Int) ∧ (↑n : Int) ≤ (↑(c - (0 : Nat)) : Int)) ∧ R (Ending.returned (Value.slice (subAddr (subAddr a c (0 : Nat) (1 : Nat)) (c - (0 : Nat)) (0 : Nat) (1 : Nat)) (Int.toNat (↑n : Int) - (0 : Nat)) (c - (0 : Nat) - (0 : Nat)))) H') ∧ (c - (0 : Nat) < Int.toNat (↑c : Int) - (0 : Nat) + List.length (List.replicate (Int.toNat (IntKind.wrap IntKind.i64 (k - IntKind.wrap IntKind.i64 ((↑c : Int) - (↑n : Int))))) [Value.int IntKind.i64 (0 : Int)]) → (Int.toNat (↑c : Int) - (0 : Nat) + List.length (List.replicate (Int.toNat (IntKind.wrap IntKind.i64 (k - IntKind.wrap IntKind.i64 ((↑c : Int) - (↑n : Int))))) [Value.int IntKind.i64 (0 : Int)])) * (8 : Nat) ≤ (140737488355328 : Nat) ∧ ∀ (b cap : Nat) (H' : Nat → Option Obj), H ≤ H' → H b = none → (∀ (x : Nat) (o : Obj), H' x = some o → H x = some o ∨ x = b) → RowAt H' (Value.slice (some { block := b, off := (0 : Nat) }) (Int.toNat (↑c : Int) - (0 : Nat) + List.length (List.replicate (Int.toNat (IntKind.wrap IntKind.i64 (k - IntKind.wrap IntKind.i64 ((↑c : Int) - (↑n : Int))))) [Value.int IntKind.i64 (0 : Int)])) cap) (3 : Nat) (1 : Nat) (List.append es (List.replicate (Int.toNat (IntKind.wrap IntKind.i64 (k - IntKind.wrap IntKind.i64 ((↑c : Int) - (↑n : Int))))) (Value.cells (Value.int IntKind.i64 (0 : Int))).toList)) → ((0 : Int) ≤ (↑n : Int) ∧ (↑n : Int) ≤ (↑cap : Int)) ∧ R (Ending.returned (Value.slice (subAddr (some { block := b, off := (0 : Nat) }) cap (0 : Nat) (1 : Nat)) (Int.toNat (↑n : Int) - (0 : Nat)) (cap - (0 : Nat)))) H')) (R (Ending.returned (Value.slice a n c)) H))
theorem vc_grw (a : Option Addr) (n : Nat) (c : Nat) (k : Int) (R : Ending → Heap → Prop) (H : Heap) : vcFun prog h_grw f38 [SV.c (SC.v (Value.slice a n c)), SV.c (SC.v (Value.int IntKind.i64 k))] R H = nf_grw a n c k R H := by kernel_rfl

def nf_cct (a : Option Addr) (n : Nat) (c : Nat) (R : Ending → Heap → Prop) (H : Heap) : Prop := a = a ∧ n = n ∧ c = c ∧ a = a ∧ n = n ∧ c = c ∧ (↑n : Int) = (↑n : Int) ∧ LoopP (fun (K : (Int × Int × PUnit) × PUnit → (Nat → Option Obj) → Prop) (p : (Int × Int × PUnit) × PUnit) (H : Nat → Option Obj) ↦ Br (decide (p.fst.snd.fst < (↑n : Int))) (((0 : Int) ≤ p.fst.snd.fst ∧ p.fst.snd.fst < (↑n : Int)) ∧ PtrK a fun (A : Addr) ↦ PtrK (some (Addr.add A (Int.toNat p.fst.snd.fst * (1 : Nat)))) fun (a_1 : Addr) ↦ ∃ (a_2 : Option Addr), ∃ (n_1 : Nat), ∃ (c_1 : Nat), Heap.has H a_1 [Value.slice a_2 n_1 c_1] ∧ Br (decide (IntKind.wrap IntKind.i64 (p.fst.fst + (↑n_1 : Int)) < (0 : Int))) (R (Ending.panicked [{ v := Value.iface (9 : Nat) (Value.string { data := #[(108 : UInt8), (101 : UInt8), (110 : UInt8), (32 : UInt8), (111 : UInt8), (117 : UInt8), (116 : UInt8), (32 : UInt8), (111 : UInt8), (102 : UInt8), (32 : UInt8), (114 : UInt8), (97 : UInt8), (110 : UInt8), (103 : UInt8), (101 : UInt8)] }), recovered := false }]) H) (a = a ∧ n = n ∧ c = c ∧ a = a ∧ n = n ∧ c = c ∧ (↑n : Int) = (↑n : Int) ∧ K ((IntKind.wrap IntKind.i64 (p.fst.fst + (↑n_1 : Int)), IntKind.wrap IntKind.i64 (p.fst.snd.fst + (1 : Int)), PUnit.unit), PUnit.unit) H)) (Meets prog (38 : Nat) [Value.slice none (0 : Nat) (0 : Nat), Value.int IntKind.i64 p.fst.fst] H fun (e : Ending) (H' : Nat → Option Obj) ↦ ∃ (a_1 : Option Addr), ∃ (n_1 : Nat), ∃ (c_1 : Nat), e = Ending.returned (Value.slice a_1 n_1 c_1) ∧ a = a ∧ n = n ∧ c = c ∧ a = a ∧ n = n ∧ c = c ∧ (↑n : Int) = (↑n : Int) ∧ LoopP (fun (K : ((Option Addr × Nat × Nat) × Int × PUnit) × PUnit → (Nat → Option Obj) → Prop) (p : ((Option Addr × Nat × Nat) × Int × PUnit) × PUnit) (H : Nat → Option Obj) ↦ Br (decide (p.fst.snd.fst < (↑n : Int))) (((0 : Int) ≤ p.fst.snd.fst ∧ p.fst.snd.fst < (↑n : Int)) ∧ PtrK a fun (A : Addr) ↦ PtrK (some (Addr.add A (Int.toNat p.fst.snd.fst * (1 : Nat)))) fun (a_2 : Addr) ↦ ∃ (a_3 : Option Addr), ∃ (n_2 : Nat), ∃ (c_2 : Nat), Heap.has H a_2 [Value.slice a_3 n_2 c_2] ∧ ∃ (es : List (List Value)), SliceAt H (Value.slice p.fst.fst.1 p.fst.fst.snd.fst p.fst.fst.snd.snd) (1 : Nat) es ∧ ∃ (es_1 : List (List Value)), SliceAt H (Value.slice a_3 n_2 c_2) (1 : Nat) es_1 ∧ (p.fst.fst.snd.fst + List.length es_1 ≤ p.fst.fst.snd.snd → FillX p.fst.fst.1 p.fst.fst.snd.fst (1 : Nat) es_1 H fun (H' : Nat → Option Obj) ↦ a = a ∧ n = n ∧ c = c ∧ a = a ∧ n = n ∧ c = c ∧ (↑n : Int) = (↑n : Int) ∧ K (((p.fst.fst.1, p.fst.fst.snd.fst + List.length es_1, p.fst.fst.snd.snd), IntKind.wrap IntKind.i64 (p.fst.snd.fst + (1 : Int)), PUnit.unit), PUnit.unit) H') ∧ (p.fst.fst.snd.snd < p.fst.fst.snd.fst + List.length es_1 → (p.fst.fst.snd.fst + List.length es_1) * (8 : Nat) ≤ (140737488355328 : Nat) ∧ ∀ (b cap : Nat) (H' : Nat → Option Obj), H ≤ H' → H b = none → (∀ (x : Nat) (o : Obj), H' x = some o → H x = some o ∨ x = b) → RowAt H' (Value.slice (some { block := b, off := (0 : Nat) }) (p.fst.fst.snd.fst + List.length es_1) cap) (3 : Nat) (1 : Nat) (List.append es es_1) → a = a ∧ n = n ∧ c = c ∧ a = a ∧ n = n ∧ c = c ∧ (↑n : Int) = (↑n : Int) ∧ K (((some { block := b, off := (0 : Nat) }, p.fst.fst.snd.fst + List.length es_1, cap), IntKind.wrap IntKind.i64 (p.fst.snd.fst + (1 : Int)), PUnit.unit), PUnit.unit) H')) (R (Ending.returned (Value.slice p.fst.fst.1 p.fst.fst.snd.fst p.fst.fst.snd.snd)) H)) (((a_1, n_1, c_1), (0 : Int), PUnit.unit), PUnit.unit) H')) (((0 : Int), (0 : Int), PUnit.unit), PUnit.unit) H
theorem vc_cct (a : Option Addr) (n : Nat) (c : Nat) (R : Ending → Heap → Prop) (H : Heap) : vcFun prog h_cct f26 [SV.c (SC.v (Value.slice a n c))] R H = nf_cct a n c R H := by kernel_rfl

def nf_kord (t : Option Addr) (R : Ending → Heap → Prop) (H : Heap) : Prop := Meets prog (25 : Nat) [Value.pointer t] H fun (e : Ending) (H' : Nat → Option Obj) ↦ ∃ (b : Bool), e = Ending.returned (Value.bool b) ∧ Br (!b) (R (Ending.returned (Value.slice none (0 : Nat) (0 : Nat))) H') (∃ (G : Nat → Option Obj), G ≤ H' ∧ PtrK t fun (a : Addr) ↦ PtrK (some a) fun (a : Addr) ↦ PtrK (some (Addr.add a (1 : Nat))) fun (a : Addr) ↦ PtrK (some (Addr.add a (0 : Nat))) fun (a : Addr) ↦ ∃ (n : Int), Heap.has G a [Value.int IntKind.i64 n] ∧ PtrK t fun (a : Addr) ↦ PtrK (some a) fun (a : Addr) ↦ PtrK (some (Addr.add a (5 : Nat))) fun (a : Addr) ↦ ∃ (a_1 : Option Addr), Heap.has G a [Value.pointer a_1] ∧ PtrK t fun (a : Addr) ↦ PtrK (some a) fun (a : Addr) ↦ PtrK (some (Addr.add a (6 : Nat))) fun (a : Addr) ↦ ∃ (a_2 : Option Addr), Heap.has G a [Value.pointer a_2] ∧ Meets prog (11 : Nat) [Value.pointer a_1] H' fun (e : Ending) (H'_1 : Nat → Option Obj) ↦ Keep G H' H' H'_1 ∧ ∃ (a : Option Addr), ∃ (n_1 : Nat), ∃ (c : Nat), e = Ending.returned (Value.slice a n_1 c) ∧ Meets prog (11 : Nat) [Value.pointer a_2] (delLs H'_1 []) fun (e : Ending) (H' : Nat → Option Obj) ↦ Keep G (delLs H'_1 []) (delLs H'_1 []) H' ∧ ∃ (a_3 : Option Addr), ∃ (n_2 : Nat), ∃ (c_1 : Nat), e = Ending.returned (Value.slice a_3 n_2 c_1) ∧ ∀ (v : Value) (H'_2 : Nat → Option Obj), delLs H' [] ≤ H'_2 → (∀ (b : Nat), blockOf v = some b → delLs H' [] b = none) → (∀ (b : Nat) (o : Obj), H'_2 b = some o → delLs H' [] b = some o ∨ blockOf v = some b) → RowAt H'_2 v (3 : Nat) (1 : Nat) [[Value.int IntKind.i64 n]] → ∀ (v_1 : Value) (H' : Nat → Option Obj), H'_2 ≤ H' → (∀ (b : Nat), blockOf v_1 = some b → H'_2 b = none) → (∀ (b : Nat) (o : Obj), H' b = some o → H'_2 b = some o ∨ blockOf v_1 = some b) → RowAt H' v_1 (24 : Nat) (1 : Nat) [[v], [Value.slice a n_1 c], [Value.slice a_3 n_2 c_1]] → Meets prog (26 : Nat) [v_1] H' fun (e : Ending) (H'_3 : Nat → Option Obj) ↦ Keep G H'_2 H' H'_3 ∧ ∃ (a : Option Addr), ∃ (n : Nat), ∃ (c : Nat), e = Ending.returned (Value.slice a n c) ∧ R (Ending.returned (Value.slice a n c)) (delLs H'_3 [{ site := (22 : Nat), val := v_1, kind := LK.row (24 : Nat) (1 : Nat) }]))
theorem vc_kord (t : Option Addr) (R : Ending → Heap → Prop) (H : Heap) : vcFun prog h_ord f11 [SV.c (SC.v (Value.pointer t))] R H = nf_kord t R H := by kernel_rfl

def nf_kgat (t : Option Addr) (x0 : Int) (y0 : Int) (x1 : Int) (y1 : Int) (dp : Int) (R : Ending → Heap → Prop) (H : Heap) : Prop := Meets prog (25 : Nat) [Value.pointer t] H fun (e : Ending) (H' : Nat → Option Obj) ↦ ∃ (b : Bool), e = Ending.returned (Value.bool b) ∧ Br (!b) (R (Ending.returned (Value.slice none (0 : Nat) (0 : Nat))) H') (∃ (G : Nat → Option Obj), G ≤ H' ∧ PtrK t fun (a : Addr) ↦ PtrK (some a) fun (a : Addr) ↦ PtrK (some (Addr.add a (1 : Nat))) fun (a : Addr) ↦ PtrK (some (Addr.add a (1 : Nat))) fun (a : Addr) ↦ ∃ (n : Int), Heap.has G a [Value.int IntKind.u32 n] ∧ PtrK t fun (a : Addr) ↦ PtrK (some a) fun (a : Addr) ↦ PtrK (some (Addr.add a (1 : Nat))) fun (a : Addr) ↦ PtrK (some (Addr.add a (2 : Nat))) fun (a : Addr) ↦ ∃ (n_1 : Int), Heap.has G a [Value.int IntKind.u32 n_1] ∧ Meets prog (39 : Nat) [Value.agg { toList := [Value.int IntKind.u32 x0, Value.int IntKind.u32 y0, Value.int IntKind.u32 x1, Value.int IntKind.u32 y1] }, Value.int IntKind.u32 n, Value.int IntKind.u32 n_1] H' fun (e : Ending) (H'_1 : Nat → Option Obj) ↦ Keep G H' H' H'_1 ∧ ∃ (b : Bool), e = Ending.returned (Value.bool b) ∧ Br b (PtrK t fun (a : Addr) ↦ PtrK (some a) fun (a : Addr) ↦ PtrK (some (Addr.add a (1 : Nat))) fun (a : Addr) ↦ ∃ (n : Int), ∃ (n_2 : Int), ∃ (n_3 : Int), ∃ (s : ByteArray), Heap.has (delLs H'_1 []) a [Value.int IntKind.i64 n, Value.int IntKind.u32 n_2, Value.int IntKind.u32 n_3, Value.string s] ∧ List.length [[Value.int IntKind.i64 n, Value.int IntKind.u32 n_2, Value.int IntKind.u32 n_3, Value.string s]] * (32 : Nat) ≤ (140737488355328 : Nat) ∧ PtrK t fun (a : Addr) ↦ PtrK (some a) fun (a : Addr) ↦ PtrK (some (Addr.add a (1 : Nat))) fun (a : Addr) ↦ ∃ (n_4 : Int), ∃ (n_5 : Int), ∃ (n_6 : Int), ∃ (s_1 : ByteArray), Heap.has (delLs H'_1 []) a [Value.int IntKind.i64 n_4, Value.int IntKind.u32 n_5, Value.int IntKind.u32 n_6, Value.string s_1] ∧ Meets prog (40 : Nat) [Value.agg { toList := [Value.int IntKind.i64 n_4, Value.int IntKind.u32 n_5, Value.int IntKind.u32 n_6, Value.string s_1] }, Value.int IntKind.i64 dp] (delLs H'_1 []) fun (e : Ending) (H' : Nat → Option Obj) ↦ ∃ (n_7 : Int), e = Ending.returned (Value.int IntKind.u32 n_7) ∧ Meets prog (40 : Nat) [Value.agg { toList := [Value.int IntKind.i64 (0 : Int), Value.int IntKind.u32 x0, Value.int IntKind.u32 y0, Value.string { data := #[] }] }, Value.int IntKind.i64 dp] H' fun (e : Ending) (H' : Nat → Option Obj) ↦ ∃ (n_8 : Int), e = Ending.returned (Value.int IntKind.u32 n_8) ∧ Br (decide (n_8 ≤ n_7)) (∃ (G : Nat → Option Obj), G ≤ H' ∧ PtrK t fun (a : Addr) ↦ PtrK (some a) fun (a : Addr) ↦ PtrK (some (Addr.add a (5 : Nat))) fun (a : Addr) ↦ ∃ (a_1 : Option Addr), Heap.has G a [Value.pointer a_1] ∧ Meets prog (27 : Nat) [Value.pointer a_1, Value.agg { toList := [Value.int IntKind.u32 x0, Value.int IntKind.u32 y0, Value.int IntKind.u32 x1, Value.int IntKind.u32 y1] }, Value.int IntKind.i64 (IntKind.wrap IntKind.i64 (dp + (1 : Int)))] H' fun (e : Ending) (H'_2 : Nat → Option Obj) ↦ Keep G H' H' H'_2 ∧ ∃ (a : Option Addr), ∃ (n_9 : Nat), ∃ (c : Nat), e = Ending.returned (Value.slice a n_9 c) ∧ ∃ (es2 : List (List Value)), SliceAt (delLs H'_2 []) (Value.slice a n_9 c) (4 : Nat) es2 ∧ List.length ([Value.int IntKind.i64 n, Value.int IntKind.u32 n_2, Value.int IntKind.u32 n_3, Value.string s] :: es2) * (32 : Nat) ≤ (140737488355328 : Nat) ∧ Meets prog (40 : Nat) [Value.agg { toList := [Value.int IntKind.i64 (0 : Int), Value.int IntKind.u32 x1, Value.int IntKind.u32 y1, Value.string { data := #[] }] }, Value.int IntKind.i64 dp] (delLs H'_2 []) fun (e : Ending) (H' : Nat → Option Obj) ↦ ∃ (n_10 : Int), e = Ending.returned (Value.int IntKind.u32 n_10) ∧ Br (decide (n_10 ≥ n_7)) (∃ (G : Nat → Option Obj), G ≤ H' ∧ PtrK t fun (a : Addr) ↦ PtrK (some a) fun (a : Addr) ↦ PtrK (some (Addr.add a (6 : Nat))) fun (a : Addr) ↦ ∃ (a_2 : Option Addr), Heap.has G a [Value.pointer a_2] ∧ Meets prog (27 : Nat) [Value.pointer a_2, Value.agg { toList := [Value.int IntKind.u32 x0, Value.int IntKind.u32 y0, Value.int IntKind.u32 x1, Value.int IntKind.u32 y1] }, Value.int IntKind.i64 (IntKind.wrap IntKind.i64 (dp + (1 : Int)))] H' fun (e : Ending) (H'_3 : Nat → Option Obj) ↦ Keep G H' H' H'_3 ∧ ∃ (a : Option Addr), ∃ (n_11 : Nat), ∃ (c : Nat), e = Ending.returned (Value.slice a n_11 c) ∧ ∃ (es2_1 : List (List Value)), SliceAt (delLs H'_3 []) (Value.slice a n_11 c) (4 : Nat) es2_1 ∧ List.length ([Value.int IntKind.i64 n, Value.int IntKind.u32 n_2, Value.int IntKind.u32 n_3, Value.string s] :: List.append es2 es2_1) * (32 : Nat) ≤ (140737488355328 : Nat) ∧ ∀ (v : Value) (H' : Nat → Option Obj), delLs H'_3 [] ≤ H' → (∀ (b : Nat), blockOf v = some b → delLs H'_3 [] b = none) → (∀ (b : Nat) (o : Obj), H' b = some o → delLs H'_3 [] b = some o ∨ blockOf v = some b) → RowAt H' v (44 : Nat) (4 : Nat) ([Value.int IntKind.i64 n, Value.int IntKind.u32 n_2, Value.int IntKind.u32 n_3, Value.string s] :: List.append es2 es2_1) → R (Ending.returned v) H') (∀ (v : Value) (H'_3 : Nat → Option Obj), H' ≤ H'_3 → (∀ (b : Nat), blockOf v = some b → H' b = none) → (∀ (b : Nat) (o : Obj), H'_3 b = some o → H' b = some o ∨ blockOf v = some b) → RowAt H'_3 v (44 : Nat) (4 : Nat) ([Value.int IntKind.i64 n, Value.int IntKind.u32 n_2, Value.int IntKind.u32 n_3, Value.string s] :: es2) → R (Ending.returned v) H'_3)) (Meets prog (40 : Nat) [Value.agg { toList := [Value.int IntKind.i64 (0 : Int), Value.int IntKind.u32 x1, Value.int IntKind.u32 y1, Value.string { data := #[] }] }, Value.int IntKind.i64 dp] H' fun (e : Ending) (H' : Nat → Option Obj) ↦ ∃ (n_9 : Int), e = Ending.returned (Value.int IntKind.u32 n_9) ∧ Br (decide (n_9 ≥ n_7)) (∃ (G : Nat → Option Obj), G ≤ H' ∧ PtrK t fun (a : Addr) ↦ PtrK (some a) fun (a : Addr) ↦ PtrK (some (Addr.add a (6 : Nat))) fun (a : Addr) ↦ ∃ (a_1 : Option Addr), Heap.has G a [Value.pointer a_1] ∧ Meets prog (27 : Nat) [Value.pointer a_1, Value.agg { toList := [Value.int IntKind.u32 x0, Value.int IntKind.u32 y0, Value.int IntKind.u32 x1, Value.int IntKind.u32 y1] }, Value.int IntKind.i64 (IntKind.wrap IntKind.i64 (dp + (1 : Int)))] H' fun (e : Ending) (H'_2 : Nat → Option Obj) ↦ Keep G H' H' H'_2 ∧ ∃ (a : Option Addr), ∃ (n_10 : Nat), ∃ (c : Nat), e = Ending.returned (Value.slice a n_10 c) ∧ ∃ (es2 : List (List Value)), SliceAt (delLs H'_2 []) (Value.slice a n_10 c) (4 : Nat) es2 ∧ List.length ([Value.int IntKind.i64 n, Value.int IntKind.u32 n_2, Value.int IntKind.u32 n_3, Value.string s] :: es2) * (32 : Nat) ≤ (140737488355328 : Nat) ∧ ∀ (v : Value) (H' : Nat → Option Obj), delLs H'_2 [] ≤ H' → (∀ (b : Nat), blockOf v = some b → delLs H'_2 [] b = none) → (∀ (b : Nat) (o : Obj), H' b = some o → delLs H'_2 [] b = some o ∨ blockOf v = some b) → RowAt H' v (44 : Nat) (4 : Nat) ([Value.int IntKind.i64 n, Value.int IntKind.u32 n_2, Value.int IntKind.u32 n_3, Value.string s] :: es2) → R (Ending.returned v) H') (∀ (v : Value) (H'_2 : Nat → Option Obj), H' ≤ H'_2 → (∀ (b : Nat), blockOf v = some b → H' b = none) → (∀ (b : Nat) (o : Obj), H'_2 b = some o → H' b = some o ∨ blockOf v = some b) → RowAt H'_2 v (44 : Nat) (4 : Nat) [[Value.int IntKind.i64 n, Value.int IntKind.u32 n_2, Value.int IntKind.u32 n_3, Value.string s]] → R (Ending.returned v) H'_2))) (PtrK t fun (a : Addr) ↦ PtrK (some a) fun (a : Addr) ↦ PtrK (some (Addr.add a (1 : Nat))) fun (a : Addr) ↦ ∃ (n : Int), ∃ (n_2 : Int), ∃ (n_3 : Int), ∃ (s : ByteArray), Heap.has (delLs H'_1 []) a [Value.int IntKind.i64 n, Value.int IntKind.u32 n_2, Value.int IntKind.u32 n_3, Value.string s] ∧ Meets prog (40 : Nat) [Value.agg { toList := [Value.int IntKind.i64 n, Value.int IntKind.u32 n_2, Value.int IntKind.u32 n_3, Value.string s] }, Value.int IntKind.i64 dp] (delLs H'_1 []) fun (e : Ending) (H' : Nat → Option Obj) ↦ ∃ (n : Int), e = Ending.returned (Value.int IntKind.u32 n) ∧ Meets prog (40 : Nat) [Value.agg { toList := [Value.int IntKind.i64 (0 : Int), Value.int IntKind.u32 x0, Value.int IntKind.u32 y0, Value.string { data := #[] }] }, Value.int IntKind.i64 dp] H' fun (e : Ending) (H' : Nat → Option Obj) ↦ ∃ (n_4 : Int), e = Ending.returned (Value.int IntKind.u32 n_4) ∧ Br (decide (n_4 ≤ n)) (∃ (G : Nat → Option Obj), G ≤ H' ∧ PtrK t fun (a : Addr) ↦ PtrK (some a) fun (a : Addr) ↦ PtrK (some (Addr.add a (5 : Nat))) fun (a : Addr) ↦ ∃ (a_1 : Option Addr), Heap.has G a [Value.pointer a_1] ∧ Meets prog (27 : Nat) [Value.pointer a_1, Value.agg { toList := [Value.int IntKind.u32 x0, Value.int IntKind.u32 y0, Value.int IntKind.u32 x1, Value.int IntKind.u32 y1] }, Value.int IntKind.i64 (IntKind.wrap IntKind.i64 (dp + (1 : Int)))] H' fun (e : Ending) (H'_2 : Nat → Option Obj) ↦ Keep G H' H' H'_2 ∧ ∃ (a : Option Addr), ∃ (n_5 : Nat), ∃ (c : Nat), e = Ending.returned (Value.slice a n_5 c) ∧ ∃ (es2 : List (List Value)), SliceAt (delLs H'_2 []) (Value.slice a n_5 c) (4 : Nat) es2 ∧ List.length es2 * (32 : Nat) ≤ (140737488355328 : Nat) ∧ Meets prog (40 : Nat) [Value.agg { toList := [Value.int IntKind.i64 (0 : Int), Value.int IntKind.u32 x1, Value.int IntKind.u32 y1, Value.string { data := #[] }] }, Value.int IntKind.i64 dp] (delLs H'_2 []) fun (e : Ending) (H' : Nat → Option Obj) ↦ ∃ (n_6 : Int), e = Ending.returned (Value.int IntKind.u32 n_6) ∧ Br (decide (n_6 ≥ n)) (∃ (G : Nat → Option Obj), G ≤ H' ∧ PtrK t fun (a : Addr) ↦ PtrK (some a) fun (a : Addr) ↦ PtrK (some (Addr.add a (6 : Nat))) fun (a : Addr) ↦ ∃ (a_2 : Option Addr), Heap.has G a [Value.pointer a_2] ∧ Meets prog (27 : Nat) [Value.pointer a_2, Value.agg { toList := [Value.int IntKind.u32 x0, Value.int IntKind.u32 y0, Value.int IntKind.u32 x1, Value.int IntKind.u32 y1] }, Value.int IntKind.i64 (IntKind.wrap IntKind.i64 (dp + (1 : Int)))] H' fun (e : Ending) (H'_3 : Nat → Option Obj) ↦ Keep G H' H' H'_3 ∧ ∃ (a : Option Addr), ∃ (n : Nat), ∃ (c : Nat), e = Ending.returned (Value.slice a n c) ∧ ∃ (es2_1 : List (List Value)), SliceAt (delLs H'_3 []) (Value.slice a n c) (4 : Nat) es2_1 ∧ List.length (List.append es2 es2_1) * (32 : Nat) ≤ (140737488355328 : Nat) ∧ ∀ (v : Value) (H' : Nat → Option Obj), delLs H'_3 [] ≤ H' → (∀ (b : Nat), blockOf v = some b → delLs H'_3 [] b = none) → (∀ (b : Nat) (o : Obj), H' b = some o → delLs H'_3 [] b = some o ∨ blockOf v = some b) → RowAt H' v (44 : Nat) (4 : Nat) (List.append es2 es2_1) → R (Ending.returned v) H') (∀ (v : Value) (H'_3 : Nat → Option Obj), H' ≤ H'_3 → (∀ (b : Nat), blockOf v = some b → H' b = none) → (∀ (b : Nat) (o : Obj), H'_3 b = some o → H' b = some o ∨ blockOf v = some b) → RowAt H'_3 v (44 : Nat) (4 : Nat) es2 → R (Ending.returned v) H'_3)) (Meets prog (40 : Nat) [Value.agg { toList := [Value.int IntKind.i64 (0 : Int), Value.int IntKind.u32 x1, Value.int IntKind.u32 y1, Value.string { data := #[] }] }, Value.int IntKind.i64 dp] H' fun (e : Ending) (H' : Nat → Option Obj) ↦ ∃ (n_5 : Int), e = Ending.returned (Value.int IntKind.u32 n_5) ∧ Br (decide (n_5 ≥ n)) (∃ (G : Nat → Option Obj), G ≤ H' ∧ PtrK t fun (a : Addr) ↦ PtrK (some a) fun (a : Addr) ↦ PtrK (some (Addr.add a (6 : Nat))) fun (a : Addr) ↦ ∃ (a_1 : Option Addr), Heap.has G a [Value.pointer a_1] ∧ Meets prog (27 : Nat) [Value.pointer a_1, Value.agg { toList := [Value.int IntKind.u32 x0, Value.int IntKind.u32 y0, Value.int IntKind.u32 x1, Value.int IntKind.u32 y1] }, Value.int IntKind.i64 (IntKind.wrap IntKind.i64 (dp + (1 : Int)))] H' fun (e : Ending) (H'_2 : Nat → Option Obj) ↦ Keep G H' H' H'_2 ∧ ∃ (a : Option Addr), ∃ (n : Nat), ∃ (c : Nat), e = Ending.returned (Value.slice a n c) ∧ ∃ (es2 : List (List Value)), SliceAt (delLs H'_2 []) (Value.slice a n c) (4 : Nat) es2 ∧ List.length es2 * (32 : Nat) ≤ (140737488355328 : Nat) ∧ ∀ (v : Value) (H' : Nat → Option Obj), delLs H'_2 [] ≤ H' → (∀ (b : Nat), blockOf v = some b → delLs H'_2 [] b = none) → (∀ (b : Nat) (o : Obj), H' b = some o → delLs H'_2 [] b = some o ∨ blockOf v = some b) → RowAt H' v (44 : Nat) (4 : Nat) es2 → R (Ending.returned v) H') (R (Ending.returned (Value.slice none (0 : Nat) (0 : Nat))) H'))))
theorem vc_kgat (t : Option Addr) (x0 : Int) (y0 : Int) (x1 : Int) (y1 : Int) (dp : Int) (R : Ending → Heap → Prop) (H : Heap) : vcFun prog { } f27 [SV.c (SC.v (Value.pointer t)), SV.agg [Seg.c (SC.v (Value.int IntKind.u32 x0)), Seg.c (SC.v (Value.int IntKind.u32 y0)), Seg.c (SC.v (Value.int IntKind.u32 x1)), Seg.c (SC.v (Value.int IntKind.u32 y1))], SV.c (SC.v (Value.int IntKind.i64 dp))] R H = nf_kgat t x0 y0 x1 y1 dp R H := by kernel_rfl

def nf_kran (t : Option Addr) (x0 : Int) (y0 : Int) (x1 : Int) (y1 : Int) (R : Ending → Heap → Prop) (H : Heap) : Prop := Meets prog (27 : Nat) [Value.pointer t, Value.agg { toList := [Value.int IntKind.u32 x0, Value.int IntKind.u32 y0, Value.int IntKind.u32 x1, Value.int IntKind.u32 y1] }, Value.int IntKind.i64 (0 : Int)] H fun (e : Ending) (H' : Nat → Option Obj) ↦ ∃ (a : Option Addr), ∃ (n : Nat), ∃ (c : Nat), e = Ending.returned (Value.slice a n c) ∧ Meets prog (23 : Nat) [Value.slice a n c] H' fun (e : Ending) (H' : Nat → Option Obj) ↦ ∃ (a : Option Addr), ∃ (n : Nat), ∃ (c : Nat), e = Ending.returned (Value.slice a n c) ∧ R (Ending.returned (Value.slice a n c)) H'
theorem vc_kran (t : Option Addr) (x0 : Int) (y0 : Int) (x1 : Int) (y1 : Int) (R : Ending → Heap → Prop) (H : Heap) : vcFun prog { } f14 [SV.c (SC.v (Value.pointer t)), SV.agg [Seg.c (SC.v (Value.int IntKind.u32 x0)), Seg.c (SC.v (Value.int IntKind.u32 y0)), Seg.c (SC.v (Value.int IntKind.u32 x1)), Seg.c (SC.v (Value.int IntKind.u32 y1))]] R H = nf_kran t x0 y0 x1 y1 R H := by kernel_rfl

def nf_kinsr (a : Option Addr) (n : Nat) (c : Nat) (i : Int) (a' : Option Addr) (n' : Nat) (c' : Nat) (R : Ending → Heap → Prop) (H : Heap) : Prop := ((0 : Int) ≤ i ∧ i ≤ (↑n : Int)) ∧ Br ((↑n' : Int) == (0 : Int)) (R (Ending.returned (Value.slice a n c)) H) (Br (i == (↑n : Int)) (∃ (es : List (List Value)), SliceAt H (Value.slice a n c) (6 : Nat) es ∧ ∃ (es_1 : List (List Value)), SliceAt H (Value.slice a' n' c') (6 : Nat) es_1 ∧ (n + List.length es_1 ≤ c → FillX a n (6 : Nat) es_1 H fun (H' : Nat → Option Obj) ↦ R (Ending.returned (Value.slice a (n + List.length es_1) c)) H') ∧ (c < n + List.length es_1 → (n + List.length es_1) * (48 : Nat) ≤ (140737488355328 : Nat) ∧ ∀ (b cap : Nat) (H' : Nat → Option Obj), H ≤ H' → H b = none → (∀ (x : Nat) (o : Obj), H' x = some o → H x = some o ∨ x = b) → RowAt H' (Value.slice (some { block := b, off := (0 : Nat) }) (n + List.length es_1) cap) (66 : Nat) (6 : Nat) (List.append es es_1) → R (Ending.returned (Value.slice (some { block := b, off := (0 : Nat) }) (n + List.length es_1) cap)) H')) (Br (decide (IntKind.wrap IntKind.i64 ((↑n : Int) + (↑n' : Int)) > (↑c : Int))) (((0 : Int) ≤ i ∧ i ≤ (↑c : Int)) ∧ ∃ (es : List (List Value)), SliceAt H (Value.slice (subAddr a c (0 : Nat) (6 : Nat)) (Int.toNat i - (0 : Nat)) (c - (0 : Nat))) (6 : Nat) es ∧ ((0 : Int) ≤ IntKind.wrap IntKind.i64 (IntKind.wrap IntKind.i64 ((↑n : Int) + (↑n' : Int)) - i) ∧ IntKind.wrap IntKind.i64 (IntKind.wrap IntKind.i64 ((↑n : Int) + (↑n' : Int)) - i) * (↑(48 : Nat) : Int) ≤ (↑(140737488355328 : Nat) : Int)) ∧ (Int.toNat i - (0 : Nat) + List.length (List.replicate (Int.toNat (IntKind.wrap IntKind.i64 (IntKind.wrap IntKind.i64 ((↑n : Int) + (↑n' : Int)) - i))) [Value.int IntKind.i64 (0 : Int), Value.int IntKind.u32 (0 : Int), Value.int IntKind.u32 (0 : Int), Value.string { data := #[] }, Value.int IntKind.u64 (0 : Int), Value.int IntKind.u64 (0 : Int)]) ≤ c - (0 : Nat) → FillX (subAddr a c (0 : Nat) (6 : Nat)) (Int.toNat i - (0 : Nat)) (6 : Nat) (List.replicate (Int.toNat (IntKind.wrap IntKind.i64 (IntKind.wrap IntKind.i64 ((↑n : Int) + (↑n' : Int)) - i))) [Value.int IntKind.i64 (0 : Int), Value.int IntKind.u32 (0 : Int), Value.int IntKind.u32 (0 : Int), Value.string { data := #[] }, Value.int IntKind.u64 (0 : Int), Value.int IntKind.u64 (0 : Int)]) H fun (H' : Nat → Option Obj) ↦ ((0 : Int) ≤ i ∧ i ≤ (↑(Int.toNat i - (0 : Nat) + List.length (List.replicate (Int.toNat (IntKind.wrap IntKind.i64 (IntKind.wrap IntKind.i64 ((↑n : Int) + (↑n' : Int)) - i))) [Value.int IntKind.i64 (0 : Int), Value.int IntKind.u32 (0 : Int), Value.int IntKind.u32 (0 : Int), Value.string { data := #[] }, Value.int IntKind.u64 (0 : Int), Value.int IntKind.u64 (0 : Int)])) : Int)) ∧ ∃ (es : List (List Value)), SliceAt H' (Value.slice a' (min n' (Int.toNat i - (0 : Nat) + List.length (List.replicate (Int.toNat (IntKind.wrap IntKind.i64 (IntKind.wrap IntKind.i64 ((↑n : Int) + (↑n' : Int)) - i))) [Value.int IntKind.i64 (0 : Int), Value.int IntKind.u32 (0 : Int), Value.int IntKind.u32 (0 : Int), Value.string { data := #[] }, Value.int IntKind.u64 (0 : Int), Value.int IntKind.u64 (0 : Int)]) - Int.toNat i)) c') (6 : Nat) es ∧ FillX (subAddr (subAddr a c (0 : Nat) (6 : Nat)) (c - (0 : Nat)) (Int.toNat i) (6 : Nat)) (0 : Nat) (6 : Nat) es H' fun (H' : Nat → Option Obj) ↦ ((0 : Int) ≤ IntKind.wrap IntKind.i64 (i + (↑n' : Int)) ∧ IntKind.wrap IntKind.i64 (i + (↑n' : Int)) ≤ (↑(Int.toNat i - (0 : Nat) + List.length (List.replicate (Int.toNat (IntKind.wrap IntKind.i64 (IntKind.wrap IntKind.i64 ((↑n : Int) + (↑n' : Int)) - i))) [Value.int IntKind.i64 (0 : Int), Value.int IntKind.u32 (0 : Int), Value.int IntKind.u32 (0 : Int), Value.string { data := #[] }, Value.int IntKind.u64 (0 : Int), Value.int IntKind.u64 (0 : Int)])) : Int)) ∧ ((0 : Int) ≤ i ∧ i ≤ (↑n : Int)) ∧ ∃ (es : List (List Value)), SliceAt H' (Value.slice (subAddr a c (Int.toNat i) (6 : Nat)) (min (n - Int.toNat i) (Int.toNat i - (0 : Nat) + List.length (List.replicate (Int.toNat (IntKind.wrap IntKind.i64 (IntKind.wrap IntKind.i64 ((↑n : Int) + (↑n' : Int)) - i))) [Value.int IntKind.i64 (0 : Int), Value.int IntKind.u32 (0 : Int), Value.int IntKind.u32 (0 : Int), Value.string { data := #[] }, Value.int IntKind.u64 (0 : Int), Value.int IntKind.u64 (0 : Int)]) - Int.toNat (IntKind.wrap IntKind.i64 (i + (↑n' : Int))))) (c - Int.toNat i)) (6 : Nat) es ∧ FillX (subAddr (subAddr a c (0 : Nat) (6 : Nat)) (c - (0 : Nat)) (Int.toNat (IntKind.wrap IntKind.i64 (i + (↑n' : Int)))) (6 : Nat)) (0 : Nat) (6 : Nat) es H' fun (H' : Nat → Option Obj) ↦ R (Ending.returned (Value.slice (subAddr a c (0 : Nat) (6 : Nat)) (Int.toNat i - (0 : Nat) + List.length (List.replicate (Int.toNat (IntKind.wrap IntKind.i64 (IntKind.wrap IntKind.i64 ((↑n : Int) + (↑n' : Int)) - i))) [Value.int IntKind.i64 (0 : Int), Value.int IntKind.u32 (0 : Int), Value.int IntKind.u32 (0 : Int), Value.string { data := #[] }, Value.int IntKind.u64 (0 : Int), Value.int IntKind.u64 (0 : Int)])) (c - (0 : Nat)))) H') ∧ (c - (0 : Nat) < Int.toNat i - (0 : Nat) + List.length (List.replicate (Int.toNat (IntKind.wrap IntKind.i64 (IntKind.wrap IntKind.i64 ((↑n : Int) + (↑n' : Int)) - i))) [Value.int IntKind.i64 (0 : Int), Value.int IntKind.u32 (0 : Int), Value.int IntKind.u32 (0 : Int), Value.string { data := #[] }, Value.int IntKind.u64 (0 : Int), Value.int IntKind.u64 (0 : Int)]) → (Int.toNat i - (0 : Nat) + List.length (List.replicate (Int.toNat (IntKind.wrap IntKind.i64 (IntKind.wrap IntKind.i64 ((↑n : Int) + (↑n' : Int)) - i))) [Value.int IntKind.i64 (0 : Int), Value.int IntKind.u32 (0 : Int), Value.int IntKind.u32 (0 : Int), Value.string { data := #[] }, Value.int IntKind.u64 (0 : Int), Value.int IntKind.u64 (0 : Int)])) * (48 : Nat) ≤ (140737488355328 : Nat) ∧ ∀ (b cap : Nat) (H' : Nat → Option Obj), H ≤ H' → H b = none → (∀ (x : Nat) (o : Obj), H' x = some o → H x = some o ∨ x = b) → RowAt H' (Value.slice (some { block := b, off := (0 : Nat) }) (Int.toNat i - (0 : Nat) + List.length (List.replicate (Int.toNat (IntKind.wrap IntKind.i64 (IntKind.wrap IntKind.i64 ((↑n : Int) + (↑n' : Int)) - i))) [Value.int IntKind.i64 (0 : Int), Value.int IntKind.u32 (0 : Int), Value.int IntKind.u32 (0 : Int), Value.string { data := #[] }, Value.int IntKind.u64 (0 : Int), Value.int IntKind.u64 (0 : Int)])) cap) (66 : Nat) (6 : Nat) (List.append es (List.replicate (Int.toNat (IntKind.wrap IntKind.i64 (IntKind.wrap IntKind.i64 ((↑n : Int) + (↑n' : Int)) - i))) (Value.cells (Value.agg #[Value.int IntKind.i64 (0 : Int), Value.int IntKind.u32 (0 : Int), Value.int IntKind.u32 (0 : Int), Value.string { data := #[] }, Value.int IntKind.u64 (0 : Int), Value.int IntKind.u64 (0 : Int)])).toList)) → ((0 : Int) ≤ i ∧ i ≤ (↑(Int.toNat i - (0 : Nat) + List.length (List.replicate (Int.toNat (IntKind.wrap IntKind.i64 (IntKind.wrap IntKind.i64 ((↑n : Int) + (↑n' : Int)) - i))) [Value.int IntKind.i64 (0 : Int), Value.int IntKind.u32 (0 : Int), Value.int IntKind.u32 (0 : Int), Value.string { data := #[] }, Value.int IntKind.u64 (0 : Int), Value.int IntKind.u64 (0 : Int)])) : Int)) ∧ ∃ (es : List (List Value)), SliceAt H' (Value.slice a' (min n' (Int.toNat i - (0 : Nat) + List.length (List.replicate (Int.toNat (IntKind.wrap IntKind.i64 (IntKind.wrap IntKind.i64 ((↑n : Int) + (↑n' : Int)) - i))) [Value.int IntKind.i64 (0 : Int), Value.int IntKind.u32 (0 : Int), Value.int IntKind.u32 (0 : Int), Value.string { data := #[] }, Value.int IntKind.u64 (0 : Int), Value.int IntKind.u64 (0 : Int)]) - Int.toNat i)) c') (6 : Nat) es ∧ FillX (subAddr (some { block := b, off := (0 : Nat) }) cap (Int.toNat i) (6 : Nat)) (0 : Nat) (6 : Nat) es H' fun (H' : Nat → Option Obj) ↦ ((0 : Int) ≤ IntKind.wrap IntKind.i64 (i + (↑n' : Int)) ∧ IntKind.wrap IntKind.i64 (i + (↑n' : Int)) ≤ (↑(Int.toNat i - (0 : Nat) + List.length (List.replicate (Int.toNat (IntKind.wrap IntKind.i64 (IntKind.wrap IntKind.i64 ((↑n : Int) + (↑n' : Int)) - i))) [Value.int IntKind.i64 (0 : Int), Value.int IntKind.u32 (0 : Int), Value.int IntKind.u32 (0 : Int), Value.string { data := #[] }, Value.int IntKind.u64 (0 : Int), Value.int IntKind.u64 (0 : Int)])) : Int)) ∧ ((0 : Int) ≤ i ∧ i ≤ (↑n : Int)) ∧ ∃ (es : List (List Value)), SliceAt H' (Value.slice (subAddr a c (Int.toNat i) (6 : Nat)) (min (n - Int.toNat i) (Int.toNat i - (0 : Nat) + List.length (List.replicate (Int.toNat (IntKind.wrap IntKind.i64 (IntKind.wrap IntKind.i64 ((↑n : Int) + (↑n' : Int)) - i))) [Value.int IntKind.i64 (0 : Int), Value.int IntKind.u32 (0 : Int), Value.int IntKind.u32 (0 : Int), Value.string { data := #[] }, Value.int IntKind.u64 (0 : Int), Value.int IntKind.u64 (0 : Int)]) - Int.toNat (IntKind.wrap IntKind.i64 (i + (↑n' : Int))))) (c - Int.toNat i)) (6 : Nat) es ∧ FillX (subAddr (some { block := b, off := (0 : Nat) }) cap (Int.toNat (IntKind.wrap IntKind.i64 (i + (↑n' : Int)))) (6 : Nat)) (0 : Nat) (6 : Nat) es H' fun (H' : Nat → Option Obj) ↦ R (Ending.returned (Value.slice (some { block := b, off := (0 : Nat) }) (Int.toNat i - (0 : Nat) + List.length (List.replicate (Int.toNat (IntKind.wrap IntKind.i64 (IntKind.wrap IntKind.i64 ((↑n : Int) + (↑n' : Int)) - i))) [Value.int IntKind.i64 (0 : Int), Value.int IntKind.u32 (0 : Int), Value.int IntKind.u32 (0 : Int), Value.string { data := #[] }, Value.int IntKind.u64 (0 : Int), Value.int IntKind.u64 (0 : Int)])) cap)) H')) (((0 : Int) ≤ IntKind.wrap IntKind.i64 ((↑n : Int) + (↑n' : Int)) ∧ IntKind.wrap IntKind.i64 ((↑n : Int) + (↑n' : Int)) ≤ (↑c : Int)) ∧ ((0 : Int) ≤ IntKind.wrap IntKind.i64 (i + (↑n' : Int)) ∧ IntKind.wrap IntKind.i64 (i + (↑n' : Int)) ≤ (↑(Int.toNat (IntKind.wrap IntKind.i64 ((↑n : Int) + (↑n' : Int))) - (0 : Nat)) : Int)) ∧ OvlOK prog (71 : Nat) ∧ ApartK H a' (subAddr (subAddr a c (0 : Nat) (6 : Nat)) (c - (0 : Nat)) (Int.toNat (IntKind.wrap IntKind.i64 (i + (↑n' : Int)))) (6 : Nat)) n' (Int.toNat (IntKind.wrap IntKind.i64 ((↑n : Int) + (↑n' : Int))) - (0 : Nat) - Int.toNat (IntKind.wrap IntKind.i64 (i + (↑n' : Int)))) ∧ ((0 : Int) ≤ IntKind.wrap IntKind.i64 (i + (↑n' : Int)) ∧ IntKind.wrap IntKind.i64 (i + (↑n' : Int)) ≤ (↑(Int.toNat (IntKind.wrap IntKind.i64 ((↑n : Int) + (↑n' : Int))) - (0 : Nat)) : Int)) ∧ ((0 : Int) ≤ i ∧ i ≤ (↑(Int.toNat (IntKind.wrap IntKind.i64 ((↑n : Int) + (↑n' : Int))) - (0 : Nat)) : Int)) ∧ ∃ (es : List (List Value)), SliceAt H (Value.slice (subAddr (subAddr a c (0 : Nat) (6 : Nat)) (c - (0 : Nat)) (Int.toNat i) (6 : Nat)) (min (Int.toNat (IntKind.wrap IntKind.i64 ((↑n : Int) + (↑n' : Int))) - (0 : Nat) - Int.toNat i) (Int.toNat (IntKind.wrap IntKind.i64 ((↑n : Int) + (↑n' : Int))) - (0 : Nat) - Int.toNat (IntKind.wrap IntKind.i64 (i + (↑n' : Int))))) (c - (0 : Nat) - Int.toNat i)) (6 : Nat) es ∧ FillX (subAddr (subAddr a c (0 : Nat) (6 : Nat)) (c - (0 : Nat)) (Int.toNat (IntKind.wrap IntKind.i64 (i + (↑n' : Int)))) (6 : Nat)) (0 : Nat) (6 : Nat) es H fun (H' : Nat → Option Obj) ↦ ((0 : Int) ≤ i ∧ i ≤ (↑(Int.toNat (IntKind.wrap IntKind.i64 ((↑n : Int) + (↑n' : Int))) - (0 : Nat)) : Int)) ∧ ∃ (es : List (List Value)), SliceAt H' (Value.slice a' (min n' (Int.toNat (IntKind.wrap IntKind.i64 ((↑n : Int) + (↑n' : Int))) - (0 : Nat) - Int.toNat i)) c') (6 : Nat) es ∧ FillX (subAddr (subAddr a c (0 : Nat) (6 : Nat)) (c - (0 : Nat)) (Int.toNat i) (6 : Nat)) (0 : Nat) (6 : Nat) es H' fun (H' : Nat → Option Obj) ↦ R (Ending.returned (Value.slice (subAddr a c (0 : Nat) (6 : Nat)) (Int.toNat (IntKind.wrap IntKind.i64 ((↑n : Int) + (↑n' : Int))) - (0 : Nat)) (c - (0 : Nat)))) H')))
theorem vc_kinsr (a : Option Addr) (n : Nat) (c : Nat) (i : Int) (a' : Option Addr) (n' : Nat) (c' : Nat) (R : Ending → Heap → Prop) (H : Heap) : vcFun prog h_kins f54 [SV.c (SC.v (Value.slice a n c)), SV.c (SC.v (Value.int IntKind.i64 i)), SV.c (SC.v (Value.slice a' n' c'))] R H = nf_kinsr a n c i a' n' c' R H := by kernel_rfl

def nf_kbsf (a : Option Addr) (n : Nat) (c : Nat) (i : Int) (x : Int) (y : Int) (d : ByteArray) (dh : Int) (dl : Int) (g : Nat) (R : Ending → Heap → Prop) (H : Heap) : Prop := a = a ∧ n = n ∧ c = c ∧ Value.func (Fn.func g) { toList := [] } { toList := [] } = Value.func (Fn.func g) { toList := [] } { toList := [] } ∧ (0 : Nat) = (0 : Nat) ∧ (↑n : Int) = (↑n : Int) ∧ i = i ∧ x = x ∧ y = y ∧ Value.string d = Value.string d ∧ dh = dh ∧ dl = dl ∧ LoopP (fun (K : (Int × Int × PUnit) × PUnit × PUnit → (Nat → Option Obj) → Prop) (p : (Int × Int × PUnit) × PUnit × PUnit) (H : Nat → Option Obj) ↦ Br (decide (p.fst.fst < p.fst.snd.fst)) ((0 : Int) ≤ (1 : Int) ∧ ∃ (G : Nat → Option Obj), G ≤ H ∧ ((0 : Int) ≤ IntKind.wrap IntKind.i64 (shrI IntKind.u64 (IntKind.wrap IntKind.u64 (IntKind.wrap IntKind.i64 (p.fst.fst + p.fst.snd.fst))) (1 : Int)) ∧ IntKind.wrap IntKind.i64 (shrI IntKind.u64 (IntKind.wrap IntKind.u64 (IntKind.wrap IntKind.i64 (p.fst.fst + p.fst.snd.fst))) (1 : Int)) < (↑n : Int)) ∧ PtrK a fun (A : Addr) ↦ PtrK (some (Addr.add A (Int.toNat (IntKind.wrap IntKind.i64 (shrI IntKind.u64 (IntKind.wrap IntKind.u64 (IntKind.wrap IntKind.i64 (p.fst.fst + p.fst.snd.fst))) (1 : Int))) * (6 : Nat)))) fun (a_1 : Addr) ↦ ∃ (n_1 : Int), ∃ (n_2 : Int), ∃ (n_3 : Int), ∃ (s : ByteArray), ∃ (n_4 : Int), ∃ (n_5 : Int), Heap.has G a_1 [Value.int IntKind.i64 n_1, Value.int IntKind.u32 n_2, Value.int IntKind.u32 n_3, Value.string s, Value.int IntKind.u64 n_4, Value.int IntKind.u64 n_5] ∧ Meets prog g [Value.agg { toList := [Value.int IntKind.i64 n_1, Value.int IntKind.u32 n_2, Value.int IntKind.u32 n_3, Value.string s, Value.int IntKind.u64 n_4, Value.int IntKind.u64 n_5] }, Value.agg { toList := [Value.int IntKind.i64 i, Value.int IntKind.u32 x, Value.int IntKind.u32 y, Value.string d, Value.int IntKind.u64 dh, Value.int IntKind.u64 dl] }] H fun (e : Ending) (H' : Nat → Option Obj) ↦ Keep G H H H' ∧ ∃ (n_6 : Int), e = Ending.returned (Value.int IntKind.i64 n_6) ∧ Br (decide (n_6 < (0 : Int))) (a = a ∧ n = n ∧ c = c ∧ Value.func (Fn.func g) { toList := [] } { toList := [] } = Value.func (Fn.func g) { toList := [] } { toList := [] } ∧ (0 : Nat) = (0 : Nat) ∧ (↑n : Int) = (↑n : Int) ∧ i = i ∧ x = x ∧ y = y ∧ Value.string d = Value.string d ∧ dh = dh ∧ dl = dl ∧ K ((IntKind.wrap IntKind.i64 (IntKind.wrap IntKind.i64 (shrI IntKind.u64 (IntKind.wrap IntKind.u64 (IntKind.wrap IntKind.i64 (p.fst.fst + p.fst.snd.fst))) (1 : Int)) + (1 : Int)), p.fst.snd.fst, PUnit.unit), PUnit.unit, PUnit.unit) (delLs H' [])) (a = a ∧ n = n ∧ c = c ∧ Value.func (Fn.func g) { toList := [] } { toList := [] } = Value.func (Fn.func g) { toList := [] } { toList := [] } ∧ (0 : Nat) = (0 : Nat) ∧ (↑n : Int) = (↑n : Int) ∧ i = i ∧ x = x ∧ y = y ∧ Value.string d = Value.string d ∧ dh = dh ∧ dl = dl ∧ K ((p.fst.fst, IntKind.wrap IntKind.i64 (shrI IntKind.u64 (IntKind.wrap IntKind.u64 (IntKind.wrap IntKind.i64 (p.fst.fst + p.fst.snd.fst))) (1 : Int)), PUnit.unit), PUnit.unit, PUnit.unit) (delLs H' []))) (∃ (G : Nat → Option Obj), G ≤ H ∧ Br (decide (p.fst.fst < (↑n : Int))) (((0 : Int) ≤ p.fst.fst ∧ p.fst.fst < (↑n : Int)) ∧ PtrK a fun (A : Addr) ↦ PtrK (some (Addr.add A (Int.toNat p.fst.fst * (6 : Nat)))) fun (a : Addr) ↦ ∃ (n : Int), ∃ (n_1 : Int), ∃ (n_2 : Int), ∃ (s : ByteArray), ∃ (n_3 : Int), ∃ (n_4 : Int), Heap.has G a [Value.int IntKind.i64 n, Value.int IntKind.u32 n_1, Value.int IntKind.u32 n_2, Value.string s, Value.int IntKind.u64 n_3, Value.int IntKind.u64 n_4] ∧ Meets prog g [Value.agg { toList := [Value.int IntKind.i64 n, Value.int IntKind.u32 n_1, Value.int IntKind.u32 n_2, Value.string s, Value.int IntKind.u64 n_3, Value.int IntKind.u64 n_4] }, Value.agg { toList := [Value.int IntKind.i64 i, Value.int IntKind.u32 x, Value.int IntKind.u32 y, Value.string d, Value.int IntKind.u64 dh, Value.int IntKind.u64 dl] }] H fun (e : Ending) (H' : Nat → Option Obj) ↦ Keep G H H H' ∧ ∃ (n : Int), e = Ending.returned (Value.int IntKind.i64 n) ∧ R (Ending.returned (Value.tuple { toList := [Value.int IntKind.i64 p.fst.fst, Value.bool (n == (0 : Int))] })) (delLs H' [])) (R (Ending.returned (Value.tuple { toList := [Value.int IntKind.i64 p.fst.fst, Value.bool false] })) H))) (((0 : Int), (↑n : Int), PUnit.unit), PUnit.unit, PUnit.unit) H
theorem vc_kbsf (a : Option Addr) (n : Nat) (c : Nat) (i : Int) (x : Int) (y : Int) (d : ByteArray) (dh : Int) (dl : Int) (g : Nat) (R : Ending → Heap → Prop) (H : Heap) : vcFun prog h_bsf f52 [SV.c (SC.v (Value.slice a n c)), SV.agg [Seg.c (SC.v (Value.int IntKind.i64 i)), Seg.c (SC.v (Value.int IntKind.u32 x)), Seg.c (SC.v (Value.int IntKind.u32 y)), Seg.c (SC.v (Value.string d)), Seg.c (SC.v (Value.int IntKind.u64 dh)), Seg.c (SC.v (Value.int IntKind.u64 dl))], SV.c (SC.v (Value.func (Fn.func g) #[] #[]))] R H = nf_kbsf a n c i x y d dh dl g R H := by kernel_rfl

def nf_kah (i : Int) (x : Int) (y : Int) (d : ByteArray) (dh : Int) (dl : Int) (i' : Int) (x' : Int) (y' : Int) (d' : ByteArray) (dh' : Int) (dl' : Int) (R : Ending → Heap → Prop) (H : Heap) : Prop := ∃ (G : Nat → Option Obj), G ≤ H ∧ Meets prog (55 : Nat) [Value.agg { toList := [Value.int IntKind.u64 dh, Value.int IntKind.u64 dl] }, Value.agg { toList := [Value.int IntKind.u64 dh', Value.int IntKind.u64 dl'] }] H fun (e : Ending) (H' : Nat → Option Obj) ↦ Keep G H H H' ∧ ∃ (n : Int), e = Ending.returned (Value.int IntKind.i64 n) ∧ Meets prog (37 : Nat) [Value.int IntKind.i64 i, Value.int IntKind.i64 i'] (delLs H' []) fun (e : Ending) (H'_1 : Nat → Option Obj) ↦ Keep G (delLs H' []) (delLs H' []) H'_1 ∧ ∃ (n_1 : Int), e = Ending.returned (Value.int IntKind.i64 n_1) ∧ ∀ (v : Value) (H' : Nat → Option Obj), delLs H'_1 [] ≤ H' → (∀ (b : Nat), blockOf v = some b → delLs H'_1 [] b = none) → (∀ (b : Nat) (o : Obj), H' b = some o → delLs H'_1 [] b = some o ∨ blockOf v = some b) → RowAt H' v (3 : Nat) (1 : Nat) [[Value.int IntKind.i64 n], [Value.int IntKind.i64 n_1]] → Meets prog (47 : Nat) [v] H' fun (e : Ending) (H'_2 : Nat → Option Obj) ↦ Keep G (delLs H'_1 []) H' H'_2 ∧ ∃ (n : Int), e = Ending.returned (Value.int IntKind.i64 n) ∧ R (Ending.returned (Value.int IntKind.i64 n)) (delLs H'_2 [{ site := (17 : Nat), val := v, kind := LK.row (3 : Nat) (1 : Nat) }])
theorem vc_kah (i : Int) (x : Int) (y : Int) (d : ByteArray) (dh : Int) (dl : Int) (i' : Int) (x' : Int) (y' : Int) (d' : ByteArray) (dh' : Int) (dl' : Int) (R : Ending → Heap → Prop) (H : Heap) : vcFun prog { } f53 [SV.agg [Seg.c (SC.v (Value.int IntKind.i64 i)), Seg.c (SC.v (Value.int IntKind.u32 x)), Seg.c (SC.v (Value.int IntKind.u32 y)), Seg.c (SC.v (Value.string d)), Seg.c (SC.v (Value.int IntKind.u64 dh)), Seg.c (SC.v (Value.int IntKind.u64 dl))], SV.agg [Seg.c (SC.v (Value.int IntKind.i64 i')), Seg.c (SC.v (Value.int IntKind.u32 x')), Seg.c (SC.v (Value.int IntKind.u32 y')), Seg.c (SC.v (Value.string d')), Seg.c (SC.v (Value.int IntKind.u64 dh')), Seg.c (SC.v (Value.int IntKind.u64 dl'))]] R H = nf_kah i x y d dh dl i' x' y' d' dh' dl' R H := by kernel_rfl

def nf_kadd (f : Option Addr) (i : Int) (x : Int) (y : Int) (d : ByteArray) (R : Ending → Heap → Prop) (H : Heap) : Prop := ∃ (G : Nat → Option Obj), G ≤ H ∧ PtrK f fun (a : Addr) ↦ PtrK (some a) fun (a : Addr) ↦ PtrK (some (Addr.add a (0 : Nat))) fun (a : Addr) ↦ ∃ (n : Int), Heap.has G a [Value.int IntKind.u32 n] ∧ PtrK f fun (a : Addr) ↦ PtrK (some a) fun (a : Addr) ↦ PtrK (some (Addr.add a (1 : Nat))) fun (a : Addr) ↦ ∃ (n_1 : Int), Heap.has G a [Value.int IntKind.u32 n_1] ∧ Meets prog (51 : Nat) [Value.int IntKind.u32 n, Value.int IntKind.u32 n_1, Value.int IntKind.u32 x, Value.int IntKind.u32 y] H fun (e : Ending) (H' : Nat → Option Obj) ↦ Keep G H H H' ∧ ∃ (n : Int), ∃ (n_2 : Int), e = Ending.returned (Value.agg { toList := [Value.int IntKind.u64 n, Value.int IntKind.u64 n_2] }) ∧ ∃ (G : Nat → Option Obj), G ≤ delLs H' [] ∧ PtrK f fun (a : Addr) ↦ PtrK (some a) fun (a : Addr) ↦ PtrK (some (Addr.add a (3 : Nat))) fun (a : Addr) ↦ ∃ (a_1 : Option Addr), ∃ (n_3 : Nat), ∃ (c : Nat), Heap.has G a [Value.slice a_1 n_3 c] ∧ Meets prog (52 : Nat) [Value.slice a_1 n_3 c, Value.agg { toList := [Value.int IntKind.i64 i, Value.int IntKind.u32 x, Value.int IntKind.u32 y, Value.string d, Value.int IntKind.u64 n, Value.int IntKind.u64 n_2] }, Value.func (Fn.func (53 : Nat)) { toList := [] } { toList := [] }] (delLs H' []) fun (e : Ending) (H'_1 : Nat → Option Obj) ↦ Keep G (delLs H' []) (delLs H' []) H'_1 ∧ ∃ (n_4 : Int), ∃ (b : Bool), e = Ending.returned (Value.tuple { toList := [Value.int IntKind.i64 n_4, Value.bool b] }) ∧ ∃ (G : Nat → Option Obj), G ≤ delLs H'_1 [] ∧ PtrK f fun (a : Addr) ↦ PtrK (some a) fun (a : Addr) ↦ PtrK (some (Addr.add a (3 : Nat))) fun (a : Addr) ↦ ∃ (a_2 : Option Addr), ∃ (n_5 : Nat), ∃ (c : Nat), Heap.has G a [Value.slice a_2 n_5 c] ∧ ∀ (v : Value) (H' : Nat → Option Obj), delLs H'_1 [] ≤ H' → (∀ (b : Nat), blockOf v = some b → delLs H'_1 [] b = none) → (∀ (b : Nat) (o : Obj), H' b = some o → delLs H'_1 [] b = some o ∨ blockOf v = some b) → RowAt H' v (66 : Nat) (6 : Nat) [[Value.int IntKind.i64 i, Value.int IntKind.u32 x, Value.int IntKind.u32 y, Value.string d, Value.int IntKind.u64 n, Value.int IntKind.u64 n_2]] → Meets prog (54 : Nat) [Value.slice a_2 n_5 c, Value.int IntKind.i64 n_4, v] H' fun (e : Ending) (H'_2 : Nat → Option Obj) ↦ Keep G (delLs H'_1 []) H' H'_2 ∧ ∃ (a : Option Addr), ∃ (n : Nat), ∃ (c : Nat), e = Ending.returned (Value.slice a n c) ∧ PtrK f fun (a_3 : Addr) ↦ PtrK (some a_3) fun (a_4 : Addr) ↦ PtrK (some (Addr.add a_4 (3 : Nat))) fun (A : Addr) ↦ ∃ (c_1 : Array Value), ∃ (ty : Nat), (delLs H'_2 [{ site := (38 : Nat), val := v, kind := LK.row (66 : Nat) (6 : Nat) }] A.block = some (Obj.cells c_1 ty) ∧ A.spot = none ∧ A.off + (1 : Nat) ≤ Array.size c_1) ∧ PtrK f fun (a_5 : Addr) ↦ PtrK (some a_5) fun (a_6 : Addr) ↦ PtrK (some (Addr.add a_6 (3 : Nat))) fun (a_7 : Addr) ↦ ∃ (a_8 : Option Addr), ∃ (n_6 : Nat), ∃ (c_2 : Nat), Heap.has (Heap.upd (delLs H'_2 [{ site := (38 : Nat), val := v, kind := LK.row (66 : Nat) (6 : Nat) }]) A.block (Obj.cells (writeCells c_1 A.off [Value.slice a n c]) ty)) a_7 [Value.slice a_8 n_6 c_2] ∧ PtrK f fun (a_9 : Addr) ↦ PtrK (some a_9) fun (a_10 : Addr) ↦ PtrK (some (Addr.add a_10 (3 : Nat))) fun (a_11 : Addr) ↦ ∃ (a_12 : Option Addr), ∃ (n_7 : Nat), ∃ (c_3 : Nat), Heap.has (Heap.upd (delLs H'_2 [{ site := (38 : Nat), val := v, kind := LK.row (66 : Nat) (6 : Nat) }]) A.block (Obj.cells (writeCells c_1 A.off [Value.slice a n c]) ty)) a_11 [Value.slice a_12 n_7 c_3] ∧ PtrK f fun (a_13 : Addr) ↦ PtrK (some a_13) fun (a_14 : Addr) ↦ PtrK (some (Addr.add a_14 (2 : Nat))) fun (a_15 : Addr) ↦ ∃ (n_8 : Int), Heap.has (Heap.upd (delLs H'_2 [{ site := (38 : Nat), val := v, kind := LK.row (66 : Nat) (6 : Nat) }]) A.block (Obj.cells (writeCells c_1 A.off [Value.slice a n c]) ty)) a_15 [Value.int IntKind.i64 n_8] ∧ ((0 : Int) ≤ minI (↑n_7 : Int) n_8 ∧ minI (↑n_7 : Int) n_8 ≤ (↑c_2 : Int)) ∧ PtrK f fun (a_16 : Addr) ↦ PtrK (some a_16) fun (a_17 : Addr) ↦ PtrK (some (Addr.add a_17 (3 : Nat))) fun (A_1 : Addr) ↦ ∃ (c_4 : Array Value), ∃ (ty_1 : Nat), (Heap.upd (delLs H'_2 ([] ++ ([] ++ ([{ site := (38 : Nat), val := v, kind := LK.row (66 : Nat) (6 : Nat) }] ++ [])))) A.block (Obj.cells (writeCells c_1 A.off [Value.slice a n c]) ty) A_1.block = some (Obj.cells c_4 ty_1) ∧ A_1.spot = none ∧ A_1.off + (1 : Nat) ≤ Array.size c_4) ∧ R (Ending.returned (Value.tuple { toList := [] })) (Heap.upd (Heap.upd (delLs H'_2 [{ site := (38 : Nat), val := v, kind := LK.row (66 : Nat) (6 : Nat) }]) A.block (Obj.cells (writeCells c_1 A.off [Value.slice a n c]) ty)) A_1.block (Obj.cells (writeCells c_4 A_1.off [Value.slice (subAddr a_8 c_2 (0 : Nat) (6 : Nat)) (Int.toNat (minI (↑n_7 : Int) n_8) - (0 : Nat)) (c_2 - (0 : Nat))]) ty_1))
theorem vc_kadd (f : Option Addr) (i : Int) (x : Int) (y : Int) (d : ByteArray) (R : Ending → Heap → Prop) (H : Heap) : vcFun prog { } f41 [SV.c (SC.v (Value.pointer f)), ptA i x y d] R H = nf_kadd f i x y d R H := by kernel_rfl

def nf_kfar (f : Option Addr) (i : Int) (x : Int) (y : Int) (d : ByteArray) (dp : Int) (R : Ending → Heap → Prop) (H : Heap) : Prop := PtrK f fun (a : Addr) ↦ PtrK (some a) fun (a : Addr) ↦ PtrK (some (Addr.add a (3 : Nat))) fun (a : Addr) ↦ ∃ (a_1 : Option Addr), ∃ (n : Nat), ∃ (c : Nat), Heap.has H a [Value.slice a_1 n c] ∧ PtrK f fun (a : Addr) ↦ PtrK (some a) fun (a : Addr) ↦ PtrK (some (Addr.add a (2 : Nat))) fun (a : Addr) ↦ ∃ (n_1 : Int), Heap.has H a [Value.int IntKind.i64 n_1] ∧ Br (decide ((↑n : Int) < n_1)) (R (Ending.returned (Value.bool false)) H) (∃ (G : Nat → Option Obj), G ≤ H ∧ PtrK f fun (a : Addr) ↦ PtrK (some a) fun (a : Addr) ↦ PtrK (some (Addr.add a (0 : Nat))) fun (a : Addr) ↦ ∃ (n : Int), Heap.has G a [Value.int IntKind.u32 n] ∧ Meets prog (51 : Nat) [Value.int IntKind.u32 n, Value.int IntKind.u32 (0 : Int), Value.int IntKind.u32 x, Value.int IntKind.u32 (0 : Int)] H fun (e : Ending) (H' : Nat → Option Obj) ↦ Keep G H H H' ∧ ∃ (n : Int), ∃ (n_2 : Int), e = Ending.returned (Value.agg { toList := [Value.int IntKind.u64 n, Value.int IntKind.u64 n_2] }) ∧ Br (bitOp BinOp.and IntKind.i64 dp (1 : Int) == (1 : Int)) (∃ (G : Nat → Option Obj), G ≤ delLs H' [] ∧ PtrK f fun (a : Addr) ↦ PtrK (some a) fun (a : Addr) ↦ PtrK (some (Addr.add a (1 : Nat))) fun (a : Addr) ↦ ∃ (n : Int), Heap.has G a [Value.int IntKind.u32 n] ∧ Meets prog (51 : Nat) [Value.int IntKind.u32 (0 : Int), Value.int IntKind.u32 n, Value.int IntKind.u32 (0 : Int), Value.int IntKind.u32 y] (delLs H' []) fun (e : Ending) (H'_1 : Nat → Option Obj) ↦ Keep G (delLs H' []) (delLs H' []) H'_1 ∧ ∃ (n : Int), ∃ (n_3 : Int), e = Ending.returned (Value.agg { toList := [Value.int IntKind.u64 n, Value.int IntKind.u64 n_3] }) ∧ ∃ (G : Nat → Option Obj), G ≤ delLs H'_1 [] ∧ PtrK f fun (a : Addr) ↦ PtrK (some a) fun (a : Addr) ↦ PtrK (some (Addr.add a (2 : Nat))) fun (a : Addr) ↦ ∃ (n_4 : Int), Heap.has G a [Value.int IntKind.i64 n_4] ∧ Br (n_4 == (0 : Int)) (R (Ending.returned (Value.bool true)) (delLs H'_1 [])) (PtrK f fun (a : Addr) ↦ PtrK (some a) fun (a : Addr) ↦ PtrK (some (Addr.add a (3 : Nat))) fun (a : Addr) ↦ ∃ (a_2 : Option Addr), ∃ (n_5 : Nat), ∃ (c : Nat), Heap.has G a [Value.slice a_2 n_5 c] ∧ PtrK f fun (a : Addr) ↦ PtrK (some a) fun (a : Addr) ↦ PtrK (some (Addr.add a (2 : Nat))) fun (a : Addr) ↦ ∃ (n_6 : Int), Heap.has G a [Value.int IntKind.i64 n_6] ∧ ((0 : Int) ≤ IntKind.wrap IntKind.i64 (n_6 - (1 : Int)) ∧ IntKind.wrap IntKind.i64 (n_6 - (1 : Int)) < (↑n_5 : Int)) ∧ PtrK a_2 fun (A : Addr) ↦ PtrK (some (Addr.add A (Int.toNat (IntKind.wrap IntKind.i64 (n_6 - (1 : Int))) * (6 : Nat)))) fun (a : Addr) ↦ PtrK (some (Addr.add a (4 : Nat))) fun (a : Addr) ↦ ∃ (n_7 : Int), ∃ (n_8 : Int), Heap.has G a [Value.int IntKind.u64 n_7, Value.int IntKind.u64 n_8] ∧ Meets prog (55 : Nat) [Value.agg { toList := [Value.int IntKind.u64 n, Value.int IntKind.u64 n_3] }, Value.agg { toList := [Value.int IntKind.u64 n_7, Value.int IntKind.u64 n_8] }] (delLs H'_1 []) fun (e : Ending) (H' : Nat → Option Obj) ↦ Keep G (delLs H'_1 []) (delLs H'_1 []) H' ∧ ∃ (n : Int), e = Ending.returned (Value.int IntKind.i64 n) ∧ R (Ending.returned (Value.bool (decide (n > (0 : Int))))) (delLs H' []))) (∃ (G : Nat → Option Obj), G ≤ delLs H' [] ∧ PtrK f fun (a : Addr) ↦ PtrK (some a) fun (a : Addr) ↦ PtrK (some (Addr.add a (2 : Nat))) fun (a : Addr) ↦ ∃ (n_3 : Int), Heap.has G a [Value.int IntKind.i64 n_3] ∧ Br (n_3 == (0 : Int)) (R (Ending.returned (Value.bool true)) (delLs H' [])) (PtrK f fun (a : Addr) ↦ PtrK (some a) fun (a : Addr) ↦ PtrK (some (Addr.add a (3 : Nat))) fun (a : Addr) ↦ ∃ (a_2 : Option Addr), ∃ (n_4 : Nat), ∃ (c : Nat), Heap.has G a [Value.slice a_2 n_4 c] ∧ PtrK f fun (a : Addr) ↦ PtrK (some a) fun (a : Addr) ↦ PtrK (some (Addr.add a (2 : Nat))) fun (a : Addr) ↦ ∃ (n_5 : Int), Heap.has G a [Value.int IntKind.i64 n_5] ∧ ((0 : Int) ≤ IntKind.wrap IntKind.i64 (n_5 - (1 : Int)) ∧ IntKind.wrap IntKind.i64 (n_5 - (1 : Int)) < (↑n_4 : Int)) ∧ PtrK a_2 fun (A : Addr) ↦ PtrK (some (Addr.add A (Int.toNat (IntKind.wrap IntKind.i64 (n_5 - (1 : Int))) * (6 : Nat)))) fun (a : Addr) ↦ PtrK (some (Addr.add a (4 : Nat))) fun (a : Addr) ↦ ∃ (n_6 : Int), ∃ (n_7 : Int), Heap.has G a [Value.int IntKind.u64 n_6, Value.int IntKind.u64 n_7] ∧ Meets prog (55 : Nat) [Value.agg { toList := [Value.int IntKind.u64 n, Value.int IntKind.u64 n_2] }, Value.agg { toList := [Value.int IntKind.u64 n_6, Value.int IntKind.u64 n_7] }] (delLs H' []) fun (e : Ending) (H'_1 : Nat → Option Obj) ↦ Keep G (delLs H' []) (delLs H' []) H'_1 ∧ ∃ (n : Int), e = Ending.returned (Value.int IntKind.i64 n) ∧ R (Ending.returned (Value.bool (decide (n > (0 : Int))))) (delLs H'_1 []))))
theorem vc_kfar (f : Option Addr) (i : Int) (x : Int) (y : Int) (d : ByteArray) (dp : Int) (R : Ending → Heap → Prop) (H : Heap) : vcFun prog { } f42 [SV.c (SC.v (Value.pointer f)), ptA i x y d, SV.c (SC.v (Value.int IntKind.i64 dp))] R H = nf_kfar f i x y d dp R H := by kernel_rfl

def nf_kvis (f : Option Addr) (t : Option Addr) (dp : Int) (R : Ending → Heap → Prop) (H : Heap) : Prop := Meets prog (25 : Nat) [Value.pointer t] H fun (e : Ending) (H' : Nat → Option Obj) ↦ ∃ (b : Bool), e = Ending.returned (Value.bool b) ∧ Br (!b) (R (Ending.returned (Value.tuple { toList := [] })) H') (PtrK f fun (a : Addr) ↦ PtrK (some a) fun (a : Addr) ↦ PtrK (some (Addr.add a (2 : Nat))) fun (a : Addr) ↦ ∃ (n : Int), Heap.has H' a [Value.int IntKind.i64 n] ∧ Br (n == (0 : Int)) (R (Ending.returned (Value.tuple { toList := [] })) H') (PtrK t fun (a : Addr) ↦ PtrK (some a) fun (a : Addr) ↦ PtrK (some (Addr.add a (1 : Nat))) fun (a : Addr) ↦ ∃ (n : Int), ∃ (n_1 : Int), ∃ (n_2 : Int), ∃ (s : ByteArray), Heap.has H' a [Value.int IntKind.i64 n, Value.int IntKind.u32 n_1, Value.int IntKind.u32 n_2, Value.string s] ∧ Meets prog (41 : Nat) [Value.pointer f, Value.agg { toList := [Value.int IntKind.i64 n, Value.int IntKind.u32 n_1, Value.int IntKind.u32 n_2, Value.string s] }] H' fun (e : Ending) (H' : Nat → Option Obj) ↦ e = Ending.returned (Value.tuple { toList := [] }) ∧ PtrK t fun (a : Addr) ↦ PtrK (some a) fun (a : Addr) ↦ PtrK (some (Addr.add a (5 : Nat))) fun (a : Addr) ↦ ∃ (a_1 : Option Addr), Heap.has H' a [Value.pointer a_1] ∧ PtrK t fun (a : Addr) ↦ PtrK (some a) fun (a : Addr) ↦ PtrK (some (Addr.add a (6 : Nat))) fun (a : Addr) ↦ ∃ (a_2 : Option Addr), Heap.has H' a [Value.pointer a_2] ∧ ∃ (G : Nat → Option Obj), G ≤ H' ∧ PtrK f fun (a : Addr) ↦ PtrK (some a) fun (a : Addr) ↦ PtrK (some (Addr.add a (0 : Nat))) fun (a : Addr) ↦ ∃ (n : Int), Heap.has G a [Value.int IntKind.u32 n] ∧ PtrK f fun (a : Addr) ↦ PtrK (some a) fun (a : Addr) ↦ PtrK (some (Addr.add a (1 : Nat))) fun (a : Addr) ↦ ∃ (n_3 : Int), Heap.has G a [Value.int IntKind.u32 n_3] ∧ PtrK t fun (a : Addr) ↦ PtrK (some a) fun (a : Addr) ↦ PtrK (some (Addr.add a (1 : Nat))) fun (a : Addr) ↦ ∃ (n_4 : Int), ∃ (n_5 : Int), ∃ (n_6 : Int), ∃ (s : ByteArray), Heap.has G a [Value.int IntKind.i64 n_4, Value.int IntKind.u32 n_5, Value.int IntKind.u32 n_6, Value.string s] ∧ Meets prog (40 : Nat) [Value.agg { toList := [Value.int IntKind.i64 (0 : Int), Value.int IntKind.u32 n, Value.int IntKind.u32 n_3, Value.string { data := #[] }] }, Value.int IntKind.i64 dp] H' fun (e : Ending) (H'_1 : Nat → Option Obj) ↦ Keep G H' H' H'_1 ∧ ∃ (n : Int), e = Ending.returned (Value.int IntKind.u32 n) ∧ Meets prog (40 : Nat) [Value.agg { toList := [Value.int IntKind.i64 n_4, Value.int IntKind.u32 n_5, Value.int IntKind.u32 n_6, Value.string s] }, Value.int IntKind.i64 dp] (delLs H'_1 []) fun (e : Ending) (H' : Nat → Option Obj) ↦ Keep G (delLs H'_1 []) (delLs H'_1 []) H' ∧ ∃ (n_7 : Int), e = Ending.returned (Value.int IntKind.u32 n_7) ∧ Br (decide (n > n_7)) (Meets prog (29 : Nat) [Value.pointer f, Value.pointer a_2, Value.int IntKind.i64 (IntKind.wrap IntKind.i64 (dp + (1 : Int)))] (delLs H' []) fun (e : Ending) (H' : Nat → Option Obj) ↦ e = Ending.returned (Value.tuple { toList := [] }) ∧ PtrK t fun (a : Addr) ↦ PtrK (some a) fun (a : Addr) ↦ PtrK (some (Addr.add a (1 : Nat))) fun (a : Addr) ↦ ∃ (n : Int), ∃ (n_8 : Int), ∃ (n_9 : Int), ∃ (s : ByteArray), Heap.has H' a [Value.int IntKind.i64 n, Value.int IntKind.u32 n_8, Value.int IntKind.u32 n_9, Value.string s] ∧ Meets prog (42 : Nat) [Value.pointer f, Value.agg { toList := [Value.int IntKind.i64 n, Value.int IntKind.u32 n_8, Value.int IntKind.u32 n_9, Value.string s] }, Value.int IntKind.i64 dp] H' fun (e : Ending) (H' : Nat → Option Obj) ↦ ∃ (b : Bool), e = Ending.returned (Value.bool b) ∧ Br (!b) (Meets prog (29 : Nat) [Value.pointer f, Value.pointer a_1, Value.int IntKind.i64 (IntKind.wrap IntKind.i64 (dp + (1 : Int)))] H' fun (e : Ending) (H' : Nat → Option Obj) ↦ e = Ending.returned (Value.tuple { toList := [] }) ∧ R (Ending.returned (Value.tuple { toList := [] })) H') (R (Ending.returned (Value.tuple { toList := [] })) H')) (Meets prog (29 : Nat) [Value.pointer f, Value.pointer a_1, Value.int IntKind.i64 (IntKind.wrap IntKind.i64 (dp + (1 : Int)))] (delLs H' []) fun (e : Ending) (H' : Nat → Option Obj) ↦ e = Ending.returned (Value.tuple { toList := [] }) ∧ PtrK t fun (a : Addr) ↦ PtrK (some a) fun (a : Addr) ↦ PtrK (some (Addr.add a (1 : Nat))) fun (a : Addr) ↦ ∃ (n : Int), ∃ (n_8 : Int), ∃ (n_9 : Int), ∃ (s : ByteArray), Heap.has H' a [Value.int IntKind.i64 n, Value.int IntKind.u32 n_8, Value.int IntKind.u32 n_9, Value.string s] ∧ Meets prog (42 : Nat) [Value.pointer f, Value.agg { toList := [Value.int IntKind.i64 n, Value.int IntKind.u32 n_8, Value.int IntKind.u32 n_9, Value.string s] }, Value.int IntKind.i64 dp] H' fun (e : Ending) (H' : Nat → Option Obj) ↦ ∃ (b : Bool), e = Ending.returned (Value.bool b) ∧ Br (!b) (Meets prog (29 : Nat) [Value.pointer f, Value.pointer a_2, Value.int IntKind.i64 (IntKind.wrap IntKind.i64 (dp + (1 : Int)))] H' fun (e : Ending) (H' : Nat → Option Obj) ↦ e = Ending.returned (Value.tuple { toList := [] }) ∧ R (Ending.returned (Value.tuple { toList := [] })) H') (R (Ending.returned (Value.tuple { toList := [] })) H'))))
theorem vc_kvis (f : Option Addr) (t : Option Addr) (dp : Int) (R : Ending → Heap → Prop) (H : Heap) : vcFun prog { } f29 [SV.c (SC.v (Value.pointer f)), SV.c (SC.v (Value.pointer t)), SV.c (SC.v (Value.int IntKind.i64 dp))] R H = nf_kvis f t dp R H := by kernel_rfl

end Cr

set_option linter.unusedVariables false
set_option linter.unusedSimpArgs false
namespace Sx
open Go
/-- What may come of a row that is handed on: all else is as it was; it stands where it stood, or in new memory. -/
structure AOwn (v v' : Value) (H H' : Heap) : Prop where
  keep : ∀ b o, blockOf v ≠ some b → H b = some o → H' b = some o
  new : ∀ b, blockOf v' = some b → blockOf v = some b ∨ H b = none
theorem AOwn.refl (v : Value) (H : Heap) : AOwn v v H H := ⟨fun _ _ _ h => h, fun _ h => .inl h⟩
theorem AOwn.trans {v v' v'' : Value} {A B D : Heap} (h : AOwn v v' A B) (h' : AOwn v' v'' B D) : AOwn v v'' A D where
  keep b o hb e := h'.keep b o (fun q => by rcases h.new b q with h1 | h1
                                            · exact hb h1
                                            · rw [e] at h1; cases h1) (h.keep b o hb e)
  new b hb := by
    rcases h'.new b hb with h1 | h1
    · exact h.new b h1
    · by_cases q : blockOf v = some b
      · exact .inl q
      · right
        cases e : A b with
        | none => rfl
        | some o => rw [h.keep b o q e] at h1; cases h1
/-- Cells behind a row are written: it has more elements. -/
theorem row_tail {H : Heap} {A : Addr} {n c ty sz : Nat} {es es2 : List (List Value)} (h : RowAt H (.slice (some A) n c) ty sz es) (hc : n + es2.length ≤ c) (hw : ∀ e ∈ es2, e.length = sz) (h1 : ∀ e ∈ es2, ∀ x ∈ e, one x = true) :
    ∃ cs, (H A.block = some (.cells cs ty (0, 0)) ∧ A.spot = none ∧ A.off + n * sz + es2.length * sz ≤ cs.size) ∧ RowAt (H.upd A.block (.cells (writeCells cs (A.off + n * sz) es2.flatten) ty (0, 0))) (.slice (some A) (n + es2.length) c) ty sz (es ++ es2) := by
  rcases h with ⟨e, -⟩ | ⟨b, o, cap, cs, e, hb, hcap, hfit, hel, hfl, hon⟩
  · cases e
  have e1 := Value.slice.inj e
  obtain ⟨e2, rfl, rfl⟩ := e1
  cases e2
  have hF2 : es2.flatten.length = es2.length * sz := flatten_len hw
  have hm : (es.length + es2.length) * sz ≤ c * sz := Nat.mul_le_mul_right _ hc
  rw [Nat.add_mul] at hm
  have hroom : o + es.length * sz + es2.length * sz ≤ cs.size := by omega
  refine ⟨cs, ⟨hb, rfl, hroom⟩, .inr ⟨b, o, c, writeCells cs (o + es.length * sz) es2.flatten, by rw [List.length_append], by rw [upd_same], by rw [List.length_append]; exact hc, ?_, ?_, ?_, ?_⟩⟩
  · rw [writeCells_size _ _ _ (by rw [hF2]; exact hroom)]; exact hfit
  · intro e he
    rcases List.mem_append.1 he with he | he
    · exact hel e he
    · exact hw e he
  · rw [write_lw _ _ _ (by rw [hF2]; exact hroom), lw, List.append_assoc, List.drop_append, List.drop_take, List.length_append, Nat.add_mul]
    have e3 : o + es.length * sz - o = es.length * sz := by omega
    have e4 : (List.take (o + es.length * sz) cs.toList).length = o + es.length * sz := by simp; omega
    rw [e3, hfl, e4, show o - (o + es.length * sz) = 0 by omega, List.drop_zero, ← List.append_assoc, List.flatten_append]
    exact List.take_left' (by rw [List.length_append, flatten_len hel, hF2])
  · intro e he
    rcases List.mem_append.1 he with he | he
    · exact hon e he
    · exact h1 e he
theorem apr_row {H : Heap} {a : Option Addr} {n c ty sz : Nat} {es es2 : List (List Value)} (h : RowAt H (.slice a n c) ty sz es) (hw : ∀ e ∈ es2, e.length = sz) (h1 : ∀ e ∈ es2, ∀ x ∈ e, one x = true) {by_ : Nat} (hroom : (n + es2.length) * by_ ≤ roomMax)
    {K : Option Addr → Nat → Nat → Heap → Prop} (k : ∀ a' c' H', AOwn (.slice a n c) (.slice a' (n + es2.length) c') H H' → RowAt H' (.slice a' (n + es2.length) c') ty sz (es ++ es2) → K a' (n + es2.length) c' H') :
    (n + es2.length ≤ c → FillX a n sz es2 H fun H' => K a (n + es2.length) c H') ∧
    (c < n + es2.length → (n + es2.length) * by_ ≤ roomMax ∧ ∀ (b cap : Nat) (H' : Heap), H ≤ H' → H b = none → (∀ x o, H' x = some o → H x = some o ∨ x = b) → RowAt H' (.slice (some ⟨b, 0, none⟩) (n + es2.length) cap) ty sz (es ++ es2) → K (some ⟨b, 0, none⟩) (n + es2.length) cap H') := by
  refine ⟨fun hc => ?_, fun hc => ⟨hroom, fun b cap H' hle hb _ hrow => k _ _ _ ⟨fun x o _ e => hle x o e, fun x hx => ?_⟩ hrow⟩⟩
  · cases a with
    | none =>
      rcases h with ⟨e, rfl⟩ | ⟨b, o, cap, cs, e, _⟩
      · cases e
        have : es2 = [] := List.length_eq_zero_iff.1 (by omega)
        subst this
        exact Or.inl ⟨rfl, k none 0 H (AOwn.refl _ _) (.inl ⟨rfl, rfl⟩)⟩
      · cases e
    | some A =>
      obtain ⟨cs, g1, g2⟩ := row_tail h hc hw h1
      refine Or.inr ⟨A, cs, ty, rfl, g1, k _ _ _ ⟨fun x o hx e => ?_, fun x hx => .inl hx⟩ g2⟩
      rw [upd_ne _ _ (fun q => hx (by rw [q]; rfl))]; exact e
  · simp only [blockOf, Option.some.injEq] at hx
    subst hx
    exact .inr hb
/-- A row's first elements, as a slice that has less room. -/
theorem row_take {H : Heap} {a : Option Addr} {n c ty sz : Nat} {es : List (List Value)} (h : RowAt H (.slice a n c) ty sz es) {k : Nat} (hk : k ≤ n) : RowAt H (.slice a k c) ty sz (es.take k) := by
  rcases h with ⟨e, rfl⟩ | ⟨b, o, cap, cs, e, hb, hcap, hfit, hel, hfl, hon⟩
  · cases e
    exact .inl ⟨by rw [show k = 0 by omega], by simp⟩
  · obtain ⟨rfl, rfl, rfl⟩ := Value.slice.inj e
    have hl : (es.take k).length = k := by rw [List.length_take]; omega
    refine .inr ⟨b, o, c, cs, by rw [hl], hb, by omega, hfit, fun e he => hel e (List.mem_of_mem_take he), ?_, fun e he => hon e (List.mem_of_mem_take he)⟩
    rw [hl]
    have hF : (es.take k).flatten.length = k * sz := by rw [flatten_len fun e he => hel e (List.mem_of_mem_take he), hl]
    have h2 : es.flatten = (es.take k).flatten ++ (es.drop k).flatten := by rw [← List.flatten_append, List.take_append_drop]
    have h3 : k * sz ≤ es.length * sz := Nat.mul_le_mul_right _ hk
    have h4 : List.take (k * sz) (List.take (es.length * sz) (List.drop o cs.toList)) = List.take (k * sz) (List.drop o cs.toList) := by rw [List.take_take, Nat.min_eq_left h3]
    rw [← h4, hfl, h2]
    exact List.take_left' hF
/-- Room is made in a row, and filled. -/
theorem row_shift {H : Heap} {A : Addr} {n c ty sz i : Nat} {es xs : List (List Value)} (h : RowAt H (.slice (some A) n c) ty sz es) (hi : i ≤ n) (hc : n + xs.length ≤ c) (hw : ∀ e ∈ xs, e.length = sz) (h1 : ∀ e ∈ xs, ∀ x ∈ e, one x = true) :
    ∃ cs, H A.block = some (.cells cs ty (0, 0)) ∧ A.spot = none ∧ A.off + (n + xs.length) * sz ≤ cs.size ∧
      (writeCells cs (A.off + (i + xs.length) * sz) (es.drop i).flatten).size = cs.size ∧
      RowAt (H.upd A.block (.cells (writeCells (writeCells cs (A.off + (i + xs.length) * sz) (es.drop i).flatten) (A.off + i * sz) xs.flatten) ty (0, 0))) (.slice (some A) (n + xs.length) c) ty sz (es.take i ++ xs ++ es.drop i) := by
  rcases h with ⟨e, -⟩ | ⟨b, o, cap, cs, e, hb, hcap, hfit, hel, hfl, hon⟩
  · cases e
  obtain ⟨e2, rfl, rfl⟩ := Value.slice.inj e
  cases e2
  dsimp only
  have hX : xs.flatten.length = xs.length * sz := flatten_len hw
  have hD : (es.drop i).flatten.length = (es.length - i) * sz := by rw [flatten_len fun e he => hel e (List.mem_of_mem_drop he), List.length_drop]
  have hT : (es.take i).flatten.length = i * sz := by rw [flatten_len fun e he => hel e (List.mem_of_mem_take he), List.length_take, Nat.min_eq_left hi]
  have hm : (es.length + xs.length) * sz ≤ c * sz := Nat.mul_le_mul_right _ hc
  have hsplit : es.length * sz = i * sz + (es.length - i) * sz := by rw [← Nat.add_mul]; congr 1; omega
  have hmm : (es.length + xs.length) * sz = es.length * sz + xs.length * sz := Nat.add_mul ..
  have him : (i + xs.length) * sz = i * sz + xs.length * sz := Nat.add_mul ..
  have hs1 : (writeCells cs (o + (i + xs.length) * sz) (es.drop i).flatten).size = cs.size := writeCells_size _ _ _ (by rw [hD]; omega)
  refine ⟨cs, hb, rfl, by omega, hs1, .inr ⟨b, o, c, _, ?_, by rw [upd_same], ?_, ?_, ?_, ?_, ?_⟩⟩
  · simp only [List.length_append, List.length_take, List.length_drop]; congr 1; omega
  · simp only [List.length_append, List.length_take, List.length_drop]; omega
  · rw [writeCells_size _ _ _ (by rw [hX, hs1]; omega), hs1]; exact hfit
  · intro e he
    rcases List.mem_append.1 he with he | he
    · rcases List.mem_append.1 he with he | he
      · exact hel e (List.mem_of_mem_take he)
      · exact hw e he
    · exact hel e (List.mem_of_mem_drop he)
  · have hlen : (es.take i ++ xs ++ es.drop i).length * sz = i * sz + xs.length * sz + (es.length - i) * sz := by
      simp only [List.length_append, List.length_take, List.length_drop, Nat.min_eq_left hi, Nat.add_mul]
    have hflat : es.flatten = (es.take i).flatten ++ (es.drop i).flatten := by rw [← List.flatten_append, List.take_append_drop]
    have hcl : cs.toList.length = cs.size := by simp
    have hfi : List.take (i * sz) (List.drop o cs.toList) = (es.take i).flatten := by
      have h4 : List.take (i * sz) (List.take (es.length * sz) (List.drop o cs.toList)) = List.take (i * sz) (List.drop o cs.toList) := by rw [List.take_take, Nat.min_eq_left (by omega)]
      rw [← h4, hfl, hflat]
      exact List.take_left' hT
    rw [hlen, write_lw _ _ _ (by rw [hX, hs1]; omega), write_lw _ _ _ (by rw [hD]; omega)]
    simp only [lw]
    -- the first part
    have p1 : List.take (o + i * sz) (List.take (o + (i + xs.length) * sz) cs.toList ++ (es.drop i).flatten ++ List.drop (o + (i + xs.length) * sz + (es.drop i).flatten.length) cs.toList) = List.take (o + i * sz) cs.toList := by
      rw [List.append_assoc, List.take_append_of_le_length (by simp; omega), List.take_take, Nat.min_eq_left (by omega)]
    have p2 : List.drop (o + i * sz + xs.flatten.length) (List.take (o + (i + xs.length) * sz) cs.toList ++ (es.drop i).flatten ++ List.drop (o + (i + xs.length) * sz + (es.drop i).flatten.length) cs.toList) = (es.drop i).flatten ++ List.drop (o + (i + xs.length) * sz + (es.drop i).flatten.length) cs.toList := by
      rw [List.append_assoc]
      exact List.drop_left' (by simp [hX]; omega)
    rw [p1, p2]
    have q1 : List.drop o (List.take (o + i * sz) cs.toList) = (es.take i).flatten := by
      rw [List.drop_take, show o + i * sz - o = i * sz by omega]; exact hfi
    rw [List.append_assoc, List.drop_append_of_le_length (by simp; omega), q1, List.flatten_append, List.flatten_append, ← List.append_assoc, ← List.append_assoc, List.append_assoc _ _ (List.drop _ cs.toList)]
    rw [← List.append_assoc]
    exact List.take_left' (by rw [List.length_append, List.length_append, hT, hX, hD])
  · intro e he
    rcases List.mem_append.1 he with he | he
    · rcases List.mem_append.1 he with he | he
      · exact hon e (List.mem_of_mem_take he)
      · exact h1 e he
    · exact hon e (List.mem_of_mem_drop he)
end Sx

set_option linter.unusedVariables false
set_option linter.unusedSimpArgs false
namespace Cr
open Go Sx Go.Proofs Go.Sort
open Go.Proofs.Try
set_option maxRecDepth 100000
section
variable {H : Heap} {R : Ending → Heap → Prop}
theorem sub0 (c z : Nat) : subAddr none c 0 z = none := by unfold subAddr; split <;> rfl
theorem subA (A : Addr) (c z : Nat) : subAddr (some A) c 0 z = some A := by
  unfold subAddr
  split
  · rfl
  · cases A with | mk b o s => cases s <;> simp [Addr.add]
/-- Room for so many numbers. -/
theorem s_grw {k : Nat} (hk : k ≤ 1000000) (kk : ∀ v H', H ≤ H' → (∀ b, blockOf v = some b → H b = none) → RowAt H' v 3 1 [] → R (.returned v) H') : Meets prog 38 [.slice none 0 0, vi (k : Int)] H R := by
  refine spec_of func38 (by kernel_rfl) (fun t h => by cases h) ?_ (vc_grw none 0 0 (k : Int) R H) ?_
  · simp [argsR, SV.rep, SC.rep, Sx.one]
  unfold nf_grw
  have e0 : IntKind.wrap .i64 ((k : Int) - IntKind.wrap .i64 (((0 : Nat) : Int) - ((0 : Nat) : Int))) = (k : Int) := by
    rw [wi64 (k := ((0 : Nat) : Int) - ((0 : Nat) : Int)) (by omega), wi64 (by omega)]; omega
  refine br (fun q => by simp at q; omega) fun _ => br (fun q => ?_) fun q => ?_
  · rw [e0] at q ⊢
    simp only [sub0]
    have hk0 : 0 < k := by simpa using q
    refine ⟨by simp, [], slice_nil H, ⟨by omega, by omega⟩, fun hc => ?_, fun hc => ?_⟩
    · simp at hc; omega
    · refine ⟨by simp; omega, fun b cap H' hle hb hb2 hrow => ⟨⟨by simp, by simp⟩, ?_⟩⟩
      rw [subA]
      refine kk _ _ hle (fun x hx => ?_) ?_
      · simp only [blockOf, Option.some.injEq] at hx
        subst hx; exact hb
      · have := row_take hrow (k := 0) (by simp)
        simpa using this
  · rw [e0] at q
    have : k = 0 := by simp at q; omega
    exact kk _ _ (fun _ _ e => e) (fun b hb => by cases hb) (.inl ⟨rfl, rfl⟩)
theorem s_cct {v : Value} {vs : List Value} {ls : List (List Int)} (h : SliceAt H v 1 (vs.map fun x => [x])) (hv : ∀ (i : Nat) (x : Value) (l : List Int), vs[i]? = some x → ls[i]? = some l → SliceAt H x 1 (cells l)) (hvl : vs.length = ls.length) (hn3 : ls.length ≤ 1000) (hl : ls.flatten.length ≤ 1000000)
    (k : ∀ v' H', H ≤ H' → (∀ b, blockOf v' = some b → H b = none) → RowAt H' v' 3 1 (cells ls.flatten) → R (.returned v') H') : Meets prog 26 [v] H R := by
  obtain ⟨a, n, c, e, hn⟩ := h
  subst e
  have h : SliceAt H (.slice a n c) 1 (vs.map fun x => [x]) := ⟨a, n, c, rfl, hn⟩
  have hln : vs.length = n := by simpa using hn.1
  refine spec_of func26 (by kernel_rfl) (fun t h => by cases h) ?_ (vc_cct a n c R H) ?_
  · simp [argsR, SV.rep, SC.rep, Sx.one]
  unfold nf_cct
  have bnd : ∀ t, (ls.take t).flatten.length ≤ ls.flatten.length := fun t => by
    conv => rhs; rw [← List.take_append_drop t ls]
    rw [List.flatten_append, List.length_append]
    omega
  have nxt : ∀ t l, ls[t]? = some l → (ls.take (t + 1)).flatten = (ls.take t).flatten ++ l := fun t l hl => by
    rw [List.take_add_one, hl]; simp
  simp only [true_and]
  refine ⟨fun p H' => ∃ t : Nat, p.1.2.1 = (t : Int) ∧ t ≤ n ∧ p.1.1 = ((ls.take t).flatten.length : Int) ∧ H' = H, fun p _ => (n - p.1.2.1).toNat, ⟨0, rfl, by omega, by simp, rfl⟩, ?_⟩
  rintro ⟨⟨sz, i, _⟩, _⟩ H1 ⟨t, hi, ht, hsz, rfl⟩
  simp only at hi hsz ⊢
  subst hi hsz
  refine br (fun q1 => ?_) fun q1 => ?_
  · simp only [decide_eq_true_eq] at q1
    obtain ⟨x, _, _, hx⟩ := drop_cons (l := vs) (k := t) (by omega)
    obtain ⟨l, _, _, hll⟩ := drop_cons (l := ls) (k := t) (by omega)
    obtain ⟨a1, n1, c1, e1, hs1⟩ := hv t x l hx hll
    subst e1
    have hl1 : l.length = n1 := by simpa using hs1.1
    obtain ⟨A, e, _, g⟩ := slice_get h (i := t) (e := [.slice a1 n1 c1]) (by simp [hx])
    subst e
    have b1 := bnd (t + 1)
    rw [nxt t l hll, List.length_append] at b1
    have e2 : IntKind.wrap .i64 (((ls.take t).flatten.length : Int) + (n1 : Int)) = (((ls.take (t + 1)).flatten.length : Nat) : Int) := by
      rw [nxt t l hll, List.length_append, wi64 (by omega)]; omega
    refine ⟨⟨by omega, by omega⟩, ptr rfl (ptr rfl ⟨a1, n1, c1, g, ?_⟩)⟩
    rw [e2]
    refine br (fun q => by simp at q; omega) fun _ => ?_
    rw [wi64 (by omega)]
    exact ⟨⟨t + 1, by simp, by omega, rfl, by trivial⟩, by simp; omega⟩
  · simp only [decide_eq_false_iff_not] at q1
    rw [List.take_of_length_le (by omega)]
    refine s_grw (by omega) fun v2 H2 hle2 hf2 hrow2 => ?_
    obtain ⟨a2, c2, rfl⟩ := row_val hrow2
    refine ⟨a2, _, c2, rfl, fun p H' => ∃ t : Nat, p.1.2.1 = (t : Int) ∧ t ≤ n ∧ RowAt H' (.slice p.1.1.1 p.1.1.2.1 p.1.1.2.2) 3 1 (cells (ls.take t).flatten) ∧ H1 ≤ H' ∧ ∀ b, blockOf (.slice p.1.1.1 p.1.1.2.1 p.1.1.2.2) = some b → H1 b = none, fun p _ => (n - p.1.2.1).toNat, ⟨0, rfl, by omega, hrow2, hle2, hf2⟩, ?_⟩
    rintro ⟨⟨⟨a3, n3, c3⟩, i, _⟩, _⟩ H3 ⟨t, hi, ht, hrow3, hle3, hf3⟩
    simp only at hi hrow3 hf3 ⊢
    subst hi
    refine br (fun q1 => ?_) fun q1 => ?_
    · simp only [decide_eq_true_eq] at q1
      obtain ⟨x, _, _, hx⟩ := drop_cons (l := vs) (k := t) (by omega)
      obtain ⟨l, _, _, hll⟩ := drop_cons (l := ls) (k := t) (by omega)
      obtain ⟨A, e, _, g⟩ := slice_get (slice_le h hle3) (i := t) (e := [x]) (by simp [hx])
      subst e
      have hs3 := slice_le (hv t x l hx hll) hle3
      obtain ⟨a1, n1, c1, e1, hs1⟩ := id hs3
      subst e1
      have b1 := bnd (t + 1)
      rw [nxt t l hll, List.length_append] at b1
      have hn3 : (ls.take t).flatten.length = n3 := by have := (row_len hrow3).1; simp only [cells, List.length_map] at this; exact this
      refine ⟨⟨by omega, by omega⟩, ptr rfl (ptr rfl ⟨a1, n1, c1, g, _, row_slice hrow3, _, hs3, ?_⟩)⟩
      rw [wi64 (by omega)]
      refine apr_row (K := fun a' n' c' H' => (∃ t' : Nat, ((t : Int) + 1) = (t' : Int) ∧ t' ≤ n ∧ RowAt H' (.slice a' n' c') 3 1 (cells (ls.take t').flatten) ∧ H1 ≤ H' ∧ ∀ b, blockOf (.slice a' n' c') = some b → H1 b = none) ∧ ((n : Int) - ((t : Int) + 1)).toNat < ((n : Int) - (t : Int)).toNat) hrow3 (by simp [cells]) (by simp [cells, Sx.one]) (by_ := 8) (by simp only [cells, List.length_map]; unfold roomMax; omega) fun a' c' H' ho hr' => ⟨⟨t + 1, by simp, by omega, ?_, fun b o e => ?_, fun b hb => ?_⟩, by omega⟩
      · rw [nxt t l hll]
        simpa [cells] using hr'
      · exact ho.keep b o (fun e2 => by rw [hf3 b e2] at e; cases e) (hle3 b o e)
      · rcases ho.new b hb with q | q
        · exact hf3 b q
        · cases q2 : H1 b with
          | none => rfl
          | some o => rw [hle3 b o q2] at q; cases q
    · simp only [decide_eq_false_iff_not] at q1
      rw [List.take_of_length_le (by omega)] at hrow3
      exact k _ _ hle3 hf3 hrow3
theorem s_kord : ∀ (T : KT) {H : Heap} {R : Ending → Heap → Prop} {t : Option Addr}, KAt H T t → T.pre.length ≤ 1000 → (∀ v' H', H ≤ H' → (∀ b, blockOf v' = some b → H b = none) → RowAt H' v' 3 1 (cells T.pre) → R (.returned v') H') → Meets prog 11 [.pointer t] H R
  | .nil, H, R, t, h, hd, k => by
    refine spec_of func11 (by kernel_rfl) (fun t h => by cases h) ?_ (vc_kord t R H) ?_
    · simp [argsR, SV.rep, SC.rep, Sx.one]
    unfold nf_kord
    exact s_kis h ⟨_, rfl, br (fun _ => k _ _ (fun _ _ e => e) (fun b hb => by cases hb) (.inl ⟨rfl, rfl⟩)) fun q => by simp [KT.some] at q⟩
  | .node p l r, H, R, t, h, hd, k => by
    have h0 := h
    obtain ⟨A, a, b, rfl, g, h1, h2⟩ := h
    have hd : (l.pre ++ r.pre).length + 1 ≤ 1000 := hd
    rw [List.length_append] at hd
    refine spec_of func11 (by kernel_rfl) (fun t h => by cases h) ?_ (vc_kord (some A) R H) ?_
    · simp [argsR, SV.rep, SC.rep, Sx.one]
    unfold nf_kord
    refine s_kis h0 ⟨_, rfl, br (fun q => by simp [KT.some] at q) fun _ => ⟨H, fun _ _ e => e, ptr rfl (ptr rfl (ptr rfl (ptr rfl ⟨p.id, has_at (k := 1) g rfl, ptr rfl (ptr rfl (ptr rfl ⟨a, has_at g rfl, ptr rfl (ptr rfl (ptr rfl ⟨b, has_at g rfl, ?_⟩))⟩))⟩)))⟩⟩
    refine s_kord l h1 (by omega) fun v1 H1 hle1 hf1 hr1 => ?_
    obtain ⟨a1, c1, rfl⟩ := row_val hr1
    refine ⟨fun b o e _ => hle1 b o e, a1, _, c1, rfl, ?_⟩
    simp only [delLs_nil]
    refine s_kord r (kAt_le hle1 h2) (by omega) fun v2 H2 hle2 hf2 hr2 => ?_
    obtain ⟨a2, c2, rfl⟩ := row_val hr2
    refine ⟨fun b o e _ => hle2 b o e, a2, _, c2, rfl, ?_⟩
    intro v3 H3 hle3 hf3 hb3 hr3 v4 H4 hle4 hf4 hb4 hr4
    have hr4' : RowAt H4 v4 24 1 ([v3, .slice a1 (cells l.pre).length c1, .slice a2 (cells r.pre).length c2].map fun x => [x]) := hr4
    refine s_cct (ls := [[p.id], l.pre, r.pre]) (row_slice hr4') ?_ rfl (by simp) (by simp; omega) fun v5 H5 hle5 hf5 hr5 => ?_
    · intro i x w hx hw
      match i, hx, hw with
      | 0, hx, hw => simp at hx hw; subst hx hw; exact slice_le (row_slice hr3) hle4
      | 1, hx, hw => simp at hx hw; subst hx hw; have := slice_le (row_slice hr1) (heap_trans hle2 (heap_trans hle3 hle4)); simpa using this
      | 2, hx, hw => simp at hx hw; subst hx hw; have := slice_le (row_slice hr2) (heap_trans hle3 hle4); simpa using this
    · obtain ⟨a5, c5, rfl⟩ := row_val hr5
      refine ⟨fun b o e _ => hle5 b o e, a5, _, c5, rfl, ?_⟩
      have hle : H ≤ H3 := heap_trans hle1 (heap_trans hle2 hle3)
      have e6 : [p.id] :: [l.pre, r.pre] = [[p.id], l.pre, r.pre] := rfl
      refine k _ _ (le_delO (heap_trans hle (heap_trans hle4 hle5)) fun b hb => ?_) (fun b hb => ?_) ?_
      · cases q : H b with
        | none => rfl
        | some o => have := hf4 b hb; rw [hle b o q] at this; cases this
      · cases q : H b with
        | none => rfl
        | some o => have := hf5 b hb; rw [hle4 b o (hle b o q)] at this; cases this
      · have := row_delO hr5 (o := blockOf v4) fun b hb e => rowat_known hr4 e (hf5 b hb)
        have e7 : cells (KT.node p l r).pre = cells [[p.id], l.pre, r.pre].flatten := by simp [KT.pre]
        rw [e7]
        exact this
end
end Cr

set_option linter.unusedVariables false
set_option linter.unusedSimpArgs false
namespace Cr
open Go Sx Go.Proofs Go.Sort
open Stb (isort insR Srtd isort_srtd isort_snoc isort_len insR_at)
open Go.Proofs.Try
set_option maxRecDepth 100000
abbrev ltD (dp : Int) : Pt → Pt → Bool := ltOf (cfK dp)
theorem insR_perm (lt : Pt → Pt → Bool) (x : Pt) : ∀ l, (insR lt x l).Perm (x :: l)
  | [] => .refl _
  | y :: l => by
    unfold insR
    split
    · exact .refl _
    · exact ((insR_perm lt x l).cons y).trans (.swap x y l)
theorem isort_perm (lt : Pt → Pt → Bool) (l : List Pt) : (isort lt l).Perm l := by
  have : ∀ (l acc : List Pt), (l.foldl (fun acc x => insR lt x acc) acc).Perm (acc ++ l) := by
    intro l
    induction l with
    | nil => intro acc; simp
    | cons x l ih =>
      intro acc
      rw [List.foldl_cons]
      refine (ih _).trans ?_
      have h1 : (insR lt x acc ++ l).Perm ((x :: acc) ++ l) := (insR_perm lt x acc).append_right l
      exact h1.trans List.perm_middle.symm
  have h := this l []
  rw [List.nil_append] at h
  exact h
/-- Points with Ids of their own. -/
def UId (l : List Pt) : Prop := (l.map Pt.id).Nodup
theorem UId.inj {l : List Pt} (h : UId l) {x y : Pt} (hx : x ∈ l) (hy : y ∈ l) (e : x.id = y.id) : x = y := by
  unfold UId at h
  induction l with
  | nil => cases hx
  | cons z l ih =>
    rw [List.map_cons, List.nodup_cons] at h
    rcases List.mem_cons.1 hx with hx | hx
    · rcases List.mem_cons.1 hy with hy | hy
      · rw [hx, hy]
      · exact absurd (List.mem_map.2 ⟨y, hy, by rw [← hx]; exact e.symm⟩) h.1
    · rcases List.mem_cons.1 hy with hy | hy
      · exact absurd (List.mem_map.2 ⟨x, hx, by rw [← hy]; exact e⟩) h.1
      · exact ih h.2 hx hy
theorem UId.perm {l l' : List Pt} (h : UId l) (p : l'.Perm l) : UId l' := (p.map _).nodup_iff.2 h
theorem UId.sub {l l' : List Pt} (h : UId l) (p : l'.Sublist l) : UId l' := List.Nodup.sublist (p.map _) h
/-- Sorted, of the same points: the same. -/
theorem sort_one {dp : Int} : ∀ {s s' : List Pt}, UId s → s'.Perm s → s.Pairwise (fun x y => ltD dp y x = false) → s'.Pairwise (fun x y => ltD dp y x = false) → s' = s
  | [], s', _, hp, _, _ => hp.eq_nil
  | x :: s, [], _, hp, _, _ => by have := hp.length_eq; simp at this
  | x :: s, y :: s', hu, hp, h1, h2 => by
    rw [List.pairwise_cons] at h1 h2
    have hxy : x = y := by
      have hy : y ∈ x :: s := hp.mem_iff.1 (List.mem_cons_self ..)
      have hx : x ∈ y :: s' := hp.mem_iff.2 (List.mem_cons_self ..)
      rcases List.mem_cons.1 hy with e | hy
      · exact e.symm
      · rcases List.mem_cons.1 hx with e | hx
        · exact e
        · have a := h1.1 y hy
          have b := h2.1 x hx
          have a : ltOf (cfK dp) y x = false := a
          have b : ltOf (cfK dp) x y = false := b
          rw [ltK, decide_eq_false_iff_not] at a b
          exact hu.inj (List.mem_cons_self ..) (List.mem_cons_of_mem _ hy) (by omega)
    subst hxy
    rw [sort_one (hu.sub (List.sublist_cons_self ..)) (List.Perm.cons_inv hp) h1.2 h2.2]
theorem Grow.det : ∀ {dp : Int} {l : List Pt} {T : KT}, Grow dp l T → ∀ {l' : List Pt} {T' : KT}, l'.Perm l → UId l → Grow dp l' T' → T' = T
  | _, _, _, .nil, l', T', hp, hu, h => by
    have := hp.eq_nil
    subst this
    cases h with
    | nil => rfl
    | node hp' hs hm _ _ =>
      have := hp'.eq_nil
      subst this
      simp at hm
  | dp, l, _, .node hp0 hs0 hm0 ha0 hb0, l', T', hp, hu, h => by
    cases h with
    | nil =>
      have := hp.symm.eq_nil
      subst this
      have := hp0.eq_nil
      subst this
      simp at hm0
    | node hp1 hs1 hm1 ha1 hb1 =>
      have e := sort_one (hu.perm hp0) ((hp1.trans hp).trans hp0.symm) hs0 hs1
      subst e
      rw [hm0] at hm1
      cases hm1
      have u := hu.perm hp0
      rw [Grow.det ha0 (.refl _) (u.sub (List.take_sublist ..)) ha1, Grow.det hb0 (.refl _) (u.sub (List.drop_sublist ..)) hb1]
theorem Grow.len : ∀ {dp : Int} {l : List Pt} {T : KT}, Grow dp l T → T.pre.length = l.length ∧ T.dep ≤ l.length
  | _, _, _, .nil => ⟨rfl, by simp [KT.dep]⟩
  | _, _, _, .node (s := s) hp hs hm ha hb => by
    obtain ⟨a1, a2⟩ := Grow.len ha
    obtain ⟨b1, b2⟩ := Grow.len hb
    have hl := hp.length_eq
    have := (List.getElem?_eq_some_iff.1 hm).1
    rw [List.length_take] at a1 a2
    rw [List.length_drop] at b1 b2
    refine ⟨?_, ?_⟩
    · simp only [KT.pre, List.length_cons, List.length_append, a1, b1]; omega
    · simp only [KT.dep]; omega
section
variable {H : Heap} {R : Ending → Heap → Prop}
end
end Cr

set_option linter.unusedVariables false
set_option linter.unusedSimpArgs false
namespace Cr
open Go Sx Stb
open Go.Proofs.Try
set_option maxRecDepth 100000
def h_cpf : Hints := { loops := [(4, ⟨[0, 1, 4], [.f 5 (.int .i64)], []⟩), (9, ⟨[0, 1, 4, 6], [.f 5 (.int .i64), .f 7 (.int .i64)], []⟩)] }
def nf_cpf (a : Option Addr) (n : Nat) (c : Nat) (g : Nat) (R : Ending → Heap → Prop) (H : Heap) : Prop := Br (decide ((↑n : Int) < (2 : Int))) (R (Ending.returned (Value.slice a n c)) H) (a = a ∧ n = n ∧ c = c ∧ Value.func (Fn.func g) { toList := [] } { toList := [] } = Value.func (Fn.func g) { toList := [] } { toList := [] } ∧ (none : Option Addr) = none ∧ (0 : Nat) = (0 : Nat) ∧ (0 : Nat) = (0 : Nat) ∧ LoopP (fun (K : (Int × PUnit) × PUnit → (Nat → Option Obj) → Prop) (p : (Int × PUnit) × PUnit) (H : Nat → Option Obj) ↦ Br (decide (p.fst.fst < (↑n : Int))) (∃ (G : Nat → Option Obj), G ≤ H ∧ ((0 : Int) ≤ p.fst.fst ∧ p.fst.fst < (↑n : Int)) ∧ PtrK a fun (A : Addr) ↦ PtrK (some (Addr.add A (Int.toNat p.fst.fst * (4 : Nat)))) fun (a_1 : Addr) ↦ ∃ (n_1 : Int), ∃ (n_2 : Int), ∃ (n_3 : Int), ∃ (s : ByteArray), Heap.has G a_1 [Value.int IntKind.i64 n_1, Value.int IntKind.u32 n_2, Value.int IntKind.u32 n_3, Value.string s] ∧ ((0 : Int) ≤ IntKind.wrap IntKind.i64 (p.fst.fst - (1 : Int)) ∧ IntKind.wrap IntKind.i64 (p.fst.fst - (1 : Int)) < (↑n : Int)) ∧ PtrK a fun (A : Addr) ↦ PtrK (some (Addr.add A (Int.toNat (IntKind.wrap IntKind.i64 (p.fst.fst - (1 : Int))) * (4 : Nat)))) fun (a_2 : Addr) ↦ ∃ (n_4 : Int), ∃ (n_5 : Int), ∃ (n_6 : Int), ∃ (s_1 : ByteArray), Heap.has G a_2 [Value.int IntKind.i64 n_4, Value.int IntKind.u32 n_5, Value.int IntKind.u32 n_6, Value.string s_1] ∧ Meets prog g [Value.agg { toList := [Value.int IntKind.i64 n_1, Value.int IntKind.u32 n_2, Value.int IntKind.u32 n_3, Value.string s] }, Value.agg { toList := [Value.int IntKind.i64 n_4, Value.int IntKind.u32 n_5, Value.int IntKind.u32 n_6, Value.string s_1] }] H fun (e : Ending) (H' : Nat → Option Obj) ↦ Keep G H H H' ∧ ∃ (b : Bool), e = Ending.returned (Value.bool b) ∧ Br b (((0 : Int) ≤ p.fst.fst ∧ p.fst.fst ≤ (↑n : Int)) ∧ a = a ∧ n = n ∧ c = c ∧ Value.func (Fn.func g) { toList := [] } { toList := [] } = Value.func (Fn.func g) { toList := [] } { toList := [] } ∧ (none : Option Addr) = none ∧ (0 : Nat) = (0 : Nat) ∧ (0 : Nat) = (0 : Nat) ∧ subAddr a c (Int.toNat p.fst.fst) (4 : Nat) = subAddr a c (Int.toNat p.fst.fst) (4 : Nat) ∧ n - Int.toNat p.fst.fst = n - Int.toNat p.fst.fst ∧ c - Int.toNat p.fst.fst = c - Int.toNat p.fst.fst ∧ LoopP (fun (K : (Int × Int × PUnit) × PUnit → (Nat → Option Obj) → Prop) (p_1 : (Int × Int × PUnit) × PUnit) (H : Nat → Option Obj) ↦ Br (decide (p_1.fst.snd.fst < (↑(n - Int.toNat p.fst.fst) : Int))) (∃ (G : Nat → Option Obj), G ≤ H ∧ ((0 : Int) ≤ p_1.fst.snd.fst ∧ p_1.fst.snd.fst < (↑(n - Int.toNat p.fst.fst) : Int)) ∧ PtrK (subAddr a c (Int.toNat p.fst.fst) (4 : Nat)) fun (A : Addr) ↦ PtrK (some (Addr.add A (Int.toNat p_1.fst.snd.fst * (4 : Nat)))) fun (a_3 : Addr) ↦ ∃ (n_7 : Int), ∃ (n_8 : Int), ∃ (n_9 : Int), ∃ (s : ByteArray), Heap.has G a_3 [Value.int IntKind.i64 n_7, Value.int IntKind.u32 n_8, Value.int IntKind.u32 n_9, Value.string s] ∧ ((0 : Int) ≤ IntKind.wrap IntKind.i64 (p_1.fst.snd.fst - (1 : Int)) ∧ IntKind.wrap IntKind.i64 (p_1.fst.snd.fst - (1 : Int)) < (↑(n - Int.toNat p.fst.fst) : Int)) ∧ PtrK (subAddr a c (Int.toNat p.fst.fst) (4 : Nat)) fun (A : Addr) ↦ PtrK (some (Addr.add A (Int.toNat (IntKind.wrap IntKind.i64 (p_1.fst.snd.fst - (1 : Int))) * (4 : Nat)))) fun (a_4 : Addr) ↦ ∃ (n_10 : Int), ∃ (n_11 : Int), ∃ (n_12 : Int), ∃ (s_2 : ByteArray), Heap.has G a_4 [Value.int IntKind.i64 n_10, Value.int IntKind.u32 n_11, Value.int IntKind.u32 n_12, Value.string s_2] ∧ Meets prog g [Value.agg { toList := [Value.int IntKind.i64 n_7, Value.int IntKind.u32 n_8, Value.int IntKind.u32 n_9, Value.string s] }, Value.agg { toList := [Value.int IntKind.i64 n_10, Value.int IntKind.u32 n_11, Value.int IntKind.u32 n_12, Value.string s_2] }] H fun (e : Ending) (H' : Nat → Option Obj) ↦ Keep G H H H' ∧ ∃ (b : Bool), e = Ending.returned (Value.bool b) ∧ Br (!b) (((0 : Int) ≤ p_1.fst.snd.fst ∧ p_1.fst.snd.fst < (↑(n - Int.toNat p.fst.fst) : Int)) ∧ PtrK (subAddr a c (Int.toNat p.fst.fst) (4 : Nat)) fun (A : Addr) ↦ PtrK (some (Addr.add A (Int.toNat p_1.fst.snd.fst * (4 : Nat)))) fun (a_5 : Addr) ↦ ∃ (n_13 : Int), ∃ (n_14 : Int), ∃ (n_15 : Int), ∃ (s : ByteArray), Heap.has (delLs H' []) a_5 [Value.int IntKind.i64 n_13, Value.int IntKind.u32 n_14, Value.int IntKind.u32 n_15, Value.string s] ∧ ((0 : Int) ≤ p_1.fst.fst ∧ p_1.fst.fst < (↑n : Int)) ∧ PtrK a fun (A : Addr) ↦ PtrK (some (Addr.add A (Int.toNat p_1.fst.fst * (4 : Nat)))) fun (A : Addr) ↦ ∃ (c_1 : Array Value), ∃ (ty : Nat), (delLs H' [] A.block = some (Obj.cells c_1 ty) ∧ A.spot = none ∧ A.off + (4 : Nat) ≤ Array.size c_1) ∧ a = a ∧ n = n ∧ c = c ∧ Value.func (Fn.func g) { toList := [] } { toList := [] } = Value.func (Fn.func g) { toList := [] } { toList := [] } ∧ (none : Option Addr) = none ∧ (0 : Nat) = (0 : Nat) ∧ (0 : Nat) = (0 : Nat) ∧ subAddr a c (Int.toNat p.fst.fst) (4 : Nat) = subAddr a c (Int.toNat p.fst.fst) (4 : Nat) ∧ n - Int.toNat p.fst.fst = n - Int.toNat p.fst.fst ∧ c - Int.toNat p.fst.fst = c - Int.toNat p.fst.fst ∧ K ((IntKind.wrap IntKind.i64 (p_1.fst.fst + (1 : Int)), IntKind.wrap IntKind.i64 (p_1.fst.snd.fst + (1 : Int)), PUnit.unit), PUnit.unit) (Heap.upd (delLs H' []) A.block (Obj.cells (writeCells c_1 A.off [Value.int IntKind.i64 n_13, Value.int IntKind.u32 n_14, Value.int IntKind.u32 n_15, Value.string s]) ty))) (a = a ∧ n = n ∧ c = c ∧ Value.func (Fn.func g) { toList := [] } { toList := [] } = Value.func (Fn.func g) { toList := [] } { toList := [] } ∧ (none : Option Addr) = none ∧ (0 : Nat) = (0 : Nat) ∧ (0 : Nat) = (0 : Nat) ∧ subAddr a c (Int.toNat p.fst.fst) (4 : Nat) = subAddr a c (Int.toNat p.fst.fst) (4 : Nat) ∧ n - Int.toNat p.fst.fst = n - Int.toNat p.fst.fst ∧ c - Int.toNat p.fst.fst = c - Int.toNat p.fst.fst ∧ K ((p_1.fst.fst, IntKind.wrap IntKind.i64 (p_1.fst.snd.fst + (1 : Int)), PUnit.unit), PUnit.unit) (delLs H' []))) (((0 : Int) ≤ p_1.fst.fst ∧ p_1.fst.fst ≤ (↑n : Int)) ∧ (n - Int.toNat p_1.fst.fst = (0 : Nat) ∧ ((0 : Int) ≤ p_1.fst.fst ∧ p_1.fst.fst ≤ (↑c : Int)) ∧ R (Ending.returned (Value.slice (subAddr a c (0 : Nat) (4 : Nat)) (Int.toNat p_1.fst.fst - (0 : Nat)) (c - (0 : Nat)))) H ∨ ∃ (A : Addr), ∃ (c_1 : Array Value), ∃ (ty : Nat), subAddr a c (Int.toNat p_1.fst.fst) (4 : Nat) = some A ∧ (H A.block = some (Obj.cells c_1 ty) ∧ A.spot = none ∧ A.off + (n - Int.toNat p_1.fst.fst) * (4 : Nat) ≤ Array.size c_1) ∧ ((0 : Int) ≤ p_1.fst.fst ∧ p_1.fst.fst ≤ (↑c : Int)) ∧ R (Ending.returned (Value.slice (subAddr a c (0 : Nat) (4 : Nat)) (Int.toNat p_1.fst.fst - (0 : Nat)) (c - (0 : Nat)))) (Heap.upd H A.block (Obj.cells (writeCells c_1 A.off (List.flatten (List.replicate (n - Int.toNat p_1.fst.fst) [Value.int IntKind.i64 (0 : Int), Value.int IntKind.u32 (0 : Int), Value.int IntKind.u32 (0 : Int), Value.string { data := #[] }]))) ty))))) ((p.fst.fst, (1 : Int), PUnit.unit), PUnit.unit) (delLs H' [])) (a = a ∧ n = n ∧ c = c ∧ Value.func (Fn.func g) { toList := [] } { toList := [] } = Value.func (Fn.func g) { toList := [] } { toList := [] } ∧ (none : Option Addr) = none ∧ (0 : Nat) = (0 : Nat) ∧ (0 : Nat) = (0 : Nat) ∧ K ((IntKind.wrap IntKind.i64 (p.fst.fst + (1 : Int)), PUnit.unit), PUnit.unit) (delLs H' []))) (R (Ending.returned (Value.slice a n c)) H)) (((1 : Int), PUnit.unit), PUnit.unit) H)
theorem vc_cpf (a : Option Addr) (n : Nat) (c : Nat) (g : Nat) (R : Ending → Heap → Prop) (H : Heap) : vcFun prog h_cpf f22 [SV.c (SC.v (Value.slice a n c)), SV.c (SC.v (Value.func (Fn.func g) #[] #[]))] R H = nf_cpf a n c g R H := by kernel_rfl

end Cr

set_option linter.unusedVariables false
set_option linter.unusedSimpArgs false
namespace Cr
open Go Sx Go.Proofs Go.Sort
open Go.Proofs.Try
set_option maxRecDepth 100000
structure Rd where
  f : Int
  t : Int
  hi : Int
  lo : Int
  deriving Inhabited, DecidableEq
theorem orL_neg {x : Int} {r : List Int} : orL (x :: r) < 0 ↔ x < 0 ∨ (x = 0 ∧ orL r < 0) := by
  rw [show orL (x :: r) = if x ≠ 0 then x else orL r from rfl]
  by_cases h : x = 0
  · subst h; simp
  · rw [if_pos h]
    constructor
    · intro q; exact .inl q
    · rintro (q | q); exact q; exact (h q.1).elim
theorem orL_zero {x : Int} {r : List Int} : orL (x :: r) = 0 ↔ x = 0 ∧ orL r = 0 := by
  rw [show orL (x :: r) = if x ≠ 0 then x else orL r from rfl]
  by_cases h : x = 0
  · subst h; simp
  · rw [if_pos h]; simp [h]
theorem sgn3_neg {x y : Int} : sgn3 x y < 0 ↔ x < y := by unfold sgn3; split <;> (try split) <;> omega
theorem sgn3_zero {x y : Int} : sgn3 x y = 0 ↔ x = y := by unfold sgn3; split <;> (try split) <;> omega
theorem cmpD_neg {a b c d : Int} : cmpD a b c d < 0 ↔ a < c ∨ (a = c ∧ b < d) := by
  unfold cmpD
  rw [orL_neg, orL_neg, sgn3_neg, sgn3_neg, sgn3_zero]
  constructor
  · rintro (h | ⟨h, h2 | ⟨_, h3⟩⟩)
    · exact .inl h
    · exact .inr ⟨h, h2⟩
    · simp [orL] at h3
  · rintro (h | ⟨h, h2⟩)
    · exact .inl h
    · exact .inr ⟨h, .inl h2⟩
theorem cmpD_zero {a b c d : Int} : cmpD a b c d = 0 ↔ a = c ∧ b = d := by
  unfold cmpD
  rw [orL_zero, orL_zero, sgn3_zero, sgn3_zero]
  simp [orL]
section
variable {H : Heap} {R : Ending → Heap → Prop}
end
end Cr

set_option linter.unusedVariables false
set_option linter.unusedSimpArgs false
namespace Cr
open Go Sx Go.Proofs
open Go.Proofs.Try
set_option maxRecDepth 100000
/-- By a road. -/
def Joi (r : List Rd) (a b : Int) : Prop := ∃ x ∈ r, (x.f = a ∧ x.t = b) ∨ (x.f = b ∧ x.t = a)
/-! ### slices.Compact of a sorted row -/
/-- What is beside a place. -/
structure Bes (m : Int) (r : List Rd) (a : Int) (B : List Int) : Prop where
  up : B.Pairwise (· < ·)
  mem : ∀ b, b ∈ B ↔ (0 ≤ b ∧ b < m) ∧ Joi r a b
section
variable {H : Heap} {R : Ending → Heap → Prop}
end
end Cr

set_option linter.unusedVariables false
set_option linter.unusedSimpArgs false
namespace Cr
open Go Sx Stb
open Go.Sort (SWO)
open Go.Proofs.Try
set_option maxRecDepth 100000
/-- A predicate of two points. -/
def Pred2 (g : Nat) (f : Pt → Pt → Bool) : Prop := ∀ (p q : Pt) (H : Heap) (R : Ending → Heap → Prop), R (.returned (.bool (f p q))) H → Meets prog g [ptV p, ptV q] H R
/-- What stays behind an element. -/
def cptG (f : Pt → Pt → Bool) (y : Pt) : List Pt → List Pt
  | [] => []
  | x :: r => if f x y then cptG f x r else x :: cptG f x r
def cpt (f : Pt → Pt → Bool) : List Pt → List Pt
  | [] => []
  | x :: r => x :: cptG f x r
theorem cptG_snoc (f : Pt → Pt → Bool) (x : Pt) : ∀ (r : List Pt) (y z : Pt), (y :: r).getLast? = some z → cptG f y (r ++ [x]) = cptG f y r ++ (if f x z then [] else [x])
  | [], y, z, h => by
    simp at h; subst h
    simp only [List.nil_append, cptG]
  | w :: r, y, z, h => by
    have ih := cptG_snoc f x r w z (by simpa using h)
    rw [List.cons_append, cptG, cptG, ih]
    split <;> simp
theorem cpt_snoc (f : Pt → Pt → Bool) (x z : Pt) {l : List Pt} (h : l.getLast? = some z) : cpt f (l ++ [x]) = cpt f l ++ (if f x z then [] else [x]) := by
  cases l with
  | nil => cases h
  | cons y r =>
    rw [List.cons_append, cpt, cpt, cptG_snoc f x r y z h]
    simp
theorem take_last {l : List Pt} {t : Nat} {y : Pt} (h0 : 0 < t) (h : l[t - 1]? = some y) : (l.take t).getLast? = some y := by
  have hl := (List.getElem?_eq_some_iff.1 h).1
  rw [List.getLast?_eq_getElem?, List.length_take, List.getElem?_take_of_lt (by omega), show min t l.length - 1 = t - 1 by omega]
  exact h
section
variable {H : Heap} {R : Ending → Heap → Prop}
theorem s_cpf {g : Nat} {f : Pt → Pt → Bool} (hf : Pred2 g f) {v : Value} {ty : Nat} {l : List Pt} (h : RowAt H v ty 4 (pts l)) (hl : l.length ≤ 1000000)
    (k : ∀ v' H', RowAt H' v' ty 4 (pts (cpt f l)) → blockOf v' = blockOf v → Mod v H H' → R (.returned v') H') : Meets prog 22 [v, .func (.func g) #[] #[]] H R := by
  obtain ⟨a, c, rfl⟩ := row_val h
  have hpl : (pts l).length = l.length := by simp [pts]
  rw [hpl] at h k ⊢
  refine spec_of func22 (by kernel_rfl) (fun t h => by cases h) ?_ (vc_cpf a l.length c g R H) ?_
  · simp [argsR, SV.rep, SC.rep, Sx.one]
  unfold nf_cpf
  simp only [true_and]
  refine br (fun q => ?_) fun q => ?_
  · have : cpt f l = l := by
      match l, q with
      | [], _ => rfl
      | [x], _ => rfl
      | x :: y :: r, q => simp at q; omega
    rw [this] at k
    exact k _ _ h rfl (Mod.refl _ _)
  have h2 : 2 ≤ l.length := by simp at q; omega
  obtain ⟨A, rfl⟩ : ∃ A, a = some A := by
    obtain ⟨A, e, _⟩ := pr_get (row_slice h) (i := 0) (p := l[0]) (List.getElem?_eq_getElem (by omega))
    exact ⟨A, e⟩
  have hsp : A.spot = none := by
    obtain ⟨A', e, hs, _⟩ := slice_get (row_slice h) (i := 0) (e := ptC l[0]) (by show (l.map ptC)[0]? = _; rw [List.getElem?_map, List.getElem?_eq_getElem (by omega)]; rfl)
    cases e; exact hs
  have hcap := (row_len h).2
  refine ⟨fun p H' => ∃ t : Nat, p.1.1 = (t : Int) ∧ 1 ≤ t ∧ t ≤ l.length ∧ cpt f (l.take t) = l.take t ∧ H' = H, fun p _ => (l.length - p.1.1).toNat, ⟨1, rfl, by omega, by omega, ?_, rfl⟩, ?_⟩
  · match l, h2 with
    | x :: r, _ => simp [cpt, cptG]
  rintro ⟨⟨i, _⟩, _⟩ H1 ⟨t, hi, ht1, ht, hcp, rfl⟩
  simp only at hi ⊢
  subst hi
  refine br (fun q1 => ?_) fun q1 => ?_
  rotate_left
  · simp only [decide_eq_false_iff_not] at q1
    rw [List.take_of_length_le (by omega)] at hcp
    rw [hcp] at k
    exact k _ _ h rfl (Mod.refl _ _)
  simp only [decide_eq_true_eq] at q1
  obtain ⟨x, hd, htk, hx⟩ := drop_cons (l := l) (k := t) (by omega)
  obtain ⟨y, _, _, hy⟩ := drop_cons (l := l) (k := t - 1) (by omega)
  obtain ⟨A1, e, g1⟩ := pr_get (row_slice h) (i := t) hx
  cases e
  obtain ⟨A2, e, g2⟩ := pr_get (row_slice h) (i := t - 1) hy
  cases e
  rw [wi64 (k := (t : Int) - 1) (by omega), wi64 (k := (t : Int) + 1) (by omega), show ((t : Int) - 1).toNat = t - 1 by omega]
  refine ⟨H1, fun _ _ e => e, ⟨by omega, by omega⟩, ptr rfl (ptr rfl ⟨_, _, _, _, g1, ⟨by omega, by omega⟩, ptr rfl (ptr rfl ⟨_, _, _, _, g2, hf x y _ _ ⟨keep_same _ _ _, _, rfl, ?_⟩⟩)⟩)⟩
  have hsn := cpt_snoc f x y (l := l.take t) (take_last (by omega) hy)
  rw [← htk, hcp] at hsn
  simp only [delLs_nil]
  refine br (fun q2 => ?_) fun q2 => ?_
  rotate_left
  · rw [q2] at hsn
    simp only [Bool.false_eq_true, if_false] at hsn
    exact ⟨⟨t + 1, by simp, by omega, by omega, by rw [hsn, htk], by trivial⟩, by simp; omega⟩
  rw [Int.toNat_natCast]
  have hsub : ∀ j : Nat, PtrK (subAddr (some A) c t 4) = PtrK (some ⟨A.block, A.off + t * 4, none⟩) := fun j => by
    have : subAddr (some A) c t 4 = some ⟨A.block, A.off + t * 4, none⟩ := by
      unfold subAddr
      rw [if_neg (by omega)]
      simp [add_spot hsp]
    rw [this]
  rw [hsub 0]
  have hadr : ∀ j : Nat, (⟨A.block, A.off + t * 4, none⟩ : Addr).add (j * 4) = A.add ((t + j) * 4) := fun j => by
    rw [add_spot rfl, add_spot hsp]; simp only [Addr.mk.injEq, and_true, true_and]; omega
  -- t: the first place that is told twice
  refine ⟨by omega, fun p H' => ∃ (s : Nat) (F M : List Pt) (z : Pt), p.1.2.1 = (s : Int) ∧ 1 ≤ s ∧ t + s ≤ l.length ∧ F = cpt f (l.take (t + s)) ∧ p.1.1 = (F.length : Int) ∧ l[t + s - 1]? = some z ∧ F.length + M.length + 1 = t + s ∧ RowAt H' (.slice (some A) l.length c) ty 4 (pts (F ++ M ++ [z] ++ l.drop (t + s))) ∧ Mod (.slice (some A) l.length c) H1 H', fun p _ => (l.length - p.1.2.1).toNat, ⟨1, l.take t, [], x, rfl, by omega, by omega, ?_, ?_, by rw [Nat.add_sub_cancel]; exact hx, by simp; omega, ?_, Mod.refl _ _⟩, ?_⟩
  · rw [hsn, q2]; simp
  · rw [List.length_take]; simp; omega
  · have : l.take t ++ [] ++ [x] ++ l.drop (t + 1) = l := by
      rw [List.append_nil, ← htk, List.take_append_drop]
    rw [this]; exact h
  rintro ⟨⟨w, i, _⟩, _⟩ H2 ⟨s, F, M, z, hi, hs1, hs, hF, hw, hz, hlen, hrow, hmod⟩
  simp only at hi hw ⊢
  subst hi; subst hw
  refine br (fun q3 => ?_) fun q3 => ?_
  · simp only [decide_eq_true_eq] at q3
    obtain ⟨u, hd2, htk2, hu⟩ := drop_cons (l := l) (k := t + s) (by omega)
    have gu : (F ++ M ++ [z] ++ l.drop (t + s))[t + s]? = some u := by
      rw [List.getElem?_append_right (by simp; omega)]
      simp only [List.length_append, List.length_singleton]
      rw [show t + s - (F.length + M.length + 1) = 0 by omega, hd2]; rfl
    have gz : (F ++ M ++ [z] ++ l.drop (t + s))[t + s - 1]? = some z := by
      rw [List.getElem?_append_left (by simp; omega), List.getElem?_append_right (by simp; omega)]
      simp only [List.length_append]
      rw [show t + s - 1 - (F.length + M.length) = 0 by omega]; rfl
    obtain ⟨A3, e, g3⟩ := pr_get (row_slice hrow) (i := t + s) gu
    cases e
    obtain ⟨A4, e, g4⟩ := pr_get (row_slice hrow) (i := t + s - 1) gz
    cases e
    have hsn2 := cpt_snoc f u z (l := l.take (t + s)) (take_last (by omega) hz)
    rw [← htk2, ← hF] at hsn2
    rw [wi64 (k := (s : Int) - 1) (by omega), wi64 (k := (s : Int) + 1) (by omega), show ((s : Int) - 1).toNat = s - 1 by omega, Int.toNat_natCast]
    have b1 : (0 : Int) ≤ (s : Int) ∧ (s : Int) < ((l.length - t : Nat) : Int) := ⟨by omega, by omega⟩
    have b2 : (0 : Int) ≤ (s : Int) - 1 ∧ (s : Int) - 1 < ((l.length - t : Nat) : Int) := ⟨by omega, by omega⟩
    have e3 : H2.has ((⟨A.block, A.off + t * 4, none⟩ : Addr).add (s * 4)) (ptC u) := by rw [hadr]; exact g3
    have e4 : H2.has ((⟨A.block, A.off + t * 4, none⟩ : Addr).add ((s - 1) * 4)) (ptC z) := by rw [hadr, show t + (s - 1) = t + s - 1 by omega]; exact g4
    refine ⟨H2, fun _ _ e => e, b1, ptr rfl (ptr rfl ⟨_, _, _, _, e3, b2, ptr rfl (ptr rfl ⟨_, _, _, _, e4, hf u z _ _ ⟨keep_same _ _ _, _, rfl, ?_⟩⟩)⟩)⟩
    refine br (fun q4 => ?_) fun q4 => ?_
    · have q4 : f u z = false := by simpa using q4
      rw [q4] at hsn2
      simp only [Bool.false_eq_true, if_false] at hsn2
      have hFl : F.length < l.length := by omega
      obtain ⟨c1, m1, r1, d1⟩ := pr_put hrow (i := F.length) hFl u
      have hset : ∃ M', M'.length = M.length ∧ (F ++ M ++ [z] ++ l.drop (t + s)).set F.length u = (F ++ [u]) ++ M' ++ [u] ++ l.drop (t + s + 1) := by
        rw [hd2]
        cases M with
        | nil => exact ⟨[], rfl, by simp⟩
        | cons m M' => exact ⟨M' ++ [z], by simp, by simp⟩
      obtain ⟨M', hM', hset⟩ := hset
      rw [hset] at r1
      rw [Int.toNat_natCast, wi64 (k := (F.length : Int) + 1) (by omega)]
      refine ⟨b1, ptr rfl (ptr rfl ⟨_, _, _, _, e3, ⟨by omega, by omega⟩, ptr rfl (ptr rfl ⟨_, _, m1, ⟨s + 1, F ++ [u], M', u, by simp, by omega, by omega, ?_, by simp, ?_, by simp; omega, ?_, hmod.trans d1⟩, by simp; omega⟩)⟩)⟩
      · rw [← hsn2]; rfl
      · rw [show t + (s + 1) - 1 = t + s by omega]; exact hu
      · exact r1
    · have q4 : f u z = true := by simpa using q4
      rw [q4] at hsn2
      simp only [if_true, List.append_nil] at hsn2
      refine ⟨⟨s + 1, F, M ++ [z], u, by simp, by omega, by omega, ?_, rfl, ?_, by simp; omega, ?_, hmod⟩, by simp; omega⟩
      · rw [← hsn2]; rfl
      · rw [show t + (s + 1) - 1 = t + s by omega]; exact hu
      · rw [hd2] at hrow
        have : F ++ (M ++ [z]) ++ [u] ++ l.drop (t + (s + 1)) = F ++ M ++ [z] ++ u :: l.drop (t + s + 1) := by simp [Nat.add_assoc]
        rw [this]; exact hrow
  · simp only [decide_eq_false_iff_not] at q3
    have hts : t + s = l.length := by omega
    rw [hts, List.take_length] at hF
    rw [hts, List.drop_length, List.append_nil, List.append_assoc] at hrow
    rw [← hF] at k
    have hz2 : pts (F ++ (M ++ [z])) = pts F ++ pts (M ++ [z]) := by simp [pts]
    rw [hz2] at hrow
    obtain ⟨cl, ⟨e1, e2, e3⟩, r1, d1⟩ := row_fill hrow (ws := List.replicate (l.length - F.length) [vi 0, .int .u32 0, .int .u32 0, .string { data := #[] }]) (by simp [pts]; omega) (by intro e he; rw [List.eq_of_mem_replicate he]; rfl) (by intro e he x hx; rw [List.eq_of_mem_replicate he] at hx; simp at hx; rcases hx with rfl | rfl | rfl | rfl <;> rfl)
    have hfl : (pts F).length = F.length := by simp [pts]
    have hsub2 : subAddr (some A) c F.length 4 = some ⟨A.block, A.off + F.length * 4, none⟩ := by
      unfold subAddr
      rw [if_neg (by omega)]
      simp [add_spot e2]
    have hsub0 : subAddr (some A) c 0 4 = some A := by
      unfold subAddr
      split
      · rfl
      · simp
    rw [Int.toNat_natCast, hsub0, Nat.sub_zero, Nat.sub_zero]
    rw [List.length_replicate] at e3
    refine ⟨⟨by omega, by omega⟩, .inr ⟨_, cl, ty, hsub2, ⟨e1, rfl, ?_⟩, ⟨by omega, by omega⟩, ?_⟩⟩
    · rw [hfl] at e3; exact e3
    · rw [hfl] at r1 d1
      have := row_prefix r1
      rw [hfl] at this
      exact k _ _ this rfl (hmod.trans d1)
end
end Cr

set_option linter.unusedVariables false
set_option linter.unusedSimpArgs false
namespace Cr
open Go Sx Stb
open Go.Sort (SWO)
open Go.Proofs.Try
set_option maxRecDepth 100000
/-- The point of an Id. -/
def look (L : List Pt) (id : Int) : Option Pt := L.find? fun p => p.id == id
abbrev SId (L : List Pt) : Prop := L.Pairwise fun p q => p.id < q.id
abbrev eqId (p q : Pt) : Bool := p.id == q.id
/-- The first of each Id, by Id. -/
def fixP (l : List Pt) : List Pt := cpt eqId (sortP l)
theorem look_cons (x : Pt) (r : List Pt) (id : Int) : look (x :: r) id = if x.id = id then some x else look r id := by
  unfold look
  rw [List.find?_cons]
  by_cases h : x.id = id
  · rw [if_pos h, show (x.id == id) = true by simpa using h]
  · rw [if_neg h, show (x.id == id) = false by simpa using h]
theorem look_snoc (x : Pt) (r : List Pt) (id : Int) : look (r ++ [x]) id = (look r id).or (if x.id = id then some x else none) := by
  unfold look
  rw [List.find?_append]
  congr 1
  have := look_cons x [] id
  unfold look at this
  rw [this]; rfl
theorem look_some {l : List Pt} {id : Int} {p : Pt} (h : look l id = some p) : p ∈ l ∧ p.id = id := ⟨List.mem_of_find?_eq_some h, by simpa using List.find?_some h⟩
theorem look_none {l : List Pt} {id : Int} : look l id = none ↔ ∀ p ∈ l, p.id ≠ id := by
  unfold look
  rw [List.find?_eq_none]
  simp
theorem cptG_look : ∀ (r : List Pt) (y : Pt), (y :: r).Pairwise (fun p q => p.id ≤ q.id) → SId (y :: cptG eqId y r) ∧ ∀ id, look (y :: cptG eqId y r) id = look (y :: r) id
  | [], y, _ => ⟨by simp [cptG], fun id => rfl⟩
  | x :: r, y, h => by
    obtain ⟨h1, h2⟩ := List.pairwise_cons.1 h
    obtain ⟨ih1, ih2⟩ := cptG_look r x h2
    have hxy := h1 x List.mem_cons_self
    obtain ⟨i1, i2⟩ := List.pairwise_cons.1 ih1
    unfold cptG
    by_cases e : x.id = y.id
    · have e1 : eqId x y = true := by simpa using e
      rw [if_pos e1]
      refine ⟨List.pairwise_cons.2 ⟨fun z hz => by have := i1 z hz; omega, i2⟩, fun id => ?_⟩
      have := ih2 id
      rw [look_cons, look_cons] at this
      rw [look_cons, look_cons, look_cons]
      by_cases q : y.id = id
      · rw [if_pos q, if_pos q]
      · rw [if_neg q, if_neg q]
        rw [if_neg (by omega), if_neg (by omega)] at this
        rw [if_neg (by omega)]
        exact this
    · have e1 : ¬ eqId x y = true := by simpa using e
      rw [if_neg e1]
      refine ⟨List.pairwise_cons.2 ⟨fun z hz => ?_, ih1⟩, fun id => ?_⟩
      · rcases List.mem_cons.1 hz with rfl | hz
        · omega
        · have := i1 z hz; omega
      · rw [look_cons y, look_cons y, ih2 id]
theorem sortP_le (l : List Pt) : (sortP l).Pairwise fun p q => p.id ≤ q.id := (isort_srtd swo_I l).imp fun {p q} h => by simpa using h
theorem look_sortP (l : List Pt) (id : Int) : look (sortP l) id = look l id := by
  have h := isort_stab swo_I l ⟨id, 0, 0, default⟩
  have e : eqv ltI ⟨id, 0, 0, default⟩ = fun p => p.id == id := by
    funext p
    unfold eqv
    by_cases q : p.id = id
    · subst q; simp
    · have : (p.id == id) = false := by simpa using q
      rw [this]
      by_cases q2 : id < p.id
      · simp [q2]
      · have : p.id < id := by omega
        simp [this]
  rw [e] at h
  have := congrArg List.head? h
  rw [List.head?_filter, List.head?_filter] at this
  exact this
theorem fixP_sid (l : List Pt) : SId (fixP l) := by
  unfold fixP
  have h := sortP_le l
  cases q : sortP l with
  | nil => simp [cpt]
  | cons y r => rw [q] at h; exact (cptG_look r y h).1
theorem look_fixP (l : List Pt) (id : Int) : look (fixP l) id = look l id := by
  rw [← look_sortP l id]
  unfold fixP
  have h := sortP_le l
  cases q : sortP l with
  | nil => rfl
  | cons y r => rw [q] at h; exact (cptG_look r y h).2 id
theorem cptG_len (f : Pt → Pt → Bool) : ∀ (r : List Pt) (y : Pt), (cptG f y r).length ≤ r.length
  | [], _ => by simp [cptG]
  | x :: r, y => by
    have := cptG_len f r x
    unfold cptG
    split <;> simp <;> omega
theorem fixP_len (l : List Pt) : (fixP l).length ≤ l.length := by
  rw [← sortP_len l]
  unfold fixP
  cases sortP l with
  | nil => simp [cpt]
  | cons y r => have := cptG_len eqId r y; simp [cpt]; omega
theorem sid_look {L : List Pt} (h : SId L) {p : Pt} (hp : p ∈ L) : look L p.id = some p := by
  induction L with
  | nil => cases hp
  | cons x r ih =>
    obtain ⟨h1, h2⟩ := List.pairwise_cons.1 h
    rw [look_cons]
    rcases List.mem_cons.1 hp with rfl | hp
    · rw [if_pos rfl]
    · have := h1 p hp
      rw [if_neg (by omega)]; exact ih h2 hp
theorem sid_mem {L : List Pt} (h : SId L) {p : Pt} : p ∈ L ↔ look L p.id = some p := ⟨sid_look h, fun e => (look_some e).1⟩
theorem sid_eq : ∀ {L M : List Pt}, SId L → SId M → (∀ id, look L id = look M id) → L = M
  | [], [], _, _, _ => rfl
  | [], y :: M, _, _, h => by have := h y.id; rw [look_cons, if_pos rfl] at this; cases this
  | x :: L, [], _, _, h => by have := h x.id; rw [look_cons, if_pos rfl] at this; cases this
  | x :: L, y :: M, hL, hM, h => by
    have mx : x ∈ y :: M := (sid_mem hM).2 (by rw [← h]; exact sid_look hL List.mem_cons_self)
    have my : y ∈ x :: L := (sid_mem hL).2 (by rw [h]; exact sid_look hM List.mem_cons_self)
    obtain ⟨l1, l2⟩ := List.pairwise_cons.1 hL
    obtain ⟨m1, m2⟩ := List.pairwise_cons.1 hM
    have e : x = y := by
      rcases List.mem_cons.1 mx with e | mx
      · exact e
      · rcases List.mem_cons.1 my with e | my
        · exact e.symm
        · have := m1 x mx; have := l1 y my; omega
    subst e
    rw [sid_eq l2 m2 fun id => ?_]
    by_cases q : x.id = id
    · subst q
      rw [look_none.2 fun p hp => by have := l1 p hp; omega, look_none.2 fun p hp => by have := m1 p hp; omega]
    · have := h id
      rw [look_cons, look_cons, if_neg q, if_neg q] at this
      exact this
/-- The law's way to the first of each Id. -/
def firstsP (l : List Pt) : List Pt := l.foldl (fun acc p => if look acc p.id = none then acc ++ [p] else acc) []
theorem firstsP_snoc (l : List Pt) (p : Pt) : firstsP (l ++ [p]) = if look (firstsP l) p.id = none then firstsP l ++ [p] else firstsP l := by
  unfold firstsP
  rw [List.foldl_append]
  rfl
theorem firstsP_ok (l : List Pt) : (∀ id, look (firstsP l) id = look l id) ∧ (∀ id, ((firstsP l).filter fun p => p.id == id).length ≤ 1) ∧ (firstsP l).length ≤ l.length := by
  have key : ∀ n, ∀ l : List Pt, l.length = n → (∀ id, look (firstsP l) id = look l id) ∧ (∀ id, ((firstsP l).filter fun p => p.id == id).length ≤ 1) ∧ (firstsP l).length ≤ l.length := by
    intro n
    induction n with
    | zero =>
      intro l hl
      obtain rfl := List.eq_nil_of_length_eq_zero hl
      simp [firstsP]
    | succ n ih =>
      intro l hl
      rcases List.eq_nil_or_concat l with rfl | ⟨r, p, rfl⟩
      · simp at hl
      rw [List.concat_eq_append] at hl ⊢
      obtain ⟨h1, h2, h3⟩ := ih r (by simpa using hl)
      rw [firstsP_snoc]
      by_cases q : look (firstsP r) p.id = none
      · rw [if_pos q]
        refine ⟨fun id => by rw [look_snoc, look_snoc, h1], fun id => ?_, by simp; omega⟩
        rw [List.filter_append, List.length_append]
        by_cases e : p.id = id
        · have : (firstsP r).filter (fun z => z.id == id) = [] := by
            rw [List.filter_eq_nil_iff]
            intro z hz
            have := look_none.1 q z hz
            simp; omega
          rw [this]; simp [e]
        · have := h2 id
          simp [e]; simpa using this
      · rw [if_neg q]
        refine ⟨fun id => ?_, h2, by simp; omega⟩
        rw [look_snoc, h1]
        by_cases e : p.id = id
        · subst e
          rw [h1] at q
          cases e2 : look r p.id with
          | none => exact (q e2).elim
          | some z => rfl
        · rw [if_neg e, Option.or_none]
  exact key l.length l rfl
theorem sid_of {M : List Pt} (h : M.Pairwise fun p q => p.id ≤ q.id) (h1 : ∀ id, (M.filter fun p => p.id == id).length ≤ 1) : SId M := by
  induction M with
  | nil => exact List.Pairwise.nil
  | cons x r ih =>
    obtain ⟨a, b⟩ := List.pairwise_cons.1 h
    refine List.pairwise_cons.2 ⟨fun y hy => ?_, ih b fun id => ?_⟩
    · have := a y hy
      by_cases e : x.id = y.id
      · have h2 := h1 x.id
        rw [List.filter_cons, if_pos (by simp), List.length_cons] at h2
        have : y ∈ r.filter fun p => p.id == x.id := List.mem_filter.2 ⟨hy, by simpa using e.symm⟩
        have := List.length_pos_of_mem this
        omega
      · omega
    · have h2 := h1 id
      rw [List.filter_cons] at h2
      split at h2
      · rw [List.length_cons] at h2; omega
      · exact h2
theorem lawFix (l : List Pt) : sortP (firstsP l) = fixP l := by
  obtain ⟨h1, h2, _⟩ := firstsP_ok l
  refine sid_eq (sid_of (sortP_le _) fun id => ?_) (fixP_sid l) fun id => ?_
  · have h := isort_stab swo_I (firstsP l) ⟨id, 0, 0, default⟩
    have e : eqv ltI ⟨id, 0, 0, default⟩ = fun p => p.id == id := by
      funext p
      unfold eqv
      by_cases q : p.id = id
      · subst q; simp
      · have : (p.id == id) = false := by simpa using q
        rw [this]
        by_cases q2 : id < p.id
        · simp [q2]
        · have : p.id < id := by omega
          simp [this]
    rw [e] at h
    show ((isort ltI (firstsP l)).filter fun p => p.id == id).length ≤ 1
    rw [h]; exact h2 id
  · rw [look_sortP, look_fixP, h1]
end Cr

set_option linter.unusedVariables false
set_option linter.unusedSimpArgs false
namespace Cr
open Go Sx Go.Proofs Go.Sort
open Go.Proofs.Try
set_option maxRecDepth 100000
theorem sid_uid {L : List Pt} (h : SId L) : UId L := by
  unfold UId
  rw [List.nodup_iff_pairwise_ne, List.pairwise_map]
  exact List.Pairwise.imp (fun h => by omega) h
section
variable {H : Heap} {R : Ending → Heap → Prop}
theorem pred_new : Pred2 24 eqId := fun p q H R k => by
  refine spec_of func24 (by kernel_rfl) (fun t h => by cases h) ?_ (vc_knew1 p.id p.x p.y p.data q.id q.x q.y q.data R H) ?_
  · simp [argsR, SV.rep, SC.rep, Sx.one, SegsRep]
  unfold nf_knew1
  exact k
theorem s_knew {v : Value} {l : List Pt} (h : SliceAt H v 4 (pts l)) (hl : l.length ≤ 1000) (k : ∀ T t H', Grow 0 (fixP l) T → KAt (offH H H') T t → H ≤ H' → R (.returned (.pointer t)) H') : Meets prog 9 [v] H R := by
  obtain ⟨a, n, c, e, hn⟩ := h
  subst e
  have h : SliceAt H (.slice a n c) 4 (pts l) := ⟨a, n, c, rfl, hn⟩
  refine spec_of func9 (by kernel_rfl) (fun t h => by cases h) ?_ (vc_knew a n c R H) ?_
  · simp [argsR, SV.rep, SC.rep, Sx.one]
  unfold nf_knew
  refine s_srt h (by omega) fun v1 H1 hle hf hrow => ?_
  obtain ⟨a1, c1, rfl⟩ := row_val hrow
  refine ⟨a1, _, c1, rfl, s_cpf pred_new hrow (by rw [sortP_len]; omega) fun v2 H2 hr2 hb2 hm2 => ?_⟩
  obtain ⟨a2, c2, rfl⟩ := row_val hr2
  have hle2 : H ≤ H2 := fun b o e => by
    rw [hm2 b (fun e2 => by rw [hf b e2] at e; cases e)]
    exact hle b o e
  have hfl := fixP_len l
  refine ⟨a2, _, c2, rfl, s_kgrow (fixP l).length (Nat.le_refl _) (row_slice hr2) (by omega) (by omega) (by omega) fun T t H' g ka hle3 => ⟨t, rfl, k T t H' g (kAt_le (off_mono hle2 fun _ _ e => e) ka) (heap_trans hle2 hle3)⟩⟩
theorem s_kfix {v : Value} {l : List Pt} (h : SliceAt H v 4 (pts l)) (hl : l.length ≤ 40) (k : ∀ v H', H ≤ H' → (∀ b, blockOf v = some b → H b = none) → RowAt H' v tPt 4 (pts (fixP l)) → R (.returned v) H') : Meets prog 8 [v] H R := by
  obtain ⟨a, n, c, e, hn⟩ := h
  subst e
  have h : SliceAt H (.slice a n c) 4 (pts l) := ⟨a, n, c, rfl, hn⟩
  have hln : l.length = n := by simpa using hn.1
  refine spec_of func8 (by kernel_rfl) (fun t h => by cases h) ?_ (vc_kfix a n c R H) ?_
  · simp [argsR, SV.rep, SC.rep, Sx.one]
  unfold nf_kfix
  simp only [true_and]
  refine ⟨fun p H' => ∃ t : Nat, p.1.1 = (t : Int) ∧ t ≤ n ∧ p.1.2.1 = pts (firstsP (l.take t)) ∧ p.1.2.2.1 = cells ((firstsP (l.take t)).map Pt.id) ∧ H' = H, fun p _ => (n - p.1.1).toNat, ⟨0, rfl, by omega, rfl, rfl, rfl⟩, ?_⟩
  rintro ⟨⟨i, rows, ids, _⟩, _⟩ H1 ⟨t, hi, ht, hrows, hids, rfl⟩
  simp only at hi hrows hids ⊢
  subst hi hrows hids
  have hfl := (firstsP_ok (l.take t)).2.2
  rw [List.length_take] at hfl
  have fin : t = n → ∀ (v : Value) (H' : Heap), H1 ≤ H' → (∀ b, blockOf v = some b → H1 b = none) → (∀ b (o : Obj), H' b = some o → H1 b = some o ∨ blockOf v = some b) → RowAt H' v 44 4 (pts (firstsP (l.take t))) → Meets prog 20 [v] H' fun e H' => ∃ (a : Option Addr) (n c : Nat), e = .returned (.slice a n c) ∧ ∃ es, RowAt H' v 44 4 es ∧ R (.returned (.slice a n c)) (Heap.delO H' (blockOf v)) := by
    intro htn v1 H2 hle hf hb hrow
    refine s_rsort (row_slice hrow) (by omega) fun v2 H3 hle2 hf2 hrow2 => ?_
    rw [lawFix, htn, ← hln, List.take_length] at hrow2
    have hr := row_delO hrow2 (o := blockOf v1) fun b hb e => rowat_known hrow e (hf2 b hb)
    obtain ⟨a2, c2, rfl⟩ := row_val hrow2
    exact ⟨a2, _, c2, rfl, _, row_le hrow (fun b o _ => hle2 b o), k _ _ (le_delO (heap_trans hle hle2) hf) (fun b hb => by
      cases q : H1 b with
      | none => rfl
      | some o => have := hf2 b hb; rw [hle b o q] at this; cases this) hr⟩
  refine br (fun q1 => br (fun q2 => ?_) fun q2 => by simp at q1 q2; omega) fun q1 => fin (by simp at q1; omega)
  simp only [decide_eq_true_eq] at q1
  obtain ⟨x, _, htk, hx⟩ := drop_cons (l := l) (k := t) (by omega)
  obtain ⟨A, e, g⟩ := pr_get h (i := t) hx
  subst e
  have hsn := firstsP_snoc (l.take t) x
  rw [← htk] at hsn
  refine ⟨⟨by omega, by omega⟩, ptr rfl (ptr rfl (ptr rfl ⟨x.id, has_first g, fun v2 H2 hle hf hb hrow => ?_⟩))⟩
  refine s_in (row_slice hrow) (by simp; omega) ⟨_, rfl, _, hrow, ?_⟩
  rw [lend_off hle hf hb, wi64 (by omega)]
  have hmem : x.id ∈ (firstsP (l.take t)).map Pt.id ↔ look (firstsP (l.take t)) x.id ≠ none := by
    rw [Ne, look_none, List.mem_map]
    constructor
    · rintro ⟨p, h1, h2⟩ h3; exact h3 p h1 h2
    · intro h3
      by_cases q : ∃ p ∈ firstsP (l.take t), p.id = x.id
      · obtain ⟨p, h1, h2⟩ := q; exact ⟨p, h1, h2⟩
      · exact (h3 fun p h1 h2 => q ⟨p, h1, h2⟩).elim
  refine br (fun q2 => ?_) fun q2 => ?_
  · have hno : look (firstsP (l.take t)) x.id = none := by
      by_cases q : look (firstsP (l.take t)) x.id = none
      · exact q
      · rw [decide_eq_true (hmem.2 q)] at q2; cases q2
    rw [if_pos hno] at hsn
    have e1 : List.append (pts (firstsP (l.take t))) [ptC x] = pts (firstsP (l.take (t + 1))) := by rw [hsn]; simp [pts]
    have e2 : List.append (cells ((firstsP (l.take t)).map Pt.id)) [[vi x.id]] = cells ((firstsP (l.take (t + 1))).map Pt.id) := by rw [hsn]; simp [cells]
    refine ⟨⟨by omega, by omega⟩, ptr rfl (ptr rfl ⟨_, _, _, _, g, ⟨by omega, by omega⟩, ptr rfl (ptr rfl (ptr rfl ⟨_, has_first g, ?_⟩))⟩)⟩
    show (List.append (pts (firstsP (l.take t))) [ptC x]).length * 32 ≤ _ ∧ (List.append (cells ((firstsP (l.take t)).map Pt.id)) [[vi x.id]]).length * 8 ≤ _ ∧ (∃ t' : Nat, _ ∧ _ ∧ List.append (pts (firstsP (l.take t))) [ptC x] = _ ∧ List.append (cells ((firstsP (l.take t)).map Pt.id)) [[vi x.id]] = _ ∧ _) ∧ _
    rw [e1, e2]
    have hl2 : (firstsP (l.take (t + 1))).length ≤ 41 := by rw [hsn]; simp; omega
    refine ⟨by simp [pts]; omega, by simp [cells]; omega, ⟨t + 1, by simp, by omega, rfl, rfl, by trivial⟩, by simp; omega⟩
  · have hyes : ¬ look (firstsP (l.take t)) x.id = none := fun q => by
      have : ¬ x.id ∈ (firstsP (l.take t)).map Pt.id := fun h => hmem.1 h q
      rw [decide_eq_false this] at q2; cases q2
    rw [if_neg hyes] at hsn
    exact ⟨⟨t + 1, by simp, by omega, by rw [hsn], by rw [hsn], by trivial⟩, by simp; omega⟩
theorem s_alive44 (k : ∀ H', H ≤ H' → R (.returned (.bool true)) H') : Meets prog 6 [] H R := by
  refine spec_of func6 (by kernel_rfl) (fun t h => by cases h) ?_ (vc_kal44 R H) ?_
  · simp [argsR]
  unfold nf_kal44
  intro v H1 hle1 hf1 hb1 hrow1
  have hrow : RowAt H1 v 44 4 (pts [⟨5, 0, 0, ⟨#[]⟩⟩]) := hrow1
  refine s_knew (row_slice hrow) (by simp) fun T t H2 g ka hle2 => ⟨t, rfl, _, row_le hrow (fun b o _ => hle2 b o), ?_⟩
  have gT : T = .node ⟨5, 0, 0, ⟨#[]⟩⟩ .nil .nil := by
    refine (Grow.det (l := [⟨5, 0, 0, ⟨#[]⟩⟩]) (T := .node ⟨5, 0, 0, ⟨#[]⟩⟩ .nil .nil) (.node (s := [⟨5, 0, 0, ⟨#[]⟩⟩]) (.refl _) (List.pairwise_singleton ..) rfl .nil .nil) ?_ (by simp [UId]) g)
    have : fixP [⟨5, 0, 0, ⟨#[]⟩⟩] = [⟨5, 0, 0, ⟨#[]⟩⟩] := by decide
    rw [this]
  subst gT
  have ka' := kAt_le (off_del (o := blockOf v) fun b hb => rowat_known hrow hb) ka
  refine s_kdep _ ka' (by simp [KT.dep]) ⟨_, rfl, br (fun _ => ?_) fun q => by simp [KT.dep] at q⟩
  refine s_kord _ ka' (by simp [KT.pre]) fun v3 H3 hle3 hf3 hr3 => ?_
  obtain ⟨a3, c3, rfl⟩ := row_val hr3
  refine ⟨a3, _, c3, rfl, fun v4 H4 hle4 hf4 hb4 hr4 => ?_⟩
  have hr4 : RowAt H4 v4 3 1 (cells [5]) := hr4
  refine s_ints (slice_le (row_slice hr3) hle4) (row_slice hr4) (by simp [KT.pre]) ⟨_, rfl, _, hr4, ?_⟩
  rw [lend_off hle4 hf4 hb4]
  have e : decide ((KT.node ⟨5, 0, 0, ⟨#[]⟩⟩ .nil .nil).pre = [5]) = true := by simp [KT.pre]
  rw [e]
  exact k _ (heap_trans (le_delO (heap_trans hle1 hle2) hf1) hle3)
end
end Cr
