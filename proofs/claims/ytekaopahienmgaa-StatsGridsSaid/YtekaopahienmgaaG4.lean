/- Points sorted, found, held against each other; the first of each Id. -/
import Derived.Test.YtekaopahienmgaaG3
set_option linter.unusedVariables false
set_option linter.unusedSimpArgs false
namespace Cr
open Go Sx Stb Bt
open Go.Sort (SWO)
open Go.Proofs.Try
set_option maxRecDepth 100000
def h_twice : Hints := { loops := [(2, ⟨[0, 2], [.f 3 (.int .i64)], []⟩)] }
def h_in : Hints := { loops := [(2, ⟨[0, 1, 4], [.f 5 (.int .i64)], []⟩)] }
def h_ints : Hints := { loops := [(4, ⟨[0, 1, 4], [.f 5 (.int .i64)], []⟩)] }
def h_points : Hints := { eqs := [28], loops := [(4, ⟨[0, 1, 4], [.f 5 (.int .i64)], []⟩)] }
def nf_cmpc (x : Int) (y : Int) (R : Ending → Heap → Prop) (H : Heap) : Prop := Meets prog (125 : Nat) [Value.int IntKind.i64 x] H fun (e : Ending) (H' : Nat → Option Obj) ↦ ∃ (b : Bool), e = Ending.returned (Value.bool b) ∧ Meets prog (125 : Nat) [Value.int IntKind.i64 y] H' fun (e : Ending) (H' : Nat → Option Obj) ↦ ∃ (b_1 : Bool), e = Ending.returned (Value.bool b_1) ∧ Br b (Br b_1 (R (Ending.returned (Value.int IntKind.i64 (0 : Int))) H') (R (Ending.returned (Value.int IntKind.i64 (-1 : Int))) H')) (Br b_1 (R (Ending.returned (Value.int IntKind.i64 (1 : Int))) H') (Br (decide (x < y)) (R (Ending.returned (Value.int IntKind.i64 (-1 : Int))) H') (Br (decide (x > y)) (R (Ending.returned (Value.int IntKind.i64 (1 : Int))) H') (R (Ending.returned (Value.int IntKind.i64 (0 : Int))) H'))))
theorem vc_cmpc (x : Int) (y : Int) (R : Ending → Heap → Prop) (H : Heap) : vcFun prog { } f90 [SV.c (SC.v (Value.int IntKind.i64 x)), SV.c (SC.v (Value.int IntKind.i64 y))] R H = nf_cmpc x y R H := by kernel_rfl

def nf_isnan (x : Int) (R : Ending → Heap → Prop) (H : Heap) : Prop := R (Ending.returned (Value.bool (x != x))) H
theorem vc_isnan (x : Int) (R : Ending → Heap → Prop) (H : Heap) : vcFun prog { } f125 [SV.c (SC.v (Value.int IntKind.i64 x))] R H = nf_isnan x R H := by kernel_rfl

def nf_srt1 (i : Int) (x : Int) (y : Int) (d : ByteArray) (i' : Int) (x' : Int) (y' : Int) (d' : ByteArray) (R : Ending → Heap → Prop) (H : Heap) : Prop := Meets prog (90 : Nat) [Value.int IntKind.i64 i, Value.int IntKind.i64 i'] H fun (e : Ending) (H' : Nat → Option Obj) ↦ ∃ (n : Int), e = Ending.returned (Value.int IntKind.i64 n) ∧ R (Ending.returned (Value.int IntKind.i64 n)) H'
theorem vc_srt1 (i : Int) (x : Int) (y : Int) (d : ByteArray) (i' : Int) (x' : Int) (y' : Int) (d' : ByteArray) (R : Ending → Heap → Prop) (H : Heap) : vcFun prog { } f89 [ptA i x y d, ptA i' x' y' d'] R H = nf_srt1 i x y d i' x' y' d' R H := by kernel_rfl

def nf_sst (a : Option Addr) (n : Nat) (c : Nat) (g : Nat) (R : Ending → Heap → Prop) (H : Heap) : Prop := Meets prog (124 : Nat) [Value.slice a n c, Value.int IntKind.i64 (↑n : Int), Value.func (Fn.func g) { toList := [] } { toList := [] }] H fun (e : Ending) (H' : Nat → Option Obj) ↦ e = Ending.returned (Value.tuple { toList := [] }) ∧ R (Ending.returned (Value.tuple { toList := [] })) H'
theorem vc_sst (a : Option Addr) (n : Nat) (c : Nat) (g : Nat) (R : Ending → Heap → Prop) (H : Heap) : vcFun prog { } f88 [SV.c (SC.v (Value.slice a n c)), SV.c (SC.v (Value.func (Fn.func g) #[] #[]))] R H = nf_sst a n c g R H := by kernel_rfl

def nf_stb0 (g : Nat) (R : Ending → Heap → Prop) (H : Heap) : Prop := (none : Option Addr) = none ∧ (0 : Nat) = (0 : Nat) ∧ (0 : Nat) = (0 : Nat) ∧ (0 : Int) = (0 : Int) ∧ Value.func (Fn.func g) { toList := [] } { toList := [] } = Value.func (Fn.func g) { toList := [] } { toList := [] } ∧ (20 : Int) = (20 : Int) ∧ LoopP (fun (K : (Int × Int × PUnit) × PUnit → (Nat → Option Obj) → Prop) (p : (Int × Int × PUnit) × PUnit) (H : Nat → Option Obj) ↦ Br (decide (p.fst.snd.fst ≤ (0 : Int))) (Meets prog (133 : Nat) [Value.slice none (0 : Nat) (0 : Nat), Value.int IntKind.i64 p.fst.fst, Value.int IntKind.i64 p.fst.snd.fst, Value.func (Fn.func g) { toList := [] } { toList := [] }] H fun (e : Ending) (H' : Nat → Option Obj) ↦ e = Ending.returned (Value.tuple { toList := [] }) ∧ (none : Option Addr) = none ∧ (0 : Nat) = (0 : Nat) ∧ (0 : Nat) = (0 : Nat) ∧ (0 : Int) = (0 : Int) ∧ Value.func (Fn.func g) { toList := [] } { toList := [] } = Value.func (Fn.func g) { toList := [] } { toList := [] } ∧ (20 : Int) = (20 : Int) ∧ K ((p.fst.snd.fst, IntKind.wrap IntKind.i64 (p.fst.snd.fst + (20 : Int)), PUnit.unit), PUnit.unit) H') (Meets prog (133 : Nat) [Value.slice none (0 : Nat) (0 : Nat), Value.int IntKind.i64 p.fst.fst, Value.int IntKind.i64 (0 : Int), Value.func (Fn.func g) { toList := [] } { toList := [] }] H fun (e : Ending) (H' : Nat → Option Obj) ↦ e = Ending.returned (Value.tuple { toList := [] }) ∧ (none : Option Addr) = none ∧ (0 : Nat) = (0 : Nat) ∧ (0 : Nat) = (0 : Nat) ∧ (0 : Int) = (0 : Int) ∧ Value.func (Fn.func g) { toList := [] } { toList := [] } = Value.func (Fn.func g) { toList := [] } { toList := [] } ∧ LoopP (fun (K : (Int × PUnit) × PUnit → (Nat → Option Obj) → Prop) (p : (Int × PUnit) × PUnit) (H : Nat → Option Obj) ↦ Br (decide (p.fst.fst < (0 : Int))) ((none : Option Addr) = none ∧ (0 : Nat) = (0 : Nat) ∧ (0 : Nat) = (0 : Nat) ∧ (0 : Int) = (0 : Int) ∧ Value.func (Fn.func g) { toList := [] } { toList := [] } = Value.func (Fn.func g) { toList := [] } { toList := [] } ∧ p.fst.fst = p.fst.fst ∧ LoopP (fun (K_1 : (Int × Int × PUnit) × PUnit → (Nat → Option Obj) → Prop) (p_1 : (Int × Int × PUnit) × PUnit) (H : Nat → Option Obj) ↦ Br (decide (p_1.fst.snd.fst ≤ (0 : Int))) (Meets prog (134 : Nat) [Value.slice none (0 : Nat) (0 : Nat), Value.int IntKind.i64 p_1.fst.fst, Value.int IntKind.i64 (IntKind.wrap IntKind.i64 (p_1.fst.fst + p.fst.fst)), Value.int IntKind.i64 p_1.fst.snd.fst, Value.func (Fn.func g) { toList := [] } { toList := [] }] H fun (e : Ending) (H' : Nat → Option Obj) ↦ e = Ending.returned (Value.tuple { toList := [] }) ∧ (none : Option Addr) = none ∧ (0 : Nat) = (0 : Nat) ∧ (0 : Nat) = (0 : Nat) ∧ (0 : Int) = (0 : Int) ∧ Value.func (Fn.func g) { toList := [] } { toList := [] } = Value.func (Fn.func g) { toList := [] } { toList := [] } ∧ p.fst.fst = p.fst.fst ∧ K_1 ((p_1.fst.snd.fst, IntKind.wrap IntKind.i64 (p_1.fst.snd.fst + IntKind.wrap IntKind.i64 ((2 : Int) * p.fst.fst)), PUnit.unit), PUnit.unit) H') (Br (decide (IntKind.wrap IntKind.i64 (p_1.fst.fst + p.fst.fst) < (0 : Int))) (Meets prog (134 : Nat) [Value.slice none (0 : Nat) (0 : Nat), Value.int IntKind.i64 p_1.fst.fst, Value.int IntKind.i64 (IntKind.wrap IntKind.i64 (p_1.fst.fst + p.fst.fst)), Value.int IntKind.i64 (0 : Int), Value.func (Fn.func g) { toList := [] } { toList := [] }] H fun (e : Ending) (H' : Nat → Option Obj) ↦ e = Ending.returned (Value.tuple { toList := [] }) ∧ (none : Option Addr) = none ∧ (0 : Nat) = (0 : Nat) ∧ (0 : Nat) = (0 : Nat) ∧ (0 : Int) = (0 : Int) ∧ Value.func (Fn.func g) { toList := [] } { toList := [] } = Value.func (Fn.func g) { toList := [] } { toList := [] } ∧ K ((IntKind.wrap IntKind.i64 (p.fst.fst * (2 : Int)), PUnit.unit), PUnit.unit) H') ((none : Option Addr) = none ∧ (0 : Nat) = (0 : Nat) ∧ (0 : Nat) = (0 : Nat) ∧ (0 : Int) = (0 : Int) ∧ Value.func (Fn.func g) { toList := [] } { toList := [] } = Value.func (Fn.func g) { toList := [] } { toList := [] } ∧ K ((IntKind.wrap IntKind.i64 (p.fst.fst * (2 : Int)), PUnit.unit), PUnit.unit) H))) (((0 : Int), IntKind.wrap IntKind.i64 ((2 : Int) * p.fst.fst), PUnit.unit), PUnit.unit) H) (R (Ending.returned (Value.tuple { toList := [] })) H)) (((20 : Int), PUnit.unit), PUnit.unit) H')) (((0 : Int), (20 : Int), PUnit.unit), PUnit.unit) H
theorem vc_stb0 (g : Nat) (R : Ending → Heap → Prop) (H : Heap) : vcFun prog h_stb f124 [SV.c (SC.v (Value.slice none (0 : Nat) (0 : Nat))), SV.c (SC.v (Value.int IntKind.i64 (0 : Int))), SV.c (SC.v (Value.func (Fn.func g) #[] #[]))] R H = nf_stb0 g R H := by kernel_rfl

def nf_ins0 (g : Nat) (R : Ending → Heap → Prop) (H : Heap) : Prop := (none : Option Addr) = none ∧ (0 : Nat) = (0 : Nat) ∧ (0 : Nat) = (0 : Nat) ∧ (0 : Int) = (0 : Int) ∧ (0 : Int) = (0 : Int) ∧ Value.func (Fn.func g) { toList := [] } { toList := [] } = Value.func (Fn.func g) { toList := [] } { toList := [] } ∧ LoopP (fun (K : (Int × PUnit) × PUnit → (Nat → Option Obj) → Prop) (p : (Int × PUnit) × PUnit) (H : Nat → Option Obj) ↦ Br (decide (p.fst.fst < (0 : Int))) ((none : Option Addr) = none ∧ (0 : Nat) = (0 : Nat) ∧ (0 : Nat) = (0 : Nat) ∧ (0 : Int) = (0 : Int) ∧ (0 : Int) = (0 : Int) ∧ Value.func (Fn.func g) { toList := [] } { toList := [] } = Value.func (Fn.func g) { toList := [] } { toList := [] } ∧ p.fst.fst = p.fst.fst ∧ LoopP (fun (K_1 : (Int × PUnit) × PUnit → (Nat → Option Obj) → Prop) (p_1 : (Int × PUnit) × PUnit) (H : Nat → Option Obj) ↦ ∃ (G : Nat → Option Obj), G ≤ H ∧ Br (decide (p_1.fst.fst > (0 : Int))) (((0 : Int) ≤ p_1.fst.fst ∧ p_1.fst.fst < (↑(0 : Nat) : Int)) ∧ PtrK none fun (A : Addr) ↦ PtrK (some (Addr.add A (Int.toNat p_1.fst.fst * (4 : Nat)))) fun (a : Addr) ↦ ∃ (n : Int), ∃ (n_1 : Int), ∃ (n_2 : Int), ∃ (s : ByteArray), Heap.has G a [Value.int IntKind.i64 n, Value.int IntKind.u32 n_1, Value.int IntKind.u32 n_2, Value.string s] ∧ ((0 : Int) ≤ IntKind.wrap IntKind.i64 (p_1.fst.fst - (1 : Int)) ∧ IntKind.wrap IntKind.i64 (p_1.fst.fst - (1 : Int)) < (↑(0 : Nat) : Int)) ∧ PtrK none fun (A : Addr) ↦ PtrK (some (Addr.add A (Int.toNat (IntKind.wrap IntKind.i64 (p_1.fst.fst - (1 : Int))) * (4 : Nat)))) fun (a : Addr) ↦ ∃ (n_3 : Int), ∃ (n_4 : Int), ∃ (n_5 : Int), ∃ (s_1 : ByteArray), Heap.has G a [Value.int IntKind.i64 n_3, Value.int IntKind.u32 n_4, Value.int IntKind.u32 n_5, Value.string s_1] ∧ Meets prog g [Value.agg { toList := [Value.int IntKind.i64 n, Value.int IntKind.u32 n_1, Value.int IntKind.u32 n_2, Value.string s] }, Value.agg { toList := [Value.int IntKind.i64 n_3, Value.int IntKind.u32 n_4, Value.int IntKind.u32 n_5, Value.string s_1] }] H fun (e : Ending) (H' : Nat → Option Obj) ↦ Keep G H H H' ∧ ∃ (n : Int), e = Ending.returned (Value.int IntKind.i64 n) ∧ Br (decide (n < (0 : Int))) (((0 : Int) ≤ IntKind.wrap IntKind.i64 (p_1.fst.fst - (1 : Int)) ∧ IntKind.wrap IntKind.i64 (p_1.fst.fst - (1 : Int)) < (↑(0 : Nat) : Int)) ∧ PtrK none fun (A : Addr) ↦ PtrK (some (Addr.add A (Int.toNat (IntKind.wrap IntKind.i64 (p_1.fst.fst - (1 : Int))) * (4 : Nat)))) fun (a : Addr) ↦ ∃ (n : Int), ∃ (n_6 : Int), ∃ (n_7 : Int), ∃ (s : ByteArray), Heap.has (delLs H' []) a [Value.int IntKind.i64 n, Value.int IntKind.u32 n_6, Value.int IntKind.u32 n_7, Value.string s] ∧ ((0 : Int) ≤ p_1.fst.fst ∧ p_1.fst.fst < (↑(0 : Nat) : Int)) ∧ PtrK none fun (A : Addr) ↦ PtrK (some (Addr.add A (Int.toNat p_1.fst.fst * (4 : Nat)))) fun (a : Addr) ↦ ∃ (n_8 : Int), ∃ (n_9 : Int), ∃ (n_10 : Int), ∃ (s_2 : ByteArray), Heap.has (delLs H' []) a [Value.int IntKind.i64 n_8, Value.int IntKind.u32 n_9, Value.int IntKind.u32 n_10, Value.string s_2] ∧ ((0 : Int) ≤ p_1.fst.fst ∧ p_1.fst.fst < (↑(0 : Nat) : Int)) ∧ PtrK none fun (A : Addr) ↦ PtrK (some (Addr.add A (Int.toNat p_1.fst.fst * (4 : Nat)))) fun (A : Addr) ↦ ∃ (c : Array Value), ∃ (ty : Nat), (delLs H' [] A.block = some (Obj.cells c ty) ∧ A.spot = none ∧ A.off + (4 : Nat) ≤ Array.size c) ∧ ((0 : Int) ≤ IntKind.wrap IntKind.i64 (p_1.fst.fst - (1 : Int)) ∧ IntKind.wrap IntKind.i64 (p_1.fst.fst - (1 : Int)) < (↑(0 : Nat) : Int)) ∧ PtrK none fun (A_1 : Addr) ↦ PtrK (some (Addr.add A_1 (Int.toNat (IntKind.wrap IntKind.i64 (p_1.fst.fst - (1 : Int))) * (4 : Nat)))) fun (A_2 : Addr) ↦ ∃ (c_1 : Array Value), ∃ (ty_1 : Nat), (Heap.upd (delLs H' ([] ++ ([] ++ ([] ++ ([] ++ ([] ++ []))) ++ ([] ++ ([] ++ ([] ++ ([] ++ []))) ++ [])))) A.block (Obj.cells (writeCells c A.off [Value.int IntKind.i64 n, Value.int IntKind.u32 n_6, Value.int IntKind.u32 n_7, Value.string s]) ty) A_2.block = some (Obj.cells c_1 ty_1) ∧ A_2.spot = none ∧ A_2.off + (4 : Nat) ≤ Array.size c_1) ∧ (none : Option Addr) = none ∧ (0 : Nat) = (0 : Nat) ∧ (0 : Nat) = (0 : Nat) ∧ (0 : Int) = (0 : Int) ∧ (0 : Int) = (0 : Int) ∧ Value.func (Fn.func g) { toList := [] } { toList := [] } = Value.func (Fn.func g) { toList := [] } { toList := [] } ∧ p.fst.fst = p.fst.fst ∧ K_1 ((IntKind.wrap IntKind.i64 (p_1.fst.fst - (1 : Int)), PUnit.unit), PUnit.unit) (Heap.upd (Heap.upd (delLs H' []) A.block (Obj.cells (writeCells c A.off [Value.int IntKind.i64 n, Value.int IntKind.u32 n_6, Value.int IntKind.u32 n_7, Value.string s]) ty)) A_2.block (Obj.cells (writeCells c_1 A_2.off [Value.int IntKind.i64 n_8, Value.int IntKind.u32 n_9, Value.int IntKind.u32 n_10, Value.string s_2]) ty_1))) ((none : Option Addr) = none ∧ (0 : Nat) = (0 : Nat) ∧ (0 : Nat) = (0 : Nat) ∧ (0 : Int) = (0 : Int) ∧ (0 : Int) = (0 : Int) ∧ Value.func (Fn.func g) { toList := [] } { toList := [] } = Value.func (Fn.func g) { toList := [] } { toList := [] } ∧ K ((IntKind.wrap IntKind.i64 (p.fst.fst + (1 : Int)), PUnit.unit), PUnit.unit) (delLs H' []))) ((none : Option Addr) = none ∧ (0 : Nat) = (0 : Nat) ∧ (0 : Nat) = (0 : Nat) ∧ (0 : Int) = (0 : Int) ∧ (0 : Int) = (0 : Int) ∧ Value.func (Fn.func g) { toList := [] } { toList := [] } = Value.func (Fn.func g) { toList := [] } { toList := [] } ∧ K ((IntKind.wrap IntKind.i64 (p.fst.fst + (1 : Int)), PUnit.unit), PUnit.unit) H)) ((p.fst.fst, PUnit.unit), PUnit.unit) H) (R (Ending.returned (Value.tuple { toList := [] })) H)) ((IntKind.wrap IntKind.i64 ((0 : Int) + (1 : Int)), PUnit.unit), PUnit.unit) H
theorem vc_ins0 (g : Nat) (R : Ending → Heap → Prop) (H : Heap) : vcFun prog h_ins f133 [SV.c (SC.v (Value.slice none (0 : Nat) (0 : Nat))), SV.c (SC.v (Value.int IntKind.i64 (0 : Int))), SV.c (SC.v (Value.int IntKind.i64 (0 : Int))), SV.c (SC.v (Value.func (Fn.func g) #[] #[]))] R H = nf_ins0 g R H := by kernel_rfl

def nf_srt (a : Option Addr) (n : Nat) (c : Nat) (R : Ending → Heap → Prop) (H : Heap) : Prop := Meets prog (87 : Nat) [Value.slice a n c] H fun (e : Ending) (H' : Nat → Option Obj) ↦ ∃ (a : Option Addr), ∃ (n : Nat), ∃ (c : Nat), e = Ending.returned (Value.slice a n c) ∧ Meets prog (88 : Nat) [Value.slice a n c, Value.func (Fn.func (89 : Nat)) { toList := [] } { toList := [] }] H' fun (e : Ending) (H' : Nat → Option Obj) ↦ e = Ending.returned (Value.tuple { toList := [] }) ∧ R (Ending.returned (Value.slice a n c)) H'
theorem vc_srt (a : Option Addr) (n : Nat) (c : Nat) (R : Ending → Heap → Prop) (H : Heap) : vcFun prog { } f59 [SV.c (SC.v (Value.slice a n c))] R H = nf_srt a n c R H := by kernel_rfl

def nf_find (a : Option Addr) (n : Nat) (c : Nat) (id : Int) (R : Ending → Heap → Prop) (H : Heap) : Prop := ∀ (b : Nat), H b = none → Meets prog (109 : Nat) [Value.slice a n c, Value.func (Fn.func (114 : Nat)) { toList := [] } { toList := [Value.pointer (some { block := b, off := (0 : Nat) })] }] (Heap.upd H b (Obj.cells { toList := [Value.int IntKind.i64 id] } (3 : Nat))) fun (e : Ending) (H' : Nat → Option Obj) ↦ ∃ (n : Int), e = Ending.returned (Value.int IntKind.i64 n) ∧ ∃ (n_1 : Int), (∃ (b_1 : Nat), blockOf (Value.pointer (some { block := b, off := (0 : Nat) })) = some b_1 ∧ H' b_1 = some (Obj.cells { toList := [Value.int IntKind.i64 n_1] } (3 : Nat))) ∧ R (Ending.returned (Value.int IntKind.i64 n)) (Heap.delO H' (blockOf (Value.pointer (some { block := b, off := (0 : Nat) }))))
theorem vc_find (a : Option Addr) (n : Nat) (c : Nat) (id : Int) (R : Ending → Heap → Prop) (H : Heap) : vcFun prog { } f77 [SV.c (SC.v (Value.slice a n c)), SV.c (SC.v (Value.int IntKind.i64 id))] R H = nf_find a n c id R H := by kernel_rfl

def nf_find1 (i : Int) (x : Int) (y : Int) (d : ByteArray) (pid : Addr) (R : Ending → Heap → Prop) (H : Heap) : Prop := PtrK (some pid) fun (a : Addr) ↦ ∃ (n : Int), Heap.has H a [Value.int IntKind.i64 n] ∧ R (Ending.returned (Value.bool (i == n))) H
theorem vc_find1 (i : Int) (x : Int) (y : Int) (d : ByteArray) (pid : Addr) (R : Ending → Heap → Prop) (H : Heap) : vcFun prog { } f114 [ptA i x y d, SV.c (SC.v (Value.pointer (some pid)))] R H = nf_find1 i x y d pid R H := by kernel_rfl

def nf_twice (a : Option Addr) (n : Nat) (c : Nat) (R : Ending → Heap → Prop) (H : Heap) : Prop := a = a ∧ n = n ∧ c = c ∧ false = false ∧ LoopP (fun (K : (Int × PUnit) × PUnit → (Nat → Option Obj) → Prop) (p : (Int × PUnit) × PUnit) (H : Nat → Option Obj) ↦ Br (decide (p.fst.fst < (↑n : Int))) (((0 : Int) ≤ p.fst.fst ∧ p.fst.fst < (↑n : Int)) ∧ PtrK a fun (A : Addr) ↦ PtrK (some (Addr.add A (Int.toNat p.fst.fst * (4 : Nat)))) fun (a_1 : Addr) ↦ PtrK (some (Addr.add a_1 (0 : Nat))) fun (a_2 : Addr) ↦ ∃ (n_1 : Int), Heap.has H a_2 [Value.int IntKind.i64 n_1] ∧ ((0 : Int) ≤ IntKind.wrap IntKind.i64 (p.fst.fst - (1 : Int)) ∧ IntKind.wrap IntKind.i64 (p.fst.fst - (1 : Int)) < (↑n : Int)) ∧ PtrK a fun (A : Addr) ↦ PtrK (some (Addr.add A (Int.toNat (IntKind.wrap IntKind.i64 (p.fst.fst - (1 : Int))) * (4 : Nat)))) fun (a_3 : Addr) ↦ PtrK (some (Addr.add a_3 (0 : Nat))) fun (a_4 : Addr) ↦ ∃ (n_2 : Int), Heap.has H a_4 [Value.int IntKind.i64 n_2] ∧ Br (n_1 == n_2) (R (Ending.returned (Value.bool true)) H) (a = a ∧ n = n ∧ c = c ∧ false = false ∧ K ((IntKind.wrap IntKind.i64 (p.fst.fst + (1 : Int)), PUnit.unit), PUnit.unit) H)) (R (Ending.returned (Value.bool false)) H)) (((1 : Int), PUnit.unit), PUnit.unit) H
theorem vc_twice (a : Option Addr) (n : Nat) (c : Nat) (R : Ending → Heap → Prop) (H : Heap) : vcFun prog h_twice f60 [SV.c (SC.v (Value.slice a n c))] R H = nf_twice a n c R H := by kernel_rfl

def nf_inn (a : Option Addr) (n : Nat) (c : Nat) (x : Int) (R : Ending → Heap → Prop) (H : Heap) : Prop := a = a ∧ n = n ∧ c = c ∧ x = x ∧ false = false ∧ LoopP (fun (K : (Int × PUnit) × PUnit → (Nat → Option Obj) → Prop) (p : (Int × PUnit) × PUnit) (H : Nat → Option Obj) ↦ Br (decide (p.fst.fst < (↑n : Int))) (((0 : Int) ≤ p.fst.fst ∧ p.fst.fst < (↑n : Int)) ∧ PtrK a fun (A : Addr) ↦ PtrK (some (Addr.add A (Int.toNat p.fst.fst * (1 : Nat)))) fun (a_1 : Addr) ↦ ∃ (n_1 : Int), Heap.has H a_1 [Value.int IntKind.i64 n_1] ∧ Br (n_1 == x) (R (Ending.returned (Value.bool true)) H) (a = a ∧ n = n ∧ c = c ∧ x = x ∧ false = false ∧ K ((IntKind.wrap IntKind.i64 (p.fst.fst + (1 : Int)), PUnit.unit), PUnit.unit) H)) (R (Ending.returned (Value.bool false)) H)) (((0 : Int), PUnit.unit), PUnit.unit) H
theorem vc_inn (a : Option Addr) (n : Nat) (c : Nat) (x : Int) (R : Ending → Heap → Prop) (H : Heap) : vcFun prog h_in f57 [SV.c (SC.v (Value.slice a n c)), SV.c (SC.v (Value.int IntKind.i64 x))] R H = nf_inn a n c x R H := by kernel_rfl

def nf_ints (a : Option Addr) (n : Nat) (c : Nat) (a' : Option Addr) (n' : Nat) (c' : Nat) (R : Ending → Heap → Prop) (H : Heap) : Prop := Br ((↑n : Int) != (↑n' : Int)) (R (Ending.returned (Value.bool false)) H) (a = a ∧ n = n ∧ c = c ∧ a' = a' ∧ n' = n' ∧ c' = c' ∧ false = false ∧ LoopP (fun (K : (Int × PUnit) × PUnit → (Nat → Option Obj) → Prop) (p : (Int × PUnit) × PUnit) (H : Nat → Option Obj) ↦ Br (decide (p.fst.fst < (↑n : Int))) (((0 : Int) ≤ p.fst.fst ∧ p.fst.fst < (↑n : Int)) ∧ PtrK a fun (A : Addr) ↦ PtrK (some (Addr.add A (Int.toNat p.fst.fst * (1 : Nat)))) fun (a_1 : Addr) ↦ ∃ (n_1 : Int), Heap.has H a_1 [Value.int IntKind.i64 n_1] ∧ ((0 : Int) ≤ p.fst.fst ∧ p.fst.fst < (↑n' : Int)) ∧ PtrK a' fun (A : Addr) ↦ PtrK (some (Addr.add A (Int.toNat p.fst.fst * (1 : Nat)))) fun (a_2 : Addr) ↦ ∃ (n_2 : Int), Heap.has H a_2 [Value.int IntKind.i64 n_2] ∧ Br (n_1 != n_2) (R (Ending.returned (Value.bool false)) H) (a = a ∧ n = n ∧ c = c ∧ a' = a' ∧ n' = n' ∧ c' = c' ∧ false = false ∧ K ((IntKind.wrap IntKind.i64 (p.fst.fst + (1 : Int)), PUnit.unit), PUnit.unit) H)) (R (Ending.returned (Value.bool true)) H)) (((0 : Int), PUnit.unit), PUnit.unit) H)
theorem vc_ints (a : Option Addr) (n : Nat) (c : Nat) (a' : Option Addr) (n' : Nat) (c' : Nat) (R : Ending → Heap → Prop) (H : Heap) : vcFun prog h_ints f19 [SV.c (SC.v (Value.slice a n c)), SV.c (SC.v (Value.slice a' n' c'))] R H = nf_ints a n c a' n' c' R H := by kernel_rfl

def nf_points (a : Option Addr) (n : Nat) (c : Nat) (a' : Option Addr) (n' : Nat) (c' : Nat) (R : Ending → Heap → Prop) (H : Heap) : Prop := Br ((↑n : Int) != (↑n' : Int)) (R (Ending.returned (Value.bool false)) H) (a = a ∧ n = n ∧ c = c ∧ a' = a' ∧ n' = n' ∧ c' = c' ∧ false = false ∧ LoopP (fun (K : (Int × PUnit) × PUnit → (Nat → Option Obj) → Prop) (p : (Int × PUnit) × PUnit) (H : Nat → Option Obj) ↦ Br (decide (p.fst.fst < (↑n : Int))) (((0 : Int) ≤ p.fst.fst ∧ p.fst.fst < (↑n : Int)) ∧ PtrK a fun (A : Addr) ↦ PtrK (some (Addr.add A (Int.toNat p.fst.fst * (4 : Nat)))) fun (a_1 : Addr) ↦ ∃ (n_1 : Int), ∃ (n_2 : Int), ∃ (n_3 : Int), ∃ (s : ByteArray), Heap.has H a_1 [Value.int IntKind.i64 n_1, Value.int IntKind.u32 n_2, Value.int IntKind.u32 n_3, Value.string s] ∧ ((0 : Int) ≤ p.fst.fst ∧ p.fst.fst < (↑n' : Int)) ∧ PtrK a' fun (A : Addr) ↦ PtrK (some (Addr.add A (Int.toNat p.fst.fst * (4 : Nat)))) fun (a_2 : Addr) ↦ ∃ (n_4 : Int), ∃ (n_5 : Int), ∃ (n_6 : Int), ∃ (s_1 : ByteArray), Heap.has H a_2 [Value.int IntKind.i64 n_4, Value.int IntKind.u32 n_5, Value.int IntKind.u32 n_6, Value.string s_1] ∧ Br (!andO (some (andO (some (andO (some (andO none (n_1 == n_4))) (n_2 == n_5))) (n_3 == n_6))) (s == s_1)) (R (Ending.returned (Value.bool false)) H) (a = a ∧ n = n ∧ c = c ∧ a' = a' ∧ n' = n' ∧ c' = c' ∧ false = false ∧ K ((IntKind.wrap IntKind.i64 (p.fst.fst + (1 : Int)), PUnit.unit), PUnit.unit) H)) (R (Ending.returned (Value.bool true)) H)) (((0 : Int), PUnit.unit), PUnit.unit) H)
theorem vc_points (a : Option Addr) (n : Nat) (c : Nat) (a' : Option Addr) (n' : Nat) (c' : Nat) (R : Ending → Heap → Prop) (H : Heap) : vcFun prog h_points f32 [SV.c (SC.v (Value.slice a n c)), SV.c (SC.v (Value.slice a' n' c'))] R H = nf_points a n c a' n' c' R H := by kernel_rfl


theorem ba_beq (a b : ByteArray) : (a == b) = decide (a = b) := by
  cases a with | mk x => cases b with | mk y =>
  have : ((⟨x⟩ : ByteArray) == ⟨y⟩) = (x == y) := rfl
  rw [this, Bool.eq_iff_iff]
  simp
theorem upd_del {H : Heap} {b : Nat} {o : Obj} (h : H b = none) : (H.upd b o).del b = H := by
  funext x
  unfold Heap.del Heap.upd
  split
  · subst_vars; exact h.symm
  · rfl
theorem upd_le {H : Heap} {b : Nat} {o : Obj} (h : H b = none) : H ≤ H.upd b o := fun x y e => by
  rw [upd_ne _ _ (fun q => by subst q; rw [h] at e; cases e)]; exact e
theorem ir_get {H : Heap} {a : Option Addr} {n c : Nat} {l : List Int} (h : SliceAt H (.slice a n c) 1 (cells l)) {i : Nat} {x : Int} (he : l[i]? = some x) : ∃ A, a = some A ∧ H.has (A.add (i * 1)) [vi x] := by
  obtain ⟨A, h1, _, h2⟩ := slice_get h (i := i) (e := [vi x]) (by simp [cells, he])
  exact ⟨A, h1, h2⟩
abbrev ltI (p q : Pt) : Bool := decide (p.id < q.id)
def cmpI (p q : Pt) : Int := if p.id < q.id then -1 else if p.id > q.id then 1 else 0
theorem ltc_cmpI : ltc cmpI = ltI := by
  funext p q
  unfold ltc cmpI ltI
  split
  · simp_all
  · split <;> simp_all
theorem swo_I : SWO ltI := ⟨fun x => by simp, fun x y z => by simp; omega, fun x y z => by simp; omega⟩
/-- Points, by Id. -/
def sortP (l : List Pt) : List Pt := isort ltI l
theorem sortP_len (l : List Pt) : (sortP l).length = l.length := isort_len l
theorem sortP_mem {l : List Pt} {p : Pt} : p ∈ sortP l ↔ p ∈ l := isort_mem
section
variable {R : Ending → Heap → Prop} {H : Heap}
theorem s_cmpc {x y : Int} (k : R (.returned (vi (if x < y then -1 else if x > y then 1 else 0))) H) : Meets prog 90 [vi x, vi y] H R := by
  refine spec_of func90 (by kernel_rfl) (fun t h => by cases h) ?_ (vc_cmpc x y R H) ?_
  · simp [argsR, SV.rep, SC.rep, one]
  unfold nf_cmpc
  have nan : ∀ (z : Int) (R : Ending → Heap → Prop) (H : Heap), R (.returned (.bool false)) H → Meets prog 125 [vi z] H R := fun z R H k => by
    refine spec_of func125 (by kernel_rfl) (fun t h => by cases h) ?_ (vc_isnan z R H) ?_
    · simp [argsR, SV.rep, SC.rep, one]
    unfold nf_isnan
    simpa using k
  refine nan _ _ _ ⟨_, rfl, nan _ _ _ ⟨_, rfl, br (fun q => by cases q) fun _ => br (fun q => by cases q) fun _ => br (fun q => ?_) fun q => br (fun q1 => ?_) fun q1 => ?_⟩⟩
  all_goals simp only [decide_eq_true_eq, decide_eq_false_iff_not] at *
  · rwa [if_pos q] at k
  · rwa [if_neg q, if_pos q1] at k
  · rwa [if_neg q, if_neg q1] at k
theorem cmp_srt1 : CmpOK 89 cmpI := fun p q H R k => by
  refine spec_of func89 (by kernel_rfl) (fun t h => by cases h) ?_ (vc_srt1 p.id p.x p.y p.data q.id q.x q.y q.data R H) ?_
  · simp [argsR, SV.rep, SegsRep, SC.rep, one]
  unfold nf_srt1
  exact s_cmpc ⟨_, rfl, k⟩
theorem s_sst {g : Nat} {cf : Pt → Pt → Int} (hc : CmpOK g cf) (hs : SWO (ltc cf)) {v : Value} {ty : Nat} {l : List Pt} (hrow : RowAt H v ty 4 (pts l)) (hl : l.length ≤ 1000000) (hcap : ∀ a n c, v = .slice a n c → n ≤ 1000000)
    (k : ∀ H', RowAt H' v ty 4 (pts (isort (ltc cf) l)) → Mod v H H' → R (.returned (.tuple #[])) H') : Meets prog 88 [v, .func (.func g) #[] #[]] H R := by
  obtain ⟨a, c, rfl⟩ := row_val hrow
  have hpl : (pts l).length = l.length := by simp [pts]
  rw [hpl] at hrow k ⊢
  refine spec_of func88 (by kernel_rfl) (fun t h => by cases h) ?_ (vc_sst a l.length c g R H) ?_
  · simp [argsR, SV.rep, SC.rep, one]
  unfold nf_sst
  cases a with
  | some A => exact s_stb hc hs hl rfl hrow fun H' h1 h2 => ⟨rfl, k H' h1 h2⟩
  | none =>
    obtain ⟨rfl, rfl⟩ : l = [] ∧ c = 0 := by
      rcases hrow with ⟨e, e2⟩ | ⟨_, _, _, _, e, _⟩
      · simp only [Value.slice.injEq] at e
        exact ⟨by simpa [pts] using e2, e.2.2⟩
      · cases e
    refine spec_of func124 (by kernel_rfl) (fun t h => by cases h) ?_ (vc_stb0 g _ H) ?_
    · simp [argsR, SV.rep, SC.rep, one]
    unfold nf_stb0
    have i0 : ∀ (R : Ending → Heap → Prop), R (.returned (.tuple #[])) H → Meets prog 133 [.slice none 0 0, vi 0, vi 0, .func (.func g) #[] #[]] H R := fun R k => by
      refine spec_of func133 (by kernel_rfl) (fun t h => by cases h) ?_ (vc_ins0 g _ H) ?_
      · simp [argsR, SV.rep, SC.rep, one]
      unfold nf_ins0
      simp only [true_and]
      refine ⟨fun p H' => p.1.1 = 1 ∧ H' = H, fun _ _ => 0, ⟨by decide, rfl⟩, ?_⟩
      rintro ⟨⟨i, _⟩, _⟩ H1 ⟨h1, rfl⟩
      simp only at h1 ⊢
      subst h1
      exact br (fun q => by simp at q) fun _ => k
    simp only [true_and]
    refine ⟨fun p H' => p.1.1 = 0 ∧ p.1.2.1 = 20 ∧ H' = H, fun _ _ => 0, ⟨rfl, rfl, rfl⟩, ?_⟩
    rintro ⟨⟨i, j, _⟩, _⟩ H1 ⟨h1, h2, rfl⟩
    simp only at h1 h2 ⊢
    subst h1; subst h2
    refine br (fun q => by simp at q) fun _ => i0 _ ⟨rfl, fun p H' => p.1.1 = 20 ∧ H' = H1, fun _ _ => 0, ⟨rfl, rfl⟩, ?_⟩
    rintro ⟨⟨i, _⟩, _⟩ H2 ⟨h1, rfl⟩
    simp only at h1 ⊢
    subst h1
    exact br (fun q => by simp at q) fun _ => k _ hrow (Mod.refl _ _)
/-- What is new is apart from what there was. -/
theorem mod_le {v : Value} {H H' H'' : Heap} (h : H ≤ H') (hn : ∀ b, blockOf v = some b → H b = none) (hm : Mod v H' H'') : H ≤ H'' := fun b o e => by
  rw [hm b fun q => by rw [hn b q] at e; cases e]
  exact h b o e
theorem s_srt {v : Value} {l : List Pt} (h : SliceAt H v 4 (pts l)) (hl : l.length ≤ 1000000) (k : ∀ v H', H ≤ H' → (∀ b, blockOf v = some b → H b = none) → RowAt H' v tPt 4 (pts (sortP l)) → R (.returned v) H') :
    Meets prog 59 [v] H R := by
  obtain ⟨a, n, c, e, hn⟩ := h
  subst e
  refine spec_of func59 (by kernel_rfl) (fun t h => by cases h) ?_ (vc_srt a n c R H) ?_
  · simp [argsR, SV.rep, SC.rep, one]
  unfold nf_srt
  refine s_clone ⟨a, n, c, rfl, hn⟩ hl fun v H' h1 h2 h3 => ?_
  obtain ⟨a', c', rfl⟩ := row_val h3
  refine ⟨_, _, _, rfl, s_sst cmp_srt1 (ltc_cmpI ▸ swo_I) h3 hl (fun _ _ _ e => by cases e; simpa [pts] using hl) fun H'' h4 h5 => ⟨rfl, ?_⟩⟩
  rw [ltc_cmpI] at h4
  have e : (pts (sortP l)).length = (pts l).length := by simp [pts, sortP_len]
  exact k _ _ (mod_le h1 h2 h5) h2 h4
theorem s_find {v : Value} {l : List Pt} {id : Int} (h : SliceAt H v 4 (pts l)) (hl : l.length ≤ 1000000) (k1 : ∀ i : Nat, l.findIdx? (fun p => p.id == id) = some i → R (.returned (vi i)) H) (k2 : l.findIdx? (fun p => p.id == id) = none → R (.returned (vi (-1))) H) :
    Meets prog 77 [v, vi id] H R := by
  obtain ⟨a, n, c, e, hn⟩ := h
  subst e
  refine spec_of func77 (by kernel_rfl) (fun t h => by cases h) ?_ (vc_find a n c id R H) ?_
  · simp [argsR, SV.rep, SC.rep, one]
  unfold nf_find
  intro b hb
  have hp : PredOK (fun _ => True) (fun H' => H' b = some (.cells #[vi id] 3 (0, 0))) 114 #[.pointer (some ⟨b, 0, none⟩)] fun p => p.id == id := by
    intro p H' R' _ hI k
    refine spec_of func114 (by kernel_rfl) (fun t h => by cases h) ?_ (vc_find1 p.id p.x p.y p.data ⟨b, 0, none⟩ R' H') ?_
    · simp [argsR, SV.rep, SegsRep, SC.rep, one]
    unfold nf_find1
    refine ptr rfl ⟨id, fun j x hx => ?_, k⟩
    cases j with
    | zero => simp at hx; subst hx; simp [Heap.cell?, hI]
    | succ j => simp at hx
  have fin : ∀ e, R e H → ∃ n, (∃ b_1, blockOf (.pointer (some ⟨b, 0, none⟩)) = some b_1 ∧ (H.upd b (.cells #[vi id] 3 (0, 0))) b_1 = some (.cells #[vi n] 3 (0, 0))) ∧ R e ((H.upd b (.cells #[vi id] 3 (0, 0))).delO (blockOf (.pointer (some ⟨b, 0, none⟩)))) := fun e h => by
    refine ⟨id, ⟨b, rfl, upd_same _ _ _⟩, ?_⟩
    show R e ((H.upd b _).del b)
    rw [upd_del hb]; exact h
  refine s_idx hp (slice_le ⟨a, n, c, rfl, hn⟩ (upd_le hb)) (upd_same _ _ _) (fun _ _ => trivial) hl (fun i hi => ⟨_, rfl, fin _ (k1 i hi)⟩) fun hi => ⟨_, rfl, fin _ (k2 hi)⟩
theorem s_twice {v : Value} {l : List Pt} (h : SliceAt H v 4 (pts l)) (hl : l.length ≤ 1000000) (k1 : ∀ (i : Nat) (p q : Pt), l[i]? = some p → l[i + 1]? = some q → q.id = p.id → R (.returned (.bool true)) H)
    (k2 : (∀ (i : Nat) (p q : Pt), l[i]? = some p → l[i + 1]? = some q → q.id ≠ p.id) → R (.returned (.bool false)) H) : Meets prog 60 [v] H R := by
  obtain ⟨a, n, c, e, hn⟩ := h
  subst e
  have h : SliceAt H (.slice a n c) 4 (pts l) := ⟨a, n, c, rfl, hn⟩
  have hln : l.length = n := by simpa [pts] using hn.1
  refine spec_of func60 (by kernel_rfl) (fun t h => by cases h) ?_ (vc_twice a n c R H) ?_
  · simp [argsR, SV.rep, SC.rep, one]
  unfold nf_twice
  simp only [true_and]
  refine ⟨fun p H' => ∃ t : Nat, p.1.1 = (t : Int) + 1 ∧ (t ≤ n) ∧ (∀ (i : Nat) (p q : Pt), i < t → l[i]? = some p → l[i + 1]? = some q → q.id ≠ p.id) ∧ H' = H, fun p _ => (n + 1 - p.1.1).toNat, ⟨0, rfl, by omega, fun i p q hi => by omega, rfl⟩, ?_⟩
  rintro ⟨⟨i, _⟩, _⟩ H1 ⟨t, hi, ht, f, rfl⟩
  simp only at hi ⊢
  subst hi
  refine br (fun q => ?_) fun q => ?_
  · simp only [decide_eq_true_eq] at q
    have hx : l[t + 1]? = some l[t + 1] := List.getElem?_eq_getElem (by omega)
    have hy : l[t]? = some l[t] := List.getElem?_eq_getElem (by omega)
    obtain ⟨A, e, g1⟩ := pr_get h (i := t + 1) hx
    subst e
    obtain ⟨A', e, g2⟩ := pr_get h (i := t) hy
    cases e
    have first : ∀ {A : Addr} {p : Pt}, H1.has A (ptC p) → H1.has A [vi p.id] := fun g j x hj => g j x (by
      cases j with
      | zero => simpa using hj
      | succ j => simp at hj)
    rw [w64 (k := (t : Int) + 1 - 1) (by omega), show (t : Int) + 1 - 1 = t by omega, show ((t : Int) + 1).toNat = t + 1 by omega, Int.toNat_natCast]
    refine ⟨⟨by omega, by omega⟩, ptr rfl (ptr rfl (ptr rfl ⟨_, first g1, ⟨by omega, by omega⟩, ptr rfl (ptr rfl (ptr rfl ⟨_, first g2, br (fun q1 => ?_) fun q1 => ?_⟩))⟩))⟩
    · exact k1 t _ _ hy hx (by simpa using q1)
    · rw [w64 (by omega)]
      refine ⟨⟨t + 1, by omega, by omega, fun i p q hi h1 h2 => ?_, by trivial⟩, by omega⟩
      rcases Nat.lt_or_ge i t with hlt | hge
      · exact f i p q hlt h1 h2
      · have : i = t := by omega
        subst this
        rw [hx] at h2; rw [hy] at h1; cases h1; cases h2
        simpa using q1
  · simp only [decide_eq_false_iff_not] at q
    refine k2 fun i p q h1 h2 => f i p q ?_ h1 h2
    have := (List.getElem?_eq_some_iff.1 h2).1
    omega
theorem s_in {v : Value} {l : List Int} {x : Int} (h : SliceAt H v 1 (cells l)) (hl : l.length ≤ 1000000) (k : R (.returned (.bool (decide (x ∈ l)))) H) : Meets prog 57 [v, vi x] H R := by
  obtain ⟨a, n, c, e, hn⟩ := h
  subst e
  have h : SliceAt H (.slice a n c) 1 (cells l) := ⟨a, n, c, rfl, hn⟩
  have hln : l.length = n := by simpa [cells] using hn.1
  refine spec_of func57 (by kernel_rfl) (fun t h => by cases h) ?_ (vc_inn a n c x R H) ?_
  · simp [argsR, SV.rep, SC.rep, one]
  unfold nf_inn
  simp only [true_and]
  refine ⟨fun p H' => ∃ t : Nat, p.1.1 = (t : Int) ∧ t ≤ n ∧ x ∉ l.take t ∧ H' = H, fun p _ => (n - p.1.1).toNat, ⟨0, rfl, by omega, by simp, rfl⟩, ?_⟩
  rintro ⟨⟨i, _⟩, _⟩ H1 ⟨t, hi, ht, f, rfl⟩
  simp only at hi ⊢
  subst hi
  refine br (fun q => ?_) fun q => ?_
  · simp only [decide_eq_true_eq] at q
    obtain ⟨y, hd, htk, hx⟩ := drop_cons (l := l) (k := t) (by omega)
    obtain ⟨A, e, g1⟩ := ir_get h (i := t) hx
    subst e
    refine ⟨⟨by omega, by omega⟩, ptr rfl (ptr rfl ⟨_, g1, br (fun q1 => ?_) fun q1 => ?_⟩)⟩
    · simp only [beq_iff_eq] at q1
      subst q1
      have : decide (y ∈ l) = true := by simpa using List.mem_of_getElem? hx
      rw [this] at k; exact k
    · rw [w64 (by omega)]
      refine ⟨⟨t + 1, by omega, by omega, ?_, by trivial⟩, by omega⟩
      rw [htk, List.mem_append]
      rintro (h | h)
      · exact f h
      · simp at h q1; exact q1 h.symm
  · simp only [decide_eq_false_iff_not] at q
    rw [List.take_of_length_le (by omega)] at f
    have : decide (x ∈ l) = false := by simpa using f
    rw [this] at k; exact k
theorem s_ints {v v' : Value} {l l' : List Int} (h : SliceAt H v 1 (cells l)) (h' : SliceAt H v' 1 (cells l')) (hl : l.length ≤ 10000000000000) (k : R (.returned (.bool (decide (l = l')))) H) : Meets prog 19 [v, v'] H R := by
  obtain ⟨a, n, c, e, hn⟩ := h
  subst e
  have h : SliceAt H (.slice a n c) 1 (cells l) := ⟨a, n, c, rfl, hn⟩
  have hln : l.length = n := by simpa [cells] using hn.1
  obtain ⟨a', n', c', e, hn'⟩ := h'
  subst e
  have h' : SliceAt H (.slice a' n' c') 1 (cells l') := ⟨a', n', c', rfl, hn'⟩
  have hln' : l'.length = n' := by simpa [cells] using hn'.1
  refine spec_of func19 (by kernel_rfl) (fun t h => by cases h) ?_ (vc_ints a n c a' n' c' R H) ?_
  · simp [argsR, SV.rep, SC.rep, one]
  unfold nf_ints
  refine br (fun q => ?_) fun q => ?_
  · have : decide (l = l') = false := decide_eq_false (by rintro rfl; simp at q; omega)
    rwa [this] at k
  simp only [bne_eq_false_iff_eq, Int.natCast_inj] at q
  simp only [true_and]
  refine ⟨fun p H' => ∃ t : Nat, p.1.1 = (t : Int) ∧ t ≤ n ∧ l.take t = l'.take t ∧ H' = H, fun p _ => (n - p.1.1).toNat, ⟨0, rfl, by omega, by simp, rfl⟩, ?_⟩
  rintro ⟨⟨i, _⟩, _⟩ H1 ⟨t, hi, ht, f, rfl⟩
  simp only at hi ⊢
  subst hi
  refine br (fun q1 => ?_) fun q1 => ?_
  · simp only [decide_eq_true_eq] at q1
    obtain ⟨y, hd, htk, hx⟩ := drop_cons (l := l) (k := t) (by omega)
    obtain ⟨y', hd', htk', hx'⟩ := drop_cons (l := l') (k := t) (by omega)
    obtain ⟨A, e, g1⟩ := ir_get h (i := t) hx
    subst e
    obtain ⟨A', e, g1'⟩ := ir_get h' (i := t) hx'
    subst e
    refine ⟨⟨by omega, by omega⟩, ptr rfl (ptr rfl ⟨_, g1, ⟨by omega, by omega⟩, ptr rfl (ptr rfl ⟨_, g1', br (fun q2 => ?_) fun q2 => ?_⟩)⟩)⟩
    · have : decide (l = l') = false := decide_eq_false (by rintro rfl; rw [hx] at hx'; cases hx'; simp at q2)
      rwa [this] at k
    · rw [w64 (by omega)]
      simp only [bne_eq_false_iff_eq] at q2
      exact ⟨⟨t + 1, by omega, by omega, by rw [htk, htk', f, q2], by trivial⟩, by omega⟩
  · simp only [decide_eq_false_iff_not] at q1
    rw [List.take_of_length_le (by omega), List.take_of_length_le (by omega)] at f
    rwa [decide_eq_true f] at k
theorem pt_eta {p q : Pt} (h1 : p.id = q.id) (h2 : p.x = q.x) (h3 : p.y = q.y) (h4 : p.data = q.data) : p = q := by
  cases p; cases q; simp_all
theorem s_points {v v' : Value} {l l' : List Pt} (h : SliceAt H v 4 (pts l)) (h' : SliceAt H v' 4 (pts l')) (hl : l.length ≤ 10000000000000) (k : R (.returned (.bool (decide (l = l')))) H) : Meets prog 32 [v, v'] H R := by
  obtain ⟨a, n, c, e, hn⟩ := h
  subst e
  have h : SliceAt H (.slice a n c) 4 (pts l) := ⟨a, n, c, rfl, hn⟩
  have hln : l.length = n := by simpa [pts] using hn.1
  obtain ⟨a', n', c', e, hn'⟩ := h'
  subst e
  have h' : SliceAt H (.slice a' n' c') 4 (pts l') := ⟨a', n', c', rfl, hn'⟩
  have hln' : l'.length = n' := by simpa [pts] using hn'.1
  refine spec_of func32 (by kernel_rfl) (fun t h => ?_) ?_ (vc_points a n c a' n' c' R H) ?_
  · have : t = 28 := memN_one h
    subst this
    exact eqOK_of (by kernel_rfl) (by kernel_rfl) (by kernel_rfl)
  · simp [argsR, SV.rep, SC.rep, one]
  unfold nf_points
  refine br (fun q => ?_) fun q => ?_
  · have : decide (l = l') = false := decide_eq_false (by rintro rfl; simp at q; omega)
    rwa [this] at k
  simp only [bne_eq_false_iff_eq, Int.natCast_inj] at q
  simp only [true_and]
  refine ⟨fun p H' => ∃ t : Nat, p.1.1 = (t : Int) ∧ t ≤ n ∧ l.take t = l'.take t ∧ H' = H, fun p _ => (n - p.1.1).toNat, ⟨0, rfl, by omega, by simp, rfl⟩, ?_⟩
  rintro ⟨⟨i, _⟩, _⟩ H1 ⟨t, hi, ht, f, rfl⟩
  simp only at hi ⊢
  subst hi
  refine br (fun q1 => ?_) fun q1 => ?_
  · simp only [decide_eq_true_eq] at q1
    obtain ⟨y, hd, htk, hx⟩ := drop_cons (l := l) (k := t) (by omega)
    obtain ⟨y', hd', htk', hx'⟩ := drop_cons (l := l') (k := t) (by omega)
    obtain ⟨A, e, g1⟩ := pr_get h (i := t) hx
    subst e
    obtain ⟨A', e, g1'⟩ := pr_get h' (i := t) hx'
    subst e
    refine ⟨⟨by omega, by omega⟩, ptr rfl (ptr rfl ⟨_, _, _, _, g1, ⟨by omega, by omega⟩, ptr rfl (ptr rfl ⟨_, _, _, _, g1', br (fun q2 => ?_) fun q2 => ?_⟩)⟩)⟩
    · have : decide (l = l') = false := decide_eq_false (by rintro rfl; rw [hx] at hx'; cases hx'; simp [andO, ba_beq] at q2)
      rwa [this] at k
    · rw [w64 (by omega)]
      have : y = y' := by
        simp [andO, ba_beq] at q2
        exact pt_eta q2.1.1.1 q2.1.1.2 q2.1.2 q2.2
      exact ⟨⟨t + 1, by omega, by omega, by rw [htk, htk', f, this], by trivial⟩, by omega⟩
  · simp only [decide_eq_false_iff_not] at q1
    rw [List.take_of_length_le (by omega), List.take_of_length_le (by omega)] at f
    rwa [decide_eq_true f] at k
end
end Cr
