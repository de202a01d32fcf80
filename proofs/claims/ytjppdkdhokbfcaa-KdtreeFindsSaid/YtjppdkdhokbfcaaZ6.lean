/- Own texts, one behind the other: E12, SxOpen, A9, E14, E16, E17, E18, E19, E20, E21, E22. -/
import Derived.Deep.Slices
import Derived.Deep.Strs
import Derived.Test.YtjppdkdhokbfcaaRows
import Derived.Test.YtjppdkdhokbfcaaChecked
import Derived.Test.YtjppdkdhokbfcaaZ5
set_option linter.unusedVariables false
set_option linter.unusedSimpArgs false
namespace Cr
open Go Sx Stb
open Go.Proofs.Try
set_option maxRecDepth 100000
def h_near : Hints := { pub := [19], loops := [(5, ⟨[1, 2, 3, 9, 26, 27], [.row 10 44 4, .f 28 (.int .i64)], []⟩)] }
def h_pick : Hints := { loops := [(3, ⟨[0, 3], [.row 5 44 4, .f 6 (.int .i64)], [.keep 3]⟩)] }
def h_rnr : Hints := { loops := [(4, ⟨[0, 1, 2, 3], [.row 9 44 4, .f 10 (.int .i64)], []⟩), (8, ⟨[0, 1, 2, 3, 10, 11, 12], [.row 9 44 4, .f 13 (.int .i64)], []⟩)], cuts := [(13, ⟨[3], [.f 9 .slc], []⟩)] }
def nf_knear (t : Option Addr) (x : Int) (y : Int) (k : Int) (R : Ending → Heap → Prop) (H : Heap) : Prop := ∀ (b : Nat), H b = none → Meets prog (29 : Nat) [Value.pointer (some { block := b, off := (0 : Nat) }), Value.pointer t, Value.int IntKind.i64 (0 : Int)] (Heap.upd H b (Obj.cells { toList := [Value.int IntKind.u32 x, Value.int IntKind.u32 y, Value.int IntKind.i64 (minI (maxI k (0 : Int)) (64 : Int)), Value.slice none (0 : Nat) (0 : Nat)] } (60 : Nat))) fun (e : Ending) (H' : Nat → Option Obj) ↦ e = Ending.returned (Value.tuple { toList := [] }) ∧ PtrK (some { block := b, off := (0 : Nat) }) fun (a : Addr) ↦ PtrK (some a) fun (a : Addr) ↦ PtrK (some (Addr.add a (3 : Nat))) fun (a : Addr) ↦ ∃ (a_1 : Option Addr), ∃ (n : Nat), ∃ (c : Nat), Heap.has H' a [Value.slice a_1 n c] ∧ x = x ∧ y = y ∧ k = k ∧ (some { block := b, off := (0 : Nat) } : Option Addr) = some { block := b, off := (0 : Nat) } ∧ a_1 = a_1 ∧ n = n ∧ c = c ∧ (↑n : Int) = (↑n : Int) ∧ LoopP (fun (K : (List (List Value) × Int × PUnit) × PUnit → (Nat → Option Obj) → Prop) (p : (List (List Value) × Int × PUnit) × PUnit) (H : Nat → Option Obj) ↦ Br (decide (p.fst.snd.fst < (↑n : Int))) (((0 : Int) ≤ p.fst.snd.fst ∧ p.fst.snd.fst < (↑n : Int)) ∧ PtrK a_1 fun (A : Addr) ↦ PtrK (some (Addr.add A (Int.toNat p.fst.snd.fst * (6 : Nat)))) fun (a : Addr) ↦ ∃ (n_1 : Int), ∃ (n_2 : Int), ∃ (n_3 : Int), ∃ (s : ByteArray), ∃ (n_4 : Int), ∃ (n_5 : Int), Heap.has H a [Value.int IntKind.i64 n_1, Value.int IntKind.u32 n_2, Value.int IntKind.u32 n_3, Value.string s, Value.int IntKind.u64 n_4, Value.int IntKind.u64 n_5] ∧ List.length (List.append p.fst.fst [[Value.int IntKind.i64 n_1, Value.int IntKind.u32 n_2, Value.int IntKind.u32 n_3, Value.string s]]) * (32 : Nat) ≤ (140737488355328 : Nat) ∧ x = x ∧ y = y ∧ k = k ∧ (some { block := b, off := (0 : Nat) } : Option Addr) = some { block := b, off := (0 : Nat) } ∧ a_1 = a_1 ∧ n = n ∧ c = c ∧ (↑n : Int) = (↑n : Int) ∧ K ((List.append p.fst.fst [[Value.int IntKind.i64 n_1, Value.int IntKind.u32 n_2, Value.int IntKind.u32 n_3, Value.string s]], IntKind.wrap IntKind.i64 (p.fst.snd.fst + (1 : Int)), PUnit.unit), PUnit.unit) H) (∀ (v : Value) (H' : Nat → Option Obj), H ≤ H' → (∀ (b : Nat), blockOf v = some b → H b = none) → (∀ (b : Nat) (o : Obj), H' b = some o → H b = some o ∨ blockOf v = some b) → RowAt H' v (44 : Nat) (4 : Nat) p.fst.fst → R (Ending.returned v) H')) (([], (0 : Int), PUnit.unit), PUnit.unit) H'
theorem vc_knear (t : Option Addr) (x : Int) (y : Int) (k : Int) (R : Ending → Heap → Prop) (H : Heap) : vcFun prog h_near f16 [SV.c (SC.v (Value.pointer t)), SV.c (SC.v (Value.int IntKind.u32 x)), SV.c (SC.v (Value.int IntKind.u32 y)), SV.c (SC.v (Value.int IntKind.i64 k))] R H = nf_knear t x y k R H := by kernel_rfl

def nf_rect (x0 : Int) (y0 : Int) (x1 : Int) (y1 : Int) (x : Int) (y : Int) (R : Ending → Heap → Prop) (H : Heap) : Prop := Br (decide (x ≥ x0)) (Br (decide (x ≤ x1)) (Br (decide (y ≥ y0)) (R (Ending.returned (Value.bool (decide (y ≤ y1)))) H) (R (Ending.returned (Value.bool false)) H)) (R (Ending.returned (Value.bool false)) H)) (R (Ending.returned (Value.bool false)) H)
theorem vc_rect (x0 : Int) (y0 : Int) (x1 : Int) (y1 : Int) (x : Int) (y : Int) (R : Ending → Heap → Prop) (H : Heap) : vcFun prog { } f39 [SV.agg [Seg.c (SC.v (Value.int IntKind.u32 x0)), Seg.c (SC.v (Value.int IntKind.u32 y0)), Seg.c (SC.v (Value.int IntKind.u32 x1)), Seg.c (SC.v (Value.int IntKind.u32 y1))], SV.c (SC.v (Value.int IntKind.u32 x)), SV.c (SC.v (Value.int IntKind.u32 y))] R H = nf_rect x0 y0 x1 y1 x y R H := by kernel_rfl

def nf_phas (x0 : Int) (y0 : Int) (x1 : Int) (y1 : Int) (i : Int) (x : Int) (y : Int) (d : ByteArray) (R : Ending → Heap → Prop) (H : Heap) : Prop := Br (decide (x ≥ x0)) (Br (decide (x ≤ x1)) (Br (decide (y ≥ y0)) (R (Ending.returned (Value.bool (decide (y ≤ y1)))) H) (R (Ending.returned (Value.bool false)) H)) (R (Ending.returned (Value.bool false)) H)) (R (Ending.returned (Value.bool false)) H)
theorem vc_phas (x0 : Int) (y0 : Int) (x1 : Int) (y1 : Int) (i : Int) (x : Int) (y : Int) (d : ByteArray) (R : Ending → Heap → Prop) (H : Heap) : vcFun prog { } f28 [SV.agg [Seg.c (SC.v (Value.int IntKind.u32 x0)), Seg.c (SC.v (Value.int IntKind.u32 y0)), Seg.c (SC.v (Value.int IntKind.u32 x1)), Seg.c (SC.v (Value.int IntKind.u32 y1))], ptA i x y d] R H = nf_phas x0 y0 x1 y1 i x y d R H := by kernel_rfl

def nf_ppick (a : Option Addr) (n : Nat) (c : Nat) (x0 : Int) (y0 : Int) (x1 : Int) (y1 : Int) (R : Ending → Heap → Prop) (H : Heap) : Prop := a = a ∧ n = n ∧ c = c ∧ (0 : Nat) = (0 : Nat) ∧ x0 = x0 ∧ y0 = y0 ∧ x1 = x1 ∧ y1 = y1 ∧ LoopP (fun (K : (List (List Value) × Int × PUnit) × PUnit × PUnit → (Nat → Option Obj) → Prop) (p : (List (List Value) × Int × PUnit) × PUnit × PUnit) (H : Nat → Option Obj) ↦ Br (decide (p.fst.snd.fst < (↑n : Int))) (∃ (G : Nat → Option Obj), G ≤ H ∧ ((0 : Int) ≤ p.fst.snd.fst ∧ p.fst.snd.fst < (↑n : Int)) ∧ PtrK a fun (A : Addr) ↦ PtrK (some (Addr.add A (Int.toNat p.fst.snd.fst * (4 : Nat)))) fun (a_1 : Addr) ↦ ∃ (n_1 : Int), ∃ (n_2 : Int), ∃ (n_3 : Int), ∃ (s : ByteArray), Heap.has G a_1 [Value.int IntKind.i64 n_1, Value.int IntKind.u32 n_2, Value.int IntKind.u32 n_3, Value.string s] ∧ Meets prog (28 : Nat) [Value.agg { toList := [Value.int IntKind.u32 x0, Value.int IntKind.u32 y0, Value.int IntKind.u32 x1, Value.int IntKind.u32 y1] }, Value.agg { toList := [Value.int IntKind.i64 n_1, Value.int IntKind.u32 n_2, Value.int IntKind.u32 n_3, Value.string s] }] H fun (e : Ending) (H' : Nat → Option Obj) ↦ Keep G H H H' ∧ ∃ (b : Bool), e = Ending.returned (Value.bool b) ∧ Br b (((0 : Int) ≤ p.fst.snd.fst ∧ p.fst.snd.fst < (↑n : Int)) ∧ PtrK a fun (A : Addr) ↦ PtrK (some (Addr.add A (Int.toNat p.fst.snd.fst * (4 : Nat)))) fun (a_2 : Addr) ↦ ∃ (n_4 : Int), ∃ (n_5 : Int), ∃ (n_6 : Int), ∃ (s : ByteArray), Heap.has (delLs H' []) a_2 [Value.int IntKind.i64 n_4, Value.int IntKind.u32 n_5, Value.int IntKind.u32 n_6, Value.string s] ∧ List.length (List.append p.fst.fst [[Value.int IntKind.i64 n_4, Value.int IntKind.u32 n_5, Value.int IntKind.u32 n_6, Value.string s]]) * (32 : Nat) ≤ (140737488355328 : Nat) ∧ a = a ∧ n = n ∧ c = c ∧ (0 : Nat) = (0 : Nat) ∧ x0 = x0 ∧ y0 = y0 ∧ x1 = x1 ∧ y1 = y1 ∧ K ((List.append p.fst.fst [[Value.int IntKind.i64 n_4, Value.int IntKind.u32 n_5, Value.int IntKind.u32 n_6, Value.string s]], IntKind.wrap IntKind.i64 (p.fst.snd.fst + (1 : Int)), PUnit.unit), PUnit.unit, PUnit.unit) (delLs H' [])) (a = a ∧ n = n ∧ c = c ∧ (0 : Nat) = (0 : Nat) ∧ x0 = x0 ∧ y0 = y0 ∧ x1 = x1 ∧ y1 = y1 ∧ K ((p.fst.fst, IntKind.wrap IntKind.i64 (p.fst.snd.fst + (1 : Int)), PUnit.unit), PUnit.unit, PUnit.unit) (delLs H' []))) (∀ (v : Value) (H' : Nat → Option Obj), H ≤ H' → (∀ (b : Nat), blockOf v = some b → H b = none) → (∀ (b : Nat) (o : Obj), H' b = some o → H b = some o ∨ blockOf v = some b) → RowAt H' v (44 : Nat) (4 : Nat) p.fst.fst → R (Ending.returned v) H')) (([], (0 : Int), PUnit.unit), PUnit.unit, PUnit.unit) H
theorem vc_ppick (a : Option Addr) (n : Nat) (c : Nat) (x0 : Int) (y0 : Int) (x1 : Int) (y1 : Int) (R : Ending → Heap → Prop) (H : Heap) : vcFun prog h_pick f15 [SV.c (SC.v (Value.slice a n c)), SV.agg [Seg.c (SC.v (Value.int IntKind.u32 x0)), Seg.c (SC.v (Value.int IntKind.u32 y0)), Seg.c (SC.v (Value.int IntKind.u32 x1)), Seg.c (SC.v (Value.int IntKind.u32 y1))]] R H = nf_ppick a n c x0 y0 x1 y1 R H := by kernel_rfl

def nf_rnr (a : Option Addr) (n : Nat) (c : Nat) (x : Int) (y : Int) (k : Int) (R : Ending → Heap → Prop) (H : Heap) : Prop := CutP (fun (I : ((Option Addr × Nat × Nat) × PUnit) × PUnit → (Nat → Option Obj) → Prop) ↦ a = a ∧ n = n ∧ c = c ∧ x = x ∧ y = y ∧ minI (maxI k (0 : Int)) (64 : Int) = minI (maxI k (0 : Int)) (64 : Int) ∧ LoopP (fun (K : (List (List Value) × Int × PUnit) × PUnit → (Nat → Option Obj) → Prop) (p : (List (List Value) × Int × PUnit) × PUnit) (H : Nat → Option Obj) ↦ Br (decide (p.fst.snd.fst < (↑n : Int))) (∃ (G : Nat → Option Obj), G ≤ H ∧ ((0 : Int) ≤ p.fst.snd.fst ∧ p.fst.snd.fst < (↑n : Int)) ∧ PtrK a fun (A : Addr) ↦ PtrK (some (Addr.add A (Int.toNat p.fst.snd.fst * (4 : Nat)))) fun (a_1 : Addr) ↦ PtrK (some (Addr.add a_1 (1 : Nat))) fun (a_2 : Addr) ↦ ∃ (n_1 : Int), Heap.has G a_2 [Value.int IntKind.u32 n_1] ∧ ((0 : Int) ≤ p.fst.snd.fst ∧ p.fst.snd.fst < (↑n : Int)) ∧ PtrK a fun (A : Addr) ↦ PtrK (some (Addr.add A (Int.toNat p.fst.snd.fst * (4 : Nat)))) fun (a_3 : Addr) ↦ PtrK (some (Addr.add a_3 (2 : Nat))) fun (a_4 : Addr) ↦ ∃ (n_2 : Int), Heap.has G a_4 [Value.int IntKind.u32 n_2] ∧ Meets prog (30 : Nat) [Value.int IntKind.u32 x, Value.int IntKind.u32 y, Value.int IntKind.u32 n_1, Value.int IntKind.u32 n_2] H fun (e : Ending) (H' : Nat → Option Obj) ↦ Keep G H H H' ∧ ∃ (n_3 : Int), ∃ (n_4 : Int), e = Ending.returned (Value.tuple { toList := [Value.int IntKind.u64 n_3, Value.int IntKind.u64 n_4] }) ∧ a = a ∧ n = n ∧ c = c ∧ x = x ∧ y = y ∧ minI (maxI k (0 : Int)) (64 : Int) = minI (maxI k (0 : Int)) (64 : Int) ∧ p.fst.snd.fst = p.fst.snd.fst ∧ n_3 = n_3 ∧ n_4 = n_4 ∧ LoopP (fun (K_1 : (List (List Value) × Int × PUnit) × PUnit → (Nat → Option Obj) → Prop) (p_1 : (List (List Value) × Int × PUnit) × PUnit) (H : Nat → Option Obj) ↦ Br (decide (p_1.fst.snd.fst > (0 : Int))) (∃ (G : Nat → Option Obj), G ≤ H ∧ ((0 : Int) ≤ IntKind.wrap IntKind.i64 (p_1.fst.snd.fst - (1 : Int)) ∧ IntKind.wrap IntKind.i64 (p_1.fst.snd.fst - (1 : Int)) < (↑(List.length p_1.fst.fst) : Int)) ∧ ∃ (n_5 : Int), (∃ (e : List Value), List.get?Internal p_1.fst.fst (Int.toNat (IntKind.wrap IntKind.i64 (p_1.fst.snd.fst - (1 : Int)))) = some e ∧ List.take (1 : Nat) (List.drop (1 : Nat) e) = [Value.int IntKind.u32 n_5]) ∧ ((0 : Int) ≤ IntKind.wrap IntKind.i64 (p_1.fst.snd.fst - (1 : Int)) ∧ IntKind.wrap IntKind.i64 (p_1.fst.snd.fst - (1 : Int)) < (↑(List.length p_1.fst.fst) : Int)) ∧ ∃ (n_6 : Int), (∃ (e : List Value), List.get?Internal p_1.fst.fst (Int.toNat (IntKind.wrap IntKind.i64 (p_1.fst.snd.fst - (1 : Int)))) = some e ∧ List.take (1 : Nat) (List.drop (2 : Nat) e) = [Value.int IntKind.u32 n_6]) ∧ Meets prog (30 : Nat) [Value.int IntKind.u32 x, Value.int IntKind.u32 y, Value.int IntKind.u32 n_5, Value.int IntKind.u32 n_6] H fun (e : Ending) (H' : Nat → Option Obj) ↦ Keep G H H H' ∧ ∃ (n_7 : Int), ∃ (n_8 : Int), e = Ending.returned (Value.tuple { toList := [Value.int IntKind.u64 n_7, Value.int IntKind.u64 n_8] }) ∧ ∃ (G : Nat → Option Obj), G ≤ delLs H' [] ∧ Meets prog (31 : Nat) [Value.int IntKind.u64 n_3, Value.int IntKind.u64 n_4, Value.int IntKind.u64 n_7, Value.int IntKind.u64 n_8] (delLs H' []) fun (e : Ending) (H'_1 : Nat → Option Obj) ↦ Keep G (delLs H' []) (delLs H' []) H'_1 ∧ ∃ (b : Bool), e = Ending.returned (Value.bool b) ∧ Br (!b) (Br (n_3 == n_7) (Br (n_4 == n_8) (((0 : Int) ≤ p.fst.snd.fst ∧ p.fst.snd.fst < (↑n : Int)) ∧ PtrK a fun (A : Addr) ↦ PtrK (some (Addr.add A (Int.toNat p.fst.snd.fst * (4 : Nat)))) fun (a_5 : Addr) ↦ PtrK (some (Addr.add a_5 (0 : Nat))) fun (a_6 : Addr) ↦ ∃ (n_9 : Int), Heap.has G a_6 [Value.int IntKind.i64 n_9] ∧ ((0 : Int) ≤ IntKind.wrap IntKind.i64 (p_1.fst.snd.fst - (1 : Int)) ∧ IntKind.wrap IntKind.i64 (p_1.fst.snd.fst - (1 : Int)) < (↑(List.length p_1.fst.fst) : Int)) ∧ ∃ (n_10 : Int), (∃ (e : List Value), List.get?Internal p_1.fst.fst (Int.toNat (IntKind.wrap IntKind.i64 (p_1.fst.snd.fst - (1 : Int)))) = some e ∧ List.take (1 : Nat) (List.drop (0 : Nat) e) = [Value.int IntKind.i64 n_10]) ∧ Br (!decide (n_9 < n_10)) (((0 : Int) ≤ p_1.fst.snd.fst ∧ p_1.fst.snd.fst ≤ (↑(List.length p_1.fst.fst) : Int)) ∧ ((0 : Int) ≤ p.fst.snd.fst ∧ p.fst.snd.fst < (↑n : Int)) ∧ PtrK a fun (A : Addr) ↦ PtrK (some (Addr.add A (Int.toNat p.fst.snd.fst * (4 : Nat)))) fun (a_7 : Addr) ↦ ∃ (n_11 : Int), ∃ (n_12 : Int), ∃ (n_13 : Int), ∃ (s : ByteArray), Heap.has (delLs H'_1 []) a_7 [Value.int IntKind.i64 n_11, Value.int IntKind.u32 n_12, Value.int IntKind.u32 n_13, Value.string s] ∧ ((0 : Int) ≤ p_1.fst.snd.fst ∧ p_1.fst.snd.fst ≤ (↑(List.length p_1.fst.fst) : Int)) ∧ List.length (List.take (Int.toNat p_1.fst.snd.fst - (0 : Nat)) (List.drop (0 : Nat) p_1.fst.fst)) * (32 : Nat) ≤ (140737488355328 : Nat) ∧ List.length (List.append (List.take (Int.toNat p_1.fst.snd.fst - (0 : Nat)) (List.drop (0 : Nat) p_1.fst.fst)) [[Value.int IntKind.i64 n_11, Value.int IntKind.u32 n_12, Value.int IntKind.u32 n_13, Value.string s]]) * (32 : Nat) ≤ (140737488355328 : Nat) ∧ List.length (List.append (List.append (List.take (Int.toNat p_1.fst.snd.fst - (0 : Nat)) (List.drop (0 : Nat) p_1.fst.fst)) [[Value.int IntKind.i64 n_11, Value.int IntKind.u32 n_12, Value.int IntKind.u32 n_13, Value.string s]]) (List.take (List.length p_1.fst.fst - Int.toNat p_1.fst.snd.fst) (List.drop (Int.toNat p_1.fst.snd.fst) p_1.fst.fst))) * (32 : Nat) ≤ (140737488355328 : Nat) ∧ a = a ∧ n = n ∧ c = c ∧ x = x ∧ y = y ∧ minI (maxI k (0 : Int)) (64 : Int) = minI (maxI k (0 : Int)) (64 : Int) ∧ K ((List.append (List.append (List.take (Int.toNat p_1.fst.snd.fst - (0 : Nat)) (List.drop (0 : Nat) p_1.fst.fst)) [[Value.int IntKind.i64 n_11, Value.int IntKind.u32 n_12, Value.int IntKind.u32 n_13, Value.string s]]) (List.take (List.length p_1.fst.fst - Int.toNat p_1.fst.snd.fst) (List.drop (Int.toNat p_1.fst.snd.fst) p_1.fst.fst)), IntKind.wrap IntKind.i64 (p.fst.snd.fst + (1 : Int)), PUnit.unit), PUnit.unit) (delLs H'_1 [])) (a = a ∧ n = n ∧ c = c ∧ x = x ∧ y = y ∧ minI (maxI k (0 : Int)) (64 : Int) = minI (maxI k (0 : Int)) (64 : Int) ∧ p.fst.snd.fst = p.fst.snd.fst ∧ n_3 = n_3 ∧ n_4 = n_4 ∧ K_1 ((p_1.fst.fst, IntKind.wrap IntKind.i64 (p_1.fst.snd.fst - (1 : Int)), PUnit.unit), PUnit.unit) (delLs H'_1 []))) (((0 : Int) ≤ p_1.fst.snd.fst ∧ p_1.fst.snd.fst ≤ (↑(List.length p_1.fst.fst) : Int)) ∧ ((0 : Int) ≤ p.fst.snd.fst ∧ p.fst.snd.fst < (↑n : Int)) ∧ PtrK a fun (A : Addr) ↦ PtrK (some (Addr.add A (Int.toNat p.fst.snd.fst * (4 : Nat)))) fun (a_5 : Addr) ↦ ∃ (n_9 : Int), ∃ (n_10 : Int), ∃ (n_11 : Int), ∃ (s : ByteArray), Heap.has (delLs H'_1 []) a_5 [Value.int IntKind.i64 n_9, Value.int IntKind.u32 n_10, Value.int IntKind.u32 n_11, Value.string s] ∧ ((0 : Int) ≤ p_1.fst.snd.fst ∧ p_1.fst.snd.fst ≤ (↑(List.length p_1.fst.fst) : Int)) ∧ List.length (List.take (Int.toNat p_1.fst.snd.fst - (0 : Nat)) (List.drop (0 : Nat) p_1.fst.fst)) * (32 : Nat) ≤ (140737488355328 : Nat) ∧ List.length (List.append (List.take (Int.toNat p_1.fst.snd.fst - (0 : Nat)) (List.drop (0 : Nat) p_1.fst.fst)) [[Value.int IntKind.i64 n_9, Value.int IntKind.u32 n_10, Value.int IntKind.u32 n_11, Value.string s]]) * (32 : Nat) ≤ (140737488355328 : Nat) ∧ List.length (List.append (List.append (List.take (Int.toNat p_1.fst.snd.fst - (0 : Nat)) (List.drop (0 : Nat) p_1.fst.fst)) [[Value.int IntKind.i64 n_9, Value.int IntKind.u32 n_10, Value.int IntKind.u32 n_11, Value.string s]]) (List.take (List.length p_1.fst.fst - Int.toNat p_1.fst.snd.fst) (List.drop (Int.toNat p_1.fst.snd.fst) p_1.fst.fst))) * (32 : Nat) ≤ (140737488355328 : Nat) ∧ a = a ∧ n = n ∧ c = c ∧ x = x ∧ y = y ∧ minI (maxI k (0 : Int)) (64 : Int) = minI (maxI k (0 : Int)) (64 : Int) ∧ K ((List.append (List.append (List.take (Int.toNat p_1.fst.snd.fst - (0 : Nat)) (List.drop (0 : Nat) p_1.fst.fst)) [[Value.int IntKind.i64 n_9, Value.int IntKind.u32 n_10, Value.int IntKind.u32 n_11, Value.string s]]) (List.take (List.length p_1.fst.fst - Int.toNat p_1.fst.snd.fst) (List.drop (Int.toNat p_1.fst.snd.fst) p_1.fst.fst)), IntKind.wrap IntKind.i64 (p.fst.snd.fst + (1 : Int)), PUnit.unit), PUnit.unit) (delLs H'_1 []))) (((0 : Int) ≤ p_1.fst.snd.fst ∧ p_1.fst.snd.fst ≤ (↑(List.length p_1.fst.fst) : Int)) ∧ ((0 : Int) ≤ p.fst.snd.fst ∧ p.fst.snd.fst < (↑n : Int)) ∧ PtrK a fun (A : Addr) ↦ PtrK (some (Addr.add A (Int.toNat p.fst.snd.fst * (4 : Nat)))) fun (a_5 : Addr) ↦ ∃ (n_9 : Int), ∃ (n_10 : Int), ∃ (n_11 : Int), ∃ (s : ByteArray), Heap.has (delLs H'_1 []) a_5 [Value.int IntKind.i64 n_9, Value.int IntKind.u32 n_10, Value.int IntKind.u32 n_11, Value.string s] ∧ ((0 : Int) ≤ p_1.fst.snd.fst ∧ p_1.fst.snd.fst ≤ (↑(List.length p_1.fst.fst) : Int)) ∧ List.length (List.take (Int.toNat p_1.fst.snd.fst - (0 : Nat)) (List.drop (0 : Nat) p_1.fst.fst)) * (32 : Nat) ≤ (140737488355328 : Nat) ∧ List.length (List.append (List.take (Int.toNat p_1.fst.snd.fst - (0 : Nat)) (List.drop (0 : Nat) p_1.fst.fst)) [[Value.int IntKind.i64 n_9, Value.int IntKind.u32 n_10, Value.int IntKind.u32 n_11, Value.string s]]) * (32 : Nat) ≤ (140737488355328 : Nat) ∧ List.length (List.append (List.append (List.take (Int.toNat p_1.fst.snd.fst - (0 : Nat)) (List.drop (0 : Nat) p_1.fst.fst)) [[Value.int IntKind.i64 n_9, Value.int IntKind.u32 n_10, Value.int IntKind.u32 n_11, Value.string s]]) (List.take (List.length p_1.fst.fst - Int.toNat p_1.fst.snd.fst) (List.drop (Int.toNat p_1.fst.snd.fst) p_1.fst.fst))) * (32 : Nat) ≤ (140737488355328 : Nat) ∧ a = a ∧ n = n ∧ c = c ∧ x = x ∧ y = y ∧ minI (maxI k (0 : Int)) (64 : Int) = minI (maxI k (0 : Int)) (64 : Int) ∧ K ((List.append (List.append (List.take (Int.toNat p_1.fst.snd.fst - (0 : Nat)) (List.drop (0 : Nat) p_1.fst.fst)) [[Value.int IntKind.i64 n_9, Value.int IntKind.u32 n_10, Value.int IntKind.u32 n_11, Value.string s]]) (List.take (List.length p_1.fst.fst - Int.toNat p_1.fst.snd.fst) (List.drop (Int.toNat p_1.fst.snd.fst) p_1.fst.fst)), IntKind.wrap IntKind.i64 (p.fst.snd.fst + (1 : Int)), PUnit.unit), PUnit.unit) (delLs H'_1 []))) (a = a ∧ n = n ∧ c = c ∧ x = x ∧ y = y ∧ minI (maxI k (0 : Int)) (64 : Int) = minI (maxI k (0 : Int)) (64 : Int) ∧ p.fst.snd.fst = p.fst.snd.fst ∧ n_3 = n_3 ∧ n_4 = n_4 ∧ K_1 ((p_1.fst.fst, IntKind.wrap IntKind.i64 (p_1.fst.snd.fst - (1 : Int)), PUnit.unit), PUnit.unit) (delLs H'_1 []))) (((0 : Int) ≤ p_1.fst.snd.fst ∧ p_1.fst.snd.fst ≤ (↑(List.length p_1.fst.fst) : Int)) ∧ ((0 : Int) ≤ p.fst.snd.fst ∧ p.fst.snd.fst < (↑n : Int)) ∧ PtrK a fun (A : Addr) ↦ PtrK (some (Addr.add A (Int.toNat p.fst.snd.fst * (4 : Nat)))) fun (a_5 : Addr) ↦ ∃ (n_5 : Int), ∃ (n_6 : Int), ∃ (n_7 : Int), ∃ (s : ByteArray), Heap.has H a_5 [Value.int IntKind.i64 n_5, Value.int IntKind.u32 n_6, Value.int IntKind.u32 n_7, Value.string s] ∧ ((0 : Int) ≤ p_1.fst.snd.fst ∧ p_1.fst.snd.fst ≤ (↑(List.length p_1.fst.fst) : Int)) ∧ List.length (List.take (Int.toNat p_1.fst.snd.fst - (0 : Nat)) (List.drop (0 : Nat) p_1.fst.fst)) * (32 : Nat) ≤ (140737488355328 : Nat) ∧ List.length (List.append (List.take (Int.toNat p_1.fst.snd.fst - (0 : Nat)) (List.drop (0 : Nat) p_1.fst.fst)) [[Value.int IntKind.i64 n_5, Value.int IntKind.u32 n_6, Value.int IntKind.u32 n_7, Value.string s]]) * (32 : Nat) ≤ (140737488355328 : Nat) ∧ List.length (List.append (List.append (List.take (Int.toNat p_1.fst.snd.fst - (0 : Nat)) (List.drop (0 : Nat) p_1.fst.fst)) [[Value.int IntKind.i64 n_5, Value.int IntKind.u32 n_6, Value.int IntKind.u32 n_7, Value.string s]]) (List.take (List.length p_1.fst.fst - Int.toNat p_1.fst.snd.fst) (List.drop (Int.toNat p_1.fst.snd.fst) p_1.fst.fst))) * (32 : Nat) ≤ (140737488355328 : Nat) ∧ a = a ∧ n = n ∧ c = c ∧ x = x ∧ y = y ∧ minI (maxI k (0 : Int)) (64 : Int) = minI (maxI k (0 : Int)) (64 : Int) ∧ K ((List.append (List.append (List.take (Int.toNat p_1.fst.snd.fst - (0 : Nat)) (List.drop (0 : Nat) p_1.fst.fst)) [[Value.int IntKind.i64 n_5, Value.int IntKind.u32 n_6, Value.int IntKind.u32 n_7, Value.string s]]) (List.take (List.length p_1.fst.fst - Int.toNat p_1.fst.snd.fst) (List.drop (Int.toNat p_1.fst.snd.fst) p_1.fst.fst)), IntKind.wrap IntKind.i64 (p.fst.snd.fst + (1 : Int)), PUnit.unit), PUnit.unit) H)) ((p.fst.fst, (↑(List.length p.fst.fst) : Int), PUnit.unit), PUnit.unit) (delLs H' [])) (∀ (a : Option Addr) (c : Nat) (H' : Nat → Option Obj), H ≤ H' → (∀ (b : Nat), blockOf (Value.slice a (List.length p.fst.fst) c) = some b → H b = none) → (∀ (b : Nat) (o : Obj), H' b = some o → H b = some o ∨ blockOf (Value.slice a (List.length p.fst.fst) c) = some b) → RowAt H' (Value.slice a (List.length p.fst.fst) c) (44 : Nat) (4 : Nat) p.fst.fst → minI (maxI k (0 : Int)) (64 : Int) = minI (maxI k (0 : Int)) (64 : Int) ∧ I (((a, List.length p.fst.fst, c), PUnit.unit), PUnit.unit) H')) (([], (0 : Int), PUnit.unit), PUnit.unit) H) fun (p : ((Option Addr × Nat × Nat) × PUnit) × PUnit) (H : Nat → Option Obj) ↦ ((0 : Int) ≤ minI (minI (maxI k (0 : Int)) (64 : Int)) (↑p.fst.fst.snd.fst : Int) ∧ minI (minI (maxI k (0 : Int)) (64 : Int)) (↑p.fst.fst.snd.fst : Int) ≤ (↑p.fst.fst.snd.snd : Int)) ∧ R (Ending.returned (Value.slice (subAddr p.fst.fst.1 p.fst.fst.snd.snd (0 : Nat) (4 : Nat)) (Int.toNat (minI (minI (maxI k (0 : Int)) (64 : Int)) (↑p.fst.fst.snd.fst : Int)) - (0 : Nat)) (p.fst.fst.snd.snd - (0 : Nat)))) H
theorem vc_rnr (a : Option Addr) (n : Nat) (c : Nat) (x : Int) (y : Int) (k : Int) (R : Ending → Heap → Prop) (H : Heap) : vcFun prog h_rnr f17 [SV.c (SC.v (Value.slice a n c)), SV.c (SC.v (Value.int IntKind.u32 x)), SV.c (SC.v (Value.int IntKind.u32 y)), SV.c (SC.v (Value.int IntKind.i64 k))] R H = nf_rnr a n c x y k R H := by kernel_rfl

def nf_lfnd (a : Option Addr) (n : Nat) (c : Nat) (x0 : Int) (y0 : Int) (x1 : Int) (y1 : Int) (x : Int) (y : Int) (k : Int) (R : Ending → Heap → Prop) (H : Heap) : Prop := Meets prog (6 : Nat) [] H fun (e : Ending) (H' : Nat → Option Obj) ↦ ∃ (b : Bool), e = Ending.returned (Value.bool b) ∧ Br (!b) (R (Ending.returned (Value.bool false)) H') (Br (decide ((↑n : Int) > (40 : Int))) (((0 : Int) ≤ (40 : Int) ∧ (40 : Int) ≤ (↑c : Int)) ∧ Meets prog (8 : Nat) [Value.slice (subAddr a c (0 : Nat) (4 : Nat)) (40 : Nat) (c - (0 : Nat))] H' fun (e : Ending) (H' : Nat → Option Obj) ↦ ∃ (a_1 : Option Addr), ∃ (n : Nat), ∃ (c_1 : Nat), e = Ending.returned (Value.slice a_1 n c_1) ∧ Meets prog (9 : Nat) [Value.slice (subAddr a c (0 : Nat) (4 : Nat)) (40 : Nat) (c - (0 : Nat))] H' fun (e : Ending) (H' : Nat → Option Obj) ↦ ∃ (a : Option Addr), e = Ending.returned (Value.pointer a) ∧ ∃ (G : Nat → Option Obj), G ≤ H' ∧ Meets prog (14 : Nat) [Value.pointer a, Value.agg { toList := [Value.int IntKind.u32 x0, Value.int IntKind.u32 y0, Value.int IntKind.u32 x1, Value.int IntKind.u32 y1] }] H' fun (e : Ending) (H'_1 : Nat → Option Obj) ↦ Keep G H' H' H'_1 ∧ ∃ (a_2 : Option Addr), ∃ (n_1 : Nat), ∃ (c : Nat), e = Ending.returned (Value.slice a_2 n_1 c) ∧ Meets prog (15 : Nat) [Value.slice a_1 n c_1, Value.agg { toList := [Value.int IntKind.u32 x0, Value.int IntKind.u32 y0, Value.int IntKind.u32 x1, Value.int IntKind.u32 y1] }] (delLs H'_1 []) fun (e : Ending) (H' : Nat → Option Obj) ↦ Keep G (delLs H'_1 []) (delLs H'_1 []) H' ∧ ∃ (a_3 : Option Addr), ∃ (n_2 : Nat), ∃ (c_2 : Nat), e = Ending.returned (Value.slice a_3 n_2 c_2) ∧ Meets prog (13 : Nat) [Value.slice a_2 n_1 c, Value.slice a_3 n_2 c_2] (delLs H' []) fun (e : Ending) (H'_2 : Nat → Option Obj) ↦ Keep G (delLs H' []) (delLs H' []) H'_2 ∧ ∃ (b : Bool), e = Ending.returned (Value.bool b) ∧ Br b (Meets prog (16 : Nat) [Value.pointer a, Value.int IntKind.u32 x, Value.int IntKind.u32 y, Value.int IntKind.i64 k] (delLs H'_2 []) fun (e : Ending) (H' : Nat → Option Obj) ↦ Keep G (delLs H'_2 []) (delLs H'_2 []) H' ∧ ∃ (a : Option Addr), ∃ (n_3 : Nat), ∃ (c : Nat), e = Ending.returned (Value.slice a n_3 c) ∧ Meets prog (17 : Nat) [Value.slice a_1 n c_1, Value.int IntKind.u32 x, Value.int IntKind.u32 y, Value.int IntKind.i64 k] (delLs H' []) fun (e : Ending) (H'_3 : Nat → Option Obj) ↦ Keep G (delLs H' []) (delLs H' []) H'_3 ∧ ∃ (a_4 : Option Addr), ∃ (n : Nat), ∃ (c_3 : Nat), e = Ending.returned (Value.slice a_4 n c_3) ∧ Meets prog (13 : Nat) [Value.slice a n_3 c, Value.slice a_4 n c_3] (delLs H'_3 []) fun (e : Ending) (H' : Nat → Option Obj) ↦ Keep G (delLs H'_3 []) (delLs H'_3 []) H' ∧ ∃ (b : Bool), e = Ending.returned (Value.bool b) ∧ R (Ending.returned (Value.bool b)) (delLs H' [])) (R (Ending.returned (Value.bool false)) (delLs H'_2 []))) (Meets prog (8 : Nat) [Value.slice a n c] H' fun (e : Ending) (H' : Nat → Option Obj) ↦ ∃ (a_1 : Option Addr), ∃ (n_1 : Nat), ∃ (c_1 : Nat), e = Ending.returned (Value.slice a_1 n_1 c_1) ∧ Meets prog (9 : Nat) [Value.slice a n c] H' fun (e : Ending) (H' : Nat → Option Obj) ↦ ∃ (a : Option Addr), e = Ending.returned (Value.pointer a) ∧ ∃ (G : Nat → Option Obj), G ≤ H' ∧ Meets prog (14 : Nat) [Value.pointer a, Value.agg { toList := [Value.int IntKind.u32 x0, Value.int IntKind.u32 y0, Value.int IntKind.u32 x1, Value.int IntKind.u32 y1] }] H' fun (e : Ending) (H'_1 : Nat → Option Obj) ↦ Keep G H' H' H'_1 ∧ ∃ (a_2 : Option Addr), ∃ (n : Nat), ∃ (c : Nat), e = Ending.returned (Value.slice a_2 n c) ∧ Meets prog (15 : Nat) [Value.slice a_1 n_1 c_1, Value.agg { toList := [Value.int IntKind.u32 x0, Value.int IntKind.u32 y0, Value.int IntKind.u32 x1, Value.int IntKind.u32 y1] }] (delLs H'_1 []) fun (e : Ending) (H' : Nat → Option Obj) ↦ Keep G (delLs H'_1 []) (delLs H'_1 []) H' ∧ ∃ (a_3 : Option Addr), ∃ (n_2 : Nat), ∃ (c_2 : Nat), e = Ending.returned (Value.slice a_3 n_2 c_2) ∧ Meets prog (13 : Nat) [Value.slice a_2 n c, Value.slice a_3 n_2 c_2] (delLs H' []) fun (e : Ending) (H'_2 : Nat → Option Obj) ↦ Keep G (delLs H' []) (delLs H' []) H'_2 ∧ ∃ (b : Bool), e = Ending.returned (Value.bool b) ∧ Br b (Meets prog (16 : Nat) [Value.pointer a, Value.int IntKind.u32 x, Value.int IntKind.u32 y, Value.int IntKind.i64 k] (delLs H'_2 []) fun (e : Ending) (H' : Nat → Option Obj) ↦ Keep G (delLs H'_2 []) (delLs H'_2 []) H' ∧ ∃ (a : Option Addr), ∃ (n : Nat), ∃ (c : Nat), e = Ending.returned (Value.slice a n c) ∧ Meets prog (17 : Nat) [Value.slice a_1 n_1 c_1, Value.int IntKind.u32 x, Value.int IntKind.u32 y, Value.int IntKind.i64 k] (delLs H' []) fun (e : Ending) (H'_3 : Nat → Option Obj) ↦ Keep G (delLs H' []) (delLs H' []) H'_3 ∧ ∃ (a_4 : Option Addr), ∃ (n_3 : Nat), ∃ (c_3 : Nat), e = Ending.returned (Value.slice a_4 n_3 c_3) ∧ Meets prog (13 : Nat) [Value.slice a n c, Value.slice a_4 n_3 c_3] (delLs H'_3 []) fun (e : Ending) (H' : Nat → Option Obj) ↦ Keep G (delLs H'_3 []) (delLs H'_3 []) H' ∧ ∃ (b : Bool), e = Ending.returned (Value.bool b) ∧ R (Ending.returned (Value.bool b)) (delLs H' [])) (R (Ending.returned (Value.bool false)) (delLs H'_2 []))))
theorem vc_lfnd (a : Option Addr) (n : Nat) (c : Nat) (x0 : Int) (y0 : Int) (x1 : Int) (y1 : Int) (x : Int) (y : Int) (k : Int) (R : Ending → Heap → Prop) (H : Heap) : vcFun prog { } f4 [SV.c (SC.v (Value.slice a n c)), SV.agg [Seg.c (SC.v (Value.int IntKind.u32 x0)), Seg.c (SC.v (Value.int IntKind.u32 y0)), Seg.c (SC.v (Value.int IntKind.u32 x1)), Seg.c (SC.v (Value.int IntKind.u32 y1))], SV.c (SC.v (Value.int IntKind.u32 x)), SV.c (SC.v (Value.int IntKind.u32 y)), SV.c (SC.v (Value.int IntKind.i64 k))] R H = nf_lfnd a n c x0 y0 x1 y1 x y k R H := by kernel_rfl

end Cr

set_option linter.unusedVariables false
set_option linter.unusedSimpArgs false
namespace Sx
open Go
section
variable {P : Program} {H : Type} {enc : TypeId × Value → H} {W : World}
theorem open_sl {E : Type} [Inhabited E] {tS tE sz by_ : Nat} {cell : E → List Value} {Q : E → Prop} (hS : P.underlying tS = some (.slice tE)) (hc : P.cellsOf tE = sz) (hby : P.bytesOf tE = by_) (hsz : 0 < sz) (hcl : ∀ e, (cell e).length = sz)
    (hon : ∀ e, ∀ x ∈ cell e, one x = true)
    (op : ∀ (fuel : Nat) (cs : List Value) (y : DataW H × List MemPlace), DataW.trod enc P W 0 (fun _ => true) true fuel tE cs = some y → ∃ e, cs = cell e ∧ Q e)
    {v : Value} {d : DataW H} {ps : List MemPlace} {base : Nat} (hv : Value.okWide P W .any base tS v) (h : DataW.Trod enc P W 0 (fun _ => true) true tS v d ps) :
    ∃ l : List E, SliceAt (full W) v sz (l.map cell) ∧ (∀ e ∈ l, Q e) ∧ ((d.weights P tS).all (· ≤ reachBytes) = true → l.length * by_ ≤ reachBytes) := by
  obtain ⟨a, len, cap, rfl⟩ := Go.WideShapes.okWide_slice hS hv
  obtain ⟨fuel, hf⟩ := h
  rcases Go.Deep.open_slice hS hf with ⟨e, e2⟩ | ⟨A, ln, cp, m, n, D, Pl, e, hb, hl, hm, hmm, e2, hx⟩
  · cases e
    exact ⟨[], ⟨none, 0, 0, rfl, rfl, Nat.le_refl _, by simp, by simp, by simp⟩, by simp, by simp⟩
  · cases e
    obtain ⟨rfl, -⟩ := Prod.mk.inj e2
    simp only [if_true] at hmm
    subst hmm
    have a0 : A.add (0 * sz) = A := by rw [Nat.zero_mul]; rfl
    have a1 : ∀ B : Addr, B.add 0 = B := fun B => rfl
    have pick : ∀ i, ∃ p : E, i < len → Q p ∧ (full W).has (A.add (i * sz)) (cell p) ∧ A.spot = none := fun i => by
      by_cases hi : i < len
      · obtain ⟨cs', h1, h2⟩ := hx i (by omega)
        rw [hc] at h1
        obtain ⟨p, rfl, hp⟩ := op _ _ _ h2
        obtain ⟨_, h3, h4⟩ := World.cells?_some h1
        refine ⟨p, fun _ => ⟨hp, ?_, ?_⟩⟩
        · intro j x hj
          have hj4 : j < sz := by have := (List.getElem?_eq_some_iff.1 hj).1; rw [hcl] at this; exact this
          have := h4 j hj4
          rw [hj] at this
          exact this
        · obtain ⟨cs0, k1, k2⟩ := hx 0 (by omega)
          rw [hc] at k1
          obtain ⟨k5, k3, k4⟩ := World.cells?_some k1
          have := k4 0 hsz
          rw [a0, a1, List.getElem?_eq_getElem (by omega)] at this
          unfold World.cell? at this
          split at this
          · split at this
            · cases this
            · rename_i hs
              simpa using hs
          · cases this
      · exact ⟨default, fun h => absurd h hi⟩
    obtain ⟨f, hf⟩ := Classical.axiomOfChoice pick
    refine ⟨(List.range len).map f, ⟨some A, len, _, rfl, by simp, hl, ?_, ?_, fun i e he => ?_⟩, ?_, fun hw => ?_⟩
    · intro e he
      obtain ⟨p, _, rfl⟩ := List.mem_map.1 he
      exact hcl p
    · intro e he
      obtain ⟨p, _, rfl⟩ := List.mem_map.1 he
      exact hon p
    · simp only [List.getElem?_map] at he
      obtain ⟨p, hp, rfl⟩ := Option.map_eq_some_iff.1 he
      obtain ⟨i', hi', rfl⟩ := Option.map_eq_some_iff.1 hp
      have hlt := (List.getElem?_eq_some_iff.1 hi').1
      have hii : i' = i := by have := (List.getElem?_eq_some_iff.1 hi').2; simp at this; omega
      subst hii
      obtain ⟨_, g1, g2⟩ := hf i' (by simpa using hlt)
      exact ⟨A, rfl, g2, g1⟩
    · intro p hp
      obtain ⟨i, hi, rfl⟩ := List.mem_map.1 hp
      exact (hf i (List.mem_range.1 hi)).1
    · simp only [DataW.weights, hS, List.all_cons, Bool.and_eq_true, decide_eq_true_eq, List.length_map, List.length_range, hby] at hw
      simp only [List.length_map, List.length_range]
      have h0 := hw.1
      exact Nat.le_trans (Nat.mul_le_mul_right _ (Nat.le_add_right _ _)) h0
theorem weigh_of {t : TypeId} {ts : List TypeId} {d : DataW H} {ds : List (DataW H)} {p : Nat → Bool} (h : (DataW.weightsEach P (t :: ts) (d :: ds)).all p = true) : (d.weights P t).all p = true ∧ (DataW.weightsEach P ts ds).all p = true := by
  simp only [DataW.weightsEach, List.all_append, Bool.and_eq_true] at h
  exact h
end
end Sx

set_option linter.unusedVariables false
set_option linter.unusedSimpArgs false
namespace Cr
open Go Sx
open Go.Proofs.Try
set_option maxRecDepth 100000
theorem own : ownKnob Go.Proofs.Try.prog.godebug = none := by kernel_rfl
theorem laidOut : laidOutB Go.Proofs.Try.prog = true := by kernel_rfl
section
variable {H : Type} {enc : TypeId × Value → H} {W : World}
theorem u32_wf {b : Int} (w : (Lit.int .u32 b).wf = true) : U32 b := by simp [Lit.wf, IntKind.min, IntKind.max, IntKind.bits, IntKind.signed] at w; omega
theorem i64_wf {b : Int} (w : (Lit.int .i64 b).wf = true) : -9223372036854775808 ≤ b ∧ b ≤ 9223372036854775807 := by simp [Lit.wf, IntKind.min, IntKind.max, IntKind.bits, IntKind.signed] at w; omega
abbrev I64 (x : Int) : Prop := -9223372036854775808 ≤ x ∧ x ≤ 9223372036854775807
theorem openPt {fuel : Nat} {cs : List Value} {y : DataW H × List MemPlace} (h : DataW.trod enc prog W 0 (fun _ => true) true fuel 44 cs = some y) : ∃ p : Pt, cs = ptC p ∧ (U32 p.x ∧ U32 p.y) ∧ I64 p.id := by
  obtain ⟨y0, y1, y2, y3, n, _, hl, h0, h1, h2, h3⟩ := Go.Joins.trod_struct4 Go.Proofs.Try.underlying44 h
  obtain ⟨a, e0, _, w0⟩ := DataW.trod_int Go.Proofs.Try.underlying3 h0
  obtain ⟨b, e1, _, w1⟩ := DataW.trod_int Go.Proofs.Try.underlying34 h1
  obtain ⟨c, e2, _, w2⟩ := DataW.trod_int Go.Proofs.Try.underlying34 h2
  obtain ⟨s, e3, _, _⟩ := DataW.trod_string Go.Proofs.Try.underlying9 h3
  have c4 : prog.cellsOf 44 = 4 := by kernel_rfl
  have c1 : prog.cellsOf 3 = 1 := by kernel_rfl
  have c2 : prog.cellsOf 34 = 1 := by kernel_rfl
  have c3 : prog.cellsOf 9 = 1 := by kernel_rfl
  rw [c4] at hl
  match cs, hl with
  | [q0, q1, q2, q3], _ =>
    simp only [c1, c2, c3, List.drop_zero, List.drop_succ_cons, List.take_succ_cons, List.take_zero] at e0 e1 e2 e3
    cases e0; cases e1; cases e2; cases e3
    exact ⟨⟨a, b, c, s⟩, rfl, ⟨u32_wf w1, u32_wf w2⟩, i64_wf w0⟩
theorem openI {v : Value} {d : DataW H} {ps : List MemPlace} {base : Nat} (hv : Value.okWide prog W .any base 3 v) (h : DataW.Trod enc prog W 0 (fun _ => true) true 3 v d ps) : ∃ a : Int, v = vi a ∧ I64 a := by
  obtain ⟨n, rfl, _, _, hw⟩ := Go.ChangeShapes.open_int Go.Proofs.Try.underlying3 hv h
  exact ⟨n, rfl, i64_wf hw⟩
theorem openU {v : Value} {d : DataW H} {ps : List MemPlace} {base : Nat} (hv : Value.okWide prog W .any base 34 v) (h : DataW.Trod enc prog W 0 (fun _ => true) true 34 v d ps) : ∃ a : Int, v = .int .u32 a ∧ U32 a := by
  obtain ⟨n, rfl, _, _, hw⟩ := Go.ChangeShapes.open_int Go.Proofs.Try.underlying34 hv h
  exact ⟨n, rfl, u32_wf hw⟩
theorem openPts {v : Value} {d : DataW H} {ps : List MemPlace} {base : Nat} (hv : Value.okWide prog W .any base 22 v) (h : DataW.Trod enc prog W 0 (fun _ => true) true 22 v d ps) :
    ∃ l : List Pt, SliceAt (full W) v 4 (pts l) ∧ (∀ p ∈ l, (U32 p.x ∧ U32 p.y) ∧ I64 p.id) ∧ ((d.weights prog 22).all (· ≤ reachBytes) = true → l.length ≤ 10000000000000) := by
  obtain ⟨l, h1, h2, h3⟩ := open_sl (P := prog) (cell := ptC) (Q := fun p => (U32 p.x ∧ U32 p.y) ∧ I64 p.id) (sz := 4) (by_ := 32) Go.Proofs.Try.underlying22 (by kernel_rfl) (by kernel_rfl) (by omega) (fun _ => rfl) ptC_one (fun _ _ _ h => openPt h) hv h
  refine ⟨l, h1, h2, fun hw => ?_⟩
  have := h3 hw
  unfold reachBytes at this
  omega
end
end Cr

set_option linter.unusedVariables false
set_option linter.unusedSimpArgs false
namespace Cr
open Go Sx
open Go.Proofs.Try
set_option maxRecDepth 100000
structure Rc where
  x0 : Int
  y0 : Int
  x1 : Int
  y1 : Int
abbrev rcV (r : Rc) : Value := .agg #[.int .u32 r.x0, .int .u32 r.y0, .int .u32 r.x1, .int .u32 r.y1]
structure RcOK (r : Rc) : Prop where
  x0 : U32 r.x0
  y0 : U32 r.y0
  x1 : U32 r.x1
  y1 : U32 r.y1
section
variable {H : Type} {enc : TypeId × Value → H} {W : World}
theorem openRcV {v : Value} {d : DataW H} {ps : List MemPlace} {base : Nat} (hv : Value.okWide prog W .any base 36 v) (h : DataW.Trod enc prog W 0 (fun _ => true) true 36 v d ps) : ∃ r : Rc, v = rcV r ∧ RcOK r := by
  obtain ⟨cs, rfl, _⟩ := Go.WideShapes.okWide_struct Go.Proofs.Try.underlying36 hv
  obtain ⟨fuel, hf⟩ := h
  obtain ⟨y0, y1, y2, y3, n, _, hl, h0, h1, h2, h3⟩ := Go.Joins.trod_struct4 Go.Proofs.Try.underlying36 hf
  obtain ⟨a, e0, _, w0⟩ := DataW.trod_int Go.Proofs.Try.underlying34 h0
  obtain ⟨b, e1, _, w1⟩ := DataW.trod_int Go.Proofs.Try.underlying34 h1
  obtain ⟨c, e2, _, w2⟩ := DataW.trod_int Go.Proofs.Try.underlying34 h2
  obtain ⟨s, e3, _, w3⟩ := DataW.trod_int Go.Proofs.Try.underlying34 h3
  have c4 : prog.cellsOf 36 = 4 := by kernel_rfl
  have c2 : prog.cellsOf 34 = 1 := by kernel_rfl
  obtain ⟨cl⟩ := cs
  simp only [Value.cells] at hl e0 e1 e2 e3
  rw [c4] at hl
  match cl, hl with
  | [q0, q1, q2, q3], _ =>
    simp only [c2, List.drop_zero, List.drop_succ_cons, List.take_succ_cons, List.take_zero] at e0 e1 e2 e3
    cases e0; cases e1; cases e2; cases e3
    exact ⟨⟨a, b, c, s⟩, rfl, ⟨u32_wf w0, u32_wf w1, u32_wf w2, u32_wf w3⟩⟩
end
end Cr

set_option linter.unusedVariables false
set_option linter.unusedSimpArgs false
namespace Cr
open Go Sx Go.Proofs Go.Sort
open Go.Proofs.Try
set_option maxRecDepth 100000
def KT.pts : KT → List Pt
  | .nil => []
  | .node p l r => p :: (l.pts ++ r.pts)
/-- Sorted in one way, of the same points: the same. -/
theorem sort_uniq {r : Pt → Pt → Prop} (anti : ∀ x y, r x y → r y x → x.id = y.id) : ∀ {s s' : List Pt}, UId s → s'.Perm s → s.Pairwise r → s'.Pairwise r → s' = s
  | [], s', _, hp, _, _ => hp.eq_nil
  | x :: s, [], _, hp, _, _ => by have := hp.length_eq; simp at this
  | x :: s, y :: s', hu, hp, h1, h2 => by
    rw [List.pairwise_cons] at h1 h2
    have hxy : x = y := by
      have hy : y ∈ x :: s := hp.mem_iff.1 (List.mem_cons_self ..)
      have hx : x ∈ y :: s' := hp.mem_iff.2 (List.mem_cons_self ..)
      rcases List.mem_cons.1 hy with e | hy
      · exact e.symm
      · rcases List.mem_cons.1 hx with e | hx
        · exact e
        · exact hu.inj (List.mem_cons_self ..) (List.mem_cons_of_mem _ hy) (anti _ _ (h1.1 y hy) (h2.1 x hx))
    subst hxy
    rw [sort_uniq anti (hu.sub (List.sublist_cons_self ..)) (List.Perm.cons_inv hp) h1.2 h2.2]
theorem sortP_perm (l : List Pt) : (sortP l).Perm l := isort_perm ltI l
theorem sortP_sid {L M : List Pt} (h : SId M) (hp : L.Perm M) : sortP L = M := by
  refine sort_uniq (r := fun p q => p.id ≤ q.id) (fun x y h1 h2 => by omega) (sid_uid h) ((sortP_perm L).trans hp) ?_ (sortP_le L)
  exact List.Pairwise.imp (fun h => by omega) h
theorem Grow.perm : ∀ {dp : Int} {l : List Pt} {T : KT}, Grow dp l T → T.pts.Perm l
  | _, _, _, .nil => .refl _
  | _, _, _, .node (s := s) (p := p) (a := a) (b := b) hp hs hm ha hb => by
    have ha' := ha.perm
    have hb' := hb.perm
    have hlt := (List.getElem?_eq_some_iff.1 hm).1
    have e : s = s.take (s.length / 2) ++ p :: s.drop (s.length / 2 + 1) := by
      conv => lhs; rw [← List.take_append_drop (s.length / 2) s]
      congr 1
      rw [List.drop_eq_getElem_cons hlt, (List.getElem?_eq_some_iff.1 hm).2]
    have h1 : (p :: (a.pts ++ b.pts)).Perm (p :: (s.take (s.length / 2) ++ s.drop (s.length / 2 + 1))) := (ha'.append hb').cons p
    refine h1.trans (List.Perm.trans ?_ hp)
    conv => rhs; rw [e]
    exact List.perm_middle.symm
def hasR (r : Rc) (p : Pt) : Bool := decide (r.x0 ≤ p.x ∧ p.x ≤ r.x1 ∧ r.y0 ≤ p.y ∧ p.y ≤ r.y1)
abbrev loP (r : Rc) : Pt := ⟨0, r.x0, r.y0, ⟨#[]⟩⟩
abbrev hiP (r : Rc) : Pt := ⟨0, r.x1, r.y1, ⟨#[]⟩⟩
def gatP (r : Rc) : Int → KT → List Pt
  | _, .nil => []
  | dp, .node p a b => (if hasR r p then [p] else []) ++ ((if coK dp (loP r) ≤ coK dp p then gatP r (dp + 1) a else []) ++ (if coK dp (hiP r) ≥ coK dp p then gatP r (dp + 1) b else []))
theorem has_co {r : Rc} {p : Pt} (h : hasR r p = true) (dp : Int) : coK dp (loP r) ≤ coK dp p ∧ coK dp p ≤ coK dp (hiP r) := by
  unfold hasR at h
  simp only [decide_eq_true_eq] at h
  unfold coK
  split
  · exact ⟨h.2.2.1, h.2.2.2⟩
  · exact ⟨h.1, h.2.1⟩
/-- What stands to the left, to the right. -/
theorem Grow.sides {dp : Int} {l s : List Pt} {p : Pt} {a b : KT} (hs : s.Pairwise (fun x y => ltOf (cfK dp) y x = false)) (hm : s[s.length / 2]? = some p) (ha : Grow (dp + 1) (s.take (s.length / 2)) a) (hb : Grow (dp + 1) (s.drop (s.length / 2 + 1)) b) :
    (∀ q ∈ a.pts, coK dp q ≤ coK dp p) ∧ ∀ q ∈ b.pts, coK dp p ≤ coK dp q := by
  obtain ⟨hlt, he⟩ := List.getElem?_eq_some_iff.1 hm
  constructor
  · intro q hq
    have hq := ha.perm.mem_iff.1 hq
    obtain ⟨i, hi, rfl⟩ := List.mem_take_iff_getElem.1 hq
    have := List.pairwise_iff_getElem.1 hs i (s.length / 2) (by omega) hlt (by omega)
    rw [he, ltK, decide_eq_false_iff_not] at this
    omega
  · intro q hq
    have hq := hb.perm.mem_iff.1 hq
    obtain ⟨i, hi, rfl⟩ := List.mem_iff_getElem.1 hq
    rw [List.length_drop] at hi
    rw [List.getElem_drop]
    have := List.pairwise_iff_getElem.1 hs (s.length / 2) (s.length / 2 + 1 + i) hlt (by omega) (by omega)
    rw [he, ltK, decide_eq_false_iff_not] at this
    omega
theorem gat_eq (r : Rc) : ∀ {dp : Int} {l : List Pt} {T : KT}, Grow dp l T → gatP r dp T = T.pts.filter (hasR r)
  | _, _, _, .nil => rfl
  | dp, _, _, .node (s := s) (p := p) (a := a) (b := b) hp hs hm ha hb => by
    obtain ⟨h1, h2⟩ := Grow.sides (l := s) hs hm ha hb
    have e1 : (if coK dp (loP r) ≤ coK dp p then gatP r (dp + 1) a else []) = a.pts.filter (hasR r) := by
      split
      · exact gat_eq r ha
      · rename_i q
        symm
        rw [List.filter_eq_nil_iff]
        intro z hz hh
        have := (has_co hh dp).1
        have := h1 z hz
        omega
    have e2 : (if coK dp (hiP r) ≥ coK dp p then gatP r (dp + 1) b else []) = b.pts.filter (hasR r) := by
      split
      · exact gat_eq r hb
      · rename_i q
        symm
        rw [List.filter_eq_nil_iff]
        intro z hz hh
        have := (has_co hh dp).2
        have := h2 z hz
        omega
    show (if hasR r p then [p] else []) ++ (_ ++ _) = (p :: (a.pts ++ b.pts)).filter (hasR r)
    rw [e1, e2, List.filter_cons, List.filter_append]
    split <;> simp
theorem gat_len (r : Rc) : ∀ (dp : Int) (T : KT), (gatP r dp T).length ≤ T.pts.length
  | _, .nil => by simp [gatP, KT.pts]
  | dp, .node p a b => by
    have h1 := gat_len r (dp + 1) a
    have h2 := gat_len r (dp + 1) b
    simp only [gatP, KT.pts, List.length_append, List.length_cons]
    split <;> split <;> split <;> simp <;> omega
section
variable {H : Heap} {R : Ending → Heap → Prop}
theorem s_kpart {p : Pt} {dp : Int} (k : R (.returned (.int .u32 (coK dp p))) H) : Meets prog 40 [ptV p, vi dp] H R := by
  refine spec_of func40 (by kernel_rfl) (fun t h => by cases h) ?_ (vc_kpart p.id p.x p.y p.data dp R H) ?_
  · simp [argsR, SV.rep, SC.rep, Sx.one, SegsRep]
  unfold nf_kpart
  unfold coK odd at k
  refine br (fun q => ?_) fun q => ?_
  · rw [q] at k; exact k
  · rw [q] at k; exact k
theorem has_br {x0 y0 x1 y1 x y : Int} (k : R (.returned (.bool (decide (x0 ≤ x ∧ x ≤ x1 ∧ y0 ≤ y ∧ y ≤ y1)))) H) :
    Br (decide (x ≥ x0)) (Br (decide (x ≤ x1)) (Br (decide (y ≥ y0)) (R (.returned (.bool (decide (y ≤ y1)))) H) (R (.returned (.bool false)) H)) (R (.returned (.bool false)) H)) (R (.returned (.bool false)) H) := by
  refine br (fun q1 => br (fun q2 => br (fun q3 => ?_) fun q3 => ?_) fun q2 => ?_) fun q1 => ?_
  · simp at q1 q2 q3
    have e : decide (y ≤ y1) = decide (x0 ≤ x ∧ x ≤ x1 ∧ y0 ≤ y ∧ y ≤ y1) := by
      by_cases h : y ≤ y1
      · rw [decide_eq_true h, decide_eq_true ⟨q1, q2, q3, h⟩]
      · rw [decide_eq_false h, decide_eq_false (by omega)]
    rw [e]; exact k
  · simp at q3; rw [decide_eq_false (by omega)] at k; exact k
  · simp at q2; rw [decide_eq_false (by omega)] at k; exact k
  · simp at q1; rw [decide_eq_false (by omega)] at k; exact k
theorem addr_add2 (A : Addr) (k j : Nat) : (A.add k).add j = A.add (k + j) := by
  obtain ⟨b, o, s⟩ := A
  by_cases hk : k = 0
  · subst hk; simp [Addr.add]
  · by_cases hj : j = 0
    · subst hj; simp [Addr.add]
    · simp [Addr.add, hk, hj, Nat.add_assoc]
theorem has_from {l cs : List Value} {A : Addr} {k n : Nat} (h : H.has A l) (e : (l.drop k).take n = cs) : H.has (A.add k) cs := by
  intro j x hj
  have e1 := addr_add2 A k j
  rw [e1]
  refine h (k + j) x ?_
  rw [← e] at hj
  have hlt := (List.getElem?_eq_some_iff.1 hj).1
  rw [List.length_take] at hlt
  rw [List.getElem?_take_of_lt (by omega), List.getElem?_drop] at hj
  exact hj
theorem has_at2 {l : List Value} {A : Addr} {k j : Nat} {x : Value} (h : H.has A l) (e : l[k + j]? = some x) : H.has ((A.add k).add j) [x] := by
  have e1 := addr_add2 A k j
  rw [e1]
  exact has_at h e
theorem s_rhas {r : Rc} {x y : Int} (k : R (.returned (.bool (decide (r.x0 ≤ x ∧ x ≤ r.x1 ∧ r.y0 ≤ y ∧ y ≤ r.y1)))) H) : Meets prog 39 [rcV r, .int .u32 x, .int .u32 y] H R := by
  refine spec_of func39 (by kernel_rfl) (fun t h => by cases h) ?_ (vc_rect r.x0 r.y0 r.x1 r.y1 x y R H) ?_
  · simp [argsR, SV.rep, SC.rep, Sx.one, SegsRep]
  unfold nf_rect
  exact has_br k
theorem s_phas {r : Rc} {p : Pt} (k : R (.returned (.bool (hasR r p))) H) : Meets prog 28 [rcV r, ptV p] H R := by
  refine spec_of func28 (by kernel_rfl) (fun t h => by cases h) ?_ (vc_phas r.x0 r.y0 r.x1 r.y1 p.id p.x p.y p.data R H) ?_
  · simp [argsR, SV.rep, SC.rep, Sx.one, SegsRep]
  unfold nf_phas
  exact has_br k
theorem filter_snoc' {f : Pt → Bool} {l : List Pt} {t : Nat} {p : Pt} (h : l.take (t + 1) = l.take t ++ [p]) : (l.take (t + 1)).filter f = (l.take t).filter f ++ (if f p then [p] else []) := by
  rw [h, List.filter_append, List.filter_cons, List.filter_nil]
theorem s_ppick {v : Value} {l : List Pt} {q : Rc} (hs : SliceAt H v 4 (pts l)) (hl : l.length ≤ 1000000) (k : ∀ v H', H ≤ H' → (∀ b, blockOf v = some b → H b = none) → RowAt H' v tPt 4 (pts (l.filter (hasR q))) → R (.returned v) H') :
    Meets prog 15 [v, rcV q] H R := by
  obtain ⟨a, n, c, e, hn⟩ := hs
  subst e
  have hs : SliceAt H (.slice a n c) 4 (pts l) := ⟨a, n, c, rfl, hn⟩
  have hln : l.length = n := by simpa [pts] using hn.1
  refine spec_of func15 (by kernel_rfl) (fun t h => by cases h) ?_ (vc_ppick a n c q.x0 q.y0 q.x1 q.y1 R H) ?_
  · simp [argsR, SV.rep, SegsRep, SC.rep, Sx.one]
  unfold nf_ppick
  simp only [true_and, delLs_nil]
  refine ⟨fun p H' => ∃ t : Nat, p.1.1 = pts ((l.take t).filter (hasR q)) ∧ p.1.2.1 = (t : Int) ∧ t ≤ n ∧ H' = H, fun p _ => (n - p.1.2.1).toNat, ⟨0, by simp, rfl, by omega, rfl⟩, ?_⟩
  rintro ⟨⟨e1, i, _⟩, _⟩ H1 ⟨t, h1, hi, ht, rfl⟩
  simp only at h1 hi ⊢
  subst h1; subst hi
  refine br (fun q0 => ?_) fun q0 => ?_
  · simp only [decide_eq_true_eq] at q0
    obtain ⟨p, _, htk, hx⟩ := drop_cons (l := l) (k := t) (by omega)
    obtain ⟨A, e, g⟩ := pr_get hs hx
    subst e
    have hfs := filter_snoc' (f := hasR q) htk
    have hpl : (pts ((l.take t).filter (hasR q))).length ≤ t := by
      simp only [pts, List.length_map]
      exact Nat.le_trans (List.length_filter_le _ _) (by simp; omega)
    rw [Int.toNat_natCast, wi64 (by omega)]
    refine ⟨_, fun _ _ e => e, ⟨by omega, by omega⟩, ptr rfl (ptr rfl ⟨_, _, _, _, g, s_phas ⟨keep_same _ _ _, _, rfl, br (fun q1 => ?_) fun q1 => ?_⟩⟩)⟩
    · rw [if_pos q1] at hfs
      have e1 : List.append (pts ((l.take t).filter (hasR q))) [ptC p] = pts ((l.take (t + 1)).filter (hasR q)) := by rw [hfs]; simp [pts]
      refine ⟨⟨by omega, by omega⟩, ptr rfl (ptr rfl ⟨_, _, _, _, g, ?_⟩)⟩
      show (List.append (pts ((l.take t).filter (hasR q))) [ptC p]).length * 32 ≤ _ ∧ (∃ t' : Nat, List.append (pts ((l.take t).filter (hasR q))) [ptC p] = _ ∧ _) ∧ _
      rw [e1]
      refine ⟨?_, ⟨t + 1, rfl, by simp, by omega, by trivial⟩, by omega⟩
      rw [hfs]
      simp only [pts, List.length_map, List.length_append] at hpl ⊢
      simp; omega
    · rw [if_neg (by rw [q1]; simp), List.append_nil] at hfs
      exact ⟨⟨t + 1, by rw [hfs], by simp, by omega, by trivial⟩, by omega⟩
  · simp only [decide_eq_false_iff_not] at q0
    obtain rfl : t = n := by omega
    rw [List.take_of_length_le (by omega)]
    exact fun v H' g1 g2 _ g4 => k v H' g1 g2 g4
theorem s_kgat {r : Rc} : ∀ (T : KT) {dp : Int} {H : Heap} {R : Ending → Heap → Prop} {t : Option Addr}, KAt H T t → T.pts.length ≤ 1000 → 0 ≤ dp → dp + T.dep ≤ 1000000 →
    (∀ v H', H ≤ H' → (∀ b, blockOf v = some b → H b = none) → RowAt H' v tPt 4 (pts (gatP r dp T)) → R (.returned v) H') → Meets prog 27 [.pointer t, rcV r, vi dp] H R
  | .nil, dp, H, R, t, h, hl, h0, hd, k => by
    refine spec_of func27 (by kernel_rfl) (fun t h => by cases h) ?_ (vc_kgat t r.x0 r.y0 r.x1 r.y1 dp R H) ?_
    · simp [argsR, SV.rep, SC.rep, Sx.one, SegsRep]
    unfold nf_kgat
    exact s_kis h ⟨_, rfl, br (fun _ => k _ _ (fun _ _ e => e) (fun b hb => by cases hb) (.inl ⟨rfl, rfl⟩)) fun q => by simp [KT.some] at q⟩
  | .node p l s, dp, H, R, t, h, hl, h0, hd, k => by
    have hk := h
    obtain ⟨A, a, b, rfl, g, h1, h2⟩ := h
    have hd : dp + ((1 + max l.dep s.dep : Nat) : Int) ≤ 1000000 := hd
    have hl : (l.pts ++ s.pts).length + 1 ≤ 1000 := hl
    rw [List.length_append] at hl
    have gl := gat_len r (dp + 1) l
    have gs := gat_len r (dp + 1) s
    refine spec_of func27 (by kernel_rfl) (fun t h => by cases h) ?_ (vc_kgat (some A) r.x0 r.y0 r.x1 r.y1 dp R H) ?_
    · simp [argsR, SV.rep, SC.rep, Sx.one, SegsRep]
    unfold nf_kgat
    have ed : IntKind.wrap .i64 (dp + 1) = dp + 1 := wi64 (by omega)
    rw [ed]
    have gx : H.has ((A.add 1).add 1) [.int .u32 p.x] := has_at2 g (k := 1) (j := 1) rfl
    have gy : H.has ((A.add 1).add 2) [.int .u32 p.y] := has_at2 g (k := 1) (j := 2) rfl
    have gp : H.has (A.add 1) (ptC p) := has_from g (k := 1) (n := 4) rfl
    have ga : H.has (A.add 5) [.pointer a] := has_at g rfl
    have gb : H.has (A.add 6) [.pointer b] := has_at g rfl
    have hgl : (gatP r (dp + 1) l).length ≤ 1000 := by omega
    have hgs : (gatP r (dp + 1) s).length ≤ 1000 := by omega
    have eP : gatP r dp (.node p l s) = (if hasR r p then [p] else []) ++ ((if coK dp (loP r) ≤ coK dp p then gatP r (dp + 1) l else []) ++ (if coK dp (hiP r) ≥ coK dp p then gatP r (dp + 1) s else [])) := rfl
    rw [eP] at k
    have fr : ∀ {A B D : Heap} {v : Value}, A ≤ B → B ≤ D → (∀ b, blockOf v = some b → B b = none) → ∀ b, blockOf v = some b → A b = none := fun {A B D v} h1 h2 h3 b hb => by
      cases q : A b with
      | none => rfl
      | some o => have := h3 b hb; rw [h1 b o q] at this; cases this
    refine s_kis hk ⟨_, rfl, br (fun q => by simp [KT.some] at q) fun _ => ⟨H, fun _ _ e => e, ptr rfl (ptr rfl (ptr rfl (ptr rfl ⟨_, gx, ptr rfl (ptr rfl (ptr rfl (ptr rfl ⟨_, gy, s_rhas (r := r) ⟨keep_same _ _ _, _, rfl, ?_⟩⟩)))⟩)))⟩⟩
    simp only [delLs_nil]
    have hdec : decide (r.x0 ≤ p.x ∧ p.x ≤ r.x1 ∧ r.y0 ≤ p.y ∧ p.y ≤ r.y1) = hasR r p := rfl
    rw [hdec]
    have hpts : ∀ L : List Pt, L.map ptC = pts L := fun L => rfl
    refine br (fun q1 => ?_) fun q1 => ?_
    · rw [if_pos q1] at k
      refine ptr rfl (ptr rfl (ptr rfl ⟨_, _, _, _, gp, by simp, ptr rfl (ptr rfl (ptr rfl ⟨_, _, _, _, gp, s_kpart (p := p) ⟨_, rfl, s_kpart (p := loP r) ⟨_, rfl, br (fun q2 => ?_) fun q2 => ?_⟩⟩⟩))⟩))
      · simp only [decide_eq_true_eq] at q2
        rw [if_pos q2] at k
        refine ⟨H, fun _ _ e => e, ptr rfl (ptr rfl (ptr rfl ⟨a, ga, s_kgat l h1 (by omega) (by omega) (by omega) fun v1 H1 hle1 hf1 hr1 => ?_⟩))⟩
        obtain ⟨a1, c1, rfl⟩ := row_val hr1
        refine ⟨fun b o e _ => hle1 b o e, a1, _, c1, rfl, _, row_slice hr1, by simp [pts]; omega, s_kpart (p := hiP r) ⟨_, rfl, br (fun q3 => ?_) fun q3 => ?_⟩⟩
        · simp only [decide_eq_true_eq] at q3
          rw [if_pos q3] at k
          refine ⟨H1, fun _ _ e => e, ptr rfl (ptr rfl (ptr rfl ⟨b, has_le gb hle1, s_kgat s (kAt_le hle1 h2) (by omega) (by omega) (by omega) fun v2 H2 hle2 hf2 hr2 => ?_⟩))⟩
          obtain ⟨a2, c2, rfl⟩ := row_val hr2
          refine ⟨fun b o e _ => hle2 b o e, a2, _, c2, rfl, _, row_slice hr2, by simp [pts]; omega, fun v3 H3 hle3 hf3 _ hr3 => ?_⟩
          refine k _ _ (heap_trans hle1 (heap_trans hle2 hle3)) (fr (heap_trans hle1 hle2) hle3 hf3) ?_
          have e9 : (ptC p :: List.append (pts (gatP r (dp + 1) l)) (pts (gatP r (dp + 1) s))) = pts ([p] ++ (gatP r (dp + 1) l ++ gatP r (dp + 1) s)) := by simp [pts]
          rw [← e9]; exact hr3
        · simp only [decide_eq_false_iff_not] at q3
          rw [if_neg q3] at k
          intro v3 H3 hle3 hf3 _ hr3
          refine k _ _ (heap_trans hle1 hle3) (fr hle1 hle3 hf3) ?_
          have e9 : (ptC p :: (pts (gatP r (dp + 1) l))) = pts ([p] ++ (gatP r (dp + 1) l ++ [])) := by simp [pts]
          rw [← e9]; exact hr3
      · simp only [decide_eq_false_iff_not] at q2
        rw [if_neg q2] at k
        refine s_kpart (p := hiP r) ⟨_, rfl, br (fun q3 => ?_) fun q3 => ?_⟩
        · simp only [decide_eq_true_eq] at q3
          rw [if_pos q3] at k
          refine ⟨H, fun _ _ e => e, ptr rfl (ptr rfl (ptr rfl ⟨b, gb, s_kgat s h2 (by omega) (by omega) (by omega) fun v2 H2 hle2 hf2 hr2 => ?_⟩))⟩
          obtain ⟨a2, c2, rfl⟩ := row_val hr2
          refine ⟨fun b o e _ => hle2 b o e, a2, _, c2, rfl, _, row_slice hr2, by simp [pts]; omega, fun v3 H3 hle3 hf3 _ hr3 => ?_⟩
          refine k _ _ (heap_trans hle2 hle3) (fr hle2 hle3 hf3) ?_
          have e9 : (ptC p :: (pts (gatP r (dp + 1) s))) = pts ([p] ++ ([] ++ gatP r (dp + 1) s)) := by simp [pts]
          rw [← e9]; exact hr3
        · simp only [decide_eq_false_iff_not] at q3
          rw [if_neg q3] at k
          intro v3 H3 hle3 hf3 _ hr3
          exact k _ _ hle3 hf3 hr3
    · rw [if_neg (by rw [q1]; simp)] at k
      refine ptr rfl (ptr rfl (ptr rfl ⟨_, _, _, _, gp, s_kpart (p := p) ⟨_, rfl, s_kpart (p := loP r) ⟨_, rfl, br (fun q2 => ?_) fun q2 => ?_⟩⟩⟩))
      · simp only [decide_eq_true_eq] at q2
        rw [if_pos q2] at k
        refine ⟨H, fun _ _ e => e, ptr rfl (ptr rfl (ptr rfl ⟨a, ga, s_kgat l h1 (by omega) (by omega) (by omega) fun v1 H1 hle1 hf1 hr1 => ?_⟩))⟩
        obtain ⟨a1, c1, rfl⟩ := row_val hr1
        refine ⟨fun b o e _ => hle1 b o e, a1, _, c1, rfl, _, row_slice hr1, by simp [pts]; omega, s_kpart (p := hiP r) ⟨_, rfl, br (fun q3 => ?_) fun q3 => ?_⟩⟩
        · simp only [decide_eq_true_eq] at q3
          rw [if_pos q3] at k
          refine ⟨H1, fun _ _ e => e, ptr rfl (ptr rfl (ptr rfl ⟨b, has_le gb hle1, s_kgat s (kAt_le hle1 h2) (by omega) (by omega) (by omega) fun v2 H2 hle2 hf2 hr2 => ?_⟩))⟩
          obtain ⟨a2, c2, rfl⟩ := row_val hr2
          refine ⟨fun b o e _ => hle2 b o e, a2, _, c2, rfl, _, row_slice hr2, by simp [pts]; omega, fun v3 H3 hle3 hf3 _ hr3 => ?_⟩
          refine k _ _ (heap_trans hle1 (heap_trans hle2 hle3)) (fr (heap_trans hle1 hle2) hle3 hf3) ?_
          have e9 : (List.append (pts (gatP r (dp + 1) l)) (pts (gatP r (dp + 1) s))) = pts ([] ++ (gatP r (dp + 1) l ++ gatP r (dp + 1) s)) := by simp [pts]
          rw [← e9]; exact hr3
        · simp only [decide_eq_false_iff_not] at q3
          rw [if_neg q3] at k
          intro v3 H3 hle3 hf3 _ hr3
          refine k _ _ (heap_trans hle1 hle3) (fr hle1 hle3 hf3) ?_
          have e9 : (pts (gatP r (dp + 1) l)) = pts ([] ++ (gatP r (dp + 1) l ++ [])) := by simp [pts]
          rw [← e9]; exact hr3
      · simp only [decide_eq_false_iff_not] at q2
        rw [if_neg q2] at k
        refine s_kpart (p := hiP r) ⟨_, rfl, br (fun q3 => ?_) fun q3 => ?_⟩
        · simp only [decide_eq_true_eq] at q3
          rw [if_pos q3] at k
          refine ⟨H, fun _ _ e => e, ptr rfl (ptr rfl (ptr rfl ⟨b, gb, s_kgat s h2 (by omega) (by omega) (by omega) fun v2 H2 hle2 hf2 hr2 => ?_⟩))⟩
          obtain ⟨a2, c2, rfl⟩ := row_val hr2
          refine ⟨fun b o e _ => hle2 b o e, a2, _, c2, rfl, _, row_slice hr2, by simp [pts]; omega, fun v3 H3 hle3 hf3 _ hr3 => ?_⟩
          refine k _ _ (heap_trans hle2 hle3) (fr hle2 hle3 hf3) ?_
          exact hr3
        · simp only [decide_eq_false_iff_not] at q3
          rw [if_neg q3] at k
          exact k _ _ (fun _ _ e => e) (fun b hb => by cases hb) (.inl ⟨rfl, rfl⟩)
theorem s_kran {r : Rc} {T : KT} {t : Option Addr} {l : List Pt} (h : KAt H T t) (g : Grow 0 l T) (hs : SId l) (hl : l.length ≤ 1000) (k : ∀ v H', H ≤ H' → (∀ b, blockOf v = some b → H b = none) → RowAt H' v tPt 4 (pts (l.filter (hasR r))) → R (.returned v) H') :
    Meets prog 14 [.pointer t, rcV r] H R := by
  refine spec_of func14 (by kernel_rfl) (fun t h => by cases h) ?_ (vc_kran t r.x0 r.y0 r.x1 r.y1 R H) ?_
  · simp [argsR, SV.rep, SC.rep, Sx.one, SegsRep]
  unfold nf_kran
  have hp := g.perm
  have hpl := hp.length_eq
  have hgl := g.len
  have hgt := gat_len r 0 T
  refine s_kgat (r := r) T h (by omega) (by omega) (by omega) fun v1 H1 hle1 hf1 hr1 => ?_
  have hs1 := row_slice hr1
  obtain ⟨a1, c1, rfl⟩ := row_val hr1
  refine ⟨a1, _, c1, rfl, s_srt hs1 (by omega) fun v2 H2 hle2 hf2 hr2 => ?_⟩
  have e : sortP (gatP r 0 T) = l.filter (hasR r) := by
    rw [gat_eq r g]
    exact sortP_sid (List.Pairwise.sublist List.filter_sublist hs) (hp.filter _)
  rw [e] at hr2
  obtain ⟨a2, c2, rfl⟩ := row_val hr2
  exact ⟨a2, _, c2, rfl, k _ _ (heap_trans hle1 hle2) (fun b hb => by
    cases q : H b with
    | none => rfl
    | some o => have := hf2 b hb; rw [hle1 b o q] at this; cases this) hr2⟩
end
end Cr

set_option linter.unusedVariables false
set_option linter.unusedSimpArgs false
namespace Cr
open Go Sx Go.Proofs Go.Sort
open Stb (isort insR Srtd isort_srtd isort_snoc isort_len insR_at isort_mem)
open Go.Proofs.Try
set_option maxRecDepth 100000
def dsP (x y : Int) (p : Pt) : Int := sqd x y p.x p.y
def ltN (x y : Int) (p q : Pt) : Bool := decide (dsP x y p < dsP x y q ∨ (dsP x y p = dsP x y q ∧ p.id < q.id))
theorem swoN (x y : Int) : SWO (ltN x y) where
  irrefl p := by unfold ltN; simp
  trans p q r h1 h2 := by unfold ltN at *; rw [decide_eq_true_eq] at *; omega
  ntrans p q r h1 h2 := by unfold ltN at *; rw [decide_eq_false_iff_not] at *; omega
/-- The k nearest. -/
def nearK (x y : Int) (k : Nat) (S : List Pt) : List Pt := (isort (ltN x y) S).take k
theorem take_insR (lt : Pt → Pt → Bool) (x : Pt) : ∀ (L : List Pt) (k : Nat), (insR lt x L).take k = (insR lt x (L.take k)).take k
  | _, 0 => by simp
  | [], k + 1 => rfl
  | y :: L, k + 1 => by
    simp only [List.take_succ_cons, insR]
    split
    · rw [List.take_succ_cons, List.take_succ_cons]
      congr 1
      cases k with
      | zero => rfl
      | succ k => simp [List.take_take]
    · rw [List.take_succ_cons, List.take_succ_cons, take_insR lt x L k]
theorem nearK_snoc (x y : Int) (k : Nat) (S : List Pt) (p : Pt) : nearK x y k (S ++ [p]) = (insR (ltN x y) p (nearK x y k S)).take k := by
  unfold nearK
  rw [isort_snoc, take_insR]
theorem nearK_perm {x y : Int} {k : Nat} {S S' : List Pt} (h : S'.Perm S) (hu : UId S) : nearK x y k S' = nearK x y k S := by
  unfold nearK
  congr 1
  refine sort_uniq (r := fun p q => ltN x y q p = false) (fun p q h1 h2 => by unfold ltN at *; rw [decide_eq_false_iff_not] at *; omega) (hu.perm (isort_perm _ S)) (((isort_perm _ S').trans h).trans (isort_perm _ S).symm) (isort_srtd (swoN x y) S) (isort_srtd (swoN x y) S')
theorem nearK_len (x y : Int) (k : Nat) (S : List Pt) : (nearK x y k S).length = min k S.length := by
  unfold nearK; rw [List.length_take, isort_len]
theorem nearK_srtd (x y : Int) (k : Nat) (S : List Pt) : (nearK x y k S).Pairwise fun p q => ltN x y q p = false :=
  List.Pairwise.sublist (List.take_sublist ..) (isort_srtd (swoN x y) S)
theorem nearK_mem {x y : Int} {k : Nat} {S : List Pt} {p : Pt} (h : p ∈ nearK x y k S) : p ∈ S := isort_mem.1 (List.mem_of_mem_take h)
/-- What is farther than the last one of as many as there may be changes nothing. -/
theorem nearK_far1 {x y : Int} {k : Nat} {S : List Pt} {q z : Pt} (hl : (nearK x y k S).length = k) (hq : (nearK x y k S)[k - 1]? = some q) (hzq : ltN x y q z = true) : nearK x y k (S ++ [z]) = nearK x y k S := by
  rw [nearK_snoc]
  have hs := nearK_srtd x y k S
  have hlo : ∀ w ∈ nearK x y k S, ltN x y z w = false := fun w hw => by
    obtain ⟨i, hi, rfl⟩ := List.mem_iff_getElem.1 hw
    obtain ⟨hk, he⟩ := List.getElem?_eq_some_iff.1 hq
    have hwq : ltN x y q (nearK x y k S)[i] = false := by
      rcases Nat.lt_or_ge i (k - 1) with h | h
      · have := List.pairwise_iff_getElem.1 hs i (k - 1) hi hk h
        rw [he] at this; exact this
      · have : i = k - 1 := by omega
        subst this; rw [he]; exact (swoN x y).irrefl q
    unfold ltN at *
    rw [decide_eq_true_eq] at hzq
    rw [decide_eq_false_iff_not] at *
    omega
  have := insR_at z (nearK x y k S) [] hlo (by simp)
  rw [List.append_nil] at this
  rw [this, List.take_append_of_le_length (by omega), List.take_of_length_le (by omega)]
theorem nearK_far {x y : Int} {k : Nat} : ∀ {Z S : List Pt} {q : Pt}, (nearK x y k S).length = k → (nearK x y k S)[k - 1]? = some q → (∀ z ∈ Z, ltN x y q z = true) → nearK x y k (S ++ Z) = nearK x y k S
  | [], S, q, _, _, _ => by rw [List.append_nil]
  | z :: Z, S, q, hl, hq, hz => by
    have h1 := nearK_far1 hl hq (hz z (List.mem_cons_self ..))
    have e : S ++ z :: Z = (S ++ [z]) ++ Z := by simp
    rw [e, nearK_far (S := S ++ [z]) (q := q) (by rw [h1]; exact hl) (by rw [h1]; exact hq) fun w hw => hz w (List.mem_cons_of_mem _ hw), h1]
theorem sq_nonneg (a : Int) : 0 ≤ a * a := by
  rcases Int.le_total 0 a with h | h
  · exact Int.mul_nonneg h h
  · have := Int.mul_nonneg (show (0 : Int) ≤ -a by omega) (show (0 : Int) ≤ -a by omega)
    rwa [Int.neg_mul_neg] at this
theorem sq_le {a b : Int} (h0 : 0 ≤ a) (h : a ≤ b) : a * a ≤ b * b := Int.mul_le_mul h h h0 (by omega)
/-- How far a line is. -/
def lineD (x y : Int) (dp : Int) (p : Pt) : Int := if odd dp then sqd 0 y 0 p.y else sqd x 0 p.x 0
def coQ (x y dp : Int) : Int := if odd dp then y else x
theorem line_le {x y dp : Int} {p q : Pt} (h : (coQ x y dp ≤ coK dp p ∧ coK dp p ≤ coK dp q) ∨ (coK dp p ≤ coQ x y dp ∧ coK dp q ≤ coK dp p)) : lineD x y dp p ≤ dsP x y q := by
  unfold lineD dsP coQ coK sqd at *
  split
  · rename_i ho
    rw [ho] at h
    simp only [if_true] at h
    have h1 : gapI 0 0 * gapI 0 0 = 0 := by decide
    rw [h1]
    have h2 := sq_le (a := gapI y p.y) (b := gapI y q.y) (by unfold gapI; omega) (by unfold gapI; omega)
    have h3 := sq_nonneg (gapI x q.x)
    omega
  · rename_i ho
    simp only [ho, Bool.false_eq_true, if_false] at h
    have h1 : gapI 0 0 * gapI 0 0 = 0 := by decide
    rw [h1]
    have h2 := sq_le (a := gapI x p.x) (b := gapI x q.x) (by unfold gapI; omega) (by unfold gapI; omega)
    have h3 := sq_nonneg (gapI y q.y)
    omega
end Cr

set_option linter.unusedVariables false
set_option linter.unusedSimpArgs false
namespace Cr
open Go Sx Go.Proofs Go.Sort
open Stb (isort insR Srtd isort_srtd isort_snoc isort_len insR_at isort_mem)
open Go.Proofs.Try
set_option maxRecDepth 100000
@[reducible] def fdC (x y : Int) (p : Pt) : List Value := [vi p.id, .int .u32 p.x, .int .u32 p.y, .string p.data, .int .u64 (dsP x y p / 18446744073709551616), .int .u64 (dsP x y p % 18446744073709551616)]
abbrev fdV (x y : Int) (p : Pt) : Value := .agg { toList := fdC x y p }
abbrev fds (x y : Int) (L : List Pt) : List (List Value) := L.map (fdC x y)
def cmpF (x y : Int) (p q : Pt) : Int := orL [cmpD (dsP x y p / 18446744073709551616) (dsP x y p % 18446744073709551616) (dsP x y q / 18446744073709551616) (dsP x y q % 18446744073709551616), sgn3 p.id q.id]
theorem cmpF_neg {x y : Int} {p q : Pt} : (decide (cmpF x y p q < 0)) = ltN x y p q := by
  unfold cmpF ltN
  congr 1
  rw [orL_neg, cmpD_neg, cmpD_zero, orL_neg, sgn3_neg]
  have : ¬ (orL [] < 0) := by simp [orL]
  apply propext
  constructor
  · rintro (h | ⟨h, h2 | ⟨_, h2⟩⟩)
    · left; omega
    · right; omega
    · exact (this h2).elim
  · rintro (h | ⟨h, h2⟩)
    · left; omega
    · right; exact ⟨by rw [h]; exact ⟨rfl, rfl⟩, .inl h2⟩
/-- What stays is not looked at any more but for some blocks. -/
def only1 (H : Heap) (b : Nat) : Heap := fun z => if z = b then H z else none
theorem only1_le {H : Heap} {b : Nat} : only1 H b ≤ H := fun z o e => by
  unfold only1 at e
  split at e
  · exact e
  · cases e
theorem only1_at {H : Heap} {b : Nat} : only1 H b b = H b := by unfold only1; rw [if_pos rfl]
theorem only1_has {H : Heap} {A : Addr} {l : List Value} (h : H.has A l) : (only1 H A.block).has A l := fun j x hj => by
  have := h j x hj
  unfold Heap.cell? at this ⊢
  have e : (A.add j).block = A.block := by unfold Addr.add; split <;> (try split) <;> rfl
  rw [e] at this ⊢
  rw [only1_at]; exact this
section
variable {H : Heap} {R : Ending → Heap → Prop}
theorem s_kah {x y : Int} {p q : Pt} (k : R (.returned (vi (cmpF x y p q))) H) : Meets prog 53 [fdV x y p, fdV x y q] H R := by
  refine spec_of func53 (by kernel_rfl) (fun t h => by cases h) ?_ (vc_kah p.id p.x p.y p.data (dsP x y p / 18446744073709551616) (dsP x y p % 18446744073709551616) q.id q.x q.y q.data (dsP x y q / 18446744073709551616) (dsP x y q % 18446744073709551616) R H) ?_
  · simp [argsR, SV.rep, SC.rep, Sx.one, SegsRep]
  unfold nf_kah
  refine ⟨H, fun _ _ e => e, s_wcmp ⟨keep_same _ _ _, _, rfl, s_cmpi ⟨keep_same _ _ _, _, rfl, fun v H' hle hf hb hrow => ?_⟩⟩⟩
  simp only [delLs_nil] at hle hf hb ⊢
  refine s_cor (l := [cmpD (dsP x y p / 18446744073709551616) (dsP x y p % 18446744073709551616) (dsP x y q / 18446744073709551616) (dsP x y q % 18446744073709551616), sgn3 p.id q.id]) (row_slice hrow) (by simp) ⟨keep_same _ _ _, _, rfl, ?_⟩
  show R _ (Heap.delO H' (blockOf v))
  rw [lend_off hle hf hb]
  exact k
theorem fd_get {H : Heap} {a : Option Addr} {n cp : Nat} {x y : Int} {l : List Pt} (h : SliceAt H (.slice a n cp) 6 (fds x y l)) {i : Nat} {p : Pt} (hx : l[i]? = some p) : ∃ A, a = some A ∧ H.has (A.add (i * 6)) (fdC x y p) := by
  obtain ⟨A, e, _, g⟩ := slice_get h (i := i) (e := fdC x y p) (by simp [fds, hx])
  exact ⟨A, e, g⟩
theorem s_kbsf {x y : Int} {q : Pt} {v : Value} {L : List Pt} (h : SliceAt H v 6 (fds x y L)) (hl : L.length ≤ 1000) (hs : L.Pairwise fun p q => ltN x y q p = false)
    (k : ∀ (i : Nat) (b : Bool), i ≤ L.length → (∀ p ∈ L.take i, ltN x y p q = true) → (∀ p ∈ L.drop i, ltN x y p q = false) → R (.returned (.tuple #[vi (i : Int), .bool b])) H) :
    Meets prog 52 [v, fdV x y q, .func (.func 53) #[] #[]] H R := by
  obtain ⟨a, n, c, e, hn⟩ := h
  subst e
  have h : SliceAt H (.slice a n c) 6 (fds x y L) := ⟨a, n, c, rfl, hn⟩
  have hln : L.length = n := by simpa using hn.1
  refine spec_of func52 (by kernel_rfl) (fun t h => by cases h) ?_ (vc_kbsf a n c q.id q.x q.y q.data (dsP x y q / 18446744073709551616) (dsP x y q % 18446744073709551616) 53 R H) ?_
  · simp [argsR, SV.rep, SC.rep, Sx.one, SegsRep]
  unfold nf_kbsf
  simp only [true_and]
  refine ⟨fun p H' => ∃ i j : Nat, p.1.1 = (i : Int) ∧ p.1.2.1 = (j : Int) ∧ i ≤ j ∧ j ≤ n ∧ (∀ t z, t < i → L[t]? = some z → ltN x y z q = true) ∧ (∀ t z, j ≤ t → L[t]? = some z → ltN x y z q = false) ∧ H' = H, fun p _ => (p.1.2.1 - p.1.1).toNat,
    ⟨0, n, rfl, rfl, by omega, by omega, fun t z ht => by omega, fun t z ht hz => by have := (List.getElem?_eq_some_iff.1 hz).1; omega, rfl⟩, ?_⟩
  rintro ⟨⟨i, j, _⟩, _⟩ H1 ⟨i, j, hi, hj, hij, hjn, hlo, hhi, rfl⟩
  simp only at hi hj ⊢
  subst hi hj
  have srt : ∀ s t zs zt, s ≤ t → L[s]? = some zs → L[t]? = some zt → ltN x y zt zs = false := fun s t zs zt hst h1 h2 => by
    obtain ⟨a1, b1⟩ := List.getElem?_eq_some_iff.1 h1
    obtain ⟨a2, b2⟩ := List.getElem?_eq_some_iff.1 h2
    rcases Nat.lt_or_ge s t with h | h
    · have := List.pairwise_iff_getElem.1 hs s t a1 a2 h
      rw [b1, b2] at this; exact this
    · have : s = t := Nat.le_antisymm hst h
      subst this
      rw [b1] at b2; subst b2
      exact (swoN x y).irrefl zs
  refine br (fun q1 => ?_) fun q1 => ?_
  · have q1 : (i : Int) < (j : Int) := by simpa using q1
    have em : IntKind.wrap .i64 (shrI .u64 (IntKind.wrap .u64 (IntKind.wrap .i64 ((i : Int) + (j : Int)))) 1) = (((i + j) / 2 : Nat) : Int) := by
      rw [wi64 (k := (i : Int) + (j : Int)) (by omega), wu64 (by omega)]
      have : shrI .u64 ((i : Int) + (j : Int)) 1 = (((i + j) / 2 : Nat) : Int) := by
        show (((i : Int) + (j : Int)).fdiv (2 ^ 1)) = _
        rw [Int.fdiv_eq_ediv_of_nonneg _ (by decide)]
        omega
      rw [this]
      exact wi64 (by omega)
    rw [em]
    have hm : (i + j) / 2 < L.length := by omega
    generalize hmm : (i + j) / 2 = m at *
    have hz : L[m]? = some L[m] := List.getElem?_eq_getElem hm
    obtain ⟨A, e, g⟩ := fd_get h (i := m) hz
    subst e
    rw [Int.toNat_natCast]
    refine ⟨by decide, H1, fun _ _ e => e, ⟨by omega, by omega⟩, ptr rfl (ptr rfl ⟨_, _, _, _, _, _, g, s_kah (p := L[m]) (q := q) ⟨keep_same _ _ _, _, rfl, ?_⟩⟩)⟩
    simp only [delLs_nil, cmpF_neg]
    rw [wi64 (by omega)]
    refine br (fun q2 => ?_) fun q2 => ?_
    · refine ⟨⟨m + 1, j, by simp, by trivial, by omega, by omega, fun t z ht hz' => ?_, hhi, by trivial⟩, by omega⟩
      have := srt t m z L[m] (by omega) hz' hz
      unfold ltN at *
      rw [decide_eq_true_eq] at *
      rw [decide_eq_false_iff_not] at this
      omega
    · refine ⟨⟨i, m, by trivial, by trivial, by omega, by omega, hlo, fun t z ht hz' => ?_, by trivial⟩, by omega⟩
      have := srt m t L[m] z (by omega) hz hz'
      unfold ltN at *
      rw [decide_eq_false_iff_not] at *
      omega
  · have q1 : ¬ (i : Int) < (j : Int) := by simpa using q1
    obtain rfl : i = j := by omega
    have fin : ∀ b : Bool, R (.returned (.tuple #[vi (i : Int), .bool b])) H1 := fun b => k i b (by omega) (fun z hz => by
        obtain ⟨t, ht, rfl⟩ := List.mem_take_iff_getElem.1 hz
        exact hlo t _ (by omega) (List.getElem?_eq_getElem (by omega))) fun z hz => by
        obtain ⟨t, ht, rfl⟩ := List.mem_iff_getElem.1 hz
        rw [List.length_drop] at ht
        rw [List.getElem_drop]
        exact hhi (i + t) _ (by omega) (List.getElem?_eq_getElem (by omega))
    refine ⟨H1, fun _ _ e => e, br (fun q2 => ?_) fun q2 => ?_⟩
    · have q2 : (i : Int) < (n : Int) := by simpa using q2
      have hz : L[i]? = some L[i] := List.getElem?_eq_getElem (by omega)
      obtain ⟨A, e, g⟩ := fd_get h (i := i) hz
      subst e
      rw [Int.toNat_natCast]
      refine ⟨⟨by omega, by omega⟩, ptr rfl (ptr rfl ⟨_, _, _, _, _, _, g, s_kah (p := L[i]) (q := q) ⟨keep_same _ _ _, _, rfl, ?_⟩⟩)⟩
      simp only [delLs_nil]
      exact fin _
    · exact fin _
theorem ovl_ok : OvlOK prog 71 := ⟨58, 66, #[], 6, ⟨f71, func71, by kernel_rfl, by kernel_rfl, by kernel_rfl, by kernel_rfl⟩, by kernel_rfl, by kernel_rfl⟩
theorem fill_at {H : Heap} {b o n sz off : Nat} {es : List (List Value)} {K : Heap → Prop} {cs : Array Value} {ty : Nat} (h : H b = some (.cells cs ty (0, 0))) (e : o + n * sz = off) (hr : off + es.length * sz ≤ cs.size) (k : K (H.upd b (.cells (writeCells cs off es.flatten) ty (0, 0)))) : FillX (some ⟨b, o, none⟩) n sz es H K := by
  subst e
  exact Or.inr ⟨⟨b, o, none⟩, cs, ty, rfl, ⟨h, rfl, hr⟩, k⟩
theorem add_off {b o k : Nat} : (⟨b, o, none⟩ : Addr).add k = ⟨b, o + k, none⟩ := by
  unfold Addr.add
  by_cases h : k = 0
  · subst h; rfl
  · simp [h]
theorem sub_at {b o c l z : Nat} (h : c ≠ l) : subAddr (some ⟨b, o, none⟩) c l z = some ⟨b, o + l * z, none⟩ := by
  unfold subAddr
  rw [if_neg h]
  show some ((⟨b, o, none⟩ : Addr).add (l * z)) = _
  rw [add_off]
/-- A row's last elements, as a slice. -/
theorem row_drop {H : Heap} {a : Option Addr} {n c ty sz : Nat} {es : List (List Value)} (h : RowAt H (.slice a n c) ty sz es) {lo : Nat} (hlo : lo < c ∧ lo ≤ n) : RowAt H (.slice (subAddr a c lo sz) (n - lo) (c - lo)) ty sz (es.drop lo) := by
  rcases h with ⟨e, rfl⟩ | ⟨b, o, cap, cs, e, hb, hcap, hfit, hel, hfl, hon⟩
  · cases e; omega
  · obtain ⟨rfl, rfl, rfl⟩ := Value.slice.inj e
    rw [sub_at (by omega)]
    have hl : (es.drop lo).length = es.length - lo := List.length_drop
    refine .inr ⟨b, o + lo * sz, c - lo, cs, by rw [hl], hb, by omega, ?_, fun e he => hel e (List.mem_of_mem_drop he), ?_, fun e he => hon e (List.mem_of_mem_drop he)⟩
    · have : lo * sz + (c - lo) * sz = c * sz := by rw [← Nat.add_mul]; congr 1; omega
      omega
    · rw [hl]
      have hT : (es.take lo).flatten.length = lo * sz := by rw [flatten_len fun e he => hel e (List.mem_of_mem_take he), List.length_take, Nat.min_eq_left hlo.2]
      have h2 : es.flatten = (es.take lo).flatten ++ (es.drop lo).flatten := by rw [← List.flatten_append, List.take_append_drop]
      have h3 : es.length * sz = lo * sz + (es.length - lo) * sz := by rw [← Nat.add_mul]; congr 1; omega
      rw [← List.drop_drop]
      have h4 : List.take ((es.length - lo) * sz) (List.drop (lo * sz) (List.drop o cs.toList)) = List.drop (lo * sz) (List.take (es.length * sz) (List.drop o cs.toList)) := by
        rw [List.drop_take]; congr 1; omega
      rw [h4, hfl, h2]
      exact List.drop_left' hT
theorem row_at_eq {H H' : Heap} {b o n c ty sz : Nat} {es : List (List Value)} (h : RowAt H (.slice (some ⟨b, o, none⟩) n c) ty sz es) (e : H' b = H b) : RowAt H' (.slice (some ⟨b, o, none⟩) n c) ty sz es := by
  refine row_le h fun x ob hx e0 => ?_
  simp only [blockOf, Option.some.injEq] at hx
  subst hx
  rw [e]; exact e0
theorem s_kins {a : Option Addr} {n c i : Nat} {v' : Value} {es : List (List Value)} {e : List Value} (h : RowAt H (.slice a n c) 66 6 es) (h' : RowAt H v' 66 6 [e]) (hi : i ≤ n) (hn : n ≤ 1000) (hap : ∀ b, blockOf v' = some b → blockOf (.slice a n c) ≠ some b)
    (k : ∀ a' c' H', AOwn (.slice a n c) (.slice a' (n + 1) c') H H' → RowAt H' (.slice a' (n + 1) c') 66 6 (es.take i ++ [e] ++ es.drop i) → R (.returned (.slice a' (n + 1) c')) H') : Meets prog 54 [.slice a n c, vi (i : Int), v'] H R := by
  have hs' := row_slice h'
  obtain ⟨a', c', rfl⟩ := row_val h'
  have hs := row_slice h
  obtain ⟨hen, hnc⟩ := row_len h
  have he6 : e.length = 6 := by obtain ⟨_, _, _, _, _, _, q, _⟩ := hs'; exact q e (by simp)
  have he1 : ∀ x ∈ e, Sx.one x = true := by obtain ⟨_, _, _, _, _, _, _, q, _⟩ := hs'; exact q e (by simp)
  refine spec_of func54 (by kernel_rfl) (fun t h => by cases h) ?_ (vc_kinsr a n c (i : Int) a' 1 c' R H) ?_
  · simp [argsR, SV.rep, SC.rep, Sx.one]
  unfold nf_kinsr
  refine ⟨⟨by omega, by omega⟩, br (fun q => by simp at q) fun _ => br (fun q => ?_) fun q => ?_⟩
  · -- at the end
    have hin : i = n := by simp at q; omega
    subst hin
    refine ⟨_, hs, _, hs', ?_⟩
    refine apr_row (K := fun a c n H => R (.returned (.slice a c n)) H) h (by simp [he6]) (by simp; exact he1) (by_ := 48) (by simp; unfold roomMax; omega) fun a1 c1 H1 ho hr => k a1 c1 H1 ho ?_
    have e1 : es.take i ++ [e] ++ es.drop i = es ++ [e] := by rw [List.take_of_length_le (by omega), List.drop_of_length_le (by omega), List.append_nil]
    rw [e1]; exact hr
  have hlt : i < n := by simp at q; omega
  have w1 : IntKind.wrap .i64 ((n : Int) + ((1 : Nat) : Int)) = ((n + 1 : Nat) : Int) := by rw [wi64 (by omega)]; omega
  have w2 : IntKind.wrap .i64 ((i : Int) + ((1 : Nat) : Int)) = ((i + 1 : Nat) : Int) := by rw [wi64 (by omega)]; omega
  have w3 : IntKind.wrap .i64 (((n + 1 : Nat) : Int) - (i : Int)) = ((n + 1 - i : Nat) : Int) := by rw [wi64 (by omega)]; omega
  -- where the rows stand
  obtain ⟨b, o, rfl⟩ : ∃ b o, a = some ⟨b, o, none⟩ := by
    rcases h with ⟨e0, _⟩ | ⟨b, o, _, _, e0, _⟩
    · cases e0; omega
    · exact ⟨b, o, (Value.slice.inj e0).1⟩
  obtain ⟨b', o', rfl⟩ : ∃ b o, a' = some ⟨b, o, none⟩ := by
    rcases h' with ⟨_, e0⟩ | ⟨b, o, _, _, e0, _⟩
    · cases e0
    · exact ⟨b, o, (Value.slice.inj e0).1⟩
  have hbb : b' ≠ b := fun e0 => hap b' rfl (by rw [e0]; rfl)
  rw [w1, w2, w3]
  simp only [Int.toNat_natCast, Nat.sub_zero]
  refine br (fun q1 => ?_) fun q1 => ?_
  · -- no room
    have hc : c < n + 1 := by simp at q1; omega
    rw [subA]
    have htk : SliceAt H (.slice (some ⟨b, o, none⟩) i c) 6 (es.take i) := row_slice (row_take h (by omega))
    refine ⟨⟨by omega, by omega⟩, _, htk, ⟨by omega, by omega⟩, fun hc2 => ?_, fun hc2 => ⟨by simp; omega, fun b2 cap H2 hle2 hb2 _ hr2 => ?_⟩⟩
    · simp at hc2; omega
    · generalize hz : (List.replicate (n + 1 - i) [vi 0, Value.int .u32 0, .int .u32 0, .string { data := #[] }, .int .u64 0, .int .u64 0]) = Z at *
      have hZl : Z.length = n + 1 - i := by rw [← hz, List.length_replicate]
      have hZ6 : ∀ e ∈ Z, e.length = 6 := fun w hw => by rw [← hz] at hw; rw [List.eq_of_mem_replicate hw]; rfl
      have hil : i + Z.length = n + 1 := by omega
      have hcap : n + 1 ≤ cap := by have := (row_len hr2).2; omega
      have hr2 : RowAt H2 (.slice (some ⟨b2, 0, none⟩) (i + Z.length) cap) 66 6 (es.take i ++ Z) := by rw [← hz] at hr2 ⊢; exact hr2
      rw [hil] at hr2 ⊢
      have hT : (es.take i).length = i := by rw [List.length_take]; omega
      obtain ⟨z0, Z', rfl⟩ : ∃ z0 Z', Z = z0 :: Z' := by
        cases Z with
        | nil => simp at hZl; omega
        | cons z Z => exact ⟨z, Z, rfl⟩
      have hr2 : RowAt H2 (.slice (some ⟨b2, 0, none⟩) (n + 1) cap) 66 6 (es.take i ++ [z0] ++ Z') := by rw [List.append_assoc]; exact hr2
      obtain ⟨cl, ⟨g1, _, g3⟩, g4, g5⟩ := row_mid hr2 (ws := [e]) rfl (by simpa using he6) (by simpa using he1)
      obtain ⟨cl2, ⟨f1, _, f3⟩, f4, f5⟩ := row_fill g4 (ws := es.drop i) (by rw [List.length_drop]; simp at hZl; omega) (fun w hw => by obtain ⟨_, _, _, _, _, _, q, _⟩ := hs; exact q w (List.mem_of_mem_drop hw)) (fun w hw => by obtain ⟨_, _, _, _, _, _, _, q, _⟩ := hs; exact q w (List.mem_of_mem_drop hw))
      have hTe : (es.take i ++ [e]).length = i + 1 := by simp [hT]
      simp only [hT, hTe, List.length_singleton, List.length_drop] at g3 g4 g5 f1 f3 f4 f5
      refine ⟨⟨by omega, by omega⟩, [e], ?_, ?_⟩
      · have e1 : min 1 (n + 1 - i) = 1 := by omega
        rw [e1]
        exact slice_le hs' hle2
      rw [sub_at (by omega)]
      refine fill_at (off := 0 + i * 6) g1 (by omega) (by simpa using g3) ⟨⟨by omega, by omega⟩, ⟨by omega, by omega⟩, es.drop i, ?_, ?_⟩
      · have e1 : min (n - i) (n + 1 - (i + 1)) = n - i := by omega
        rw [e1]
        have ht : (Heap.upd H2 b2 (Obj.cells (writeCells cl (0 + i * 6) [e].flatten) 66 (0, 0))) b = H b := by
          rw [upd_ne _ _ (fun q => ?_)]
          · rcases h with ⟨e0, _⟩ | ⟨bb, oo, _, cc, e0, hbk, _⟩
            · cases e0
            · have e1 := (Value.slice.inj e0).1
              cases e1
              rw [hbk]; exact hle2 _ _ hbk
          · subst q
            rcases h with ⟨e0, _⟩ | ⟨bb, oo, _, cc, e0, hbk, _⟩
            · cases e0
            · have e1 := (Value.slice.inj e0).1
              cases e1
              rw [hbk] at hb2; cases hb2
        have hd := row_drop h (lo := i) ⟨by omega, by omega⟩
        rw [sub_at (by omega)] at hd ⊢
        exact row_slice (row_at_eq hd ht)
      · rw [sub_at (by omega)]
        have g1' : (Heap.upd H2 b2 (Obj.cells (writeCells cl (0 + i * 6) [e].flatten) 66 (0, 0))) b2 = some (Obj.cells cl2 66 (0, 0)) := f1
        refine fill_at (off := 0 + (i + 1) * 6) g1' (by omega) (by simpa using f3) ?_
        refine k _ _ _ ⟨fun x ob hx e0 => ?_, fun x hx => ?_⟩ ?_
        · have hxb : x ≠ b2 := fun q => by subst q; rw [hb2] at e0; cases e0
          rw [upd_ne _ _ hxb, upd_ne _ _ hxb]
          exact hle2 x ob e0
        · simp only [blockOf, Option.some.injEq] at hx
          subst hx
          exact .inr hb2
        · exact f4
  · -- there is room
    have hc : n + 1 ≤ c := by simp at q1; omega
    obtain ⟨cs, g1, _, g3, g4, g5⟩ := row_shift h (i := i) (xs := [e]) (by omega) (by simp; omega) (by simpa using he6) (by simpa using he1)
    simp only [List.length_singleton] at g3 g4 g5
    have g1 : H b = some (.cells cs 66 (0, 0)) := g1
    have b'k : H b' ≠ none := rowat_known h' rfl
    obtain ⟨cs', hk'⟩ : ∃ cs', H b' = some (.cells cs' 66 (0, 0)) := by
      rcases h' with ⟨_, e0⟩ | ⟨_, _, _, c0, e0, hb0, _⟩
      · cases e0
      · have e1 := (Value.slice.inj e0).1
        cases e1
        exact ⟨_, hb0⟩
    rw [subA, sub_at (by omega), sub_at (by omega)]
    refine ⟨⟨by omega, by omega⟩, ⟨by omega, by omega⟩, ovl_ok, .inr (.inr (.inr (.inr ⟨_, _, cs', cs, _, _, rfl, rfl, hbb, hk', g1, by omega⟩))), ⟨by omega, by omega⟩, ⟨by omega, by omega⟩, es.drop i, ?_, ?_⟩
    · have e1 : min (n + 1 - i) (n + 1 - (i + 1)) = n - i := by omega
      rw [e1]
      have hd := row_drop h (lo := i) ⟨by omega, by omega⟩
      rw [sub_at (by omega)] at hd
      exact row_slice hd
    · have hdl : (es.drop i).length = n - i := by rw [List.length_drop, hen]
      refine fill_at (off := o + (i + 1) * 6) g1 (by omega) (by rw [hdl]; omega) ⟨⟨by omega, by omega⟩, [e], ?_, ?_⟩
      · have e1 : min 1 (n + 1 - i) = 1 := by omega
        rw [e1]
        exact row_slice (row_at_eq h' (upd_ne _ _ hbb))
      · refine fill_at (off := o + i * 6) (upd_same _ _ _) (by omega) (by rw [g4]; simp; omega) ?_
        refine k _ _ _ ⟨fun x ob hx e0 => ?_, fun x hx => .inl hx⟩ ?_
        · have hxb : x ≠ b := fun q => hx (by rw [q]; rfl)
          rw [upd_ne _ _ hxb, upd_ne _ _ hxb]
          exact e0
        · have g6 : Heap.upd (Heap.upd H b (Obj.cells (writeCells cs (o + (i + 1) * 6) (es.drop i).flatten) 66 (0, 0))) b (Obj.cells (writeCells (writeCells cs (o + (i + 1) * 6) (es.drop i).flatten) (o + i * 6) [e].flatten) 66 (0, 0)) = Heap.upd H b (Obj.cells (writeCells (writeCells cs (o + (i + 1) * 6) (es.drop i).flatten) (o + i * 6) [e].flatten) 66 (0, 0)) := by
            funext x
            unfold Heap.upd
            split <;> rfl
          rw [g6]
          exact g5
end
end Cr

set_option linter.unusedVariables false
set_option linter.unusedSimpArgs false
namespace Cr
open Go Sx Go.Proofs Go.Sort
open Stb (isort insR Srtd isort_srtd isort_snoc isort_len insR_at isort_mem)
open Go.Proofs.Try
set_option maxRecDepth 100000
/-- A finder in memory: what stays, G, is apart from it. -/
structure FAt (G H : Heap) (b : Nat) (x y k : Int) (L : List Pt) : Prop where
  le : G ≤ H
  gb : G b = none
  row : ∃ a c ty, H b = some (.cells #[.int .u32 x, .int .u32 y, vi k, .slice a L.length c] ty (0, 0)) ∧ RowAt H (.slice a L.length c) 66 6 (fds x y L) ∧
    blockOf (.slice a L.length c) ≠ some b ∧ ∀ z, blockOf (.slice a L.length c) = some z → G z = none
theorem fat_has {H : Heap} {b : Nat} {cs : List Value} {ty : Nat} (h : H b = some (.cells cs.toArray ty (0, 0))) : H.has ⟨b, 0, none⟩ cs := by
  intro j x hj
  by_cases e : j = 0
  · subst e; simpa [Heap.cell?, Addr.add, h] using hj
  · simpa [Heap.cell?, Addr.add, h, e] using hj
theorem insR_split {x y : Int} {p : Pt} {L : List Pt} {i : Nat} (h1 : ∀ q ∈ L.take i, ltN x y q p = true) (h2 : ∀ q ∈ L.drop i, ltN x y q p = false) (hid : ∀ q ∈ L, q.id ≠ p.id) : insR (ltN x y) p L = L.take i ++ [p] ++ L.drop i := by
  have := insR_at (lt := ltN x y) p (L.take i) (L.drop i) (fun q hq => by
    have a := h1 q hq
    unfold ltN at *
    rw [decide_eq_true_eq] at a
    rw [decide_eq_false_iff_not]
    omega) (fun q hq => by
    have a := h2 q hq
    have b := hid q (List.mem_of_mem_drop hq)
    unfold ltN at *
    rw [decide_eq_false_iff_not] at a
    rw [decide_eq_true_eq]
    omega)
  rw [List.take_append_drop] at this
  rw [this]; simp
section
variable {H : Heap} {R : Ending → Heap → Prop}
theorem s_kadd {G : Heap} {b : Nat} {x y : Int} {k : Nat} {S : List Pt} {p : Pt} (h : FAt G H b x y (k : Int) (nearK x y k S)) (hk : k ≤ 64) (hx : U32 x) (hy : U32 y) (hpx : U32 p.x) (hpy : U32 p.y) (hid : ∀ q ∈ S, q.id ≠ p.id)
    (kk : ∀ H', FAt G H' b x y (k : Int) (nearK x y k (S ++ [p])) → R (.returned (.tuple #[])) H') : Meets prog 41 [.pointer (some ⟨b, 0, none⟩), ptV p] H R := by
  refine spec_of func41 (by kernel_rfl) (fun t h => by cases h) ?_ (vc_kadd (some ⟨b, 0, none⟩) p.id p.x p.y p.data R H) ?_
  · simp [argsR, SV.rep, SC.rep, Sx.one, SegsRep]
  unfold nf_kadd
  obtain ⟨hle, hgb, a, c, ty, hblk, hrow, hne, hnew⟩ := h
  have hsrt := nearK_srtd x y k S
  have hlen := nearK_len x y k S
  have hmem : ∀ q ∈ nearK x y k S, q.id ≠ p.id := fun q hq => hid q (nearK_mem hq)
  have hsn := nearK_snoc x y k S p
  generalize nearK x y k S = L at *
  have hLk : L.length ≤ 64 := by omega
  have hg := fat_has hblk
  have gx : H.has ((⟨b, 0, none⟩ : Addr).add 0) [.int .u32 x] := has_at hg rfl
  have gy : H.has ((⟨b, 0, none⟩ : Addr).add 1) [.int .u32 y] := has_at hg rfl
  have gk : H.has ((⟨b, 0, none⟩ : Addr).add 2) [vi (k : Int)] := has_at hg rfl
  have gl : H.has ((⟨b, 0, none⟩ : Addr).add 3) [.slice a L.length c] := has_at hg rfl
  refine ⟨H, fun _ _ e => e, ptr rfl (ptr rfl (ptr rfl ⟨x, gx, ptr rfl (ptr rfl (ptr rfl ⟨y, gy, s_wbet hx hy hpx hpy ⟨keep_same _ _ _, _, _, rfl, ?_⟩⟩))⟩))⟩
  try simp only [delLs_nil]
  refine ⟨H, fun _ _ e => e, ptr rfl (ptr rfl (ptr rfl ⟨a, _, c, gl, s_kbsf (q := p) (row_slice hrow) (by omega) hsrt fun i bb hi hlo hhi => ⟨keep_same _ _ _, _, bb, rfl, ?_⟩⟩))⟩
  try simp only [delLs_nil]
  refine ⟨only1 H b, only1_le, ptr rfl (ptr rfl (ptr rfl ⟨a, _, c, only1_has gl, fun v H1 hle1 hf1 hb1 hr1 => ?_⟩))⟩
  have hr1 : RowAt H1 v 66 6 [fdC x y p] := hr1
  have hrow1 := row_le hrow (H' := H1) fun z o _ e => hle1 z o e
  have hL : (fds x y L).length = L.length := by simp
  refine s_kins hrow1 hr1 hi (by omega) (fun z hz hz2 => ?_) fun a' c' H2 ho hr2 => ?_
  · have := hf1 z hz
    have h3 := rowat_known hrow hz2
    exact h3 this
  have hb2 : H2 b = some (.cells #[.int .u32 x, .int .u32 y, vi (k : Int), .slice a L.length c] ty (0, 0)) := ho.keep b _ hne (hle1 _ _ hblk)
  refine ⟨fun z o e h3 => ?_, a', _, c', rfl, ?_⟩
  · -- what is looked at, and what was lent, is as it was
    rcases h3 with h3 | h3
    · refine ho.keep z o (fun q => ?_) e
      exact rowat_known hrow q h3
    · unfold only1 at h3
      split at h3
      · rename_i q; subst q
        rw [hb2, ← h3, hblk]
      · cases h3
  have hvb : ∀ z, blockOf v = some z → z ≠ b := fun z hz q => by subst q; rw [hf1 _ hz] at hblk; cases hblk
  have hD : ∀ z o, H2 z = some o → blockOf v ≠ some z → (Heap.delO H2 (blockOf v)) z = some o := fun z o e h3 => by
    cases q : blockOf v with
    | none => exact e
    | some w => show (if z = w then none else H2 z) = _; rw [if_neg (fun e2 => h3 (by rw [q, e2]))]; exact e
  have hbD : (Heap.delO H2 (blockOf v)) b = some (.cells #[.int .u32 x, .int .u32 y, vi (k : Int), .slice a L.length c] ty (0, 0)) := hD b _ hb2 fun q => hvb b q rfl
  have hrD : RowAt (Heap.delO H2 (blockOf v)) (.slice a' (L.length + 1) c') 66 6 ((fds x y L).take i ++ [fdC x y p] ++ (fds x y L).drop i) := row_delO hr2 fun z hz q => by
    rcases ho.new z hz with h3 | h3
    · have h4 := rowat_known hrow h3
      exact h4 (hf1 z q)
    · have h4 := rowat_known hr1 q
      exact h4 h3
  have hblkD : ∀ z, blockOf (.slice a' (L.length + 1) c') = some z → z ≠ b ∧ G z = none := fun z hz => by
    have ho' := ho.new z hz
    rcases ho' with h3 | h3
    · exact ⟨(fun q => hne (by rw [← q]; exact h3)), hnew z h3⟩
    · refine ⟨(fun q => by subst q; rw [hle1 _ _ hblk] at h3; cases h3), ?_⟩
      cases q : G z with
      | none => rfl
      | some o => rw [hle1 _ _ (hle z o q)] at h3; cases h3
  have hGD : ∀ z o, G z = some o → (Heap.delO H2 (blockOf v)) z = some o := fun z o e => by
    have h3 := hle z o e
    refine hD z o (ho.keep z o (fun q => by rw [hnew z q] at e; cases e) (hle1 z o h3)) fun q => ?_
    rw [hf1 z q] at h3; cases h3
  show PtrK _ _
  have hL2 : insR (ltN x y) p L = L.take i ++ [p] ++ L.drop i := insR_split hlo hhi hmem
  generalize hHD : Heap.delO H2 (blockOf v) = HD at *
  have hu1 : (Heap.upd HD b (Obj.cells (writeCells #[.int .u32 x, .int .u32 y, vi (k : Int), .slice a L.length c] (0 + 3) [.slice a' (L.length + 1) c']) ty (0, 0))) b = some (.cells #[.int .u32 x, .int .u32 y, vi (k : Int), .slice a' (L.length + 1) c'] ty (0, 0)) := by rw [upd_same]; rfl
  have hg2 := fat_has (cs := [.int .u32 x, .int .u32 y, vi (k : Int), .slice a' (L.length + 1) c']) hu1
  have e1 : (fds x y L).take i ++ [fdC x y p] ++ (fds x y L).drop i = fds x y (insR (ltN x y) p L) := by rw [hL2]; simp [fds, List.map_take, List.map_drop]
  rw [e1] at hrD
  have e2 : (delLs H2 [⟨38, v, LK.row 66 6⟩]) = HD := hHD
  simp only [List.nil_append, List.append_nil, e2, add_off]
  refine ptr rfl (ptr rfl (ptr rfl ⟨_, ty, ⟨hbD, rfl, (by show (0 : Nat) + 3 + 1 ≤ 4; decide)⟩, ?_⟩))
  have w3 : writeCells #[Value.int .u32 x, .int .u32 y, vi (k : Int), .slice a L.length c] 3 [.slice a' (L.length + 1) c'] = #[.int .u32 x, .int .u32 y, vi (k : Int), .slice a' (L.length + 1) c'] := rfl
  simp only [add_off, Nat.zero_add, w3]
  have hu2 : (Heap.upd HD b (Obj.cells #[.int .u32 x, .int .u32 y, vi (k : Int), .slice a' (L.length + 1) c'] ty (0, 0))) b = some (.cells #[.int .u32 x, .int .u32 y, vi (k : Int), .slice a' (L.length + 1) c'] ty (0, 0)) := upd_same _ _ _
  have gl2 := has_at (k := 3) (fat_has (cs := [.int .u32 x, .int .u32 y, vi (k : Int), .slice a' (L.length + 1) c']) hu2) rfl
  have gk2 := has_at (k := 2) (fat_has (cs := [.int .u32 x, .int .u32 y, vi (k : Int), .slice a' (L.length + 1) c']) hu2) rfl
  have hminN : minI ((L.length + 1 : Nat) : Int) (k : Int) = ((min (L.length + 1) k : Nat) : Int) := by unfold minI; split <;> omega
  have hc' := (row_len hrD).2
  refine ptr rfl (ptr rfl (ptr rfl ⟨a', _, c', gl2, ptr rfl (ptr rfl (ptr rfl ⟨a', _, c', gl2, ptr rfl (ptr rfl (ptr rfl ⟨_, gk2, ?_⟩))⟩))⟩))
  rw [hminN, Int.toNat_natCast, Nat.sub_zero, Nat.sub_zero]
  refine ⟨⟨by omega, by omega⟩, ptr rfl (ptr rfl (ptr rfl ⟨_, ty, ⟨hu2, rfl, (by show (0 : Nat) + 3 + 1 ≤ 4; decide)⟩, ?_⟩))⟩
  have w4 : writeCells #[Value.int .u32 x, .int .u32 y, vi (k : Int), .slice a' (L.length + 1) c'] 3 [.slice (subAddr a' c' 0 6) (min (L.length + 1) k) c'] = #[.int .u32 x, .int .u32 y, vi (k : Int), .slice (subAddr a' c' 0 6) (min (L.length + 1) k) c'] := rfl
  simp only [add_off, Nat.zero_add, w4]
  have hil : (insR (ltN x y) p L).length = L.length + 1 := by rw [hL2]; simp; omega
  have hnl : (nearK x y k (S ++ [p])).length = min (L.length + 1) k := by rw [hsn, List.length_take, hil]; omega
  have hsub : subAddr a' c' 0 6 = a' := by
    rcases hrD with ⟨e0, _⟩ | ⟨b0, o0, _, _, e0, _⟩
    · cases e0
    · have := (Value.slice.inj e0).1
      rw [this, subA]
  rw [hsub]
  refine kk _ ⟨fun z o e => ?_, hgb, a', c', ty, ?_, ?_, ?_, ?_⟩
  · have hz : z ≠ b := fun q => by subst q; rw [hgb] at e; cases e
    show (Heap.upd (Heap.upd HD b _) b _) z = _
    rw [upd_ne _ _ hz, upd_ne _ _ hz]
    exact hGD z o e
  · rw [hnl]; exact upd_same _ _ _
  · rw [hnl, hsn]
    have h5 := row_take hrD (k := min (L.length + 1) k) (by omega)
    have e5 : (fds x y (insR (ltN x y) p L)).take (min (L.length + 1) k) = fds x y ((insR (ltN x y) p L).take k) := by
      rw [← List.map_take]
      congr 1
      rw [← hil, Nat.min_comm, ← List.take_eq_take_min]
    rw [e5] at h5
    refine row_le h5 fun z o hz e => ?_
    have hz : z ≠ b := (hblkD z (by cases a' with | none => cases hz | some A => exact hz)).1
    show (Heap.upd (Heap.upd HD b _) b _) z = _
    rw [upd_ne _ _ hz, upd_ne _ _ hz]
    exact e
  · intro q
    cases a' with
    | none => cases q
    | some A => exact (hblkD b q).1 rfl
  · intro z hz
    cases a' with
    | none => cases hz
    | some A => exact (hblkD z hz).2
end
end Cr

set_option linter.unusedVariables false
set_option linter.unusedSimpArgs false
namespace Cr
open Go Sx Go.Proofs Go.Sort
open Stb (isort insR Srtd isort_srtd isort_snoc isort_len insR_at isort_mem)
open Go.Proofs.Try
set_option maxRecDepth 100000
theorem cmpD_pos {m n : Int} : cmpD (m / 18446744073709551616) (m % 18446744073709551616) (n / 18446744073709551616) (n % 18446744073709551616) > 0 → n < m := by
  intro h
  have h1 : ¬ (m / 18446744073709551616 < n / 18446744073709551616 ∨ (m / 18446744073709551616 = n / 18446744073709551616 ∧ m % 18446744073709551616 < n % 18446744073709551616)) := fun q => by have := cmpD_neg.2 q; omega
  have h2 : ¬ (m / 18446744073709551616 = n / 18446744073709551616 ∧ m % 18446744073709551616 = n % 18446744073709551616) := fun q => by have := cmpD_zero.2 q; omega
  omega
section
variable {H : Heap} {R : Ending → Heap → Prop}
theorem s_kfar {G : Heap} {b : Nat} {x y dp : Int} {k : Nat} {L : List Pt} {p : Pt} (h : FAt G H b x y (k : Int) L) (hk : k ≤ 64) (hk0 : 1 ≤ k) (hx : U32 x) (hy : U32 y) (hpx : U32 p.x) (hpy : U32 p.y)
    (k1 : ∀ q, k ≤ L.length → L[k - 1]? = some q → dsP x y q < lineD x y dp p → R (.returned (.bool true)) H) (k2 : R (.returned (.bool false)) H) : Meets prog 42 [.pointer (some ⟨b, 0, none⟩), ptV p, vi dp] H R := by
  refine spec_of func42 (by kernel_rfl) (fun t h => by cases h) ?_ (vc_kfar (some ⟨b, 0, none⟩) p.id p.x p.y p.data dp R H) ?_
  · simp [argsR, SV.rep, SC.rep, Sx.one, SegsRep]
  unfold nf_kfar
  obtain ⟨hle, hgb, a, c, ty, hblk, hrow, hne, hnew⟩ := h
  have hg := fat_has hblk
  have gx : H.has ((⟨b, 0, none⟩ : Addr).add 0) [.int .u32 x] := has_at hg rfl
  have gy : H.has ((⟨b, 0, none⟩ : Addr).add 1) [.int .u32 y] := has_at hg rfl
  have gk : H.has ((⟨b, 0, none⟩ : Addr).add 2) [vi (k : Int)] := has_at hg rfl
  have gl : H.has ((⟨b, 0, none⟩ : Addr).add 3) [.slice a L.length c] := has_at hg rfl
  have hs := row_slice hrow
  -- the end: the line held against the last one
  have u0 : U32 0 := ⟨by decide, by decide⟩
  have last : ∀ m : Int, m = lineD x y dp p → k ≤ L.length → PtrK (some ⟨b, 0, none⟩) fun a_1 => PtrK (some a_1) fun a_2 => PtrK (some (a_2.add 3)) fun a_3 => ∃ (a_4 : Option Addr) (n_4 c_1 : Nat), H.has a_3 [.slice a_4 n_4 c_1] ∧
      PtrK (some ⟨b, 0, none⟩) fun a_5 => PtrK (some a_5) fun a_6 => PtrK (some (a_6.add 2)) fun a_7 => ∃ n_5 : Int, H.has a_7 [vi n_5] ∧ (0 ≤ IntKind.i64.wrap (n_5 - 1) ∧ IntKind.i64.wrap (n_5 - 1) < (n_4 : Int)) ∧
        PtrK a_4 fun A => PtrK (some (A.add ((IntKind.i64.wrap (n_5 - 1)).toNat * 6))) fun a_8 => PtrK (some (a_8.add 4)) fun a_9 => ∃ n_6 n_7 : Int, H.has a_9 [.int .u64 n_6, .int .u64 n_7] ∧
          Meets prog 55 [dOf m, .agg #[.int .u64 n_6, .int .u64 n_7]] H fun e H' => Keep H H H H' ∧ ∃ n : Int, e = .returned (vi n) ∧ R (.returned (.bool (decide (n > 0)))) H' := by
    intro m hm hkl
    have e1 : IntKind.wrap .i64 ((k : Int) - 1) = ((k - 1 : Nat) : Int) := by rw [wi64 (by omega)]; omega
    have hz : L[k - 1]? = some L[k - 1] := List.getElem?_eq_getElem (by omega)
    obtain ⟨A, e, g⟩ := fd_get hs (i := k - 1) hz
    subst e
    refine ptr rfl (ptr rfl (ptr rfl ⟨some A, L.length, c, gl, ptr rfl (ptr rfl (ptr rfl ⟨(k : Int), gk, ?_⟩))⟩))
    rw [e1, Int.toNat_natCast]
    refine ⟨⟨by omega, by omega⟩, ptr rfl (ptr rfl (ptr rfl ⟨_, _, has_from g (k := 4) (n := 2) rfl, s_wcmp ⟨keep_same _ _ _, _, rfl, ?_⟩⟩))⟩
    cases hd : decide (cmpD (m / 18446744073709551616) (m % 18446744073709551616) (dsP x y L[k - 1] / 18446744073709551616) (dsP x y L[k - 1] % 18446744073709551616) > 0) with
    | true =>
      have := cmpD_pos (of_decide_eq_true hd)
      exact k1 _ hkl hz (by omega)
    | false => exact k2
  refine ptr rfl (ptr rfl (ptr rfl ⟨a, _, c, gl, ptr rfl (ptr rfl (ptr rfl ⟨_, gk, br (fun _ => k2) fun q => ?_⟩))⟩))
  have hkl : k ≤ L.length := by simp at q; omega
  refine ⟨H, fun _ _ e => e, ptr rfl (ptr rfl (ptr rfl ⟨x, gx, s_wbet hx u0 hpx u0 ⟨keep_same _ _ _, _, _, rfl, br (fun q2 => ?_) fun q2 => ?_⟩⟩))⟩
  · try simp only [delLs_nil]
    refine ⟨H, fun _ _ e => e, ptr rfl (ptr rfl (ptr rfl ⟨y, gy, s_wbet u0 hy u0 hpy ⟨keep_same _ _ _, _, _, rfl, ?_⟩⟩))⟩
    try simp only [delLs_nil]
    refine ⟨H, fun _ _ e => e, ptr rfl (ptr rfl (ptr rfl ⟨_, gk, br (fun q3 => by simp at q3; omega) fun _ => ?_⟩))⟩
    exact last (sqd 0 y 0 p.y) (by unfold lineD odd; rw [q2]; rfl) hkl
  · try simp only [delLs_nil]
    refine ⟨H, fun _ _ e => e, ptr rfl (ptr rfl (ptr rfl ⟨_, gk, br (fun q3 => by simp at q3; omega) fun _ => ?_⟩))⟩
    exact last (sqd x 0 p.x 0) (by unfold lineD odd; rw [q2]; rfl) hkl
theorem s_kvis {G : Heap} {b : Nat} {x y : Int} {k : Nat} (hk : k ≤ 64) (hk0 : 1 ≤ k) (hx : U32 x) (hy : U32 y) : ∀ (T : KT) {dp : Int} {l S : List Pt} {H : Heap} {R : Ending → Heap → Prop} {t : Option Addr}, FAt G H b x y (k : Int) (nearK x y k S) → KAt G T t → Grow dp l T → UId (S ++ T.pts) → (∀ p ∈ T.pts, U32 p.x ∧ U32 p.y) → 0 ≤ dp → dp + T.dep ≤ 1000000 →
    (∀ H', FAt G H' b x y (k : Int) (nearK x y k (S ++ T.pts)) → R (.returned (.tuple #[])) H') → Meets prog 29 [.pointer (some ⟨b, 0, none⟩), .pointer t, vi dp] H R
  | .nil, dp, l, S, H, R, t, h, ht, g, hu, hc, h0, hd, kk => by
    refine spec_of func29 (by kernel_rfl) (fun t h => by cases h) ?_ (vc_kvis (some ⟨b, 0, none⟩) t dp R H) ?_
    · simp [argsR, SV.rep, SC.rep, Sx.one]
    unfold nf_kvis
    refine s_kis (kAt_le h.le ht) ⟨_, rfl, br (fun _ => kk H ?_) fun q => by simp [KT.some] at q⟩
    have : S ++ KT.nil.pts = S := by simp [KT.pts]
    rw [this]; exact h
  | .node p tl tr, dp, l, S, H, R, t, h, ht, g, hu, hc, h0, hd, kk => by
    have ht0 := ht
    obtain ⟨A, ta, tb, rfl, gA, ht1, ht2⟩ := ht
    refine spec_of func29 (by kernel_rfl) (fun t h => by cases h) ?_ (vc_kvis (some ⟨b, 0, none⟩) (some A) dp R H) ?_
    · simp [argsR, SV.rep, SC.rep, Sx.one]
    unfold nf_kvis
    have hd : dp + ((1 + max tl.dep tr.dep : Nat) : Int) ≤ 1000000 := hd
    have hcp := hc p (by simp [KT.pts])
    have ed : IntKind.wrap .i64 (dp + 1) = dp + 1 := wi64 (by omega)
    rw [ed]
    have hgk : H.has ((⟨b, 0, none⟩ : Addr).add 2) [vi (k : Int)] := by
      obtain ⟨_, _, _, _, _, hblk, _⟩ := id h
      exact has_at (fat_has hblk) rfl
    have gp : G.has (A.add 1) (ptC p) := has_from gA (k := 1) (n := 4) rfl
    have ga : G.has (A.add 5) [.pointer ta] := has_at gA rfl
    have gb : G.has (A.add 6) [.pointer tb] := has_at gA rfl
    have hpts : (KT.node p tl tr).pts = p :: (tl.pts ++ tr.pts) := rfl
    rw [hpts] at hu hc kk
    have hidp : ∀ q ∈ S, q.id ≠ p.id := fun q hq e => by
      unfold UId at hu
      rw [List.map_append, List.nodup_append] at hu
      exact hu.2.2 q.id (List.mem_map.2 ⟨q, hq, rfl⟩) p.id (by simp) e
    cases g with
    | node hp hs hm ha hb =>
    have hsides := Grow.sides (l := l) hs hm ha hb
    refine s_kis (kAt_le h.le ht0) ⟨_, rfl, br (fun q => by simp [KT.some] at q) fun _ => ptr rfl (ptr rfl (ptr rfl ⟨_, hgk, br (fun q => by simp at q; omega) fun _ => ?_⟩))⟩
    refine ptr rfl (ptr rfl (ptr rfl ⟨_, _, _, _, has_le gp h.le, s_kadd h hk hx hy hcp.1 hcp.2 hidp fun H1 h1 => ⟨rfl, ptr rfl (ptr rfl (ptr rfl ⟨ta, has_le ga h1.le, ptr rfl (ptr rfl (ptr rfl ⟨tb, has_le gb h1.le, ?_⟩))⟩))⟩⟩))
    have hgf : H1.has (⟨b, 0, none⟩ : Addr) [.int .u32 x, .int .u32 y] := by
      obtain ⟨_, _, _, _, _, hblk, _⟩ := id h1
      exact has_from (fat_has hblk) (k := 0) (n := 2) rfl
    have gx : H1.has ((⟨b, 0, none⟩ : Addr).add 0) [.int .u32 x] := has_at hgf rfl
    have gy : H1.has ((⟨b, 0, none⟩ : Addr).add 1) [.int .u32 y] := has_at hgf rfl
    refine ⟨H1, fun _ _ e => e, ptr rfl (ptr rfl (ptr rfl ⟨x, gx, ptr rfl (ptr rfl (ptr rfl ⟨y, gy, ptr rfl (ptr rfl (ptr rfl ⟨_, _, _, _, has_le gp h1.le, s_kpart (p := ⟨0, x, y, ⟨#[]⟩⟩) ⟨keep_same _ _ _, _, rfl, ?_⟩⟩))⟩))⟩))⟩
    try simp only [delLs_nil]
    refine s_kpart (p := p) ⟨keep_same _ _ _, _, rfl, ?_⟩
    try simp only [delLs_nil]
    have hco : coK dp ⟨0, x, y, ⟨#[]⟩⟩ = coQ x y dp := rfl
    rw [hco]
    -- the halves, one behind the other
    have two : ∀ {T1 T2 : KT} {t1 t2 : Option Addr} {l1 l2 : List Pt}, KAt G T1 t1 → KAt G T2 t2 → Grow (dp + 1) l1 T1 → Grow (dp + 1) l2 T2 → (T1.pts ++ T2.pts).Perm (tl.pts ++ tr.pts) → T1.dep ≤ max tl.dep tr.dep → T2.dep ≤ max tl.dep tr.dep → (∀ q ∈ T2.pts, lineD x y dp p ≤ dsP x y q) →
        (∀ {R : Ending → Heap → Prop} {H : Heap}, FAt G H b x y (k : Int) (nearK x y k ((S ++ [p]) ++ T1.pts)) → (∀ H', FAt G H' b x y (k : Int) (nearK x y k (((S ++ [p]) ++ T1.pts) ++ T2.pts)) → R (.returned (.tuple #[])) H') → Meets prog 29 [.pointer (some ⟨b, 0, none⟩), .pointer t2, vi (dp + 1)] H R) →
        (∀ {R : Ending → Heap → Prop} {H : Heap}, FAt G H b x y (k : Int) (nearK x y k (S ++ [p])) → (∀ H', FAt G H' b x y (k : Int) (nearK x y k ((S ++ [p]) ++ T1.pts)) → R (.returned (.tuple #[])) H') → Meets prog 29 [.pointer (some ⟨b, 0, none⟩), .pointer t1, vi (dp + 1)] H R) →
        Meets prog 29 [.pointer (some ⟨b, 0, none⟩), .pointer t1, vi (dp + 1)] H1 fun e H' => e = .returned (.tuple #[]) ∧ PtrK (some A) fun a => PtrK (some a) fun a => PtrK (some (a.add 1)) fun a => ∃ (n n_8 n_9 : Int) (s : ByteArray), H'.has a [vi n, .int .u32 n_8, .int .u32 n_9, .string s] ∧
          Meets prog 42 [.pointer (some ⟨b, 0, none⟩), .agg #[vi n, .int .u32 n_8, .int .u32 n_9, .string s], vi dp] H' fun e H' => ∃ bb : Bool, e = .returned (.bool bb) ∧
            Br (!bb) (Meets prog 29 [.pointer (some ⟨b, 0, none⟩), .pointer t2, vi (dp + 1)] H' fun e H' => e = .returned (.tuple #[]) ∧ R (.returned (.tuple #[])) H') (R (.returned (.tuple #[])) H') := by
      intro T1 T2 t1 t2 l1 l2 k1 k2 g1 g2 hperm d1 d2 hfar v2 v1
      have hfin : nearK x y k (((S ++ [p]) ++ T1.pts) ++ T2.pts) = nearK x y k (S ++ p :: (tl.pts ++ tr.pts)) := by
        refine nearK_perm ?_ hu
        have e1 : ((S ++ [p]) ++ T1.pts) ++ T2.pts = S ++ p :: (T1.pts ++ T2.pts) := by simp
        rw [e1]
        exact (hperm.cons p).append_left S
      refine v1 h1 fun H2 h2 => ⟨rfl, ptr rfl (ptr rfl (ptr rfl ⟨_, _, _, _, has_le gp h2.le, s_kfar h2 hk hk0 hx hy hcp.1 hcp.2 (fun q hkl hq hlt => ⟨true, rfl, br (fun q0 => by cases q0) fun _ => ?_⟩) ⟨false, rfl, br (fun _ => ?_) fun q0 => by cases q0⟩⟩))⟩
      · refine kk _ ?_
        have hkk : (nearK x y k ((S ++ [p]) ++ T1.pts)).length = k := by have := nearK_len x y k ((S ++ [p]) ++ T1.pts); omega
        rw [← hfin, nearK_far hkk hq fun z hz => ?_]
        · exact h2
        · have := hfar z hz
          unfold ltN
          rw [decide_eq_true_eq]
          left; omega
      · refine v2 h2 fun H3 h3 => ⟨rfl, kk _ ?_⟩
        rw [← hfin]; exact h3
    have uA : ∀ {T1 T2 : KT}, (T1.pts ++ T2.pts).Perm (tl.pts ++ tr.pts) → UId (((S ++ [p]) ++ T1.pts) ++ T2.pts) := fun {T1 T2} hperm => by
      refine hu.perm ?_
      have e1 : ((S ++ [p]) ++ T1.pts) ++ T2.pts = S ++ p :: (T1.pts ++ T2.pts) := by simp
      rw [e1]
      exact (hperm.cons p).append_left S
    refine br (fun q => ?_) fun q => ?_
    · simp only [decide_eq_true_eq] at q
      have hperm : (tr.pts ++ tl.pts).Perm (tl.pts ++ tr.pts) := List.perm_append_comm
      refine two (T1 := tr) (T2 := tl) ht2 ht1 hb ha hperm (by omega) (by omega) (fun z hz => line_le (.inr ⟨by omega, hsides.1 z hz⟩)) (fun {R H} h2 k2 => s_kvis hk hk0 hx hy tl h2 ht1 ha (uA hperm) (fun w hw => hc w (by simp [hw])) (by omega) (by omega) k2)
        (fun {R H} h2 k2 => s_kvis hk hk0 hx hy tr h2 ht2 hb ((uA hperm).sub (List.sublist_append_left ..)) (fun w hw => hc w (by simp [hw])) (by omega) (by omega) k2)
    · simp only [decide_eq_false_iff_not] at q
      refine two (T1 := tl) (T2 := tr) ht1 ht2 ha hb (.refl _) (by omega) (by omega) (fun z hz => line_le (.inl ⟨by omega, hsides.2 z hz⟩)) (fun {R H} h2 k2 => s_kvis hk hk0 hx hy tr h2 ht2 hb (uA (.refl _)) (fun w hw => hc w (by simp [hw])) (by omega) (by omega) k2)
        (fun {R H} h2 k2 => s_kvis hk hk0 hx hy tl h2 ht1 ha ((uA (T1 := tl) (T2 := tr) (.refl _)).sub (List.sublist_append_left ..)) (fun w hw => hc w (by simp [hw])) (by omega) (by omega) k2)
end
end Cr

set_option linter.unusedVariables false
set_option linter.unusedSimpArgs false
namespace Cr
open Go Sx Go.Proofs Go.Sort
open Stb (isort insR Srtd isort_srtd isort_snoc isort_len insR_at isort_mem)
open Go.Proofs.Try
set_option maxRecDepth 100000
def kOf (k : Int) : Nat := (minI (maxI k 0) 64).toNat
theorem kOf_eq (k : Int) : minI (maxI k 0) 64 = (kOf k : Int) ∧ kOf k ≤ 64 := by
  unfold kOf minI maxI
  split <;> split <;> omega
section
variable {H : Heap} {R : Ending → Heap → Prop}
theorem s_rnr {v : Value} {l : List Pt} {x y k0 : Int} (h : SliceAt H v 4 (pts l)) (hl : l.length ≤ 1000) (hx : U32 x) (hy : U32 y) (hc : ∀ p ∈ l, U32 p.x ∧ U32 p.y)
    (k : ∀ v' H', H ≤ H' → SliceAt H' v' 4 (pts (nearK x y (kOf k0) l)) → R (.returned v') H') : Meets prog 17 [v, .int .u32 x, .int .u32 y, vi k0] H R := by
  obtain ⟨a, n, c, e, hn⟩ := h
  subst e
  have h : SliceAt H (.slice a n c) 4 (pts l) := ⟨a, n, c, rfl, hn⟩
  have hln : l.length = n := by simpa using hn.1
  refine spec_of func17 (by kernel_rfl) (fun t h => by cases h) ?_ (vc_rnr a n c x y k0 R H) ?_
  · simp [argsR, SV.rep, SC.rep, Sx.one]
  unfold nf_rnr
  refine ⟨fun p H' => RowAt H' (.slice p.1.1.1 p.1.1.2.1 p.1.1.2.2) 44 4 (pts (isort (ltN x y) l)) ∧ H ≤ H', ?_, ?_⟩
  · simp only [true_and]
    refine ⟨fun p H' => ∃ t : Nat, p.1.1 = pts (isort (ltN x y) (l.take t)) ∧ p.1.2.1 = (t : Int) ∧ t ≤ n ∧ H' = H, fun p _ => (n - p.1.2.1).toNat, ⟨0, by simp [isort], rfl, by omega, rfl⟩, ?_⟩
    rintro ⟨⟨e1, i, _⟩, _⟩ H1 ⟨t, g1, hi, ht, rfl⟩
    simp only at g1 hi ⊢
    subst g1; subst hi
    refine br (fun q => ?_) fun q => ?_
    · simp only [decide_eq_true_eq] at q
      obtain ⟨p, _, htk, hp⟩ := drop_cons (l := l) (k := t) (by omega)
      obtain ⟨A, e, g⟩ := pr_get h (i := t) hp
      subst e
      have hcp := hc p (List.mem_of_getElem? hp)
      have hcS : ∀ w ∈ isort (ltN x y) (l.take t), U32 w.x ∧ U32 w.y := fun w hw => hc w (List.mem_of_mem_take (isort_mem.1 hw))
      have hs : isort (ltN x y) (l.take (t + 1)) = insR (ltN x y) p (isort (ltN x y) (l.take t)) := by rw [htk]; exact isort_snoc _ _
      have hsl : (isort (ltN x y) (l.take t)).length = t := by rw [isort_len, List.length_take]; omega
      have hsr : Srtd (ltN x y) (isort (ltN x y) (l.take t)) := isort_srtd (swoN x y) _
      generalize isort (ltN x y) (l.take t) = S at *
      refine ⟨H1, fun _ _ e => e, ⟨by omega, by omega⟩, ptr rfl (ptr rfl (ptr rfl ⟨_, has_at g (k := 1) rfl, ⟨by omega, by omega⟩, ptr rfl (ptr rfl (ptr rfl ⟨_, has_at g (k := 2) rfl, s_rbet hx hy hcp.1 hcp.2 ⟨keep_same _ _ _, _, _, rfl, ?_⟩⟩))⟩))⟩
      try simp only [delLs_nil]
      refine ⟨fun p_1 H' => ∃ j : Nat, p_1.1.1 = pts S ∧ p_1.1.2.1 = (j : Int) ∧ j ≤ t ∧ (∀ w ∈ S.drop j, ltN x y p w = true) ∧ H' = H1, fun p_1 _ => p_1.1.2.1.toNat, ⟨t, rfl, by simp [pts, hsl], by omega, by rw [List.drop_of_length_le (by omega)]; simp, rfl⟩, ?_⟩
      rintro ⟨⟨e1, j, _⟩, _⟩ H2 ⟨j, g1, hj, hjt, hgt, rfl⟩
      simp only at g1 hj ⊢
      subst g1; subst hj
      have fin : (∀ w ∈ S.take j, ltN x y p w = false) → List.append (List.append (List.take ((j : Int).toNat - 0) (List.drop 0 (pts S))) [[.int .i64 p.id, .int .u32 p.x, .int .u32 p.y, .string p.data]]) (List.take ((pts S).length - (j : Int).toNat) (List.drop (j : Int).toNat (pts S))) = pts (isort (ltN x y) (l.take (t + 1))) := fun hlo => by
        have := insR_at p (S.take j) (S.drop j) hlo hgt
        rw [List.take_append_drop] at this
        rw [hs, this]
        have e : (pts S).length - j = (List.drop j (pts S)).length := by simp
        simp only [Int.toNat_natCast, Nat.sub_zero, List.drop_zero]
        rw [e, List.take_length]
        simp [pts]
      have lens : ((pts S).length : Int) = t := by simp [pts, hsl]
      have l1 : (List.take ((j : Int).toNat - 0) (List.drop 0 (pts S))).length = j := by simp [pts, hsl]; omega
      have l2 : (List.append (List.take ((j : Int).toNat - 0) (List.drop 0 (pts S))) [[.int .i64 p.id, .int .u32 p.x, .int .u32 p.y, .string p.data]]).length = j + 1 := by
        rw [show ∀ a b : List (List Value), List.append a b = a ++ b from fun _ _ => rfl, List.length_append, l1]; rfl
      have last : (∀ w ∈ S.take j, ltN x y p w = false) → (List.take ((j : Int).toNat - 0) (List.drop 0 (pts S))).length * 32 ≤ 140737488355328 ∧
          (List.append (List.take ((j : Int).toNat - 0) (List.drop 0 (pts S))) [[.int .i64 p.id, .int .u32 p.x, .int .u32 p.y, .string p.data]]).length * 32 ≤ 140737488355328 ∧
          (List.append (List.append (List.take ((j : Int).toNat - 0) (List.drop 0 (pts S))) [[.int .i64 p.id, .int .u32 p.x, .int .u32 p.y, .string p.data]]) (List.take ((pts S).length - (j : Int).toNat) (List.drop (j : Int).toNat (pts S)))).length * 32 ≤ 140737488355328 := fun hlo => by
        rw [l1, l2, fin hlo]
        have : (pts (isort (ltN x y) (l.take (t + 1)))).length = t + 1 := by simp [pts, isort_len]; omega
        rw [this]; omega
      have step : (∀ w ∈ S.take j, ltN x y p w = false) → ∃ t', List.append (List.append (List.take ((j : Int).toNat - 0) (List.drop 0 (pts S))) [[.int .i64 p.id, .int .u32 p.x, .int .u32 p.y, .string p.data]]) (List.take ((pts S).length - (j : Int).toNat) (List.drop (j : Int).toNat (pts S))) = pts (isort (ltN x y) (l.take t')) ∧ IntKind.i64.wrap ((t : Int) + 1) = (t' : Int) ∧ t' ≤ n ∧ True := fun hlo => ⟨t + 1, fin hlo, by rw [wi64 (by omega)]; omega, by omega, trivial⟩
      have meas : ((n : Int) - IntKind.i64.wrap ((t : Int) + 1)).toNat < ((n : Int) - t).toNat := by rw [wi64 (by omega)]; omega
      refine br (fun q1 => ?_) fun q1 => ?_
      · simp only [decide_eq_true_eq] at q1
        obtain ⟨u, rfl⟩ : ∃ u, j = u + 1 := ⟨j - 1, by omega⟩
        have hw : S[u]? = some S[u] := List.getElem?_eq_getElem (by omega)
        have hwr : IntKind.i64.wrap (((u + 1 : Nat) : Int) - 1) = u := by rw [wi64 (by omega)]; omega
        have hcS := hcS S[u] (List.getElem_mem _)
        have hget : (pts S)[(u : Int).toNat]? = some (ptC S[u]) := by simp [pts, hw]
        rw [hwr]
        have bd : (0 : Int) ≤ (u : Int) ∧ (u : Int) < ((pts S).length : Int) := ⟨by omega, by omega⟩
        have hall : ltN x y p S[u] = false → ∀ w ∈ S.take (u + 1), ltN x y p w = false := fun q2 w hw' => by
          obtain ⟨i, hi, rfl⟩ := List.mem_take_iff_getElem.1 hw'
          rcases Nat.lt_or_ge i u with hlt | hge
          · exact (swoN x y).ntrans _ _ _ q2 (List.pairwise_iff_getElem.1 hsr i u (by omega) (by omega) hlt)
          · have : i = u := by omega
            subst this; exact q2
        have cont : ltN x y p S[u] = true → (∃ j' : Nat, pts S = pts S ∧ (u : Int) = (j' : Int) ∧ j' ≤ t ∧ (∀ w ∈ S.drop j', ltN x y p w = true) ∧ H2 = H2) ∧ (u : Int).toNat < ((u + 1 : Nat) : Int).toNat := fun q2 => by
          refine ⟨⟨u, rfl, rfl, by omega, fun w hw' => ?_, rfl⟩, by omega⟩
          rw [List.drop_eq_getElem_cons (by omega)] at hw'
          rcases List.mem_cons.1 hw' with rfl | hw'
          · exact q2
          · exact hgt w hw'
        have eq1 : ltN x y p S[u] = decide (sqd x y p.x p.y < sqd x y S[u].x S[u].y ∨ (sqd x y p.x p.y = sqd x y S[u].x S[u].y ∧ p.id < S[u].id)) := rfl
        refine ⟨H2, fun _ _ e => e, bd, S[u].x, ⟨_, hget, rfl⟩, bd, S[u].y, ⟨_, hget, rfl⟩, s_rbet hx hy hcS.1 hcS.2 ⟨keep_same _ _ _, _, _, rfl, ?_⟩⟩
        try simp only [delLs_nil]
        refine ⟨H2, fun _ _ e => e, s_rless ⟨keep_same _ _ _, _, rfl, ?_⟩⟩
        try simp only [delLs_nil]
        generalize sqd x y p.x p.y = m at *
        generalize sqd x y S[u].x S[u].y = m' at *
        refine br (fun q2 => br (fun q3 => br (fun q4 => ?_) fun q4 => ?_) fun q3 => ?_) fun q2 => ?_
        · have hmm : m = m' := by simp at q3 q4; omega
          refine ⟨⟨by omega, by omega⟩, ptr rfl (ptr rfl (ptr rfl ⟨_, has_first g, bd, S[u].id, ⟨_, hget, rfl⟩, br (fun q5 => ?_) fun q5 => ?_⟩))⟩
          · have hf : ltN x y p S[u] = false := by rw [eq1, decide_eq_false_iff_not]; simp at q5; omega
            exact ⟨⟨by omega, by omega⟩, ⟨by omega, by omega⟩, ptr rfl (ptr rfl ⟨_, _, _, _, g, ⟨by omega, by omega⟩, (last (hall hf)).1, (last (hall hf)).2.1, (last (hall hf)).2.2, step (hall hf), meas⟩)⟩
          · have hf : ltN x y p S[u] = true := by rw [eq1, decide_eq_true_eq]; simp at q5; omega
            have := cont hf
            simpa using this
        · have hf : ltN x y p S[u] = false := by rw [eq1, decide_eq_false_iff_not]; simp at q2 q3 q4; omega
          exact ⟨⟨by omega, by omega⟩, ⟨by omega, by omega⟩, ptr rfl (ptr rfl ⟨_, _, _, _, g, ⟨by omega, by omega⟩, (last (hall hf)).1, (last (hall hf)).2.1, (last (hall hf)).2.2, step (hall hf), meas⟩)⟩
        · have hf : ltN x y p S[u] = false := by rw [eq1, decide_eq_false_iff_not]; simp at q2 q3; omega
          exact ⟨⟨by omega, by omega⟩, ⟨by omega, by omega⟩, ptr rfl (ptr rfl ⟨_, _, _, _, g, ⟨by omega, by omega⟩, (last (hall hf)).1, (last (hall hf)).2.1, (last (hall hf)).2.2, step (hall hf), meas⟩)⟩
        · have hf : ltN x y p S[u] = true := by rw [eq1, decide_eq_true_eq]; simp at q2; omega
          have := cont hf
          simpa using this
      · simp only [decide_eq_false_iff_not] at q1
        have hj0 : j = 0 := by omega
        have hlo : ∀ w ∈ S.take j, ltN x y p w = false := by subst hj0; simp
        exact ⟨⟨by omega, by omega⟩, ⟨by omega, by omega⟩, ptr rfl (ptr rfl ⟨_, _, _, _, g, ⟨by omega, by omega⟩, (last hlo).1, (last hlo).2.1, (last hlo).2.2, step hlo, meas⟩)⟩
    · simp only [decide_eq_false_iff_not] at q
      rw [List.take_of_length_le (by omega)]
      exact fun a' c' H' hle hf _ hrow => ⟨hrow, hle⟩
  · rintro ⟨⟨⟨a1, n1, c1⟩, _⟩, _⟩ H1 ⟨hrow, hle1⟩
    simp only at hrow ⊢
    have hn1 : l.length = n1 := by have := (row_len hrow).1; simp [isort_len] at this; exact this
    have hc1 := (row_len hrow).2
    obtain ⟨ek, hk⟩ := kOf_eq k0
    have em : minI (minI (maxI k0 0) 64) (n1 : Int) = ((min (kOf k0) n1 : Nat) : Int) := by rw [ek]; unfold minI; split <;> omega
    rw [em, Int.toNat_natCast]
    refine ⟨⟨by omega, by omega⟩, k _ _ hle1 ?_⟩
    have hs := slice_sub (row_slice hrow) (lo := 0) (hi := min (kOf k0) n1) (by omega) (by omega)
    have e1 : List.take (min (kOf k0) n1 - 0) (List.drop 0 (pts (isort (ltN x y) l))) = pts (nearK x y (kOf k0) l) := by
      unfold nearK
      have e2 : min (kOf k0) n1 = min (kOf k0) (isort (ltN x y) l).length := by rw [isort_len, hn1]
      rw [Nat.sub_zero, List.drop_zero, e2]
      show (List.map ptC _).take _ = _
      rw [← List.map_take, ← List.take_eq_take_min]
    rw [e1] at hs
    exact hs
theorem s_kvis0 {G : Heap} {b : Nat} {x y : Int} {dp : Int} {L : List Pt} {T : KT} {t : Option Addr} {k0 : Nat} (hk0 : k0 = 0) (ht : KAt H T t) (h : FAt G H b x y (k0 : Int) L) (k : R (.returned (.tuple #[])) H) : Meets prog 29 [.pointer (some ⟨b, 0, none⟩), .pointer t, vi dp] H R := by
  refine spec_of func29 (by kernel_rfl) (fun t h => by cases h) ?_ (vc_kvis (some ⟨b, 0, none⟩) t dp R H) ?_
  · simp [argsR, SV.rep, SC.rep, Sx.one]
  unfold nf_kvis
  subst hk0
  obtain ⟨_, _, _, _, _, hblk, _⟩ := h
  refine s_kis ht ⟨_, rfl, br (fun _ => k) fun _ => ptr rfl (ptr rfl (ptr rfl ⟨_, has_at (k := 2) (fat_has hblk) rfl, br (fun _ => k) fun q => by simp at q⟩))⟩
theorem s_knear {T : KT} {t : Option Addr} {l : List Pt} {x y k0 : Int} (h : KAt H T t) (g : Grow 0 l T) (hu : UId l) (hl : l.length ≤ 1000) (hx : U32 x) (hy : U32 y) (hc : ∀ p ∈ l, U32 p.x ∧ U32 p.y)
    (k : ∀ v' H', H ≤ H' → SliceAt H' v' 4 (pts (nearK x y (kOf k0) l)) → R (.returned v') H') : Meets prog 16 [.pointer t, .int .u32 x, .int .u32 y, vi k0] H R := by
  refine spec_of func16 (by kernel_rfl) (fun t h => by cases h) ?_ (vc_knear t x y k0 R H) ?_
  · simp [argsR, SV.rep, SC.rep, Sx.one]
  unfold nf_knear
  intro b hb
  obtain ⟨ek, hk⟩ := kOf_eq k0
  have hp := g.perm
  have hgl := g.len
  rw [ek]
  have hF0 : FAt H (H.upd b (.cells #[.int .u32 x, .int .u32 y, vi (kOf k0 : Int), .slice none 0 0] 60 (0, 0))) b x y (kOf k0 : Int) (nearK x y (kOf k0) []) := by
    have e0 : nearK x y (kOf k0) [] = [] := by unfold nearK; simp [isort]
    rw [e0]
    exact ⟨upd_le hb, hb, none, 0, _, upd_same _ _ _, .inl ⟨rfl, rfl⟩, by simp [blockOf], by simp [blockOf]⟩
  -- what is told at last
  have tell : ∀ {H1 : Heap}, FAt H H1 b x y (kOf k0 : Int) (nearK x y (kOf k0) l) → PtrK (some ⟨b, 0, none⟩) fun a => PtrK (some a) fun a => PtrK (some (a.add 3)) fun a => ∃ (a_1 : Option Addr) (n c : Nat), H1.has a [.slice a_1 n c] ∧
      LoopP (fun (K : (List (List Value) × (Int × Unit)) × Unit → Heap → Prop) (p : (List (List Value) × (Int × Unit)) × Unit) (H : Heap) =>
        Br (decide (p.1.2.1 < (n : Int))) ((0 ≤ p.1.2.1 ∧ p.1.2.1 < (n : Int)) ∧ PtrK a_1 fun A => PtrK (some (A.add (p.1.2.1.toNat * 6))) fun a => ∃ (n_1 n_2 n_3 : Int) (s : ByteArray) (n_4 n_5 : Int), H.has a [vi n_1, .int .u32 n_2, .int .u32 n_3, .string s, .int .u64 n_4, .int .u64 n_5] ∧
          (List.append p.1.1 [[vi n_1, .int .u32 n_2, .int .u32 n_3, .string s]]).length * 32 ≤ 140737488355328 ∧ K ((List.append p.1.1 [[vi n_1, .int .u32 n_2, .int .u32 n_3, .string s]], IntKind.wrap .i64 (p.1.2.1 + 1), ()), ()) H)
          (∀ (v : Value) (H' : Heap), H ≤ H' → (∀ b, blockOf v = some b → H b = none) → (∀ b (o : Obj), H' b = some o → H b = some o ∨ blockOf v = some b) → RowAt H' v 44 4 p.1.1 → R (.returned v) H')) (([], 0, ()), ()) H1 := by
    rintro H1 ⟨hle, _, a, c, ty, hblk, hrow, _, _⟩
    have hs := row_slice hrow
    have hlen := nearK_len x y (kOf k0) l
    generalize nearK x y (kOf k0) l = L at *
    refine ptr rfl (ptr rfl (ptr rfl ⟨a, _, c, has_at (k := 3) (fat_has hblk) rfl, fun p H' => ∃ t : Nat, p.1.1 = pts (L.take t) ∧ p.1.2.1 = (t : Int) ∧ t ≤ L.length ∧ H' = H1, fun p _ => (L.length - p.1.2.1).toNat, ⟨0, by simp, rfl, by omega, rfl⟩, ?_⟩))
    rintro ⟨⟨rows, i, _⟩, _⟩ H2 ⟨t, h1, h2, ht, rfl⟩
    simp only at h1 h2 ⊢
    subst h1; subst h2
    refine br (fun q => ?_) fun q => ?_
    · simp only [decide_eq_true_eq] at q
      obtain ⟨p, _, htk, hp⟩ := drop_cons (l := L) (k := t) (by omega)
      obtain ⟨A, e, g⟩ := fd_get hs (i := t) hp
      subst e
      have e1 : List.append (pts (L.take t)) [ptC p] = pts (L.take (t + 1)) := by rw [htk]; simp [pts]
      refine ⟨⟨by omega, by omega⟩, ptr rfl (ptr rfl ⟨_, _, _, _, _, _, g, ?_⟩)⟩
      show (List.append (pts (L.take t)) [ptC p]).length * 32 ≤ _ ∧ (∃ t' : Nat, List.append (pts (L.take t)) [ptC p] = _ ∧ _) ∧ _
      rw [e1, wi64 (by omega)]
      exact ⟨by simp [pts]; omega, ⟨t + 1, rfl, by simp, by omega, by trivial⟩, by omega⟩
    · simp only [decide_eq_false_iff_not] at q
      rw [List.take_of_length_le (by omega)]
      exact fun v H' h1 _ _ h4 => k v H' (heap_trans hle h1) (row_slice h4)
  by_cases hk0 : kOf k0 = 0
  · -- none is asked for
    refine s_kvis0 (T := T) hk0 (kAt_le (upd_le hb) h) hF0 ⟨rfl, ?_⟩
    have e0 : nearK x y (kOf k0) [] = nearK x y (kOf k0) l := by unfold nearK; rw [hk0]; rfl
    rw [e0] at hF0
    simpa only [true_and] using tell hF0
  · refine s_kvis hk (by omega) hx hy T (S := []) hF0 h g ?_ (fun p hp' => hc p (hp.mem_iff.1 hp')) (by omega) (by omega) fun H1 h1 => ⟨rfl, ?_⟩
    · rw [List.nil_append]; exact hu.perm hp
    · rw [List.nil_append, nearK_perm hp hu] at h1
      simpa only [true_and] using tell h1
end
end Cr

set_option linter.unusedVariables false
set_option linter.unusedSimpArgs false
namespace Cr
open Go Sx Go.Proofs Go.Sort
open Go.Proofs.Try
set_option maxRecDepth 100000
theorem fixP_mem {l : List Pt} {p : Pt} (h : p ∈ fixP l) : p ∈ l := (look_some (by rw [← look_fixP]; exact sid_look (fixP_sid l) h)).1
section
variable {H : Heap} {R : Ending → Heap → Prop}
theorem s_lfnd {v : Value} {l : List Pt} {r : Rc} {x y k0 : Int} (h : SliceAt H v 4 (pts l)) (hl : l.length ≤ 10000000000000) (hc : ∀ p ∈ l, U32 p.x ∧ U32 p.y) (hx : U32 x) (hy : U32 y) (k : ∀ H', H ≤ H' → R (.returned (.bool true)) H') :
    Meets prog 4 [v, rcV r, .int .u32 x, .int .u32 y, vi k0] H R := by
  obtain ⟨a, n, c, e, hn⟩ := h
  subst e
  have h : SliceAt H (.slice a n c) 4 (pts l) := ⟨a, n, c, rfl, hn⟩
  have hln : l.length = n := by simpa using hn.1
  refine spec_of func4 (by kernel_rfl) (fun t h => by cases h) ?_ (vc_lfnd a n c r.x0 r.y0 r.x1 r.y1 x y k0 R H) ?_
  · simp [argsR, SV.rep, SC.rep, Sx.one, SegsRep]
  unfold nf_lfnd
  have hnc : n ≤ c := hn.2.1
  have main : ∀ {v : Value} {l : List Pt} {H1 : Heap}, SliceAt H1 v 4 (pts l) → l.length ≤ 40 → (∀ p ∈ l, U32 p.x ∧ U32 p.y) → H ≤ H1 → Meets prog 8 [v] H1 fun e H' => ∃ (a_1 : Option Addr) (n c_1 : Nat), e = .returned (.slice a_1 n c_1) ∧
      Meets prog 9 [v] H' fun e H' => ∃ a : Option Addr, e = .returned (.pointer a) ∧ ∃ G : Heap, G ≤ H' ∧
        Meets prog 14 [.pointer a, rcV r] H' fun e H'_1 => Keep G H' H' H'_1 ∧ ∃ (a_2 : Option Addr) (n_1 c : Nat), e = .returned (.slice a_2 n_1 c) ∧
          Meets prog 15 [.slice a_1 n c_1, rcV r] (delLs H'_1 []) fun e H' => Keep G (delLs H'_1 []) (delLs H'_1 []) H' ∧ ∃ (a_3 : Option Addr) (n_2 c_2 : Nat), e = .returned (.slice a_3 n_2 c_2) ∧
            Meets prog 13 [.slice a_2 n_1 c, .slice a_3 n_2 c_2] (delLs H' []) fun e H'_2 => Keep G (delLs H' []) (delLs H' []) H'_2 ∧ ∃ b : Bool, e = .returned (.bool b) ∧
              Br b (Meets prog 16 [.pointer a, .int .u32 x, .int .u32 y, vi k0] (delLs H'_2 []) fun e H' => Keep G (delLs H'_2 []) (delLs H'_2 []) H' ∧ ∃ (a : Option Addr) (n_3 c : Nat), e = .returned (.slice a n_3 c) ∧
                Meets prog 17 [.slice a_1 n c_1, .int .u32 x, .int .u32 y, vi k0] (delLs H' []) fun e H'_3 => Keep G (delLs H' []) (delLs H' []) H'_3 ∧ ∃ (a_4 : Option Addr) (n c_3 : Nat), e = .returned (.slice a_4 n c_3) ∧
                  Meets prog 13 [.slice a n_3 c, .slice a_4 n c_3] (delLs H'_3 []) fun e H' => Keep G (delLs H'_3 []) (delLs H'_3 []) H' ∧ ∃ b : Bool, e = .returned (.bool b) ∧ R (.returned (.bool b)) (delLs H' [])) (R (.returned (.bool false)) (delLs H'_2 [])) := by
    intro v l H1 h hl hc hle1
    have hfl := fixP_len l
    have hcf : ∀ p ∈ fixP l, U32 p.x ∧ U32 p.y := fun p hp => hc p (fixP_mem hp)
    have kp : ∀ {A B : Heap}, A ≤ B → Keep H1 A A B := fun h b o e _ => h b o e
    refine s_kfix h hl fun v2 H2 hle2 hf2 hr2 => ?_
    have hs2 := row_slice hr2
    obtain ⟨a2, c2, rfl⟩ := row_val hr2
    refine ⟨a2, _, c2, rfl, s_knew (slice_le h hle2) (by omega) fun T t H4 g ka hle4 => ⟨t, rfl, H1, heap_trans hle2 hle4, ?_⟩⟩
    have ka := kAt_le off_le ka
    refine s_kran ka g (fixP_sid l) (by omega) fun v5 H5 hle5 hf5 hr5 => ⟨kp hle5, ?_⟩
    have hs5 := row_slice hr5
    obtain ⟨a5, c5, rfl⟩ := row_val hr5
    refine ⟨a5, _, c5, rfl, ?_⟩
    simp only [delLs_nil]
    refine s_ppick (q := r) (slice_le hs2 (heap_trans hle4 hle5)) (by omega) fun v6 H6 hle6 hf6 hr6 => ⟨kp hle6, ?_⟩
    have hs6 := row_slice hr6
    obtain ⟨a6, c6, rfl⟩ := row_val hr6
    refine ⟨a6, _, c6, rfl, ?_⟩
    have hfil : ((fixP l).filter (hasR r)).length ≤ (fixP l).length := List.length_filter_le _ _
    refine s_points (slice_le hs5 hle6) hs6 (by omega) ⟨kp fun _ _ e => e, _, rfl, br (fun _ => ?_) fun q => by simp at q⟩
    have h46 : H4 ≤ H6 := heap_trans hle5 hle6
    refine s_knear (kAt_le h46 ka) g (sid_uid (fixP_sid l)) (by omega) hx hy hcf fun v7 H7 hle7 hs7 => ⟨kp hle7, ?_⟩
    obtain ⟨a7, n7, c7, rfl, hn7⟩ := id hs7
    refine ⟨a7, n7, c7, rfl, ?_⟩
    refine s_rnr (slice_le hs2 (heap_trans hle4 (heap_trans h46 hle7))) (by omega) hx hy hcf fun v8 H8 hle8 hs8 => ⟨kp hle8, ?_⟩
    obtain ⟨a8, n8, c8, rfl, hn8⟩ := id hs8
    refine ⟨a8, n8, c8, rfl, ?_⟩
    have hnl := nearK_len x y (kOf k0) (fixP l)
    refine s_points (slice_le hs7 hle8) hs8 (by omega) ⟨kp fun _ _ e => e, _, rfl, ?_⟩
    rw [decide_eq_true rfl]
    exact k _ (heap_trans hle1 (heap_trans hle2 (heap_trans hle4 (heap_trans h46 (heap_trans hle7 hle8)))))
  refine s_alive44 fun H1 hle1 => ⟨true, rfl, br (fun q => by cases q) fun _ => br (fun q => ?_) fun q => ?_⟩
  · simp only [decide_eq_true_eq] at q
    have hs := slice_sub (slice_le h hle1) (lo := 0) (hi := 40) (by omega) (by omega)
    have e1 : List.take (40 - 0) (List.drop 0 (pts l)) = pts (l.take 40) := by simp [pts, List.map_take]
    rw [e1] at hs
    exact ⟨⟨by omega, by omega⟩, main hs (by rw [List.length_take]; omega) (fun p hp => hc p (List.mem_of_mem_take hp)) hle1⟩
  · simp only [decide_eq_false_iff_not] at q
    exact main (slice_le h hle1) (by omega) hc hle1
end
end Cr
