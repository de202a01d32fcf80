/- Own texts, one behind the other: K4, Y1, SxX, A1, A2, Y2, SxSort, A3, A5, Y3, Y4, D1, D2, A16, D3, Y5, SxOpen, A9, Y6, Y7, Y8, Y9. -/
import Derived.KernelRfl
import Derived.Test.YthhjnihfjbdeeaaProg
import Derived.Lib.Mul64
import Derived.IntWalk
import Derived.Shelf.SlSortCmp.NoneTotal
import Derived.Shelf.Sort.Plain
import Derived.Shelf.Slices.In.SortNone
import Derived.Shelf.Slices.CompactI
import Derived.Deep.Slices
import Derived.Deep.Strs
import Derived.Test.YthhjnihfjbdeeaaRows
import Derived.Test.YthhjnihfjbdeeaaChecked
import Derived.Test.YthhjnihfjbdeeaaZ4
set_option linter.unusedVariables false
set_option linter.unusedSimpArgs false
namespace Cr
open Go Sx Stb
open Go.Sort (SWO)
open Go.Proofs.Try
set_option linter.unusedSectionVars false
variable [Dr]
set_option maxRecDepth 100000
section
variable {R : Ending → Heap → Prop} {H : Heap} {ty : Nat}
theorem drop_cons {α : Type} {l : List α} {k : Nat} (h : k < l.length) : ∃ y, l.drop k = y :: l.drop (k + 1) ∧ l.take (k + 1) = l.take k ++ [y] ∧ l[k]? = some y :=
  ⟨l[k], List.drop_eq_getElem_cons h, by rw [List.take_add_one, List.getElem?_eq_getElem h]; rfl, List.getElem?_eq_getElem h⟩
/-- Sorted blocks of one length, and a shorter rest. -/
structure Blk (lt : Pt → Pt → Bool) (k : Nat) (Ls : List (List Pt)) : Prop where
  len : ∀ l ∈ Ls, l.length = k
  srt : ∀ l ∈ Ls, Srtd lt l
theorem Blk.nil (lt : Pt → Pt → Bool) (k : Nat) : Blk lt k [] := ⟨by simp, by simp⟩
end
end Cr

set_option linter.unusedVariables false
set_option maxHeartbeats 40000000
set_option maxRecDepth 1000000
namespace Cr
open Go Sx
open Go.Proofs.Try
set_option linter.unusedSectionVars false
variable [Dr]
def h_on : Hints := { pub := [4, 5, 6], loops := [(4, ⟨[4, 5, 6], [], [.box 11 28 [.f (.int .i64), .f (.int .u32), .f (.int .u32), .f .str], .box 12 28 [.f (.int .i64), .f (.int .u32), .f (.int .u32), .f .str]]⟩)] }
def h_wit : Hints := { pub := [5, 7, 8], loops := [(8, ⟨[5, 6, 7, 8], [], [.box 20 28 [.f (.int .i64), .f (.int .u32), .f (.int .u32), .f .str], .box 21 28 [.f (.int .i64), .f (.int .u32), .f (.int .u32), .f .str]]⟩)] }
def h_sid : Hints := { pub := [1] }
def h_si1 : Hints := { deep := true, late := [1000000], loops := [(1, ⟨[0, 1, 5, 6], [.f 7 (.int .i64)], []⟩)] }
def nf_psize (a : Int) (R : Ending → Heap → Prop) (H : Heap) : Prop := Br (decide (a < (0 : Int))) (R (Ending.returned (Value.int IntKind.u64 (IntKind.wrap IntKind.u64 (IntKind.wrap IntKind.i64 ((0 : Int) - a))))) H) (R (Ending.returned (Value.int IntKind.u64 (IntKind.wrap IntKind.u64 a))) H)
theorem vc_psize (a : Int) (R : Ending → Heap → Prop) (H : Heap) : vcFun prog { } f50 [SV.c (SC.v (Value.int IntKind.i64 a))] R H = nf_psize a R H := by kernel_rfl

def nf_ptimes (a : Int) (b : Int) (R : Ending → Heap → Prop) (H : Heap) : Prop := Meets prog (50 : Nat) [Value.int IntKind.i64 a] H fun (e : Ending) (H' : Nat → Option Obj) ↦ ∃ (n : Int), e = Ending.returned (Value.int IntKind.u64 n) ∧ Meets prog (50 : Nat) [Value.int IntKind.i64 b] H' fun (e : Ending) (H' : Nat → Option Obj) ↦ ∃ (n_1 : Int), e = Ending.returned (Value.int IntKind.u64 n_1) ∧ Meets prog (49 : Nat) [Value.int IntKind.u64 n, Value.int IntKind.u64 n_1] H' fun (e : Ending) (H' : Nat → Option Obj) ↦ ∃ (n : Int), ∃ (n_2 : Int), e = Ending.returned (Value.tuple { toList := [Value.int IntKind.u64 n, Value.int IntKind.u64 n_2] }) ∧ R (Ending.returned (Value.agg { toList := [Value.bool !decide (a < (0 : Int)) == decide (b < (0 : Int)), Value.int IntKind.u64 n, Value.int IntKind.u64 n_2] })) H'
theorem vc_ptimes (a : Int) (b : Int) (R : Ending → Heap → Prop) (H : Heap) : vcFun prog { } f34 [SV.c (SC.v (Value.int IntKind.i64 a)), SV.c (SC.v (Value.int IntKind.i64 b))] R H = nf_ptimes a b R H := by kernel_rfl

def nf_psub (a : Int) (b : Int) (c : Int) (d : Int) (R : Ending → Heap → Prop) (H : Heap) : Prop := ∃ (r1 : Int), ∃ (r2 : Int), CarryAt prog (75 : Nat) b d (0 : Int) r1 r2 ∧ ∃ (r1_1 : Int), ∃ (r2_1 : Int), CarryAt prog (75 : Nat) a c r2 r1_1 r2_1 ∧ R (Ending.returned (Value.agg { toList := [Value.int IntKind.u64 r1_1, Value.int IntKind.u64 r1] })) H
theorem vc_psub (a : Int) (b : Int) (c : Int) (d : Int) (R : Ending → Heap → Prop) (H : Heap) : vcFun prog { ext := [(75 : Nat)] } f68 [SV.agg [Seg.c (SC.v (Value.int IntKind.u64 a)), Seg.c (SC.v (Value.int IntKind.u64 b))], SV.agg [Seg.c (SC.v (Value.int IntKind.u64 c)), Seg.c (SC.v (Value.int IntKind.u64 d))]] R H = nf_psub a b c d R H := by kernel_rfl

def nf_pplus (s : Bool) (a : Int) (b : Int) (t : Bool) (c : Int) (d : Int) (R : Ending → Heap → Prop) (H : Heap) : Prop := Br (s == t) (∃ (G : Nat → Option Obj), G ≤ H ∧ Meets prog (52 : Nat) [Value.agg { toList := [Value.int IntKind.u64 a, Value.int IntKind.u64 b] }, Value.agg { toList := [Value.int IntKind.u64 c, Value.int IntKind.u64 d] }] H fun (e : Ending) (H' : Nat → Option Obj) ↦ Keep G H H H' ∧ ∃ (n : Int), ∃ (n_1 : Int), e = Ending.returned (Value.agg { toList := [Value.int IntKind.u64 n, Value.int IntKind.u64 n_1] }) ∧ R (Ending.returned (Value.agg { toList := [Value.bool s, Value.int IntKind.u64 n, Value.int IntKind.u64 n_1] })) (delLs H' [])) (Meets prog (25 : Nat) [Value.agg { toList := [Value.int IntKind.u64 a, Value.int IntKind.u64 b] }, Value.agg { toList := [Value.int IntKind.u64 c, Value.int IntKind.u64 d] }] H fun (e : Ending) (H' : Nat → Option Obj) ↦ ∃ (n : Int), e = Ending.returned (Value.int IntKind.i64 n) ∧ Br (decide (n ≥ (0 : Int))) (∃ (G : Nat → Option Obj), G ≤ H' ∧ Meets prog (68 : Nat) [Value.agg { toList := [Value.int IntKind.u64 a, Value.int IntKind.u64 b] }, Value.agg { toList := [Value.int IntKind.u64 c, Value.int IntKind.u64 d] }] H' fun (e : Ending) (H'_1 : Nat → Option Obj) ↦ Keep G H' H' H'_1 ∧ ∃ (n : Int), ∃ (n_1 : Int), e = Ending.returned (Value.agg { toList := [Value.int IntKind.u64 n, Value.int IntKind.u64 n_1] }) ∧ R (Ending.returned (Value.agg { toList := [Value.bool s, Value.int IntKind.u64 n, Value.int IntKind.u64 n_1] })) (delLs H'_1 [])) (∃ (G : Nat → Option Obj), G ≤ H' ∧ Meets prog (68 : Nat) [Value.agg { toList := [Value.int IntKind.u64 c, Value.int IntKind.u64 d] }, Value.agg { toList := [Value.int IntKind.u64 a, Value.int IntKind.u64 b] }] H' fun (e : Ending) (H'_1 : Nat → Option Obj) ↦ Keep G H' H' H'_1 ∧ ∃ (n : Int), ∃ (n_1 : Int), e = Ending.returned (Value.agg { toList := [Value.int IntKind.u64 n, Value.int IntKind.u64 n_1] }) ∧ R (Ending.returned (Value.agg { toList := [Value.bool t, Value.int IntKind.u64 n, Value.int IntKind.u64 n_1] })) (delLs H'_1 [])))
theorem vc_pplus (s : Bool) (a : Int) (b : Int) (t : Bool) (c : Int) (d : Int) (R : Ending → Heap → Prop) (H : Heap) : vcFun prog { } f51 [SV.agg [Seg.c (SC.v (Value.bool s)), Seg.c (SC.v (Value.int IntKind.u64 a)), Seg.c (SC.v (Value.int IntKind.u64 b))], SV.agg [Seg.c (SC.v (Value.bool t)), Seg.c (SC.v (Value.int IntKind.u64 c)), Seg.c (SC.v (Value.int IntKind.u64 d))]] R H = nf_pplus s a b t c d R H := by kernel_rfl

def nf_pminus (s : Bool) (a : Int) (b : Int) (t : Bool) (c : Int) (d : Int) (R : Ending → Heap → Prop) (H : Heap) : Prop := Meets prog (51 : Nat) [Value.agg { toList := [Value.bool s, Value.int IntKind.u64 a, Value.int IntKind.u64 b] }, Value.agg { toList := [Value.bool !t, Value.int IntKind.u64 c, Value.int IntKind.u64 d] }] H fun (e : Ending) (H' : Nat → Option Obj) ↦ ∃ (b : Bool), ∃ (n : Int), ∃ (n_1 : Int), e = Ending.returned (Value.agg { toList := [Value.bool b, Value.int IntKind.u64 n, Value.int IntKind.u64 n_1] }) ∧ R (Ending.returned (Value.agg { toList := [Value.bool b, Value.int IntKind.u64 n, Value.int IntKind.u64 n_1] })) H'
theorem vc_pminus (s : Bool) (a : Int) (b : Int) (t : Bool) (c : Int) (d : Int) (R : Ending → Heap → Prop) (H : Heap) : vcFun prog { } f36 [SV.agg [Seg.c (SC.v (Value.bool s)), Seg.c (SC.v (Value.int IntKind.u64 a)), Seg.c (SC.v (Value.int IntKind.u64 b))], SV.agg [Seg.c (SC.v (Value.bool t)), Seg.c (SC.v (Value.int IntKind.u64 c)), Seg.c (SC.v (Value.int IntKind.u64 d))]] R H = nf_pminus s a b t c d R H := by kernel_rfl

def nf_psign (s : Bool) (a : Int) (b : Int) (R : Ending → Heap → Prop) (H : Heap) : Prop := Br (andO (some (andO none (a == (0 : Int)))) (b == (0 : Int))) (R (Ending.returned (Value.int IntKind.i64 (0 : Int))) H) (Br s (R (Ending.returned (Value.int IntKind.i64 (-1 : Int))) H) (R (Ending.returned (Value.int IntKind.i64 (1 : Int))) H))
theorem vc_psign (s : Bool) (a : Int) (b : Int) (R : Ending → Heap → Prop) (H : Heap) : vcFun prog { eqs := [(43 : TypeId)] } f22 [SV.agg [Seg.c (SC.v (Value.bool s)), Seg.c (SC.v (Value.int IntKind.u64 a)), Seg.c (SC.v (Value.int IntKind.u64 b))]] R H = nf_psign s a b R H := by kernel_rfl

def nf_pgap (a : Int) (b : Int) (R : Ending → Heap → Prop) (H : Heap) : Prop := R (Ending.returned (Value.int IntKind.i64 (IntKind.wrap IntKind.i64 (IntKind.wrap IntKind.i64 b - IntKind.wrap IntKind.i64 a)))) H
theorem vc_pgap (a : Int) (b : Int) (R : Ending → Heap → Prop) (H : Heap) : vcFun prog { } f35 [SV.c (SC.v (Value.int IntKind.u32 a)), SV.c (SC.v (Value.int IntKind.u32 b))] R H = nf_pgap a b R H := by kernel_rfl

def nf_pturn (i1 : Int) (x1 : Int) (y1 : Int) (d1 : ByteArray) (i2 : Int) (x2 : Int) (y2 : Int) (d2 : ByteArray) (i3 : Int) (x3 : Int) (y3 : Int) (d3 : ByteArray) (R : Ending → Heap → Prop) (H : Heap) : Prop := ∃ (G : Nat → Option Obj), G ≤ H ∧ Meets prog (35 : Nat) [Value.int IntKind.u32 x1, Value.int IntKind.u32 x2] H fun (e : Ending) (H' : Nat → Option Obj) ↦ Keep G H H H' ∧ ∃ (n : Int), e = Ending.returned (Value.int IntKind.i64 n) ∧ Meets prog (35 : Nat) [Value.int IntKind.u32 y1, Value.int IntKind.u32 y3] (delLs H' []) fun (e : Ending) (H'_1 : Nat → Option Obj) ↦ Keep G (delLs H' []) (delLs H' []) H'_1 ∧ ∃ (n_1 : Int), e = Ending.returned (Value.int IntKind.i64 n_1) ∧ Meets prog (34 : Nat) [Value.int IntKind.i64 n, Value.int IntKind.i64 n_1] (delLs H'_1 []) fun (e : Ending) (H' : Nat → Option Obj) ↦ Keep G (delLs H'_1 []) (delLs H'_1 []) H' ∧ ∃ (b : Bool), ∃ (n : Int), ∃ (n_2 : Int), e = Ending.returned (Value.agg { toList := [Value.bool b, Value.int IntKind.u64 n, Value.int IntKind.u64 n_2] }) ∧ Meets prog (35 : Nat) [Value.int IntKind.u32 y1, Value.int IntKind.u32 y2] (delLs H' []) fun (e : Ending) (H'_2 : Nat → Option Obj) ↦ Keep G (delLs H' []) (delLs H' []) H'_2 ∧ ∃ (n_3 : Int), e = Ending.returned (Value.int IntKind.i64 n_3) ∧ Meets prog (35 : Nat) [Value.int IntKind.u32 x1, Value.int IntKind.u32 x3] (delLs H'_2 []) fun (e : Ending) (H' : Nat → Option Obj) ↦ Keep G (delLs H'_2 []) (delLs H'_2 []) H' ∧ ∃ (n_4 : Int), e = Ending.returned (Value.int IntKind.i64 n_4) ∧ Meets prog (34 : Nat) [Value.int IntKind.i64 n_3, Value.int IntKind.i64 n_4] (delLs H' []) fun (e : Ending) (H'_3 : Nat → Option Obj) ↦ Keep G (delLs H' []) (delLs H' []) H'_3 ∧ ∃ (b_1 : Bool), ∃ (n_5 : Int), ∃ (n_6 : Int), e = Ending.returned (Value.agg { toList := [Value.bool b_1, Value.int IntKind.u64 n_5, Value.int IntKind.u64 n_6] }) ∧ Meets prog (36 : Nat) [Value.agg { toList := [Value.bool b, Value.int IntKind.u64 n, Value.int IntKind.u64 n_2] }, Value.agg { toList := [Value.bool b_1, Value.int IntKind.u64 n_5, Value.int IntKind.u64 n_6] }] (delLs H'_3 []) fun (e : Ending) (H' : Nat → Option Obj) ↦ Keep G (delLs H'_3 []) (delLs H'_3 []) H' ∧ ∃ (b : Bool), ∃ (n : Int), ∃ (n_7 : Int), e = Ending.returned (Value.agg { toList := [Value.bool b, Value.int IntKind.u64 n, Value.int IntKind.u64 n_7] }) ∧ R (Ending.returned (Value.agg { toList := [Value.bool b, Value.int IntKind.u64 n, Value.int IntKind.u64 n_7] })) (delLs H' [])
theorem vc_pturn (i1 : Int) (x1 : Int) (y1 : Int) (d1 : ByteArray) (i2 : Int) (x2 : Int) (y2 : Int) (d2 : ByteArray) (i3 : Int) (x3 : Int) (y3 : Int) (d3 : ByteArray) (R : Ending → Heap → Prop) (H : Heap) : vcFun prog { } f21 [SV.agg [Seg.c (SC.v (Value.int IntKind.i64 i1)), Seg.c (SC.v (Value.int IntKind.u32 x1)), Seg.c (SC.v (Value.int IntKind.u32 y1)), Seg.c (SC.v (Value.string d1))], SV.agg [Seg.c (SC.v (Value.int IntKind.i64 i2)), Seg.c (SC.v (Value.int IntKind.u32 x2)), Seg.c (SC.v (Value.int IntKind.u32 y2)), Seg.c (SC.v (Value.string d2))], SV.agg [Seg.c (SC.v (Value.int IntKind.i64 i3)), Seg.c (SC.v (Value.int IntKind.u32 x3)), Seg.c (SC.v (Value.int IntKind.u32 y3)), Seg.c (SC.v (Value.string d3))]] R H = nf_pturn i1 x1 y1 d1 i2 x2 y2 d2 i3 x3 y3 d3 R H := by kernel_rfl

def nf_pTurn (i1 : Int) (x1 : Int) (y1 : Int) (d1 : ByteArray) (i2 : Int) (x2 : Int) (y2 : Int) (d2 : ByteArray) (i3 : Int) (x3 : Int) (y3 : Int) (d3 : ByteArray) (R : Ending → Heap → Prop) (H : Heap) : Prop := Meets prog (21 : Nat) [Value.agg { toList := [Value.int IntKind.i64 i1, Value.int IntKind.u32 x1, Value.int IntKind.u32 y1, Value.string d1] }, Value.agg { toList := [Value.int IntKind.i64 i2, Value.int IntKind.u32 x2, Value.int IntKind.u32 y2, Value.string d2] }, Value.agg { toList := [Value.int IntKind.i64 i3, Value.int IntKind.u32 x3, Value.int IntKind.u32 y3, Value.string d3] }] H fun (e : Ending) (H' : Nat → Option Obj) ↦ ∃ (b : Bool), ∃ (n : Int), ∃ (n_1 : Int), e = Ending.returned (Value.agg { toList := [Value.bool b, Value.int IntKind.u64 n, Value.int IntKind.u64 n_1] }) ∧ Meets prog (22 : Nat) [Value.agg { toList := [Value.bool b, Value.int IntKind.u64 n, Value.int IntKind.u64 n_1] }] H' fun (e : Ending) (H' : Nat → Option Obj) ↦ ∃ (n : Int), e = Ending.returned (Value.int IntKind.i64 n) ∧ R (Ending.returned (Value.int IntKind.i64 n)) H'
theorem vc_pTurn (i1 : Int) (x1 : Int) (y1 : Int) (d1 : ByteArray) (i2 : Int) (x2 : Int) (y2 : Int) (d2 : ByteArray) (i3 : Int) (x3 : Int) (y3 : Int) (d3 : ByteArray) (R : Ending → Heap → Prop) (H : Heap) : vcFun prog { } f10 [SV.agg [Seg.c (SC.v (Value.int IntKind.i64 i1)), Seg.c (SC.v (Value.int IntKind.u32 x1)), Seg.c (SC.v (Value.int IntKind.u32 y1)), Seg.c (SC.v (Value.string d1))], SV.agg [Seg.c (SC.v (Value.int IntKind.i64 i2)), Seg.c (SC.v (Value.int IntKind.u32 x2)), Seg.c (SC.v (Value.int IntKind.u32 y2)), Seg.c (SC.v (Value.string d2))], SV.agg [Seg.c (SC.v (Value.int IntKind.i64 i3)), Seg.c (SC.v (Value.int IntKind.u32 x3)), Seg.c (SC.v (Value.int IntKind.u32 y3)), Seg.c (SC.v (Value.string d3))]] R H = nf_pTurn i1 x1 y1 d1 i2 x2 y2 d2 i3 x3 y3 d3 R H := by kernel_rfl

def nf_pbet (a : Int) (b : Int) (c : Int) (R : Ending → Heap → Prop) (H : Heap) : Prop := Br (decide (a ≥ minI b c)) (R (Ending.returned (Value.bool (decide (a ≤ maxI b c)))) H) (R (Ending.returned (Value.bool false)) H)
theorem vc_pbet (a : Int) (b : Int) (c : Int) (R : Ending → Heap → Prop) (H : Heap) : vcFun prog { } f67 [SV.c (SC.v (Value.int IntKind.u32 a)), SV.c (SC.v (Value.int IntKind.u32 b)), SV.c (SC.v (Value.int IntKind.u32 c))] R H = nf_pbet a b c R H := by kernel_rfl

def nf_pside (i1 : Int) (x1 : Int) (y1 : Int) (d1 : ByteArray) (i2 : Int) (x2 : Int) (y2 : Int) (d2 : ByteArray) (i3 : Int) (x3 : Int) (y3 : Int) (d3 : ByteArray) (R : Ending → Heap → Prop) (H : Heap) : Prop := Meets prog (10 : Nat) [Value.agg { toList := [Value.int IntKind.i64 i1, Value.int IntKind.u32 x1, Value.int IntKind.u32 y1, Value.string d1] }, Value.agg { toList := [Value.int IntKind.i64 i2, Value.int IntKind.u32 x2, Value.int IntKind.u32 y2, Value.string d2] }, Value.agg { toList := [Value.int IntKind.i64 i3, Value.int IntKind.u32 x3, Value.int IntKind.u32 y3, Value.string d3] }] H fun (e : Ending) (H' : Nat → Option Obj) ↦ ∃ (n : Int), e = Ending.returned (Value.int IntKind.i64 n) ∧ Br (n == (0 : Int)) (Meets prog (67 : Nat) [Value.int IntKind.u32 x3, Value.int IntKind.u32 x1, Value.int IntKind.u32 x2] H' fun (e : Ending) (H' : Nat → Option Obj) ↦ ∃ (b : Bool), e = Ending.returned (Value.bool b) ∧ Br b (Meets prog (67 : Nat) [Value.int IntKind.u32 y3, Value.int IntKind.u32 y1, Value.int IntKind.u32 y2] H' fun (e : Ending) (H' : Nat → Option Obj) ↦ ∃ (b : Bool), e = Ending.returned (Value.bool b) ∧ R (Ending.returned (Value.bool b)) H') (R (Ending.returned (Value.bool false)) H')) (R (Ending.returned (Value.bool false)) H')
theorem vc_pside (i1 : Int) (x1 : Int) (y1 : Int) (d1 : ByteArray) (i2 : Int) (x2 : Int) (y2 : Int) (d2 : ByteArray) (i3 : Int) (x3 : Int) (y3 : Int) (d3 : ByteArray) (R : Ending → Heap → Prop) (H : Heap) : vcFun prog { } f47 [SV.agg [Seg.c (SC.v (Value.int IntKind.i64 i1)), Seg.c (SC.v (Value.int IntKind.u32 x1)), Seg.c (SC.v (Value.int IntKind.u32 y1)), Seg.c (SC.v (Value.string d1))], SV.agg [Seg.c (SC.v (Value.int IntKind.i64 i2)), Seg.c (SC.v (Value.int IntKind.u32 x2)), Seg.c (SC.v (Value.int IntKind.u32 y2)), Seg.c (SC.v (Value.string d2))], SV.agg [Seg.c (SC.v (Value.int IntKind.i64 i3)), Seg.c (SC.v (Value.int IntKind.u32 x3)), Seg.c (SC.v (Value.int IntKind.u32 y3)), Seg.c (SC.v (Value.string d3))]] R H = nf_pside i1 x1 y1 d1 i2 x2 y2 d2 i3 x3 y3 d3 R H := by kernel_rfl

def nf_psides (a : Option Addr) (n : Nat) (c : Nat) (R : Ending → Heap → Prop) (H : Heap) : Prop := ∀ (b : Nat), H b = none → R (Ending.returned (Value.func (Fn.func (48 : Nat)) { toList := [] } { toList := [Value.pointer (some { block := b, off := (0 : Nat) })] })) (Heap.upd H b (Obj.cells { toList := [Value.slice a n c] } (22 : Nat)))
theorem vc_psides (a : Option Addr) (n : Nat) (c : Nat) (R : Ending → Heap → Prop) (H : Heap) : vcFun prog h_sid f33 [SV.c (SC.v (Value.slice a n c))] R H = nf_psides a n c R H := by kernel_rfl

def nf_psides1 (l : Nat) (b : Option Addr) (R : Ending → Heap → Prop) (H : Heap) : Prop := PtrK b fun (a : Addr) ↦ ∃ (a_1 : Option Addr), ∃ (n : Nat), ∃ (c : Nat), Heap.has H a [Value.slice a_1 n c] ∧ Value.func (Fn.yield l) { toList := [] } { toList := [] } = Value.func (Fn.yield l) { toList := [] } { toList := [] } ∧ b = b ∧ a_1 = a_1 ∧ n = n ∧ c = c ∧ (↑n : Int) = (↑n : Int) ∧ LoopP (fun (K : (Int × PUnit) × PUnit → (Nat → Option Obj) → Prop) (p : (Int × PUnit) × PUnit) (H : Nat → Option Obj) ↦ Br (decide (p.fst.fst < (↑n : Int))) (((0 : Int) ≤ p.fst.fst ∧ p.fst.fst < (↑n : Int)) ∧ PtrK a_1 fun (A : Addr) ↦ PtrK (some (Addr.add A (Int.toNat p.fst.fst * (4 : Nat)))) fun (a : Addr) ↦ ∃ (n_1 : Int), ∃ (n_2 : Int), ∃ (n_3 : Int), ∃ (s : ByteArray), Heap.has H a [Value.int IntKind.i64 n_1, Value.int IntKind.u32 n_2, Value.int IntKind.u32 n_3, Value.string s] ∧ PtrK b fun (a : Addr) ↦ ∃ (a_2 : Option Addr), ∃ (n_4 : Nat), ∃ (c_1 : Nat), Heap.has H a [Value.slice a_2 n_4 c_1] ∧ PtrK b fun (a : Addr) ↦ ∃ (a_3 : Option Addr), ∃ (n_5 : Nat), ∃ (c_2 : Nat), Heap.has H a [Value.slice a_3 n_5 c_2] ∧ (↑n_5 : Int) ≠ (0 : Int) ∧ ((0 : Int) ≤ Int.tmod (IntKind.wrap IntKind.i64 (p.fst.fst + (1 : Int))) (↑n_5 : Int) ∧ Int.tmod (IntKind.wrap IntKind.i64 (p.fst.fst + (1 : Int))) (↑n_5 : Int) < (↑n_4 : Int)) ∧ PtrK a_2 fun (A : Addr) ↦ PtrK (some (Addr.add A (Int.toNat (Int.tmod (IntKind.wrap IntKind.i64 (p.fst.fst + (1 : Int))) (↑n_5 : Int)) * (4 : Nat)))) fun (a : Addr) ↦ ∃ (n_6 : Int), ∃ (n_7 : Int), ∃ (n_8 : Int), ∃ (s_1 : ByteArray), Heap.has H a [Value.int IntKind.i64 n_6, Value.int IntKind.u32 n_7, Value.int IntKind.u32 n_8, Value.string s_1] ∧ MeetsY prog l [Value.agg { toList := [Value.int IntKind.i64 n_1, Value.int IntKind.u32 n_2, Value.int IntKind.u32 n_3, Value.string s] }, Value.agg { toList := [Value.int IntKind.i64 n_6, Value.int IntKind.u32 n_7, Value.int IntKind.u32 n_8, Value.string s_1] }] H fun (e : Ending) (H' : Nat → Option Obj) ↦ ∃ (b_1 : Bool), e = Ending.returned (Value.bool b_1) ∧ Br (!b_1) (R (Ending.returned (Value.tuple { toList := [] })) H') (Value.func (Fn.yield l) { toList := [] } { toList := [] } = Value.func (Fn.yield l) { toList := [] } { toList := [] } ∧ b = b ∧ a_1 = a_1 ∧ n = n ∧ c = c ∧ (↑n : Int) = (↑n : Int) ∧ K ((IntKind.wrap IntKind.i64 (p.fst.fst + (1 : Int)), PUnit.unit), PUnit.unit) H')) (R (Ending.returned (Value.tuple { toList := [] })) H)) (((0 : Int), PUnit.unit), PUnit.unit) H
theorem vc_psides1 (l : Nat) (b : Option Addr) (R : Ending → Heap → Prop) (H : Heap) : vcFun prog h_si1 f48 [SV.c (SC.v (Value.func (Fn.yield l) { toList := [] } { toList := [] })), SV.c (SC.v (Value.pointer b))] R H = nf_psides1 l b R H := by kernel_rfl

def nf_pon (a : Option Addr) (n : Nat) (c : Nat) (x : Int) (y : Int) (R : Ending → Heap → Prop) (H : Heap) : Prop := ∀ (b : Nat), H b = none → ∀ (b_1 : Nat), Heap.upd H b (Obj.cells { toList := [Value.int IntKind.u32 x] } (26 : Nat)) b_1 = none → ∀ (b_2 : Nat), Heap.upd (Heap.upd H b (Obj.cells #[Value.int IntKind.u32 x] (26 : Nat))) b_1 (Obj.cells { toList := [Value.int IntKind.u32 y] } (26 : Nat)) b_2 = none → Meets prog (33 : Nat) [Value.slice a n c] (Heap.upd (Heap.upd (Heap.upd H b (Obj.cells { toList := [Value.int IntKind.u32 x] } (26 : Nat))) b_1 (Obj.cells { toList := [Value.int IntKind.u32 y] } (26 : Nat))) b_2 (Obj.cells { toList := [Value.bool false] } (4 : Nat))) fun (e : Ending) (H' : Nat → Option Obj) ↦ ∃ (f : Value), one f = true ∧ e = Ending.returned f ∧ RangeP prog f (fun (p : PUnit × (Int × Int × Int × ByteArray × PUnit) × (Int × Int × Int × ByteArray × PUnit) × PUnit) ↦ [Value.agg { toList := [Value.int IntKind.i64 p.snd.fst.fst, Value.int IntKind.u32 p.snd.fst.snd.fst, Value.int IntKind.u32 p.snd.fst.snd.snd.fst, Value.string p.snd.fst.snd.snd.snd.fst] }, Value.agg { toList := [Value.int IntKind.i64 p.snd.snd.fst.fst, Value.int IntKind.u32 p.snd.snd.fst.snd.fst, Value.int IntKind.u32 p.snd.snd.fst.snd.snd.fst, Value.string p.snd.snd.fst.snd.snd.snd.fst] }]) (fun (p : PUnit × (Int × Int × Int × ByteArray × PUnit) × (Int × Int × Int × ByteArray × PUnit) × PUnit) (K : (Nat → Option Obj) → Prop) (H' : Nat → Option Obj) ↦ PtrK (some { block := b, off := (0 : Nat) }) fun (a : Addr) ↦ ∃ (n : Int), Heap.has H' a [Value.int IntKind.u32 n] ∧ PtrK (some { block := b_1, off := (0 : Nat) }) fun (a : Addr) ↦ ∃ (n_1 : Int), Heap.has H' a [Value.int IntKind.u32 n_1] ∧ Meets prog (47 : Nat) [Value.agg { toList := [Value.int IntKind.i64 p.snd.fst.fst, Value.int IntKind.u32 p.snd.fst.snd.fst, Value.int IntKind.u32 p.snd.fst.snd.snd.fst, Value.string p.snd.fst.snd.snd.snd.fst] }, Value.agg { toList := [Value.int IntKind.i64 p.snd.snd.fst.fst, Value.int IntKind.u32 p.snd.snd.fst.snd.fst, Value.int IntKind.u32 p.snd.snd.fst.snd.snd.fst, Value.string p.snd.snd.fst.snd.snd.snd.fst] }, Value.agg { toList := [Value.int IntKind.i64 (0 : Int), Value.int IntKind.u32 n, Value.int IntKind.u32 n_1, Value.string { data := #[] }] }] H' fun (e : Ending) (H' : Nat → Option Obj) ↦ ∃ (b : Bool), e = Ending.returned (Value.bool b) ∧ Br b (PtrK (some { block := b_2, off := (0 : Nat) }) fun (A : Addr) ↦ ∃ (c : Array Value), ∃ (ty : Nat), (H' A.block = some (Obj.cells c ty) ∧ A.spot = none ∧ A.off + (1 : Nat) ≤ Array.size c) ∧ PtrK (some { block := b_2, off := (0 : Nat) }) fun (a : Addr) ↦ ∃ (b : Bool), Heap.has (Heap.upd H' A.block (Obj.cells (writeCells c A.off [Value.bool true]) ty)) a [Value.bool b] ∧ R (Ending.returned (Value.bool b)) (Heap.upd H' A.block (Obj.cells (writeCells c A.off [Value.bool true]) ty))) (K H')) (fun (H' : Nat → Option Obj) ↦ PtrK (some { block := b_2, off := (0 : Nat) }) fun (A : Addr) ↦ ∃ (c : Array Value), ∃ (ty : Nat), (H' A.block = some (Obj.cells c ty) ∧ A.spot = none ∧ A.off + (1 : Nat) ≤ Array.size c) ∧ PtrK (some { block := b_2, off := (0 : Nat) }) fun (a : Addr) ↦ ∃ (b : Bool), Heap.has (Heap.upd H' A.block (Obj.cells (writeCells c A.off [Value.bool false]) ty)) a [Value.bool b] ∧ R (Ending.returned (Value.bool b)) (Heap.upd H' A.block (Obj.cells (writeCells c A.off [Value.bool false]) ty))) H'
theorem vc_pon (a : Option Addr) (n : Nat) (c : Nat) (x : Int) (y : Int) (R : Ending → Heap → Prop) (H : Heap) : vcFun prog h_on f32 [SV.c (SC.v (Value.slice a n c)), SV.c (SC.v (Value.int IntKind.u32 x)), SV.c (SC.v (Value.int IntKind.u32 y))] R H = nf_pon a n c x y R H := by kernel_rfl

def nf_pwit (a : Option Addr) (n : Nat) (c : Nat) (x : Int) (y : Int) (R : Ending → Heap → Prop) (H : Heap) : Prop := ∀ (b : Nat), H b = none → PtrK (some { block := b, off := (0 : Nat) }) fun (a_2 : Addr) ↦ ∃ (n_1 : Int), Heap.has (Heap.upd H b (Obj.cells { toList := [Value.int IntKind.u32 y] } (26 : Nat))) a_2 [Value.int IntKind.u32 n_1] ∧ Meets prog (32 : Nat) [Value.slice a n c, Value.int IntKind.u32 x, Value.int IntKind.u32 n_1] (Heap.upd H b (Obj.cells { toList := [Value.int IntKind.u32 y] } (26 : Nat))) fun (e : Ending) (H' : Nat → Option Obj) ↦ ∃ (b_1 : Bool), e = Ending.returned (Value.bool b_1) ∧ Br b_1 (R (Ending.returned (Value.bool true)) H') (∀ (b_2 : Nat), H' b_2 = none → PtrK (some { block := b_2, off := (0 : Nat) }) fun (A : Addr) ↦ ∃ (c_1 : Array Value), ∃ (ty : Nat), (Heap.upd H' b_2 (Obj.cells { toList := [Value.bool false] } (4 : Nat)) A.block = some (Obj.cells c_1 ty) ∧ A.spot = none ∧ A.off + (1 : Nat) ≤ Array.size c_1) ∧ PtrK (some { block := b, off := (0 : Nat) }) fun (a_4 : Addr) ↦ ∃ (n_2 : Int), Heap.has (Heap.upd (Heap.upd H' b_2 (Obj.cells { toList := [Value.bool false] } (4 : Nat))) A.block (Obj.cells (writeCells c_1 A.off [Value.bool false]) ty)) a_4 [Value.int IntKind.u32 n_2] ∧ ∀ (b_3 : Nat), Heap.upd (Heap.upd H' b_2 (Obj.cells #[Value.bool false] (4 : Nat))) A.block (Obj.cells (writeCells c_1 A.off [Value.bool false]) ty) b_3 = none → PtrK (some { block := b_3, off := (0 : Nat) }) fun (A_1 : Addr) ↦ ∃ (c_2 : Array Value), ∃ (ty_1 : Nat), (Heap.upd (Heap.upd (Heap.upd H' b_2 (Obj.cells #[Value.bool false] (4 : Nat))) A.block (Obj.cells (writeCells c_1 A.off [Value.bool false]) ty)) b_3 (Obj.cells { toList := [Value.int IntKind.i64 (0 : Int), Value.int IntKind.u32 (0 : Int), Value.int IntKind.u32 (0 : Int), Value.string { data := #[] }] } (28 : Nat)) A_1.block = some (Obj.cells c_2 ty_1) ∧ A_1.spot = none ∧ A_1.off + (4 : Nat) ≤ Array.size c_2) ∧ Meets prog (33 : Nat) [Value.slice a n c] (Heap.upd (Heap.upd (Heap.upd (Heap.upd H' b_2 (Obj.cells { toList := [Value.bool false] } (4 : Nat))) A.block (Obj.cells (writeCells c_1 A.off [Value.bool false]) ty)) b_3 (Obj.cells { toList := [Value.int IntKind.i64 (0 : Int), Value.int IntKind.u32 (0 : Int), Value.int IntKind.u32 (0 : Int), Value.string { data := #[] }] } (28 : Nat))) A_1.block (Obj.cells (writeCells c_2 A_1.off [Value.int IntKind.i64 (0 : Int), Value.int IntKind.u32 x, Value.int IntKind.u32 n_2, Value.string { data := #[] }]) ty_1)) fun (e : Ending) (H' : Nat → Option Obj) ↦ ∃ (f : Value), one f = true ∧ e = Ending.returned f ∧ RangeP prog f (fun (p : PUnit × (Int × Int × Int × ByteArray × PUnit) × (Int × Int × Int × ByteArray × PUnit) × PUnit) ↦ [Value.agg { toList := [Value.int IntKind.i64 p.snd.fst.fst, Value.int IntKind.u32 p.snd.fst.snd.fst, Value.int IntKind.u32 p.snd.fst.snd.snd.fst, Value.string p.snd.fst.snd.snd.snd.fst] }, Value.agg { toList := [Value.int IntKind.i64 p.snd.snd.fst.fst, Value.int IntKind.u32 p.snd.snd.fst.snd.fst, Value.int IntKind.u32 p.snd.snd.fst.snd.snd.fst, Value.string p.snd.snd.fst.snd.snd.snd.fst] }]) (fun (p : PUnit × (Int × Int × Int × ByteArray × PUnit) × (Int × Int × Int × ByteArray × PUnit) × PUnit) (K : (Nat → Option Obj) → Prop) (H' : Nat → Option Obj) ↦ Br (decide (p.snd.fst.snd.snd.fst > p.snd.snd.fst.snd.snd.fst)) (PtrK (some { block := b, off := (0 : Nat) }) fun (a : Addr) ↦ ∃ (n : Int), Heap.has H' a [Value.int IntKind.u32 n] ∧ Br (decide (p.snd.snd.fst.snd.snd.fst ≤ n)) (PtrK (some { block := b, off := (0 : Nat) }) fun (a : Addr) ↦ ∃ (n : Int), Heap.has H' a [Value.int IntKind.u32 n] ∧ Br (decide (n < p.snd.fst.snd.snd.fst)) (PtrK (some { block := b_3, off := (0 : Nat) }) fun (a : Addr) ↦ ∃ (n : Int), ∃ (n_3 : Int), ∃ (n_4 : Int), ∃ (s : ByteArray), Heap.has H' a [Value.int IntKind.i64 n, Value.int IntKind.u32 n_3, Value.int IntKind.u32 n_4, Value.string s] ∧ Meets prog (10 : Nat) [Value.agg { toList := [Value.int IntKind.i64 p.snd.snd.fst.fst, Value.int IntKind.u32 p.snd.snd.fst.snd.fst, Value.int IntKind.u32 p.snd.snd.fst.snd.snd.fst, Value.string p.snd.snd.fst.snd.snd.snd.fst] }, Value.agg { toList := [Value.int IntKind.i64 p.snd.fst.fst, Value.int IntKind.u32 p.snd.fst.snd.fst, Value.int IntKind.u32 p.snd.fst.snd.snd.fst, Value.string p.snd.fst.snd.snd.snd.fst] }, Value.agg { toList := [Value.int IntKind.i64 n, Value.int IntKind.u32 n_3, Value.int IntKind.u32 n_4, Value.string s] }] H' fun (e : Ending) (H' : Nat → Option Obj) ↦ ∃ (n : Int), e = Ending.returned (Value.int IntKind.i64 n) ∧ Br (decide (n > (0 : Int))) (PtrK (some { block := b_2, off := (0 : Nat) }) fun (a : Addr) ↦ ∃ (b : Bool), Heap.has H' a [Value.bool b] ∧ PtrK (some { block := b_2, off := (0 : Nat) }) fun (A : Addr) ↦ ∃ (c : Array Value), ∃ (ty : Nat), (H' A.block = some (Obj.cells c ty) ∧ A.spot = none ∧ A.off + (1 : Nat) ≤ Array.size c) ∧ K (Heap.upd H' A.block (Obj.cells (writeCells c A.off [Value.bool !b]) ty))) (K H')) (K H')) (K H')) (PtrK (some { block := b, off := (0 : Nat) }) fun (a : Addr) ↦ ∃ (n : Int), Heap.has H' a [Value.int IntKind.u32 n] ∧ Br (decide (p.snd.fst.snd.snd.fst ≤ n)) (PtrK (some { block := b, off := (0 : Nat) }) fun (a : Addr) ↦ ∃ (n : Int), Heap.has H' a [Value.int IntKind.u32 n] ∧ Br (decide (n < p.snd.snd.fst.snd.snd.fst)) (PtrK (some { block := b_3, off := (0 : Nat) }) fun (a : Addr) ↦ ∃ (n : Int), ∃ (n_3 : Int), ∃ (n_4 : Int), ∃ (s : ByteArray), Heap.has H' a [Value.int IntKind.i64 n, Value.int IntKind.u32 n_3, Value.int IntKind.u32 n_4, Value.string s] ∧ Meets prog (10 : Nat) [Value.agg { toList := [Value.int IntKind.i64 p.snd.fst.fst, Value.int IntKind.u32 p.snd.fst.snd.fst, Value.int IntKind.u32 p.snd.fst.snd.snd.fst, Value.string p.snd.fst.snd.snd.snd.fst] }, Value.agg { toList := [Value.int IntKind.i64 p.snd.snd.fst.fst, Value.int IntKind.u32 p.snd.snd.fst.snd.fst, Value.int IntKind.u32 p.snd.snd.fst.snd.snd.fst, Value.string p.snd.snd.fst.snd.snd.snd.fst] }, Value.agg { toList := [Value.int IntKind.i64 n, Value.int IntKind.u32 n_3, Value.int IntKind.u32 n_4, Value.string s] }] H' fun (e : Ending) (H' : Nat → Option Obj) ↦ ∃ (n : Int), e = Ending.returned (Value.int IntKind.i64 n) ∧ Br (decide (n > (0 : Int))) (PtrK (some { block := b_2, off := (0 : Nat) }) fun (a : Addr) ↦ ∃ (b : Bool), Heap.has H' a [Value.bool b] ∧ PtrK (some { block := b_2, off := (0 : Nat) }) fun (A : Addr) ↦ ∃ (c : Array Value), ∃ (ty : Nat), (H' A.block = some (Obj.cells c ty) ∧ A.spot = none ∧ A.off + (1 : Nat) ≤ Array.size c) ∧ K (Heap.upd H' A.block (Obj.cells (writeCells c A.off [Value.bool !b]) ty))) (K H')) (K H')) (K H'))) (fun (H' : Nat → Option Obj) ↦ PtrK (some { block := b_2, off := (0 : Nat) }) fun (a : Addr) ↦ ∃ (b : Bool), Heap.has H' a [Value.bool b] ∧ R (Ending.returned (Value.bool b)) H') H')
theorem vc_pwit (a : Option Addr) (n : Nat) (c : Nat) (x : Int) (y : Int) (R : Ending → Heap → Prop) (H : Heap) : vcFun prog h_wit f20 [SV.c (SC.v (Value.slice a n c)), SV.c (SC.v (Value.int IntKind.u32 x)), SV.c (SC.v (Value.int IntKind.u32 y))] R H = nf_pwit a n c x y R H := by kernel_rfl

end Cr

set_option linter.unusedVariables false
set_option linter.unusedSimpArgs false
namespace Sx
open Go
set_option linter.unusedSectionVars false
variable [Dr]
section
variable {β : Type}
end
theorem flen {sz : Nat} : ∀ {es : List (List Value)}, (∀ e ∈ es, e.length = sz) → es.flatten.length = es.length * sz
  | [], _ => by simp
  | e :: r, h => by
    rw [List.flatten_cons, List.length_append, flen (fun e he => h e (List.mem_cons_of_mem _ he)), h e (List.mem_cons_self ..), List.length_cons, Nat.add_mul, Nat.one_mul, Nat.add_comm]
/-- The last ones of a row become others. -/
theorem row_fill {H : Heap} {A : Addr} {n c ty sz : Nat} {E1 E2 ws : List (List Value)} (h : RowAt H (.slice (some A) n c) ty sz (E1 ++ E2)) (hl : ws.length = E2.length) (hw : ∀ e ∈ ws, e.length = sz) (h1 : ∀ e ∈ ws, ∀ x ∈ e, one x = true) :
    ∃ cl, (H A.block = some (.cells cl ty (0, 0)) ∧ A.spot = none ∧ A.off + E1.length * sz + ws.length * sz ≤ cl.size) ∧
      RowAt (H.upd A.block (.cells (writeCells cl (A.off + E1.length * sz) ws.flatten) ty (0, 0))) (.slice (some A) n c) ty sz (E1 ++ ws) ∧
      Mod (.slice (some A) n c) H (H.upd A.block (.cells (writeCells cl (A.off + E1.length * sz) ws.flatten) ty (0, 0))) := by
  rcases h with ⟨e, _⟩ | ⟨b, o, cap, cl, e, hb, hcap, hsz, hes, hfl, hon⟩
  · cases e
  cases e
  have hwl := flen hw
  have hE1 : ∀ e ∈ E1, e.length = sz := fun e he => hes e (List.mem_append_left _ he)
  have hE2 : ∀ e ∈ E2, e.length = sz := fun e he => hes e (List.mem_append_right _ he)
  have l1 := flen hE1
  have l2 := flen hE2
  have hm : (E1 ++ E2).length * sz ≤ c * sz := Nat.mul_le_mul_right _ hcap
  rw [List.length_append, Nat.add_mul] at hm
  have hsum : o + E1.length * sz + ws.length * sz ≤ cl.size := by rw [hl]; omega
  refine ⟨cl, ⟨hb, rfl, hsum⟩, .inr ⟨b, o, c, writeCells cl (o + E1.length * sz) ws.flatten, by simp [hl], upd_same _ _ _, by simpa [hl] using hcap, ?_, ?_, ?_, ?_⟩, ?_⟩
  · rw [writeCells_size _ _ _ (by omega)]; exact hsz
  · intro x hx
    rcases List.mem_append.1 hx with hx | hx
    · exact hE1 x hx
    · exact hw x hx
  · rw [write_lw _ _ _ (by omega)]
    have hlo : (cl.toList.take o).length = o := by simp; omega
    have e1 : (lw cl.toList (o + E1.length * sz) ws.flatten).drop o = lw (cl.toList.drop o) (E1.length * sz) ws.flatten := by
      have e0 : cl.toList = cl.toList.take o ++ cl.toList.drop o := by simp
      conv => lhs; rw [e0]
      have := lw_right (cl.toList.take o) (cl.toList.drop o) (E1.length * sz) ws.flatten
      rw [hlo] at this
      rw [this, List.drop_append_of_le_length (by omega), List.drop_of_length_le (by omega), List.nil_append]
    rw [e1]
    have e2 : cl.toList.drop o = (E1 ++ E2).flatten ++ (cl.toList.drop o).drop ((E1 ++ E2).length * sz) := by
      rw [← hfl]; exact (List.take_append_drop _ _).symm
    have l3 : (E1 ++ E2).flatten.length = (E1 ++ E2).length * sz := flen hes
    rw [e2, lw_left _ _ _ _ (by rw [l3, hwl, List.length_append, Nat.add_mul, hl]; omega)]
    have e4 : lw (E1 ++ E2).flatten (E1.length * sz) ws.flatten = (E1 ++ ws).flatten := by
      rw [List.flatten_append, List.flatten_append]
      have := lw_right E1.flatten E2.flatten 0 ws.flatten
      rw [Nat.add_zero, l1] at this
      rw [this]
      congr 1
      unfold lw
      rw [List.take_zero, List.nil_append, Nat.zero_add, List.drop_of_length_le (by rw [hwl, l2, hl]; omega), List.append_nil]
    rw [e4, List.take_append_of_le_length (by rw [flen (sz := sz) (fun x hx => by rcases List.mem_append.1 hx with hx | hx; exact hE1 x hx; exact hw x hx)]; omega), List.take_of_length_le]
    rw [flen (sz := sz) (fun x hx => by rcases List.mem_append.1 hx with hx | hx; exact hE1 x hx; exact hw x hx)]; omega
  · intro x hx y hy
    rcases List.mem_append.1 hx with hx | hx
    · exact hon x (List.mem_append_left _ hx) y hy
    · exact h1 x hx y hy
  · intro b' hb'
    simp [blockOf] at hb'
    exact upd_ne _ _ (fun e => hb' e.symm)
theorem row_prefix {H : Heap} {A : Addr} {n c ty sz : Nat} {E1 E2 : List (List Value)} (h : RowAt H (.slice (some A) n c) ty sz (E1 ++ E2)) : RowAt H (.slice (some A) E1.length c) ty sz E1 := by
  rcases h with ⟨e, _⟩ | ⟨b, o, cap, cl, e, hb, hcap, hsz, hes, hfl, hon⟩
  · cases e
  cases e
  have hE1 : ∀ e ∈ E1, e.length = sz := fun e he => hes e (List.mem_append_left _ he)
  rw [List.length_append] at hcap
  refine .inr ⟨b, o, c, cl, rfl, hb, by omega, hsz, hE1, ?_, fun x hx => hon x (List.mem_append_left _ hx)⟩
  rw [List.length_append, Nat.add_mul, List.flatten_append] at hfl
  have := congrArg (List.take (E1.length * sz)) hfl
  rw [List.take_take, Nat.min_eq_left (by omega), ← flen hE1, List.take_append_of_le_length (by omega), List.take_length] at this
  rw [flen hE1] at this
  exact this
end Sx

set_option linter.unusedVariables false
set_option linter.unusedSimpArgs false
namespace Cr
open Go Sx
open Go.Proofs.Try
set_option linter.unusedSectionVars false
variable [Dr]
set_option maxRecDepth 100000
def h_or : Hints := { loops := [(3, ⟨[0, 3, 6, 7], [.f 8 (.int .i64)], []⟩)] }
def h_sum : Hints := { loops := [(3, ⟨[0, 2, 3, 6, 7], [.f 8 (.int .i64)], [.keep 2, .box 3 43 [.f (.int .u64), .f (.int .u64)]]⟩)] }
def h_add : Hints := { ext := [69] }
def nf_nanu (x : Int) (R : Ending → Heap → Prop) (H : Heap) : Prop := R (Ending.returned (Value.bool (x != x))) H
theorem vc_nanu (x : Int) (R : Ending → Heap → Prop) (H : Heap) : vcFun prog { } f53 [SV.c (SC.v (Value.int IntKind.u64 x))] R H = nf_nanu x R H := by kernel_rfl

def nf_nani (x : Int) (R : Ending → Heap → Prop) (H : Heap) : Prop := R (Ending.returned (Value.bool (x != x))) H
theorem vc_nani (x : Int) (R : Ending → Heap → Prop) (H : Heap) : vcFun prog { } f65 [SV.c (SC.v (Value.int IntKind.i64 x))] R H = nf_nani x R H := by kernel_rfl

def nf_cmpu (x : Int) (y : Int) (R : Ending → Heap → Prop) (H : Heap) : Prop := Meets prog (53 : Nat) [Value.int IntKind.u64 x] H fun (e : Ending) (H' : Nat → Option Obj) ↦ ∃ (b : Bool), e = Ending.returned (Value.bool b) ∧ Meets prog (53 : Nat) [Value.int IntKind.u64 y] H' fun (e : Ending) (H' : Nat → Option Obj) ↦ ∃ (b_1 : Bool), e = Ending.returned (Value.bool b_1) ∧ Br b (Br b_1 (R (Ending.returned (Value.int IntKind.i64 (0 : Int))) H') (R (Ending.returned (Value.int IntKind.i64 (-1 : Int))) H')) (Br b_1 (R (Ending.returned (Value.int IntKind.i64 (1 : Int))) H') (Br (decide (x < y)) (R (Ending.returned (Value.int IntKind.i64 (-1 : Int))) H') (Br (decide (x > y)) (R (Ending.returned (Value.int IntKind.i64 (1 : Int))) H') (R (Ending.returned (Value.int IntKind.i64 (0 : Int))) H'))))
theorem vc_cmpu (x : Int) (y : Int) (R : Ending → Heap → Prop) (H : Heap) : vcFun prog { } f41 [SV.c (SC.v (Value.int IntKind.u64 x)), SV.c (SC.v (Value.int IntKind.u64 y))] R H = nf_cmpu x y R H := by kernel_rfl

def nf_cmpi (x : Int) (y : Int) (R : Ending → Heap → Prop) (H : Heap) : Prop := Meets prog (65 : Nat) [Value.int IntKind.i64 x] H fun (e : Ending) (H' : Nat → Option Obj) ↦ ∃ (b : Bool), e = Ending.returned (Value.bool b) ∧ Meets prog (65 : Nat) [Value.int IntKind.i64 y] H' fun (e : Ending) (H' : Nat → Option Obj) ↦ ∃ (b_1 : Bool), e = Ending.returned (Value.bool b_1) ∧ Br b (Br b_1 (R (Ending.returned (Value.int IntKind.i64 (0 : Int))) H') (R (Ending.returned (Value.int IntKind.i64 (-1 : Int))) H')) (Br b_1 (R (Ending.returned (Value.int IntKind.i64 (1 : Int))) H') (Br (decide (x < y)) (R (Ending.returned (Value.int IntKind.i64 (-1 : Int))) H') (Br (decide (x > y)) (R (Ending.returned (Value.int IntKind.i64 (1 : Int))) H') (R (Ending.returned (Value.int IntKind.i64 (0 : Int))) H'))))
theorem vc_cmpi (x : Int) (y : Int) (R : Ending → Heap → Prop) (H : Heap) : vcFun prog { } f45 [SV.c (SC.v (Value.int IntKind.i64 x)), SV.c (SC.v (Value.int IntKind.i64 y))] R H = nf_cmpi x y R H := by kernel_rfl

def nf_cor (a : Option Addr) (n : Nat) (c : Nat) (R : Ending → Heap → Prop) (H : Heap) : Prop := a = a ∧ n = n ∧ c = c ∧ (0 : Int) = (0 : Int) ∧ a = a ∧ n = n ∧ c = c ∧ (↑n : Int) = (↑n : Int) ∧ LoopP (fun (K : (Int × PUnit) × PUnit → (Nat → Option Obj) → Prop) (p : (Int × PUnit) × PUnit) (H : Nat → Option Obj) ↦ Br (decide (p.fst.fst < (↑n : Int))) (((0 : Int) ≤ p.fst.fst ∧ p.fst.fst < (↑n : Int)) ∧ PtrK a fun (A : Addr) ↦ PtrK (some (Addr.add A (Int.toNat p.fst.fst * (1 : Nat)))) fun (a_1 : Addr) ↦ ∃ (n_1 : Int), Heap.has H a_1 [Value.int IntKind.i64 n_1] ∧ Br (n_1 != (0 : Int)) (R (Ending.returned (Value.int IntKind.i64 n_1)) H) (a = a ∧ n = n ∧ c = c ∧ (0 : Int) = (0 : Int) ∧ a = a ∧ n = n ∧ c = c ∧ (↑n : Int) = (↑n : Int) ∧ K ((IntKind.wrap IntKind.i64 (p.fst.fst + (1 : Int)), PUnit.unit), PUnit.unit) H)) (R (Ending.returned (Value.int IntKind.i64 (0 : Int))) H)) (((0 : Int), PUnit.unit), PUnit.unit) H
theorem vc_cor (a : Option Addr) (n : Nat) (c : Nat) (R : Ending → Heap → Prop) (H : Heap) : vcFun prog h_or f40 [SV.c (SC.v (Value.slice a n c))] R H = nf_cor a n c R H := by kernel_rfl

def nf_wcmp (a : Int) (b : Int) (c : Int) (d : Int) (R : Ending → Heap → Prop) (H : Heap) : Prop := ∃ (G : Nat → Option Obj), G ≤ H ∧ Meets prog (41 : Nat) [Value.int IntKind.u64 a, Value.int IntKind.u64 c] H fun (e : Ending) (H' : Nat → Option Obj) ↦ Keep G H H H' ∧ ∃ (n : Int), e = Ending.returned (Value.int IntKind.i64 n) ∧ Meets prog (41 : Nat) [Value.int IntKind.u64 b, Value.int IntKind.u64 d] (delLs H' []) fun (e : Ending) (H'_1 : Nat → Option Obj) ↦ Keep G (delLs H' []) (delLs H' []) H'_1 ∧ ∃ (n_1 : Int), e = Ending.returned (Value.int IntKind.i64 n_1) ∧ ∀ (v : Value) (H' : Nat → Option Obj), delLs H'_1 [] ≤ H' → (∀ (b : Nat), blockOf v = some b → delLs H'_1 [] b = none) → (∀ (b : Nat) (o : Obj), H' b = some o → delLs H'_1 [] b = some o ∨ blockOf v = some b) → RowAt H' v (3 : Nat) (1 : Nat) [[Value.int IntKind.i64 n], [Value.int IntKind.i64 n_1]] → Meets prog (40 : Nat) [v] H' fun (e : Ending) (H'_2 : Nat → Option Obj) ↦ Keep G (delLs H'_1 []) H' H'_2 ∧ ∃ (n : Int), e = Ending.returned (Value.int IntKind.i64 n) ∧ R (Ending.returned (Value.int IntKind.i64 n)) (delLs H'_2 [{ site := (15 : Nat), val := v, kind := LK.row (3 : Nat) (1 : Nat) }])
theorem vc_wcmp (a : Int) (b : Int) (c : Int) (d : Int) (R : Ending → Heap → Prop) (H : Heap) : vcFun prog { } f25 [SV.agg [Seg.c (SC.v (Value.int IntKind.u64 a)), Seg.c (SC.v (Value.int IntKind.u64 b))], SV.agg [Seg.c (SC.v (Value.int IntKind.u64 c)), Seg.c (SC.v (Value.int IntKind.u64 d))]] R H = nf_wcmp a b c d R H := by kernel_rfl

def nf_wgap (a : Int) (b : Int) (R : Ending → Heap → Prop) (H : Heap) : Prop := R (Ending.returned (Value.int IntKind.u32 (IntKind.wrap IntKind.u32 (maxI a b - minI a b)))) H
theorem vc_wgap (a : Int) (b : Int) (R : Ending → Heap → Prop) (H : Heap) : vcFun prog { } f39 [SV.c (SC.v (Value.int IntKind.u32 a)), SV.c (SC.v (Value.int IntKind.u32 b))] R H = nf_wgap a b R H := by kernel_rfl

def nf_wsq (a : Int) (R : Ending → Heap → Prop) (H : Heap) : Prop := Meets prog (49 : Nat) [Value.int IntKind.u64 (IntKind.wrap IntKind.u64 a), Value.int IntKind.u64 (IntKind.wrap IntKind.u64 a)] H fun (e : Ending) (H' : Nat → Option Obj) ↦ ∃ (n : Int), ∃ (n_1 : Int), e = Ending.returned (Value.tuple { toList := [Value.int IntKind.u64 n, Value.int IntKind.u64 n_1] }) ∧ R (Ending.returned (Value.agg { toList := [Value.int IntKind.u64 n, Value.int IntKind.u64 n_1] })) H'
theorem vc_wsq (a : Int) (R : Ending → Heap → Prop) (H : Heap) : vcFun prog { } f38 [SV.c (SC.v (Value.int IntKind.u32 a))] R H = nf_wsq a R H := by kernel_rfl

def nf_wadd (a : Int) (b : Int) (c : Int) (d : Int) (R : Ending → Heap → Prop) (H : Heap) : Prop := ∃ (r1 : Int), ∃ (r2 : Int), CarryAt prog (69 : Nat) b d (0 : Int) r1 r2 ∧ ∃ (r1_1 : Int), ∃ (r2_1 : Int), CarryAt prog (69 : Nat) a c r2 r1_1 r2_1 ∧ R (Ending.returned (Value.agg { toList := [Value.int IntKind.u64 r1_1, Value.int IntKind.u64 r1] })) H
theorem vc_wadd (a : Int) (b : Int) (c : Int) (d : Int) (R : Ending → Heap → Prop) (H : Heap) : vcFun prog h_add f52 [SV.agg [Seg.c (SC.v (Value.int IntKind.u64 a)), Seg.c (SC.v (Value.int IntKind.u64 b))], SV.agg [Seg.c (SC.v (Value.int IntKind.u64 c)), Seg.c (SC.v (Value.int IntKind.u64 d))]] R H = nf_wadd a b c d R H := by kernel_rfl

def nf_wsum (a : Option Addr) (n : Nat) (c : Nat) (R : Ending → Heap → Prop) (H : Heap) : Prop := a = a ∧ n = n ∧ c = c ∧ (0 : Nat) = (0 : Nat) ∧ (0 : Nat) = (0 : Nat) ∧ a = a ∧ n = n ∧ c = c ∧ (↑n : Int) = (↑n : Int) ∧ (0 : Int) = (0 : Int) ∧ (0 : Int) = (0 : Int) ∧ LoopP (fun (K : (Int × PUnit) × PUnit × (Int × Int × PUnit) × PUnit → (Nat → Option Obj) → Prop) (p : (Int × PUnit) × PUnit × (Int × Int × PUnit) × PUnit) (H : Nat → Option Obj) ↦ Br (decide (p.fst.fst < (↑n : Int))) (((0 : Int) ≤ p.fst.fst ∧ p.fst.fst < (↑n : Int)) ∧ PtrK a fun (A : Addr) ↦ PtrK (some (Addr.add A (Int.toNat p.fst.fst * (2 : Nat)))) fun (a_1 : Addr) ↦ ∃ (n_1 : Int), ∃ (n_2 : Int), Heap.has H a_1 [Value.int IntKind.u64 n_1, Value.int IntKind.u64 n_2] ∧ Meets prog (52 : Nat) [Value.agg { toList := [Value.int IntKind.u64 p.snd.snd.fst.fst, Value.int IntKind.u64 p.snd.snd.fst.snd.fst] }, Value.agg { toList := [Value.int IntKind.u64 n_1, Value.int IntKind.u64 n_2] }] H fun (e : Ending) (H' : Nat → Option Obj) ↦ ∃ (n_3 : Int), ∃ (n_4 : Int), e = Ending.returned (Value.agg { toList := [Value.int IntKind.u64 n_3, Value.int IntKind.u64 n_4] }) ∧ a = a ∧ n = n ∧ c = c ∧ (0 : Nat) = (0 : Nat) ∧ (0 : Nat) = (0 : Nat) ∧ a = a ∧ n = n ∧ c = c ∧ (↑n : Int) = (↑n : Int) ∧ (0 : Int) = (0 : Int) ∧ (0 : Int) = (0 : Int) ∧ K ((IntKind.wrap IntKind.i64 (p.fst.fst + (1 : Int)), PUnit.unit), PUnit.unit, (n_3, n_4, PUnit.unit), PUnit.unit) H') (R (Ending.returned (Value.agg { toList := [Value.int IntKind.u64 p.snd.snd.fst.fst, Value.int IntKind.u64 p.snd.snd.fst.snd.fst] })) H)) (((0 : Int), PUnit.unit), PUnit.unit, ((0 : Int), (0 : Int), PUnit.unit), PUnit.unit) H
theorem vc_wsum (a : Option Addr) (n : Nat) (c : Nat) (R : Ending → Heap → Prop) (H : Heap) : vcFun prog h_sum f37 [SV.c (SC.v (Value.slice a n c))] R H = nf_wsum a n c R H := by kernel_rfl

def nf_wbet (a : Int) (b : Int) (c : Int) (d : Int) (R : Ending → Heap → Prop) (H : Heap) : Prop := Meets prog (39 : Nat) [Value.int IntKind.u32 a, Value.int IntKind.u32 c] H fun (e : Ending) (H' : Nat → Option Obj) ↦ ∃ (n : Int), e = Ending.returned (Value.int IntKind.u32 n) ∧ Meets prog (38 : Nat) [Value.int IntKind.u32 n] H' fun (e : Ending) (H' : Nat → Option Obj) ↦ ∃ (n : Int), ∃ (n_1 : Int), e = Ending.returned (Value.agg { toList := [Value.int IntKind.u64 n, Value.int IntKind.u64 n_1] }) ∧ Meets prog (39 : Nat) [Value.int IntKind.u32 b, Value.int IntKind.u32 d] H' fun (e : Ending) (H' : Nat → Option Obj) ↦ ∃ (n_2 : Int), e = Ending.returned (Value.int IntKind.u32 n_2) ∧ Meets prog (38 : Nat) [Value.int IntKind.u32 n_2] H' fun (e : Ending) (H' : Nat → Option Obj) ↦ ∃ (n_3 : Int), ∃ (n_4 : Int), e = Ending.returned (Value.agg { toList := [Value.int IntKind.u64 n_3, Value.int IntKind.u64 n_4] }) ∧ ∀ (v : Value) (H'_1 : Nat → Option Obj), H' ≤ H'_1 → (∀ (b : Nat), blockOf v = some b → H' b = none) → (∀ (b : Nat) (o : Obj), H'_1 b = some o → H' b = some o ∨ blockOf v = some b) → RowAt H'_1 v (43 : Nat) (2 : Nat) [[Value.int IntKind.u64 n, Value.int IntKind.u64 n_1], [Value.int IntKind.u64 n_3, Value.int IntKind.u64 n_4]] → Meets prog (37 : Nat) [v] H'_1 fun (e : Ending) (H' : Nat → Option Obj) ↦ ∃ (n : Int), ∃ (n_5 : Int), e = Ending.returned (Value.agg { toList := [Value.int IntKind.u64 n, Value.int IntKind.u64 n_5] }) ∧ ∃ (es : List (List Value)), RowAt H' v (43 : Nat) (2 : Nat) es ∧ R (Ending.returned (Value.agg { toList := [Value.int IntKind.u64 n, Value.int IntKind.u64 n_5] })) (Heap.delO H' (blockOf v))
theorem vc_wbet (a : Int) (b : Int) (c : Int) (d : Int) (R : Ending → Heap → Prop) (H : Heap) : vcFun prog { } f24 [SV.c (SC.v (Value.int IntKind.u32 a)), SV.c (SC.v (Value.int IntKind.u32 b)), SV.c (SC.v (Value.int IntKind.u32 c)), SV.c (SC.v (Value.int IntKind.u32 d))] R H = nf_wbet a b c d R H := by kernel_rfl

def nf_mul64 (a : Int) (b : Int) (R : Ending → Heap → Prop) (H : Heap) : Prop := (0 : Int) ≤ (32 : Int) ∧ (0 : Int) ≤ (32 : Int) ∧ (0 : Int) ≤ (32 : Int) ∧ (0 : Int) ≤ (32 : Int) ∧ (0 : Int) ≤ (32 : Int) ∧ R (Ending.returned (Value.tuple { toList := [Value.int IntKind.u64 (IntKind.wrap IntKind.u64 (IntKind.wrap IntKind.u64 (IntKind.wrap IntKind.u64 (shrI IntKind.u64 a (32 : Int) * shrI IntKind.u64 b (32 : Int)) + shrI IntKind.u64 (IntKind.wrap IntKind.u64 (IntKind.wrap IntKind.u64 (shrI IntKind.u64 a (32 : Int) * bitOp BinOp.and IntKind.u64 b (4294967295 : Int)) + shrI IntKind.u64 (IntKind.wrap IntKind.u64 (bitOp BinOp.and IntKind.u64 a (4294967295 : Int) * bitOp BinOp.and IntKind.u64 b (4294967295 : Int))) (32 : Int))) (32 : Int)) + shrI IntKind.u64 (IntKind.wrap IntKind.u64 (bitOp BinOp.and IntKind.u64 (IntKind.wrap IntKind.u64 (IntKind.wrap IntKind.u64 (shrI IntKind.u64 a (32 : Int) * bitOp BinOp.and IntKind.u64 b (4294967295 : Int)) + shrI IntKind.u64 (IntKind.wrap IntKind.u64 (bitOp BinOp.and IntKind.u64 a (4294967295 : Int) * bitOp BinOp.and IntKind.u64 b (4294967295 : Int))) (32 : Int))) (4294967295 : Int) + IntKind.wrap IntKind.u64 (bitOp BinOp.and IntKind.u64 a (4294967295 : Int) * shrI IntKind.u64 b (32 : Int)))) (32 : Int))), Value.int IntKind.u64 (IntKind.wrap IntKind.u64 (a * b))] })) H
theorem vc_mul64 (a : Int) (b : Int) (R : Ending → Heap → Prop) (H : Heap) : vcFun prog { } f49 [SV.c (SC.v (Value.int IntKind.u64 a)), SV.c (SC.v (Value.int IntKind.u64 b))] R H = nf_mul64 a b R H := by kernel_rfl

def nf_rgap (a : Int) (b : Int) (R : Ending → Heap → Prop) (H : Heap) : Prop := Br (decide (a > b)) (R (Ending.returned (Value.int IntKind.u64 (IntKind.wrap IntKind.u64 (IntKind.wrap IntKind.u32 (a - b))))) H) (R (Ending.returned (Value.int IntKind.u64 (IntKind.wrap IntKind.u64 (IntKind.wrap IntKind.u32 (b - a))))) H)
theorem vc_rgap (a : Int) (b : Int) (R : Ending → Heap → Prop) (H : Heap) : vcFun prog { } f23 [SV.c (SC.v (Value.int IntKind.u32 a)), SV.c (SC.v (Value.int IntKind.u32 b))] R H = nf_rgap a b R H := by kernel_rfl

def nf_rbet (a : Int) (b : Int) (c : Int) (d : Int) (R : Ending → Heap → Prop) (H : Heap) : Prop := Meets prog (23 : Nat) [Value.int IntKind.u32 a, Value.int IntKind.u32 c] H fun (e : Ending) (H' : Nat → Option Obj) ↦ ∃ (n : Int), e = Ending.returned (Value.int IntKind.u64 n) ∧ Meets prog (23 : Nat) [Value.int IntKind.u32 a, Value.int IntKind.u32 c] H' fun (e : Ending) (H' : Nat → Option Obj) ↦ ∃ (n_1 : Int), e = Ending.returned (Value.int IntKind.u64 n_1) ∧ Meets prog (23 : Nat) [Value.int IntKind.u32 b, Value.int IntKind.u32 d] H' fun (e : Ending) (H' : Nat → Option Obj) ↦ ∃ (n_2 : Int), e = Ending.returned (Value.int IntKind.u64 n_2) ∧ Meets prog (23 : Nat) [Value.int IntKind.u32 b, Value.int IntKind.u32 d] H' fun (e : Ending) (H' : Nat → Option Obj) ↦ ∃ (n_3 : Int), e = Ending.returned (Value.int IntKind.u64 n_3) ∧ Br (decide (IntKind.wrap IntKind.u64 (IntKind.wrap IntKind.u64 (n * n_1) + IntKind.wrap IntKind.u64 (n_2 * n_3)) < IntKind.wrap IntKind.u64 (n * n_1))) (R (Ending.returned (Value.tuple { toList := [Value.int IntKind.u64 (1 : Int), Value.int IntKind.u64 (IntKind.wrap IntKind.u64 (IntKind.wrap IntKind.u64 (n * n_1) + IntKind.wrap IntKind.u64 (n_2 * n_3)))] })) H') (R (Ending.returned (Value.tuple { toList := [Value.int IntKind.u64 (0 : Int), Value.int IntKind.u64 (IntKind.wrap IntKind.u64 (IntKind.wrap IntKind.u64 (n * n_1) + IntKind.wrap IntKind.u64 (n_2 * n_3)))] })) H')
theorem vc_rbet (a : Int) (b : Int) (c : Int) (d : Int) (R : Ending → Heap → Prop) (H : Heap) : vcFun prog { } f13 [SV.c (SC.v (Value.int IntKind.u32 a)), SV.c (SC.v (Value.int IntKind.u32 b)), SV.c (SC.v (Value.int IntKind.u32 c)), SV.c (SC.v (Value.int IntKind.u32 d))] R H = nf_rbet a b c d R H := by kernel_rfl

def nf_rless (a : Int) (b : Int) (c : Int) (d : Int) (R : Ending → Heap → Prop) (H : Heap) : Prop := Br (decide (a < c)) (R (Ending.returned (Value.bool true)) H) (Br (a == c) (R (Ending.returned (Value.bool (decide (b < d)))) H) (R (Ending.returned (Value.bool false)) H))
theorem vc_rless (a : Int) (b : Int) (c : Int) (d : Int) (R : Ending → Heap → Prop) (H : Heap) : vcFun prog { } f14 [SV.c (SC.v (Value.int IntKind.u64 a)), SV.c (SC.v (Value.int IntKind.u64 b)), SV.c (SC.v (Value.int IntKind.u64 c)), SV.c (SC.v (Value.int IntKind.u64 d))] R H = nf_rless a b c d R H := by kernel_rfl

end Cr

set_option linter.unusedVariables false
set_option linter.unusedSimpArgs false
namespace Cr
open Go Sx
open Go.Proofs.Try
set_option linter.unusedSectionVars false
variable [Dr]
set_option maxRecDepth 100000
theorem heap_trans {A B D : Heap} (h : A ≤ B) (h' : B ≤ D) : A ≤ D := fun b o e => h' b o (h b o e)
/-- What was lent is taken off again. -/
theorem lend_off {H H' : Heap} {v : Value} (hle : H ≤ H') (hf : ∀ b, blockOf v = some b → H b = none) (hb : ∀ b o, H' b = some o → H b = some o ∨ blockOf v = some b) : H'.delO (blockOf v) = H := by
  funext b
  cases e : blockOf v with
  | none =>
    show H' b = H b
    cases q : H' b with
    | none => cases q2 : H b with
      | none => rfl
      | some o => rw [hle _ _ q2] at q; cases q
    | some o =>
      rcases hb b o q with h | h
      · exact h.symm
      · rw [e] at h; cases h
  | some k =>
    show (if b = k then none else H' b) = H b
    by_cases hbk : b = k
    · subst hbk; rw [if_pos rfl, hf b e]
    · rw [if_neg hbk]
      cases q : H' b with
      | none => cases q2 : H b with
        | none => rfl
        | some o => rw [hle _ _ q2] at q; cases q
      | some o =>
        rcases hb b o q with h | h
        · exact h.symm
        · rw [e] at h; cases h; exact (hbk rfl).elim
theorem wi64 {k : Int} (h : -9223372036854775808 ≤ k ∧ k ≤ 9223372036854775807) : IntKind.i64.wrap k = k := IntWalk.i64_in _ (by omega)
theorem wu64 {k : Int} (h : 0 ≤ k ∧ k ≤ 18446744073709551615) : IntKind.u64.wrap k = k := IntWalk.u64_in _ (by omega)
theorem wu32 {k : Int} (h : 0 ≤ k ∧ k ≤ 4294967295) : IntKind.u32.wrap k = k := IntWalk.u32_in _ (by omega)
theorem shr32 {a : Nat} : shrI .u64 (a : Int) 32 = ((a / 4294967296 : Nat) : Int) := by
  show ((a : Int).fdiv (2 ^ 32)) = _
  rw [Int.fdiv_eq_ediv_of_nonneg _ (by decide)]
  rfl
theorem mask32 {a : Nat} (h : a < 18446744073709551616) : bitOp .and .u64 (a : Int) 4294967295 = ((a % 4294967296 : Nat) : Int) := by
  have e : (BitVec.ofInt 64 (a : Int) &&& BitVec.ofInt 64 4294967295).toNat = a % 4294967296 := by
    rw [BitVec.toNat_and, BitVec.toNat_ofInt, BitVec.toNat_ofInt]
    have e1 : ((a : Int) % ((2 ^ 64 : Nat) : Int)).toNat = a := by omega
    have e2 : ((4294967295 : Int) % ((2 ^ 64 : Nat) : Int)).toNat = 2 ^ 32 - 1 := by decide
    rw [e1, e2, Nat.and_two_pow_sub_one_eq_mod]
  show IntKind.u64.wrap ((BitVec.ofInt 64 (a : Int) &&& BitVec.ofInt 64 4294967295).toNat : Int) = _
  rw [e]
  exact wu64 (by omega)
theorem wN {a : Nat} (ha : a < 18446744073709551616) : IntKind.u64.wrap (a : Int) = (a : Int) := wu64 (by omega)
theorem wM {a : Nat} : IntKind.u64.wrap (a : Int) = ((a % 18446744073709551616 : Nat) : Int) := by rw [IntKind.wrap_u64]; omega
theorem mulN (a b : Nat) : (a : Int) * (b : Int) = ((a * b : Nat) : Int) := (Int.natCast_mul a b).symm
theorem addN (a b : Nat) : (a : Int) + (b : Int) = ((a + b : Nat) : Int) := (Int.natCast_add a b).symm
/-- -1, 0, 1. -/
def sgn3 (x y : Int) : Int := if x < y then -1 else if x > y then 1 else 0
/-- The first that is not 0. -/
def orL : List Int → Int
  | [] => 0
  | x :: r => if x ≠ 0 then x else orL r
abbrev dLt (a b c d : Int) : Prop := a < c ∨ (a = c ∧ b < d)
abbrev dV (a b : Int) : Value := .agg { toList := [.int .u64 a, .int .u64 b] }
section
variable {H : Heap} {R : Ending → Heap → Prop}
theorem s_nanu {x : Int} (k : R (.returned (.bool false)) H) : Meets prog 53 [.int .u64 x] H R := by
  refine spec_of func53 (by kernel_rfl) (fun t h => by cases h) ?_ (vc_nanu x R H) ?_
  · simp [argsR, SV.rep, SC.rep, one]
  unfold nf_nanu
  rw [bne_self_eq_false]
  exact k
theorem s_nani {x : Int} (k : R (.returned (.bool false)) H) : Meets prog 65 [.int .i64 x] H R := by
  refine spec_of func65 (by kernel_rfl) (fun t h => by cases h) ?_ (vc_nani x R H) ?_
  · simp [argsR, SV.rep, SC.rep, one]
  unfold nf_nani
  rw [bne_self_eq_false]
  exact k
theorem sgn3_br {x y : Int} {Q : Int → Prop} (k : Q (sgn3 x y)) : Br (decide (x < y)) (Q (-1)) (Br (decide (x > y)) (Q 1) (Q 0)) := by
  unfold sgn3 at k
  refine br (fun q => ?_) fun q => br (fun q2 => ?_) fun q2 => ?_
  · rw [if_pos (by simpa using q)] at k; exact k
  · rw [if_neg (by simpa using q), if_pos (by simpa using q2)] at k; exact k
  · rw [if_neg (by simpa using q), if_neg (by simpa using q2)] at k; exact k
theorem s_cmpu {x y : Int} (k : R (.returned (vi (sgn3 x y))) H) : Meets prog 41 [.int .u64 x, .int .u64 y] H R := by
  refine spec_of func41 (by kernel_rfl) (fun t h => by cases h) ?_ (vc_cmpu x y R H) ?_
  · simp [argsR, SV.rep, SC.rep, one]
  unfold nf_cmpu
  refine s_nanu ⟨false, rfl, s_nanu ⟨false, rfl, br (fun q => by cases q) fun _ => br (fun q => by cases q) fun _ => ?_⟩⟩
  exact sgn3_br (Q := fun n => R (.returned (vi n)) H) k
theorem s_cmpi {x y : Int} (k : R (.returned (vi (sgn3 x y))) H) : Meets prog 45 [vi x, vi y] H R := by
  refine spec_of func45 (by kernel_rfl) (fun t h => by cases h) ?_ (vc_cmpi x y R H) ?_
  · simp [argsR, SV.rep, SC.rep, one]
  unfold nf_cmpi
  refine s_nani ⟨false, rfl, s_nani ⟨false, rfl, br (fun q => by cases q) fun _ => br (fun q => by cases q) fun _ => ?_⟩⟩
  exact sgn3_br (Q := fun n => R (.returned (vi n)) H) k
@[reducible] def cells (l : List Int) : List (List Value) := l.map fun x => [vi x]
theorem ir_get {H : Heap} {a : Option Addr} {n cp : Nat} {l : List Int} (h : SliceAt H (.slice a n cp) 1 (cells l)) {i : Nat} {x : Int} (hx : l[i]? = some x) : ∃ A, a = some A ∧ H.has (A.add (i * 1)) [vi x] := by
  obtain ⟨A, e, _, g⟩ := slice_get h (i := i) (e := [vi x]) (by simp [cells, hx])
  exact ⟨A, e, g⟩
theorem s_cor {v : Value} {l : List Int} (h : SliceAt H v 1 (cells l)) (hl : l.length ≤ 10000000000000) (k : R (.returned (vi (orL l))) H) : Meets prog 40 [v] H R := by
  obtain ⟨a, n, c, e, hn⟩ := h
  subst e
  have h : SliceAt H (.slice a n c) 1 (cells l) := ⟨a, n, c, rfl, hn⟩
  have hln : l.length = n := by simpa [cells] using hn.1
  refine spec_of func40 (by kernel_rfl) (fun t h => by cases h) ?_ (vc_cor a n c R H) ?_
  · simp [argsR, SV.rep, SC.rep, one]
  unfold nf_cor
  simp only [true_and]
  refine ⟨fun p H' => ∃ t : Nat, p.1.1 = (t : Int) ∧ t ≤ n ∧ orL l = orL (l.drop t) ∧ H' = H, fun p _ => (n - p.1.1).toNat, ⟨0, rfl, by omega, by simp, rfl⟩, ?_⟩
  rintro ⟨⟨i, _⟩, _⟩ H1 ⟨t, hi, ht, f, rfl⟩
  simp only at hi ⊢
  subst hi
  refine br (fun q1 => ?_) fun q1 => ?_
  · simp only [decide_eq_true_eq] at q1
    obtain ⟨y, hd, htk, hx⟩ := drop_cons (l := l) (k := t) (by omega)
    obtain ⟨A, e, g1⟩ := ir_get h (i := t) hx
    subst e
    refine ⟨⟨by omega, by omega⟩, ptr rfl (ptr rfl ⟨_, g1, br (fun q2 => ?_) fun q2 => ?_⟩)⟩
    · rw [f, hd, orL, if_pos (by simpa using q2)] at k
      exact k
    · rw [wi64 (by omega)]
      refine ⟨⟨t + 1, by omega, by omega, ?_, by trivial⟩, by omega⟩
      rw [f, hd, orL, if_neg (by simpa using q2)]
  · simp only [decide_eq_false_iff_not] at q1
    rw [f, List.drop_of_length_le (by omega)] at k
    exact k
def cmpD (a b c d : Int) : Int := orL [sgn3 a c, sgn3 b d]
theorem s_wcmp {a b c d : Int} (k : R (.returned (vi (cmpD a b c d))) H) : Meets prog 25 [dV a b, dV c d] H R := by
  refine spec_of func25 (by kernel_rfl) (fun t h => by cases h) ?_ (vc_wcmp a b c d R H) ?_
  · simp [argsR, SV.rep, SC.rep, one, SegsRep]
  unfold nf_wcmp
  refine ⟨H, fun _ _ e => e, s_cmpu ⟨keep_same _ _ _, _, rfl, s_cmpu ⟨keep_same _ _ _, _, rfl, fun v H' hle hf hb hrow => ?_⟩⟩⟩
  simp only [delLs_nil] at hle hf hb ⊢
  refine s_cor (l := [sgn3 a c, sgn3 b d]) (row_slice hrow) (by simp) ⟨keep_same _ _ _, _, rfl, ?_⟩
  show R _ (Heap.delO H' (blockOf v))
  rw [lend_off hle hf hb]
  exact k
theorem maxI_eq (a b : Int) : maxI a b = max a b := by unfold maxI; split <;> omega
theorem minI_eq (a b : Int) : minI a b = min a b := by unfold minI; split <;> omega
abbrev U32 (x : Int) : Prop := 0 ≤ x ∧ x ≤ 4294967295
def gapI (a b : Int) : Int := max a b - min a b
theorem gap_in {a b : Int} (ha : U32 a) (hb : U32 b) : U32 (gapI a b) := by unfold gapI; omega
theorem s_wgap {a b : Int} (ha : U32 a) (hb : U32 b) (k : R (.returned (.int .u32 (gapI a b))) H) : Meets prog 39 [.int .u32 a, .int .u32 b] H R := by
  refine spec_of func39 (by kernel_rfl) (fun t h => by cases h) ?_ (vc_wgap a b R H) ?_
  · simp [argsR, SV.rep, SC.rep, one]
  unfold nf_wgap
  have := gap_in ha hb; unfold gapI at this k
  rw [maxI_eq, minI_eq, wu32 this]
  exact k
theorem s_mul64 {a b : Nat} (ha : a < 18446744073709551616) (hb : b < 18446744073709551616) (k : R (.returned (.tuple #[.int .u64 ((a * b / 18446744073709551616 : Nat) : Int), .int .u64 ((a * b % 18446744073709551616 : Nat) : Int)])) H) :
    Meets prog 49 [.int .u64 (a : Int), .int .u64 (b : Int)] H R := by
  refine spec_of func49 (by kernel_rfl) (fun t h => by cases h) ?_ (vc_mul64 (a : Int) (b : Int) R H) ?_
  · simp [argsR, SV.rep, SC.rep, one]
  unfold nf_mul64
  obtain ⟨bd, bt, bw, hhi⟩ := Go.Lib.mul64_hi a b ha hb
  have ba := Go.Lib.half_mul_le (a := a / 4294967296) (b := b / 4294967296) (by omega) (by omega)
  have bb := Go.Lib.half_mul_le (a := a / 4294967296) (b := b % 4294967296) (by omega) (by omega)
  have bc := Go.Lib.half_mul_le (a := a % 4294967296) (b := b / 4294967296) (by omega) (by omega)
  have ba' : a / 4294967296 * (b / 4294967296) < 18446744073709551616 := by omega
  have bb' : a / 4294967296 * (b % 4294967296) < 18446744073709551616 := by omega
  have bc' : a % 4294967296 * (b / 4294967296) < 18446744073709551616 := by omega
  have bh1 : a / 4294967296 * (b / 4294967296) + (a / 4294967296 * (b % 4294967296) + a % 4294967296 * (b % 4294967296) / 4294967296) / 4294967296 < 18446744073709551616 := by omega
  have bh : a / 4294967296 * (b / 4294967296) + (a / 4294967296 * (b % 4294967296) + a % 4294967296 * (b % 4294967296) / 4294967296) / 4294967296 + ((a / 4294967296 * (b % 4294967296) + a % 4294967296 * (b % 4294967296) / 4294967296) % 4294967296 + a % 4294967296 * (b / 4294967296)) / 4294967296 < 18446744073709551616 := by omega
  refine ⟨by decide, by decide, by decide, by decide, by decide, ?_⟩
  simp only [mask32 ha, mask32 hb, shr32, mulN, addN, wN bd, wN bb', wN bt, mask32 bt, wN bc', wN bw, wN ba', wN bh1, wN bh, wM (a := a * b)]
  rw [hhi]
  exact k
theorem s_wsq {a : Int} (ha : U32 a) (k : R (.returned (dV 0 (a * a))) H) : Meets prog 38 [.int .u32 a] H R := by
  refine spec_of func38 (by kernel_rfl) (fun t h => by cases h) ?_ (vc_wsq a R H) ?_
  · simp [argsR, SV.rep, SC.rep, one]
  unfold nf_wsq
  obtain ⟨n, rfl⟩ := Int.eq_ofNat_of_zero_le ha.1
  have hn : n ≤ 4294967295 := by omega
  rw [wN (by omega)]
  have hm : n * n ≤ 4294967295 * 4294967295 := Nat.mul_le_mul hn hn
  refine s_mul64 (by omega) (by omega) ⟨_, _, rfl, ?_⟩
  rw [Nat.div_eq_of_lt (by omega), Nat.mod_eq_of_lt (by omega), ← mulN]
  exact k
theorem extAdd : ExtOK prog 69 add64Entry := ⟨f69, func69, by kernel_rfl, by kernel_rfl, by kernel_rfl, by kernel_rfl⟩
theorem s_wadd {a b c d : Int} (ha : 0 ≤ a) (hb : 0 ≤ b) (hc : 0 ≤ c) (hd : 0 ≤ d) (hb2 : b ≤ 18446744073709551615) (hd2 : d ≤ 18446744073709551615)
    (k : R (.returned (dV ((a + c + (b + d) / 18446744073709551616) % 18446744073709551616) ((b + d) % 18446744073709551616))) H) : Meets prog 52 [dV a b, dV c d] H R := by
  refine spec_of func52 (by kernel_rfl) (fun t h => by cases h) ?_ (vc_wadd a b c d R H) ?_
  · simp [argsR, SV.rep, SC.rep, one, SegsRep]
  unfold nf_wadd
  have e : b + d + 0 = b + d := by omega
  refine ⟨_, _, .inl ⟨extAdd, hb, hd, by decide, by decide, rfl, rfl⟩, ?_⟩
  rw [e]
  exact ⟨_, _, .inl ⟨extAdd, ha, hc, by omega, by omega, rfl, rfl⟩, k⟩
/-- A distance. -/
abbrev dOf (n : Int) : Value := dV (n / 18446744073709551616) (n % 18446744073709551616)
@[reducible] def dC (n : Int) : List Value := [.int .u64 (n / 18446744073709551616), .int .u64 (n % 18446744073709551616)]
theorem wadd_of {m n : Int} (hm : 0 ≤ m) (hn : 0 ≤ n) (hs : m + n < 340282366920938463463374607431768211456) (k : R (.returned (dOf (m + n))) H) : Meets prog 52 [dOf m, dOf n] H R := by
  refine s_wadd (by omega) (by omega) (by omega) (by omega) (by omega) (by omega) ?_
  have e1 : (m % 18446744073709551616 + n % 18446744073709551616) % 18446744073709551616 = (m + n) % 18446744073709551616 := by omega
  have e2 : (m / 18446744073709551616 + n / 18446744073709551616 + (m % 18446744073709551616 + n % 18446744073709551616) / 18446744073709551616) % 18446744073709551616 = (m + n) / 18446744073709551616 := by omega
  rw [e1, e2]
  exact k
theorem s_wsum {v : Value} {m n : Int} (h : SliceAt H v 2 [dC m, dC n]) (hm : 0 ≤ m ∧ m < 18446744073709551616) (hn : 0 ≤ n ∧ n < 18446744073709551616) (k : R (.returned (dOf (m + n))) H) : Meets prog 37 [v] H R := by
  obtain ⟨a, w, c, e, hn'⟩ := h
  subst e
  have h : SliceAt H (.slice a w c) 2 [dC m, dC n] := ⟨a, w, c, rfl, hn'⟩
  obtain rfl : 2 = w := by simpa using hn'.1
  refine spec_of func37 (by kernel_rfl) (fun t h => by cases h) ?_ (vc_wsum a 2 c R H) ?_
  · simp [argsR, SV.rep, SC.rep, one]
  unfold nf_wsum
  simp only [true_and]
  refine ⟨fun p H' => H' = H ∧ ((p.1.1 = 0 ∧ p.2.2.1.1 = 0 ∧ p.2.2.1.2.1 = 0) ∨ (p.1.1 = 1 ∧ p.2.2.1.1 = m / 18446744073709551616 ∧ p.2.2.1.2.1 = m % 18446744073709551616) ∨ (p.1.1 = 2 ∧ p.2.2.1.1 = (m + n) / 18446744073709551616 ∧ p.2.2.1.2.1 = (m + n) % 18446744073709551616)), fun p _ => (2 - p.1.1).toNat, ⟨rfl, .inl ⟨rfl, rfl, rfl⟩⟩, ?_⟩
  rintro ⟨⟨i, _⟩, _, ⟨x, y, _⟩, _⟩ H1 ⟨rfl, hq⟩
  simp only at hq ⊢
  rcases hq with ⟨rfl, rfl, rfl⟩ | ⟨rfl, rfl, rfl⟩ | ⟨rfl, rfl, rfl⟩
  · refine br (fun _ => ?_) fun q => by simp at q
    obtain ⟨A, e, _, g⟩ := slice_get h (i := 0) (e := dC m) rfl
    subst e
    refine ⟨by decide, ptr rfl (ptr rfl ⟨_, _, g, ?_⟩)⟩
    refine wadd_of (m := 0) (n := m) (by omega) (by omega) (by omega) ?_
    rw [Int.zero_add]
    refine ⟨_, _, rfl, ?_⟩
    exact ⟨⟨rfl, .inr (.inl ⟨rfl, rfl, rfl⟩)⟩, by decide⟩
  · refine br (fun _ => ?_) fun q => by simp at q
    obtain ⟨A, e, _, g⟩ := slice_get h (i := 1) (e := dC n) rfl
    subst e
    refine ⟨by decide, ptr rfl (ptr rfl ⟨_, _, g, ?_⟩)⟩
    refine wadd_of (m := m) (n := n) (by omega) (by omega) (by omega) ⟨_, _, rfl, ?_⟩
    exact ⟨⟨rfl, .inr (.inr ⟨rfl, rfl, rfl⟩)⟩, by decide⟩
  · exact br (fun q => by simp at q) fun _ => k
/-- The squared distance. -/
def sqd (a b c d : Int) : Int := gapI a c * gapI a c + gapI b d * gapI b d
theorem sq_in {a : Int} (h : U32 a) : 0 ≤ a * a ∧ a * a ≤ 18446744065119617025 :=
  ⟨Int.mul_nonneg h.1 h.1, by have := Int.mul_le_mul h.2 h.2 h.1 (by decide); exact this⟩
theorem sqd_in {a b c d : Int} (ha : U32 a) (hb : U32 b) (hc : U32 c) (hd : U32 d) : 0 ≤ sqd a b c d ∧ sqd a b c d ≤ 36893488130239234050 := by
  have h1 := sq_in (gap_in ha hc)
  have h2 := sq_in (gap_in hb hd)
  unfold sqd; omega
theorem s_wbet {a b c d : Int} (ha : U32 a) (hb : U32 b) (hc : U32 c) (hd : U32 d) (k : R (.returned (dOf (sqd a b c d))) H) : Meets prog 24 [.int .u32 a, .int .u32 b, .int .u32 c, .int .u32 d] H R := by
  refine spec_of func24 (by kernel_rfl) (fun t h => by cases h) ?_ (vc_wbet a b c d R H) ?_
  · simp [argsR, SV.rep, SC.rep, one]
  unfold nf_wbet
  have h1 := sq_in (gap_in ha hc)
  have h2 := sq_in (gap_in hb hd)
  refine s_wgap ha hc ⟨_, rfl, s_wsq (gap_in ha hc) ⟨_, _, rfl, s_wgap hb hd ⟨_, rfl, s_wsq (gap_in hb hd) ⟨_, _, rfl, fun v H' hle hf hb' hrow => ?_⟩⟩⟩⟩
  have e1 : dC (gapI a c * gapI a c) = [.int .u64 0, .int .u64 (gapI a c * gapI a c)] := by
    unfold dC; rw [Int.ediv_eq_zero_of_lt h1.1 (by omega), Int.emod_eq_of_lt h1.1 (by omega)]
  have e2 : dC (gapI b d * gapI b d) = [.int .u64 0, .int .u64 (gapI b d * gapI b d)] := by
    unfold dC; rw [Int.ediv_eq_zero_of_lt h2.1 (by omega), Int.emod_eq_of_lt h2.1 (by omega)]
  rw [← e1, ← e2] at hrow
  refine s_wsum (row_slice hrow) ⟨h1.1, by omega⟩ ⟨h2.1, by omega⟩ ⟨_, _, rfl, _, hrow, ?_⟩
  rw [lend_off hle hf hb']
  exact k
theorem s_rgap {a b : Int} (ha : U32 a) (hb : U32 b) (k : R (.returned (.int .u64 (gapI a b))) H) : Meets prog 23 [.int .u32 a, .int .u32 b] H R := by
  refine spec_of func23 (by kernel_rfl) (fun t h => by cases h) ?_ (vc_rgap a b R H) ?_
  · simp [argsR, SV.rep, SC.rep, one]
  unfold nf_rgap
  unfold gapI at k
  refine br (fun q => ?_) fun q => ?_
  · simp at q
    rw [wu32 (by omega), wu64 (by omega), show a - b = max a b - min a b by omega]
    exact k
  · simp at q
    rw [wu32 (by omega), wu64 (by omega), show b - a = max a b - min a b by omega]
    exact k
theorem s_rbet {a b c d : Int} (ha : U32 a) (hb : U32 b) (hc : U32 c) (hd : U32 d) (k : R (.returned (.tuple #[.int .u64 (sqd a b c d / 18446744073709551616), .int .u64 (sqd a b c d % 18446744073709551616)])) H) :
    Meets prog 13 [.int .u32 a, .int .u32 b, .int .u32 c, .int .u32 d] H R := by
  refine spec_of func13 (by kernel_rfl) (fun t h => by cases h) ?_ (vc_rbet a b c d R H) ?_
  · simp [argsR, SV.rep, SC.rep, one]
  unfold nf_rbet
  have h1 := sq_in (gap_in ha hc)
  have h2 := sq_in (gap_in hb hd)
  refine s_rgap ha hc ⟨_, rfl, s_rgap ha hc ⟨_, rfl, s_rgap hb hd ⟨_, rfl, s_rgap hb hd ⟨_, rfl, ?_⟩⟩⟩⟩
  unfold sqd at k
  rw [wu64 (k := gapI a c * gapI a c) (by omega), wu64 (k := gapI b d * gapI b d) (by omega)]
  generalize gapI a c * gapI a c = x at *
  generalize gapI b d * gapI b d = y at *
  have e : IntKind.u64.wrap (x + y) = (x + y) % 18446744073709551616 := by rw [IntKind.wrap_u64]
  rw [e]
  refine br (fun q => ?_) fun q => ?_
  · simp at q
    rw [show (x + y) / 18446744073709551616 = 1 by omega] at k
    exact k
  · simp at q
    rw [show (x + y) / 18446744073709551616 = 0 by omega] at k
    exact k
theorem s_rless {a b c d : Int} (k : R (.returned (.bool (decide (dLt a b c d)))) H) : Meets prog 14 [.int .u64 a, .int .u64 b, .int .u64 c, .int .u64 d] H R := by
  refine spec_of func14 (by kernel_rfl) (fun t h => by cases h) ?_ (vc_rless a b c d R H) ?_
  · simp [argsR, SV.rep, SC.rep, one]
  unfold nf_rless
  refine br (fun q => ?_) fun q => br (fun q2 => ?_) fun q2 => ?_
  · simp at q
    rw [decide_eq_true (by omega)] at k; exact k
  · simp at q q2
    have e : decide (b < d) = decide (dLt a b c d) := by
      by_cases h : b < d
      · rw [decide_eq_true h, decide_eq_true (by omega)]
      · rw [decide_eq_false h, decide_eq_false (by omega)]
    rw [e]; exact k
  · simp at q q2
    rw [decide_eq_false (by omega)] at k; exact k
end
end Cr

set_option linter.unusedVariables false
set_option linter.unusedSimpArgs false
namespace Cr
open Go Sx
open Go.Proofs.Try
set_option linter.unusedSectionVars false
variable [Dr]
set_option maxRecDepth 100000
section
variable {H : Heap} {R : Ending → Heap → Prop}
/-- A number with a sign. -/
abbrev sgV (s : Bool) (m : Int) : Value := .agg { toList := [.bool s, .int .u64 (m / 18446744073709551616), .int .u64 (m % 18446744073709551616)] }
def sval (s : Bool) (m : Int) : Int := if s then -m else m
def absI (a : Int) : Int := if a < 0 then -a else a
theorem s_psize {a : Int} (h : -9223372036854775807 ≤ a ∧ a ≤ 9223372036854775807) (k : R (.returned (.int .u64 (absI a))) H) : Meets prog 50 [.int .i64 a] H R := by
  refine spec_of func50 (by kernel_rfl) (fun t h => by cases h) ?_ (vc_psize a R H) ?_
  · simp [argsR, SV.rep, SC.rep, one]
  unfold nf_psize
  unfold absI at k
  refine br (fun q => ?_) fun q => ?_
  · simp only [decide_eq_true_eq] at q
    rw [if_pos q] at k
    rw [show (0 : Int) - a = -a by omega, wi64 (by omega), wu64 (by omega)]; exact k
  · simp only [decide_eq_false_iff_not] at q
    rw [if_neg q] at k
    rw [wu64 (by omega)]; exact k
theorem absI_nn (a : Int) : 0 ≤ absI a := by unfold absI; split <;> omega
theorem absI_le {a n : Int} (h : -n ≤ a ∧ a ≤ n) : absI a ≤ n := by unfold absI; split <;> omega
theorem absI_mul (a b : Int) : sval ((a < 0) != (b < 0)) (absI a * absI b) = a * b := by
  unfold sval absI
  by_cases h1 : a < 0 <;> by_cases h2 : b < 0 <;> simp [h1, h2, Int.neg_mul, Int.mul_neg]
theorem s_ptimes {a b : Int} (ha : -4294967296 ≤ a ∧ a ≤ 4294967296) (hb : -4294967296 ≤ b ∧ b ≤ 4294967296) (k : R (.returned (sgV ((a < 0) != (b < 0)) (absI a * absI b))) H) : Meets prog 34 [.int .i64 a, .int .i64 b] H R := by
  refine spec_of func34 (by kernel_rfl) (fun t h => by cases h) ?_ (vc_ptimes a b R H) ?_
  · simp [argsR, SV.rep, SC.rep, one]
  unfold nf_ptimes
  refine s_psize (by omega) ⟨_, rfl, s_psize (by omega) ⟨_, rfl, ?_⟩⟩
  have h1 := absI_nn a; have h2 := absI_nn b
  have h3 := absI_le (n := 4294967296) (by omega : -4294967296 ≤ a ∧ a ≤ 4294967296)
  have h4 := absI_le (n := 4294967296) (by omega : -4294967296 ≤ b ∧ b ≤ 4294967296)
  generalize absI a = x at *
  generalize absI b = y at *
  obtain ⟨m, rfl⟩ := Int.eq_ofNat_of_zero_le h1
  obtain ⟨n, rfl⟩ := Int.eq_ofNat_of_zero_le h2
  refine s_mul64 (by omega) (by omega) ⟨_, _, rfl, ?_⟩
  have e : ((m * n / 18446744073709551616 : Nat) : Int) = (m : Int) * n / 18446744073709551616 := by rw [Int.natCast_ediv, Int.natCast_mul]; rfl
  have e' : ((m * n % 18446744073709551616 : Nat) : Int) = (m : Int) * n % 18446744073709551616 := by rw [Int.natCast_emod, Int.natCast_mul]; rfl
  rw [e, e']
  exact k
theorem extSub : ExtOK prog 75 subEntry := ⟨f75, func75, by kernel_rfl, by kernel_rfl, by kernel_rfl, by kernel_rfl⟩
theorem s_psub {m n : Int} (h0 : 0 ≤ n) (h1 : n ≤ m) (h2 : m < 340282366920938463463374607431768211456) (k : R (.returned (dOf (m - n))) H) : Meets prog 68 [dOf m, dOf n] H R := by
  refine spec_of func68 (by kernel_rfl) (fun t h => by cases h) ?_ (vc_psub (m / 18446744073709551616) (m % 18446744073709551616) (n / 18446744073709551616) (n % 18446744073709551616) R H) ?_
  · simp [argsR, SV.rep, SC.rep, one, SegsRep]
  unfold nf_psub
  refine ⟨_, _, .inr ⟨extSub, by omega, by omega, by omega, by decide, by decide, rfl, rfl⟩, ?_⟩
  refine ⟨_, _, .inr ⟨extSub, by omega, by omega, by omega, by split <;> decide, by split <;> decide, rfl, rfl⟩, ?_⟩
  have e1 : (m % 18446744073709551616 + 18446744073709551616 - n % 18446744073709551616 - 0) % 18446744073709551616 = (m - n) % 18446744073709551616 := by omega
  have e2 : (m / 18446744073709551616 + 18446744073709551616 - n / 18446744073709551616 - (if m % 18446744073709551616 < n % 18446744073709551616 + 0 then 1 else 0)) % 18446744073709551616 = (m - n) / 18446744073709551616 := by split <;> omega
  rw [e1, e2]
  exact k
theorem cmpD_div {m n : Int} : (cmpD (m / 18446744073709551616) (m % 18446744073709551616) (n / 18446744073709551616) (n % 18446744073709551616) ≥ 0) ↔ n ≤ m := by
  unfold cmpD sgn3
  simp only [orL]
  by_cases q1 : m / 18446744073709551616 < n / 18446744073709551616
  · simp [q1]; omega
  · by_cases q2 : m / 18446744073709551616 > n / 18446744073709551616
    · simp [q1, q2]; omega
    · by_cases q3 : m % 18446744073709551616 < n % 18446744073709551616
      · simp [q1, q2, q3]; omega
      · by_cases q4 : m % 18446744073709551616 > n % 18446744073709551616
        · simp [q1, q2, q3, q4]; omega
        · simp [q1, q2, q3, q4]; omega
theorem s_pplus {s t : Bool} {m n : Int} (hm : 0 ≤ m ∧ m < 40000000000000000000) (hn : 0 ≤ n ∧ n < 40000000000000000000)
    (k : ∀ u x, 0 ≤ x → x < 80000000000000000000 → sval u x = sval s m + sval t n → R (.returned (sgV u x)) H) : Meets prog 51 [sgV s m, sgV t n] H R := by
  refine spec_of func51 (by kernel_rfl) (fun t h => by cases h) ?_ (vc_pplus s (m / 18446744073709551616) (m % 18446744073709551616) t (n / 18446744073709551616) (n % 18446744073709551616) R H) ?_
  · simp [argsR, SV.rep, SC.rep, one, SegsRep]
  unfold nf_pplus
  refine br (fun q => ?_) fun q => ?_
  · have q : s = t := by simpa using q
    subst q
    refine ⟨fun _ => none, fun _ _ e => (by cases e), wadd_of hm.1 hn.1 (by omega) ⟨keep_same _ _ _, _, _, rfl, ?_⟩⟩
    refine k s (m + n) (by omega) (by omega) ?_
    unfold sval; split <;> omega
  · have q : s ≠ t := by simpa using q
    have hst : t = !s := by cases s <;> cases t <;> simp_all
    refine s_wcmp ⟨_, rfl, br (fun q2 => ?_) fun q2 => ?_⟩
    · have q2 : n ≤ m := cmpD_div.1 (by simpa using q2)
      refine ⟨fun _ => none, fun _ _ e => (by cases e), s_psub hn.1 q2 (by omega) ⟨keep_same _ _ _, _, _, rfl, ?_⟩⟩
      refine k s (m - n) (by omega) (by omega) ?_
      subst hst
      unfold sval; cases s <;> simp <;> omega
    · have q2 : ¬ n ≤ m := fun hle => by
        have := cmpD_div.2 hle
        simp only [decide_eq_false_iff_not] at q2
        exact q2 this
      refine ⟨fun _ => none, fun _ _ e => (by cases e), s_psub hm.1 (by omega) (by omega) ⟨keep_same _ _ _, _, _, rfl, ?_⟩⟩
      refine k t (n - m) (by omega) (by omega) ?_
      subst hst
      unfold sval; cases s <;> simp <;> omega
theorem s_pminus {s t : Bool} {m n : Int} (hm : 0 ≤ m ∧ m < 40000000000000000000) (hn : 0 ≤ n ∧ n < 40000000000000000000)
    (k : ∀ u x, 0 ≤ x → x < 80000000000000000000 → sval u x = sval s m - sval t n → R (.returned (sgV u x)) H) : Meets prog 36 [sgV s m, sgV t n] H R := by
  refine spec_of func36 (by kernel_rfl) (fun t h => by cases h) ?_ (vc_pminus s (m / 18446744073709551616) (m % 18446744073709551616) t (n / 18446744073709551616) (n % 18446744073709551616) R H) ?_
  · simp [argsR, SV.rep, SC.rep, one, SegsRep]
  unfold nf_pminus
  refine s_pplus (s := s) (t := !t) hm hn fun u x h1 h2 h3 => ⟨_, _, _, rfl, k u x h1 h2 ?_⟩
  rw [h3]; unfold sval; cases t <;> simp <;> omega
theorem memN_one' {a t : Nat} (h : memN [a] t = true) : t = a := by
  simp only [memN] at h
  split at h
  · rename_i e; exact (Nat.eq_of_beq_eq_true e).symm
  · cases h
theorem eqs_dist : ∀ t, memN [43] t = true → EqOK prog t := fun t h => by
  obtain rfl : t = 43 := memN_one' h
  exact eqOK_of (by kernel_rfl) (by kernel_rfl) (by kernel_rfl)
theorem s_psign {s : Bool} {m : Int} (hm : 0 ≤ m) (k : R (.returned (vi (sgn3 (sval s m) 0))) H) : Meets prog 22 [sgV s m] H R := by
  refine spec_of func22 (by kernel_rfl) eqs_dist ?_ (vc_psign s (m / 18446744073709551616) (m % 18446744073709551616) R H) ?_
  · simp [argsR, SV.rep, SC.rep, one, SegsRep]
  unfold nf_psign
  unfold sval sgn3 at k
  simp only [andO]
  refine br (fun q => ?_) fun q => ?_
  · simp only [Bool.and_eq_true, beq_iff_eq] at q
    have hm0 : m = 0 := by omega
    subst hm0
    simpa using k
  · have hm0 : m ≠ 0 := fun e => by subst e; simp at q
    refine br (fun q2 => ?_) fun q2 => ?_
    · subst q2
      simp only [if_true] at k
      rw [if_pos (by omega)] at k; exact k
    · have q2 : s = false := by simpa using q2
      subst q2
      simp only [Bool.false_eq_true, if_false] at k
      rw [if_neg (by omega), if_pos (by omega)] at k; exact k
theorem s_pgap {a b : Int} (ha : U32 a) (hb : U32 b) (k : R (.returned (vi (b - a))) H) : Meets prog 35 [.int .u32 a, .int .u32 b] H R := by
  refine spec_of func35 (by kernel_rfl) (fun t h => by cases h) ?_ (vc_pgap a b R H) ?_
  · simp [argsR, SV.rep, SC.rep, one]
  unfold nf_pgap
  rw [wi64 (k := b) (by omega), wi64 (k := a) (by omega), wi64 (by omega)]
  exact k
/-- Twice the area, with a sign. -/
def crs (p q r : Pt) : Int := (q.x - p.x) * (r.y - p.y) - (q.y - p.y) * (r.x - p.x)
abbrev PtC (p : Pt) : Prop := U32 p.x ∧ U32 p.y
theorem mul_le {a b : Int} (ha : -4294967295 ≤ a ∧ a ≤ 4294967295) (hb : -4294967295 ≤ b ∧ b ≤ 4294967295) : absI a * absI b ≤ 18446744065119617025 := by
  have h1 := absI_nn a; have h2 := absI_nn b
  have h3 := absI_le (n := 4294967295) ha
  have h4 := absI_le (n := 4294967295) hb
  exact Int.mul_le_mul h3 h4 h2 (by decide)
theorem s_pturn {p q r : Pt} (hp : PtC p) (hq : PtC q) (hr : PtC r) (k : ∀ u x, 0 ≤ x → sval u x = crs p q r → R (.returned (sgV u x)) H) : Meets prog 21 [ptV p, ptV q, ptV r] H R := by
  refine spec_of func21 (by kernel_rfl) (fun t h => by cases h) ?_ (vc_pturn p.id p.x p.y p.data q.id q.x q.y q.data r.id r.x r.y r.data R H) ?_
  · simp [argsR, SV.rep, SC.rep, one, SegsRep]
  unfold nf_pturn
  obtain ⟨hp1, hp2⟩ := hp; obtain ⟨hq1, hq2⟩ := hq; obtain ⟨hr1, hr2⟩ := hr
  have b1 := mul_le (a := q.x - p.x) (b := r.y - p.y) (by omega) (by omega)
  have b2 := mul_le (a := q.y - p.y) (b := r.x - p.x) (by omega) (by omega)
  have c1 := Int.mul_nonneg (absI_nn (q.x - p.x)) (absI_nn (r.y - p.y))
  have c2 := Int.mul_nonneg (absI_nn (q.y - p.y)) (absI_nn (r.x - p.x))
  refine ⟨fun _ => none, fun _ _ e => (by cases e), ?_⟩
  refine s_pgap hp1 hq1 ⟨keep_same _ _ _, _, rfl, s_pgap hp2 hr2 ⟨keep_same _ _ _, _, rfl, s_ptimes (by omega) (by omega) ⟨keep_same _ _ _, _, _, _, rfl, ?_⟩⟩⟩
  refine s_pgap hp2 hq2 ⟨keep_same _ _ _, _, rfl, s_pgap hp1 hr1 ⟨keep_same _ _ _, _, rfl, s_ptimes (by omega) (by omega) ⟨keep_same _ _ _, _, _, _, rfl, ?_⟩⟩⟩
  refine s_pminus ⟨c1, by omega⟩ ⟨c2, by omega⟩ fun u x h1 h2 h3 => ⟨keep_same _ _ _, _, _, _, rfl, ?_⟩
  rw [absI_mul, absI_mul] at h3
  exact k u x h1 h3
theorem s_pTurn {p q r : Pt} (hp : PtC p) (hq : PtC q) (hr : PtC r) (k : R (.returned (vi (sgn3 (crs p q r) 0))) H) : Meets prog 10 [ptV p, ptV q, ptV r] H R := by
  refine spec_of func10 (by kernel_rfl) (fun t h => by cases h) ?_ (vc_pTurn p.id p.x p.y p.data q.id q.x q.y q.data r.id r.x r.y r.data R H) ?_
  · simp [argsR, SV.rep, SC.rep, one, SegsRep]
  unfold nf_pTurn
  refine s_pturn hp hq hr fun u x h1 h2 => ⟨_, _, _, rfl, s_psign h1 ⟨_, rfl, ?_⟩⟩
  rw [h2]; exact k
theorem s_pbet {a b c : Int} (k : R (.returned (.bool (decide (min b c ≤ a ∧ a ≤ max b c)))) H) : Meets prog 67 [.int .u32 a, .int .u32 b, .int .u32 c] H R := by
  refine spec_of func67 (by kernel_rfl) (fun t h => by cases h) ?_ (vc_pbet a b c R H) ?_
  · simp [argsR, SV.rep, SC.rep, one]
  unfold nf_pbet
  rw [minI_eq, maxI_eq]
  refine br (fun q => ?_) fun q => ?_
  · simp only [decide_eq_true_eq] at q
    have : decide (min b c ≤ a ∧ a ≤ max b c) = decide (a ≤ max b c) := by rw [decide_eq_decide]; exact ⟨fun h => h.2, fun h => ⟨q, h⟩⟩
    rw [this] at k; exact k
  · simp only [decide_eq_false_iff_not] at q
    have : decide (min b c ≤ a ∧ a ≤ max b c) = false := by simp; omega
    rw [this] at k; exact k
/-- Is a point on the side from one to another one? -/
def onS (p q r : Pt) : Bool := decide (crs p q r = 0 ∧ (min p.x q.x ≤ r.x ∧ r.x ≤ max p.x q.x) ∧ (min p.y q.y ≤ r.y ∧ r.y ≤ max p.y q.y))
theorem s_pside {p q r : Pt} (hp : PtC p) (hq : PtC q) (hr : PtC r) (k : R (.returned (.bool (onS p q r))) H) : Meets prog 47 [ptV p, ptV q, ptV r] H R := by
  refine spec_of func47 (by kernel_rfl) (fun t h => by cases h) ?_ (vc_pside p.id p.x p.y p.data q.id q.x q.y q.data r.id r.x r.y r.data R H) ?_
  · simp [argsR, SV.rep, SC.rep, one, SegsRep]
  unfold nf_pside
  unfold onS at k
  have hz : (sgn3 (crs p q r) 0 == 0) = decide (crs p q r = 0) := by
    unfold sgn3; split <;> (try split) <;> simp <;> omega
  refine s_pTurn hp hq hr ⟨_, rfl, br (fun q1 => ?_) fun q1 => ?_⟩
  · rw [hz] at q1
    simp only [decide_eq_true_eq] at q1
    refine s_pbet ⟨_, rfl, br (fun q2 => ?_) fun q2 => ?_⟩
    · simp only [decide_eq_true_eq] at q2
      refine s_pbet ⟨_, rfl, ?_⟩
      have : decide (crs p q r = 0 ∧ (min p.x q.x ≤ r.x ∧ r.x ≤ max p.x q.x) ∧ (min p.y q.y ≤ r.y ∧ r.y ≤ max p.y q.y)) = decide (min p.y q.y ≤ r.y ∧ r.y ≤ max p.y q.y) := by
        rw [decide_eq_decide]; exact ⟨fun h => h.2.2, fun h => ⟨q1, q2, h⟩⟩
      rw [this] at k; exact k
    · simp only [decide_eq_false_iff_not] at q2
      have : decide (crs p q r = 0 ∧ (min p.x q.x ≤ r.x ∧ r.x ≤ max p.x q.x) ∧ (min p.y q.y ≤ r.y ∧ r.y ≤ max p.y q.y)) = false := by
        simp only [decide_eq_false_iff_not]; exact fun h => q2 h.2.1
      rw [this] at k; exact k
  · rw [hz] at q1
    simp only [decide_eq_false_iff_not] at q1
    have : decide (crs p q r = 0 ∧ (min p.x q.x ≤ r.x ∧ r.x ≤ max p.x q.x) ∧ (min p.y q.y ≤ r.y ∧ r.y ≤ max p.y q.y)) = false := by
      simp only [decide_eq_false_iff_not]; exact fun h => q1 h.1
    rw [this] at k; exact k
end
end Cr

set_option linter.unusedVariables false
set_option linter.unusedSimpArgs false
namespace Sx
open Go Go.Proofs Go.Shelf Go.RowKit Go.Lib Go.Sort
set_option linter.unusedSectionVars false
variable [Dr]
/-- A row's block holds other cells: what is known then. -/
theorem put_row {β : Type} [Inhabited β] {H : Heap} {w : World} {b o cap ty sz : Nat} {c : Array Value} {es es' : List (List Value)} (hs : H.sub w)
    (hb : H b = some (.cells c ty (0, 0))) (hcap : es.length ≤ cap) (hsz : o + cap * sz ≤ c.size)
    (e : β → Value) (d : Array β) (rest : List Value) (hd : d.toList.map e = es'.flatten ++ rest) (hlen : es'.length ≤ es.length) (hds : d.size = es.length * sz)
    (h1 : ∀ x ∈ es', x.length = sz) (h2 : ∀ x ∈ es', ∀ y ∈ x, one y = true) (m : Nat) (os : Array Obj) :
    ∃ H', Step H w H' (grow (putRow e (Sort.ahead w m) b o d) os) ∧ RowAt H' (.slice (some ⟨b, o, none⟩) es'.length cap) ty sz es' ∧ Mod (.slice (some ⟨b, o, none⟩) es'.length cap) H H' := by
  have hwb := hs b _ hb
  have hlt : b < w.heap.size := (Array.getElem?_eq_some_iff.1 hwb).1
  have hm2 : es.length * sz ≤ cap * sz := Nat.mul_le_mul_right _ hcap
  have hc' : (putCells e o d c).size = c.size := by simp [putCells]
  have hheap : (grow (putRow e (Sort.ahead w m) b o d) os).heap = (w.heap.modify b (onCells (putCells e o d))) ++ os := rfl
  have hat : ∀ b', b' < w.heap.size → (grow (putRow e (Sort.ahead w m) b o d) os).heap[b']? = if b = b' then some (.cells (putCells e o d c) ty (0, 0)) else w.heap[b']? := by
    intro b' hb'
    rw [hheap, Array.getElem?_append_left (by simpa using hb'), Array.getElem?_modify]
    by_cases q : b = b'
    · subst q
      rw [if_pos rfl, if_pos rfl, hwb]
      rfl
    · rw [if_neg q, if_neg q]
  refine ⟨H.upd b (.cells (putCells e o d c) ty (0, 0)), ⟨?_, rfl, ⟨rfl, fun _ => Nat.le_add_right _ _⟩, rfl, ?_, ?_, ?_⟩, .inr ⟨b, o, cap, putCells e o d c, rfl, upd_same _ _ _, by omega, by rw [hc']; exact hsz, h1, ?_, h2⟩, ?_⟩
  · intro b' ob hb'
    by_cases q : b' = b
    · subst q
      rw [upd_same] at hb'
      rw [hat _ hlt, if_pos rfl]
      exact hb'
    · rw [upd_ne _ _ q] at hb'
      have := hs b' ob hb'
      rw [hat b' (Array.getElem?_eq_some_iff.1 this).1, if_neg (Ne.symm q)]
      exact this
  · rw [hheap]; simp
  · intro b' hb' e'
    rw [hat b' hb', if_neg (by rintro rfl; rw [hb] at e'; cases e')]
  · intro b' hb' e'
    rw [upd_ne _ _ (by rintro rfl; rw [hb] at e'; cases e')]
    exact e'
  · have hfl : es'.flatten.length = es'.length * sz := by
      have : ∀ (l : List (List Value)), (∀ x ∈ l, x.length = sz) → l.flatten.length = l.length * sz := by
        intro l
        induction l with
        | nil => intro _; simp
        | cons x r ih =>
          intro h
          rw [List.flatten_cons, List.length_append, ih fun y hy => h y (List.mem_cons_of_mem _ hy), h x List.mem_cons_self, List.length_cons, Nat.add_mul, Nat.one_mul, Nat.add_comm]
      exact this es' h1
    have hml : es'.length * sz ≤ es.length * sz := Nat.mul_le_mul_right _ hlen
    refine List.ext_getElem? fun j => ?_
    by_cases hj : j < es'.length * sz
    · rw [List.getElem?_take_of_lt hj, List.getElem?_drop, Array.getElem?_toList]
      have hjc : o + j < c.size := by omega
      have e1 : (putCells e o d c)[o + j]? = some (e d[j]!) := by
        unfold putCells
        rw [Array.getElem?_mapIdx, Array.getElem?_eq_getElem hjc]
        simp only [Option.map_some]
        rw [if_pos ⟨by omega, by omega⟩]
        congr 3
        omega
      rw [e1]
      have hjd : j < d.size := by omega
      have e2 : (d.toList.map e)[j]? = some (e d[j]!) := by
        rw [List.getElem?_map, Array.getElem?_toList, Array.getElem?_eq_getElem hjd, getElem!_pos d j hjd]
        rfl
      rw [hd, List.getElem?_append_left (by omega)] at e2
      exact e2.symm
    · rw [List.getElem?_eq_none (by rw [List.length_take]; omega), List.getElem?_eq_none (by omega)]
  · intro b' hb'
    simp [blockOf] at hb'
    exact upd_ne _ _ (fun e => hb' e.symm)
section
variable {P : Program} {ρ : Ren} {α : Type} [Inhabited α]
/-- A comparing function over structs. -/
def CmpM (P : Program) (g : Nat) (enc : α → List Value) (cf : α → α → Int) : Prop :=
  ∀ [Dr] (x y : α) (H : Heap) (R : Ending → Heap → Prop), R (.returned (.int .i64 (cf x y))) H → Meets P g [.agg (enc x).toArray, .agg (enc y).toArray] H R
@[reducible] def drOn : Dr := ⟨True⟩
theorem grow_of [D : Dr] (hD : D.on) {w w' : World} (st : Step (full w) w (full w) w') : ∃ q os, w' = grow (w.drewN q) os := by
  refine ⟨w'.drawn - w.drawn, w'.heap.extract w.heap.size w'.heap.size, ?_⟩
  have e1 : w'.heap = w.heap ++ w'.heap.extract w.heap.size w'.heap.size := by
    apply Array.ext_getElem?
    intro i
    by_cases hi : i < w.heap.size
    · rw [Array.getElem?_append_left hi]
      have : full w i = some w.heap[i] := Array.getElem?_eq_getElem hi
      rw [st.sub i _ this, Array.getElem?_eq_getElem hi]
    · rw [Array.getElem?_append_right (by omega), Array.getElem?_extract]
      have := st.size
      split
      · congr 1; omega
      · rw [Array.getElem?_eq_none (by omega)]
  have e2 := st.tape.dr hD
  cases w; cases w'
  have h1 := st.os; have h2 := st.tape.eq; have h3 := st.output
  simp only at h1 h2 h3 e1 e2
  subst h1 h2 h3
  simp only [grow, World.drewN]
  congr 1
  omega
theorem cmpLays {g : Nat} {enc : α → List Value} {cf : α → α → Int} (hc : CmpM P g enc cf) (k blk off size : Nat) (w : World) : CmpLays P g #[] enc k cf blk off size w := by
  intro m os dk hs x y
  have h := (@hc drOn x y (full (sortWorldK enc k w blk off m dk os)) (fun e H' => e = .returned (.int .i64 (cf x y)) ∧ H' = full (sortWorldK enc k w blk off m dk os)) ⟨rfl, rfl⟩).2 _ (fun b o e => e)
  refine h.mono ?_
  rintro e w' ⟨H', st, rfl, rfl⟩
  exact ⟨rfl, grow_of (D := drOn) trivial st⟩
theorem flatK_list {enc : α → List Value} {k : Nat} (hk : ∀ x, (enc x).length = k) (d : Array α) : (flatK enc k d).toList.map id = (d.toList.map enc).flatten ++ [] := by
  rw [List.map_id, List.append_nil]
  have hfl : ∀ l : List α, (l.map enc).flatten.length = l.length * k := by
    intro l
    induction l with
    | nil => simp
    | cons x r ih => rw [List.map_cons, List.flatten_cons, List.length_append, ih, hk, List.length_cons, Nat.add_mul, Nat.one_mul, Nat.add_comm]
  refine List.ext_getElem? fun j => ?_
  by_cases hj : j < d.size * k
  · have hk0 : 0 < k := by cases k with | zero => simp at hj | succ n => omega
    have e0 := get_flatK enc k d j hj
    have hs : j < (flatK enc k d).size := by simpa using hj
    rw [Array.getElem?_toList, Array.getElem?_eq_getElem hs, ← getElem!_pos _ j hs, e0]
    have hq : j / k < d.size := (Nat.div_lt_iff_lt_mul hk0).2 hj
    have hes : ∀ e ∈ d.toList.map enc, e.length = k := by intro e he; simp at he; obtain ⟨x, _, rfl⟩ := he; exact hk x
    have he : (d.toList.map enc)[j / k]? = some (enc d[j / k]!) := by
      rw [List.getElem?_map, Array.getElem?_toList, Array.getElem?_eq_getElem hq, getElem!_pos d _ hq]; rfl
    have := flatten_get hes he (q := j % k) (Nat.mod_lt _ hk0)
    rw [Nat.div_add_mod' j k] at this
    rw [this, List.getElem!_eq_getElem?_getD, List.getElem?_eq_getElem (by rw [hk]; exact Nat.mod_lt _ hk0)]
    rfl
  · rw [List.getElem?_eq_none (by simpa using hj), List.getElem?_eq_none (by rw [hfl]; simpa using hj)]
theorem holds_row {H : Heap} {w : World} {b o cap ty sz : Nat} {c : Array Value} {es : List (List Value)} {β : Type} [Inhabited β] (hs : H.sub w)
    (hb : H b = some (.cells c ty (0, 0))) (hcap : es.length ≤ cap) (hsz : o + cap * sz ≤ c.size) (hes : ∀ x ∈ es, x.length = sz) (hfl : (c.toList.drop o).take (es.length * sz) = es.flatten)
    (e : β → Value) (d : Array β) (hd : d.toList.map e = es.flatten) (hds : d.size = es.length * sz) : Holds e w b o d := by
  intro j hj
  have hwb := hs b _ hb
  have hm2 : es.length * sz ≤ cap * sz := Nat.mul_le_mul_right _ hcap
  refine ⟨?_, ?_⟩
  · unfold World.cell?
    rw [show (⟨b, o + j, none⟩ : Addr).block = b from rfl, hwb]
    show (if (none : Option _).isSome then none else c[o + j]?) = _
    rw [if_neg (by simp)]
    have e1 : (es.flatten)[j]? = c[o + j]? := by
      rw [← hfl, List.getElem?_take_of_lt (by omega), List.getElem?_drop, Array.getElem?_toList]
    rw [← e1, ← hd, List.getElem?_map, Array.getElem?_toList, Array.getElem?_eq_getElem hj, getElem!_pos d j hj]
    rfl
  · unfold World.frozen?
    rw [show (⟨b, o + j, none⟩ : Addr).block = b from rfl, hwb]
    show (decide (0 ≤ o + j) && decide (o + j < 0)) = false
    simp
theorem callable_enters {g : Nat} (h : callable P g = true) : ∀ args w, (callFunc g args).run P w = .ok (.enter g args) w := fun args w => callable_run h args
/-- **slices.SortFunc**: a permutation, sorted. -/
theorem meets_sortFunc (L : SlLaysF0.n6 P ρ) {k : Nat} (aE : ∀ w, (isAgg (ρ.t 24)).run P w = .ok true w) (zE : ∀ w, (Go.sizeOf (ρ.t 24)).run P w = .ok k w) {enc : α → List Value} (hk : ∀ x, (enc x).length = k)
    (h1 : ∀ x, ∀ v ∈ enc x, one v = true) {cf : α → α → Int} (hO : SWO (ltOf cf)) {g : Nat} (hg : callable P g = true) (hsf : callable P (ρ.f 6) = true) (hc : CmpM P g enc cf)
    {H : Heap} {R : Ending → Heap → Prop} {v : Value} {ty : Nat} {l : List α} (h : RowAt H v ty k (l.map enc)) (hl : l.length < 4611686018427387904)
    (K : ∀ (d : List α) (H' : Heap), d.Perm l → d.Pairwise (fun x y => ltOf cf y x = false) → RowAt H' v ty k (d.map enc) → Mod v H H' → R (.returned (.tuple #[])) H') :
    Meets P (ρ.f 6) [v, .func (.func g) #[] #[]] H R := by
  refine ⟨hsf, fun w hw => ?_⟩
  rcases h with ⟨rfl, he⟩ | ⟨b, o, cap, c, rfl, hb, hcap, hsz, hes, hfl, hon⟩
  · have hl0 : l = [] := by cases l with | nil => rfl | cons _ _ => simp at he
    subst hl0
    refine (AnyF.slices_SortFunc_none L none 0 (.func (.func g) #[] #[]) w).mono ?_
    rintro e w' ⟨rfl, rfl⟩
    exact ⟨H, ⟨hw, rfl, Tp.refl _, rfl, Nat.le_refl _, fun _ _ _ => rfl, fun _ _ e => e⟩, K [] H (List.Perm.refl _) List.Pairwise.nil (.inl ⟨rfl, rfl⟩) (Mod.refl _ _)⟩
  · have hH : HoldsK enc k w b o l.toArray := by
      refine holds_row (es := l.map enc) hw hb hcap hsz hes hfl id (flatK enc k l.toArray) ?_ (by simp)
      have := flatK_list hk l.toArray
      rw [this]; simp
    have hblk : b < w.heap.size := (Array.getElem?_eq_some_iff.1 (hw b _ hb)).1
    have hone : ∀ x, ∀ v ∈ enc x, v.oneCell' = true := fun x v hv => by
      have := h1 x v hv
      cases v <;> first | rfl | cases this
    have h := AnyQ.slices_SortFunc L k aE zE enc hk hone cf hO g #[] b o cap l.toArray w (callable_enters hg) (cmpLays hc k b o _ w) hH hblk (by simpa using hl)
    have ea : (#[.slice (some ⟨b, o, none⟩) l.toArray.size cap, .func (.func g) #[] #[]] : Array Value) = [Value.slice (some ⟨b, o, none⟩) (l.map enc).length cap, .func (.func g) #[] #[]].toArray := by simp
    rw [ea] at h
    refine h.mono ?_
    rintro e w' ⟨rfl, d, n, os, hp, hso, rfl⟩
    obtain ⟨hds, _, hperm⟩ := hp
    have e1 : (d.extract 0 l.toArray.size).toList = d.toList := by rw [← hds]; simp
    have e2 : (l.toArray.extract 0 l.toArray.size).toList = l := by simp
    rw [e1, e2] at hperm
    have hdl : d.size = l.length := by simpa using hds
    obtain ⟨H', st, hr, hm⟩ := put_row (es := l.map enc) (es' := d.toList.map enc) hw hb hcap hsz id (flatK enc k d) [] (flatK_list hk d) (by simp [hdl]) (by simp [hdl])
      (by intro x hx; simp at hx; obtain ⟨y, _, rfl⟩ := hx; exact hk y) (by intro x hx y hy; simp at hx; obtain ⟨z, _, rfl⟩ := hx; exact h1 z y hy) n os
    have el : (d.toList.map enc).length = (l.map enc).length := by simp [hdl]
    rw [el] at hr hm
    refine ⟨H', st, K d.toList H' hperm ?_ hr hm⟩
    rw [List.pairwise_iff_getElem]
    intro i j hi hj hij
    have := hso i j (Nat.zero_le _) hij (by simpa [hdl] using hj)
    rw [getElem!_pos d j (by simpa using hj), getElem!_pos d i (by simpa using hi)] at this
    simpa using this
end
end Sx

set_option linter.unusedVariables false
set_option linter.unusedSimpArgs false
set_option maxRecDepth 100000
namespace Go.Proofs
def sortPt_ren : Go.Shelf.Ren := ⟨fun | 6 => 27 | 15 => 43 | 14 => 42 | 28 => 62 | 29 => 63 | 20 => 54 | 21 => 55 | 22 => 56 | 23 => 57 | 24 => 58 | 25 => 59 | 26 => 60 | 27 => 61 | 46 => 70 | 47 => 71 | 48 => 72 | 49 => 73 | 50 => 74 | 57 => 76 | n => n, fun | 22 => 22 | 24 => 28 | 25 => 52 | 3 => 3 | 39 => 68 | 0 => 0 | 53 => 26 | 55 => 34 | 4 => 4 | 46 => 81 | 45 => 80 | 50 => 85 | 5 => 5 | 9 => 9 | 66 => 94 | 70 => 98 | 76 => 100 | 77 => 101 | n => n, fun | n => n⟩
theorem sortPt : Go.Proofs.SlLaysF0.n6 Try.prog sortPt_ren := {
  mixed := by kernel_rfl,
  f6 := ⟨Try.f27.name, by decide, Try.func27.trans (congrArg some (by kernel_rfl))⟩,
  f14 := ⟨Try.f42.name, by decide, Try.func42.trans (congrArg some (by kernel_rfl))⟩,
  f15 := Try.func43.trans (congrArg some (by kernel_rfl)),
  f20 := ⟨Try.f54.name, by decide, Try.func54.trans (congrArg some (by kernel_rfl))⟩,
  f21 := ⟨Try.f55.name, by decide, Try.func55.trans (congrArg some (by kernel_rfl))⟩,
  f22 := ⟨Try.f56.name, by decide, Try.func56.trans (congrArg some (by kernel_rfl))⟩,
  f23 := ⟨Try.f57.name, by decide, Try.func57.trans (congrArg some (by kernel_rfl))⟩,
  f24 := ⟨Try.f58.name, by decide, Try.func58.trans (congrArg some (by kernel_rfl))⟩,
  f25 := ⟨Try.f59.name, by decide, Try.func59.trans (congrArg some (by kernel_rfl))⟩,
  f26 := ⟨Try.f60.name, by decide, Try.func60.trans (congrArg some (by kernel_rfl))⟩,
  f27 := ⟨Try.f61.name, by decide, Try.func61.trans (congrArg some (by kernel_rfl))⟩,
  f28 := Try.func62.trans (congrArg some (by kernel_rfl)),
  f29 := Try.func63.trans (congrArg some (by kernel_rfl)),
  f46 := ⟨Try.f70.name, by decide, Try.func70.trans (congrArg some (by kernel_rfl))⟩,
  f47 := Try.func71.trans (congrArg some (by kernel_rfl)),
  f48 := Try.func72.trans (congrArg some (by kernel_rfl)),
  f49 := ⟨Try.f73.name, by decide, Try.func73.trans (congrArg some (by kernel_rfl))⟩,
  f50 := ⟨Try.f74.name, by decide, Try.func74.trans (congrArg some (by kernel_rfl))⟩,
  f57 := ⟨Try.f76.name, by decide, Try.func76.trans (congrArg some (by kernel_rfl))⟩,
  t0 := Try.underlying0,
  a0 := Try.isAgg0,
  z0 := Try.sizeOf0,
  v0 := Try.zeroValue0,
  t3 := Try.underlying3,
  a3 := Try.isAgg3,
  z3 := Try.sizeOf3,
  v3 := Try.zeroValue3,
  t4 := Try.underlying4,
  a4 := Try.isAgg4,
  z4 := Try.sizeOf4,
  v4 := Try.zeroValue4,
  t5 := Try.underlying5,
  a5 := Try.isAgg5,
  z5 := Try.sizeOf5,
  v5 := Try.zeroValue5,
  t9 := Try.underlying9,
  a9 := Try.isAgg9,
  z9 := Try.sizeOf9,
  v9 := Try.zeroValue9,
  t22 := Try.underlying22,
  a22 := Try.isAgg22,
  z22 := Try.sizeOf22,
  v22 := Try.zeroValue22,
  t25 := Try.underlying52,
  a25 := Try.isAgg52,
  z25 := Try.sizeOf52,
  v25 := Try.zeroValue52,
  t39 := Try.underlying68,
  a39 := Try.isAgg68,
  z39 := Try.sizeOf68,
  v39 := Try.zeroValue68,
  t45 := Try.underlying80,
  a45 := Try.isAgg80,
  z45 := Try.sizeOf80,
  v45 := Try.zeroValue80,
  t46 := Try.underlying81,
  a46 := Try.isAgg81,
  z46 := Try.sizeOf81,
  v46 := Try.zeroValue81,
  t50 := Try.underlying85,
  a50 := Try.isAgg85,
  z50 := Try.sizeOf85,
  v50 := Try.zeroValue85,
  t53 := Try.underlying26,
  a53 := Try.isAgg26,
  z53 := Try.sizeOf26,
  v53 := Try.zeroValue26,
  t55 := Try.underlying34,
  a55 := Try.isAgg34,
  z55 := Try.sizeOf34,
  v55 := Try.zeroValue34,
  t66 := Try.underlying94,
  a66 := Try.isAgg94,
  z66 := Try.sizeOf94,
  v66 := Try.zeroValue94,
  t70 := Try.underlying98,
  a70 := Try.isAgg98,
  z70 := Try.sizeOf98,
  v70 := Try.zeroValue98,
  t76 := Try.underlying100,
  a76 := Try.isAgg100,
  z76 := Try.sizeOf100,
  v76 := Try.zeroValue100,
  t77 := Try.underlying101,
  a77 := Try.isAgg101,
  z77 := Try.sizeOf101,
  v77 := Try.zeroValue101 }

-- not laid sortInt
-- not laid compInt
end Go.Proofs

set_option linter.unusedVariables false
set_option linter.unusedSimpArgs false
namespace Cr
open Go Sx Go.Proofs Go.Sort
open Go.Proofs.Try
set_option linter.unusedSectionVars false
variable [Dr]
set_option maxRecDepth 100000
structure Rd where
  f : Int
  t : Int
  hi : Int
  lo : Int
  deriving Inhabited, DecidableEq
theorem orL_neg {x : Int} {r : List Int} : orL (x :: r) < 0 ↔ x < 0 ∨ (x = 0 ∧ orL r < 0) := by
  rw [show orL (x :: r) = if x ≠ 0 then x else orL r from rfl]
  by_cases h : x = 0
  · subst h; simp
  · rw [if_pos h]
    constructor
    · intro q; exact .inl q
    · rintro (q | q); exact q; exact (h q.1).elim
theorem sgn3_neg {x y : Int} : sgn3 x y < 0 ↔ x < y := by unfold sgn3; split <;> (try split) <;> omega
theorem sgn3_zero {x y : Int} : sgn3 x y = 0 ↔ x = y := by unfold sgn3; split <;> (try split) <;> omega
abbrev atP (l : List Pt) (i : Nat) : Pt := l.getD i default
theorem atP_get {l : List Pt} {i : Nat} (h : i < l.length) : l[i]? = some (atP l i) := by
  unfold atP
  rw [List.getD_eq_getElem?_getD, List.getElem?_eq_getElem h]; rfl
theorem fld {H : Heap} {A : Addr} {p : Pt} (h : H.has A (ptC p)) : H.has (A.add 1) [.int .u32 p.x] ∧ H.has (A.add 2) [.int .u32 p.y] := by
  refine ⟨fun j x hj => ?_, fun j x hj => ?_⟩
  · have hj0 : j = 0 := by have := (List.getElem?_eq_some_iff.1 hj).1; simp at this; omega
    subst hj0
    have e : (A.add 1).add 0 = A.add 1 := by cases A with | mk b o s => cases s <;> rfl
    rw [e]
    exact h 1 x hj
  · have hj0 : j = 0 := by have := (List.getElem?_eq_some_iff.1 hj).1; simp at this; omega
    subst hj0
    have e : (A.add 2).add 0 = A.add 2 := by cases A with | mk b o s => cases s <;> rfl
    rw [e]
    exact h 2 x hj
section
variable {H : Heap} {R : Ending → Heap → Prop}
end
end Cr

set_option linter.unusedVariables false
set_option linter.unusedSimpArgs false
namespace Cr
open Go Sx
open Go.Proofs.Try
set_option linter.unusedSectionVars false
variable [Dr]
set_option maxRecDepth 100000
section
variable {H : Heap} {R : Ending → Heap → Prop}
theorem MeetsY.mono {l : Nat} {args : List Value} {R R' : Ending → Heap → Prop} (h : MeetsY prog l args H R) (hr : ∀ e H', R e H' → R' e H') : MeetsY prog l args H R' := fun w hw => by
  obtain ⟨f, t, u, b, h1, h2⟩ := h w hw
  exact ⟨f, t, u, b, h1, h2.mono fun e w' ⟨H', q1, q2⟩ => ⟨H', q1, hr _ _ q2⟩⟩
/-- The side that begins at a corner. -/
def nxt (l : List Pt) (i : Nat) : Nat := (i + 1) % l.length
def sidesL (l : List Pt) : List (Pt × Pt) := (List.range l.length).map fun i => (atP l i, atP l (nxt l i))
theorem sides_get {l : List Pt} {i : Nat} (h : i < l.length) : (sidesL l)[i]? = some (atP l i, atP l (nxt l i)) := by
  simp [sidesL, List.getElem?_map, List.getElem?_range h]
theorem sides_len (l : List Pt) : (sidesL l).length = l.length := by simp [sidesL]
/-- The memory on which the iterator leans. -/
def SidK (A : Addr) (v : Value) (l : List Pt) (H : Heap) : Prop := H.has A [v] ∧ SliceAt H v 4 (pts l)
theorem iter_sides {A : Addr} {v : Value} {l : List Pt} (hl : l.length ≤ 1000000) :
    Iter prog (.func (.func 48) { toList := [] } { toList := [.pointer (some A)] }) (SidK A v l) ((sidesL l).map fun q => [ptV q.1, ptV q.2]) := by
  unfold Iter
  refine ⟨rfl, fun yl J Jx H hJ h0 hY => ?_⟩
  refine spec_of func48 (by kernel_rfl) (fun t h => by cases h) ?_ (vc_psides1 yl (some A) _ H) ?_
  · simp [argsR, SV.rep, SC.rep, one]
  unfold nf_psides1
  obtain ⟨g0, hs0⟩ := hJ 0 H h0
  obtain ⟨a, n, c, e, hn⟩ := hs0
  subst e
  have hln : l.length = n := by simpa [pts] using hn.1
  refine ptr rfl ⟨_, _, _, g0, ?_⟩
  simp only [true_and]
  refine ⟨fun p H' => ∃ t : Nat, p.1.1 = (t : Int) ∧ t ≤ n ∧ J t H', fun p _ => (n - p.1.1).toNat, ⟨0, rfl, by omega, h0⟩, ?_⟩
  rintro ⟨⟨i, _⟩, _⟩ H1 ⟨t, hi, ht, hj⟩
  simp only at hi ⊢
  subst hi
  refine br (fun q1 => ?_) fun q1 => ?_
  · simp only [decide_eq_true_eq] at q1
    obtain ⟨g1, hs1⟩ := hJ t H1 hj
    have hx : (pts l)[t]? = some (ptC (atP l t)) := by rw [List.getElem?_map, atP_get (by omega)]; rfl
    obtain ⟨A1, e1, _, g2⟩ := slice_get hs1 hx
    subst e1
    have en : Int.tmod ((t : Int) + 1) (n : Int) = ((nxt l t : Nat) : Int) := by
      rw [Int.tmod_eq_emod_of_nonneg (by omega)]; unfold nxt; rw [hln, Int.natCast_emod]; rfl
    have hnl : nxt l t < n := by unfold nxt; rw [hln]; exact Nat.mod_lt _ (by omega)
    refine ⟨⟨by omega, by omega⟩, ptr rfl (ptr rfl ⟨_, _, _, _, g2, ptr rfl ⟨_, _, _, g1, ptr rfl ⟨_, _, _, g1, by omega, ?_, ptr rfl (ptr rfl ?_)⟩⟩⟩)⟩
    all_goals rw [wi64 (by omega), en]
    · exact ⟨by omega, by omega⟩
    · have hx2 : (pts l)[nxt l t]? = some (ptC (atP l (nxt l t))) := by rw [List.getElem?_map, atP_get (by omega)]; rfl
      obtain ⟨A2, e2, _, g3⟩ := slice_get hs1 hx2
      cases e2
      refine ⟨_, _, _, _, g3, ?_⟩
      have hyt := hY t [ptV (atP l t), ptV (atP l (nxt l t))] H1 (by rw [List.getElem?_map, sides_get (by omega)]; rfl) hj
      refine MeetsY.mono hyt ?_
      rintro e H2 (⟨rfl, hj2⟩ | ⟨rfl, hj2⟩)
      · refine ⟨true, rfl, br (fun q => by cases q) fun _ => ?_⟩
        exact ⟨⟨t + 1, by omega, by omega, hj2⟩, by omega⟩
      · exact ⟨false, rfl, br (fun _ => ⟨⟨_, rfl⟩, .inr ⟨_, hj2⟩⟩) fun q => by cases q⟩
  · simp only [decide_eq_false_iff_not] at q1
    have : t = n := by omega
    subst this
    refine ⟨⟨_, rfl⟩, .inl ?_⟩
    rw [List.length_map, sides_len, hln]; exact hj
theorem s_psides {v : Value} {l : List Pt} (h : SliceAt H v 4 (pts l)) (k : ∀ b, H b = none → R (.returned (.func (.func 48) { toList := [] } { toList := [.pointer (some { block := b, off := 0 })] })) (H.upd b (.cells { toList := [v] } 22 (0, 0)))) : Meets prog 33 [v] H R := by
  obtain ⟨a, n, c, e, hn⟩ := h
  subst e
  refine spec_of func33 (by kernel_rfl) (fun t h => by cases h) ?_ (vc_psides a n c R H) ?_
  · simp [argsR, SV.rep, SC.rep, one]
  unfold nf_psides
  exact k
end
end Cr

set_option linter.unusedVariables false
set_option linter.unusedSimpArgs false
namespace Cr
open Go Sx
open Go.Proofs.Try
set_option linter.unusedSectionVars false
variable [Dr]
set_option maxRecDepth 100000
section
variable {H : Heap} {R : Ending → Heap → Prop}
theorem upd_leN {H : Heap} {b : Nat} {o : Obj} (h : H b = none) : H ≤ H.upd b o := fun x y e => by
  show (if x = b then some o else H x) = some y
  rw [if_neg (fun q => by subst q; rw [h] at e; cases e)]; exact e
theorem upd_at (H : Heap) (b : Nat) (o : Obj) : (H.upd b o) b = some o := by show (if b = b then some o else H b) = some o; rw [if_pos rfl]
theorem upd_off {H : Heap} {b b' : Nat} {o : Obj} (h : b' ≠ b) : (H.upd b o) b' = H b' := by show (if b' = b then some o else H b') = H b'; rw [if_neg h]
theorem cells_has {H : Heap} {b : Nat} {l : List Value} {ty : Nat} (h : H b = some (.cells l.toArray ty (0, 0))) : H.has ⟨b, 0, none⟩ l := fun j x hx => by
  show (H.cell? (Addr.add ⟨b, 0, none⟩ j)) = some x
  have e : Addr.add ⟨b, 0, none⟩ j = ⟨b, j, none⟩ := by
    simp only [Addr.add, Nat.zero_add]
    split
    · rename_i q; subst q; rfl
    · rfl
  rw [e]
  unfold Heap.cell?
  simp only [h]
  simpa using hx
def onL (l : List Pt) (p : Pt) : Bool := (sidesL l).any fun q => onS q.1 q.2 p
abbrev plc (x y : Int) : Pt := ⟨0, x, y, { data := { toList := [] } }⟩
abbrev parP (p : Pt) : Int × Int × Int × ByteArray × Unit := (p.id, p.x, p.y, p.data, ())
abbrev parQ (q : Pt × Pt) : Unit × ((Int × Int × Int × ByteArray × Unit) × (Int × Int × Int × ByteArray × Unit) × Unit) := ((), parP q.1, parP q.2, ())
theorem sides_mem {l : List Pt} (hr : ∀ p ∈ l, PtC p) {i : Nat} {q : Pt × Pt} (h : (sidesL l)[i]? = some q) : i < l.length ∧ PtC q.1 ∧ PtC q.2 := by
  have hi : i < l.length := by
    have := (List.getElem?_eq_some_iff.1 h).1
    rwa [sides_len] at this
  rw [sides_get hi] at h
  cases h
  have hn : nxt l i < l.length := Nat.mod_lt _ (by omega)
  exact ⟨hi, hr _ (List.mem_of_getElem? (atP_get hi)), hr _ (List.mem_of_getElem? (atP_get hn))⟩
theorem sidK_le {A : Addr} {v : Value} {l : List Pt} (H H' : Heap) (hle : H ≤ H') (h : SidK A v l H) : SidK A v l H' := ⟨has_le h.1 hle, slice_le h.2 hle⟩
theorem any_take {l : List (Pt × Pt)} {f : Pt × Pt → Bool} {i : Nat} (h : ∀ j q, j < i → l[j]? = some q → f q = false) (hi : i = l.length) : l.any f = false := by
  rw [List.any_eq_false]
  intro q hq
  obtain ⟨j, hj, e⟩ := List.mem_iff_getElem.1 hq
  rw [h j q (by omega) (by rw [List.getElem?_eq_getElem hj, e])]
  simp
theorem s_pon {v : Value} {l : List Pt} {x y : Int} (h : SliceAt H v 4 (pts l)) (hl : l.length ≤ 1000000) (hr : ∀ p ∈ l, PtC p) (hx : U32 x) (hy : U32 y)
    (k : ∀ H', H ≤ H' → R (.returned (.bool (onL l (plc x y)))) H') : Meets prog 32 [v, .int .u32 x, .int .u32 y] H R := by
  obtain ⟨a, n, c, e, hn⟩ := h
  subst e
  have h : SliceAt H (.slice a n c) 4 (pts l) := ⟨a, n, c, rfl, hn⟩
  refine spec_of func32 (by kernel_rfl) (fun t h => by cases h) ?_ (vc_pon a n c x y R H) ?_
  · simp [argsR, SV.rep, SC.rep, one]
  unfold nf_pon
  intro b hb b1 hb1 b2 hb2
  have l1 := upd_leN (o := .cells { toList := [.int .u32 x] } 26 (0, 0)) hb
  have l2 := upd_leN (o := .cells { toList := [.int .u32 y] } 26 (0, 0)) hb1
  have l3 := upd_leN (o := .cells { toList := [.bool false] } 4 (0, 0)) hb2
  have f1 := upd_at H b (.cells { toList := [.int .u32 x] } 26 (0, 0))
  have f2 := upd_at (H.upd b (.cells { toList := [.int .u32 x] } 26 (0, 0))) b1 (.cells { toList := [.int .u32 y] } 26 (0, 0))
  have f3 := upd_at ((H.upd b (.cells { toList := [.int .u32 x] } 26 (0, 0))).upd b1 (.cells { toList := [.int .u32 y] } 26 (0, 0))) b2 (.cells { toList := [.bool false] } 4 (0, 0))
  generalize ((H.upd b (.cells { toList := [.int .u32 x] } 26 (0, 0))).upd b1 (.cells { toList := [.int .u32 y] } 26 (0, 0))).upd b2 (.cells { toList := [.bool false] } 4 (0, 0)) = H3 at *
  have g0 : H ≤ H3 := heap_trans l1 (heap_trans l2 l3)
  have g1 : H3 b = some _ := l3 _ _ (l2 _ _ f1)
  have g2 : H3 b1 = some _ := l3 _ _ f2
  have hb2H : H b2 = none := by
    cases e : H b2 with
    | none => rfl
    | some o => have := l2 _ _ (l1 _ _ e); rw [hb2] at this; cases this
  refine s_psides (slice_le h g0) fun b4 hb4 => ⟨_, rfl, rfl, ?_⟩
  have l4 := upd_leN (o := .cells { toList := [.slice a n c] } 22 (0, 0)) hb4
  have f4 := upd_at H3 b4 (.cells { toList := [.slice a n c] } 22 (0, 0))
  generalize H3.upd b4 (.cells { toList := [.slice a n c] } 22 (0, 0)) = H4 at *
  have g4 : H ≤ H4 := heap_trans g0 l4
  have k1 : H4 b = some _ := l4 _ _ g1
  have k2 : H4 b1 = some _ := l4 _ _ g2
  have k3 : H4 b2 = some _ := l4 _ _ f3
  have stor : ∀ (w : Bool), onL l (plc x y) = w → PtrK (some { block := b2, off := 0, spot := none }) fun (A : Addr) => ∃ (c : Array Value), ∃ ty, (H4 A.block = some (Obj.cells c ty (0, 0)) ∧ A.spot = none ∧ A.off + 1 ≤ Array.size c) ∧
      PtrK (some { block := b2, off := 0, spot := none }) fun (a : Addr) => ∃ (b : Bool), Heap.has (Heap.upd H4 A.block (Obj.cells (writeCells c A.off [Value.bool w]) ty (0, 0))) a [Value.bool b] ∧ R (.returned (.bool b)) (Heap.upd H4 A.block (Obj.cells (writeCells c A.off [Value.bool w]) ty (0, 0))) := by
    intro w hw
    refine ptr rfl ⟨_, _, ⟨k3, rfl, Nat.le_refl 1⟩, ptr rfl ⟨w, cells_has (l := [.bool w]) (upd_at _ _ _), ?_⟩⟩
    rw [hw] at k
    refine k _ fun z o e => ?_
    rw [upd_off (fun q => by subst q; rw [hb2H] at e; cases e)]
    exact g4 _ _ e
  refine ⟨(sidesL l).map parQ, SidK ⟨b4, 0, none⟩ (.slice a n c) l, fun i H' => H' = H4 ∧ ∀ j q, j < i → (sidesL l)[j]? = some q → onS q.1 q.2 (plc x y) = false, sidK_le, ?_, ?_, ⟨rfl, fun j q hj => by omega⟩, ?_, ?_⟩
  · rw [List.map_map]
    exact iter_sides hl
  · rintro i H' ⟨rfl, -⟩
    exact ⟨cells_has (l := [.slice a n c]) f4, slice_le h g4⟩
  · rintro i p H' hp ⟨rfl, hno⟩
    rw [List.getElem?_map] at hp
    cases hq : (sidesL l)[i]? with
    | none => rw [hq] at hp; cases hp
    | some q =>
      rw [hq, Option.map_some] at hp
      cases hp
      obtain ⟨hi, q1, q2⟩ := sides_mem hr hq
      refine ptr rfl ⟨x, cells_has (l := [.int .u32 x]) k1, ptr rfl ⟨y, cells_has (l := [.int .u32 y]) k2, s_pside (p := q.1) (q := q.2) (r := plc x y) q1 q2 ⟨hx, hy⟩ ⟨_, rfl, br (fun qt => ?_) fun qf => ?_⟩⟩⟩
      · refine stor true ?_
        unfold onL
        rw [List.any_eq_true]
        exact ⟨q, List.mem_of_getElem? hq, qt⟩
      · refine ⟨rfl, fun j q' hj hq' => ?_⟩
        by_cases ej : j = i
        · subst ej; rw [hq] at hq'; cases hq'; exact qf
        · exact hno j q' (by omega) hq'
  · rintro H' ⟨rfl, hno⟩
    refine stor false ?_
    exact any_take hno (by rw [List.length_map])
end
end Cr

set_option linter.unusedVariables false
set_option linter.unusedSimpArgs false
namespace Cr
open Go Sx Stb
open Go.Sort (SWO)
open Go.Proofs.Try
set_option linter.unusedSectionVars false
variable [Dr]
set_option maxRecDepth 100000
def nf_clone (a : Option Addr) (n : Nat) (c : Nat) (R : Ending → Heap → Prop) (H : Heap) : Prop := Br (Option.isNone a) (R (Ending.returned (Value.slice none (0 : Nat) (0 : Nat))) H) (∃ (es2 : List (List Value)), SliceAt H (Value.slice a n c) (4 : Nat) es2 ∧ List.length es2 * (32 : Nat) ≤ (140737488355328 : Nat) ∧ ∀ (v : Value) (H' : Nat → Option Obj), H ≤ H' → (∀ (b : Nat), blockOf v = some b → H b = none) → (∀ (b : Nat) (o : Obj), H' b = some o → H b = some o ∨ blockOf v = some b) → RowAt H' v (28 : Nat) (4 : Nat) es2 → R (Ending.returned v) H')
theorem vc_clone (a : Option Addr) (n : Nat) (c : Nat) (R : Ending → Heap → Prop) (H : Heap) : vcFun prog { } f26 [SV.c (SC.v (Value.slice a n c))] R H = nf_clone a n c R H := by kernel_rfl

section
variable {H : Heap} {R : Ending → Heap → Prop}
@[simp] theorem add0 (a : Addr) : Addr.add a 0 = a := rfl
theorem s_clone {v : Value} {l : List Pt} (h : SliceAt H v 4 (pts l)) (hl : l.length ≤ 1000000) (k : ∀ v H', H ≤ H' → (∀ b, blockOf v = some b → H b = none) → RowAt H' v tPt 4 (pts l) → R (.returned v) H') :
    Meets prog 26 [v] H R := by
  obtain ⟨a, n, c, e, hn⟩ := h
  subst e
  have h : SliceAt H (.slice a n c) 4 (pts l) := ⟨a, n, c, rfl, hn⟩
  refine spec_of func26 (by kernel_rfl) (fun t h => by cases h) ?_ (vc_clone a n c R H) ?_
  · simp [argsR, SV.rep, SC.rep, one]
  unfold nf_clone
  refine br (fun q => ?_) fun q => ?_
  · have : l = [] := by
      cases l with
      | nil => rfl
      | cons p l =>
        obtain ⟨A, e, _⟩ := pr_get h (i := 0) (p := p) rfl
        subst e
        simp at q
    subst this
    exact k _ _ (fun _ _ h => h) (by simp [blockOf]) (.inl ⟨rfl, rfl⟩)
  · refine ⟨_, h, ?_, fun v H' h1 h2 h3 h4 => k v H' h1 h2 h4⟩
    simp [pts]; omega
theorem ba_beq (a b : ByteArray) : (a == b) = decide (a = b) := by
  cases a with | mk x => cases b with | mk y =>
  have : ((⟨x⟩ : ByteArray) == ⟨y⟩) = (x == y) := rfl
  rw [this, Bool.eq_iff_iff]
  simp
theorem le_delO {H H' : Heap} {v : Value} (h : H ≤ H') (hn : ∀ b, blockOf v = some b → H b = none) : H ≤ H'.delO (blockOf v) := fun b o e => by
  cases hb : blockOf v with
  | none => exact h b o e
  | some b' =>
    show (if b = b' then none else H' b) = some o
    rw [if_neg (by rintro rfl; rw [hn b hb] at e; cases e)]
    exact h b o e
/-- A part of a slice. -/
theorem slice_sub {H : Heap} {a : Option Addr} {n c sz lo hi : Nat} {es : List (List Value)} (h : SliceAt H (.slice a n c) sz es) (h1 : lo ≤ hi) (h2 : hi ≤ n) : SliceAt H (.slice (subAddr a c lo sz) (hi - lo) (c - lo)) sz ((es.drop lo).take (hi - lo)) := by
  obtain ⟨a', n', c', e, hl, hc, h3, h4, h5⟩ := h
  cases e
  refine ⟨_, _, _, rfl, by rw [List.length_take, List.length_drop]; omega, by omega, fun e he => h3 e (List.mem_of_mem_drop (List.mem_of_mem_take he)), fun e he => h4 e (List.mem_of_mem_drop (List.mem_of_mem_take he)), fun i e he => ?_⟩
  have hi' : i < hi - lo := by
    have := (List.getElem?_eq_some_iff.1 he).1
    rw [List.length_take] at this; omega
  rw [List.getElem?_take_of_lt hi', List.getElem?_drop] at he
  obtain ⟨A, rfl, q2, q3⟩ := h5 (lo + i) e he
  have hlc : c ≠ lo := by omega
  refine ⟨A.add (lo * sz), by simp [subAddr, hlc], by rw [add_spot q2], ?_⟩
  have : (A.add (lo * sz)).add (i * sz) = A.add ((lo + i) * sz) := by
    rw [add_spot q2, add_spot q2, add_spot rfl]
    simp [Nat.add_mul, Nat.add_assoc]
  rw [this]; exact q3
theorem slice_suf {H : Heap} {a : Option Addr} {n c sz lo : Nat} {es : List (List Value)} (h : SliceAt H (.slice a n c) sz es) (h2 : lo ≤ n) : SliceAt H (.slice (subAddr a c lo sz) (n - lo) (c - lo)) sz (es.drop lo) := by
  have hl := (slice_len h).1
  have := slice_sub h h2 (Nat.le_refl n)
  rwa [List.take_of_length_le (by rw [List.length_drop]; omega)] at this
end
end Cr

set_option linter.unusedVariables false
set_option linter.unusedSimpArgs false
namespace Cr
open Go Sx Stb
open Go.Proofs.Try
set_option linter.unusedSectionVars false
variable [Dr]
set_option maxRecDepth 100000
def h_cpf : Hints := { loops := [(4, ⟨[0, 1, 4], [.f 5 (.int .i64)], []⟩), (9, ⟨[0, 1, 4, 6], [.f 5 (.int .i64), .f 7 (.int .i64)], []⟩)] }
def nf_cpf (a : Option Addr) (n : Nat) (c : Nat) (g : Nat) (R : Ending → Heap → Prop) (H : Heap) : Prop := Br (decide ((↑n : Int) < (2 : Int))) (R (Ending.returned (Value.slice a n c)) H) (a = a ∧ n = n ∧ c = c ∧ Value.func (Fn.func g) { toList := [] } { toList := [] } = Value.func (Fn.func g) { toList := [] } { toList := [] } ∧ (none : Option Addr) = none ∧ (0 : Nat) = (0 : Nat) ∧ (0 : Nat) = (0 : Nat) ∧ LoopP (fun (K : (Int × PUnit) × PUnit → (Nat → Option Obj) → Prop) (p : (Int × PUnit) × PUnit) (H : Nat → Option Obj) ↦ Br (decide (p.fst.fst < (↑n : Int))) (∃ (G : Nat → Option Obj), G ≤ H ∧ ((0 : Int) ≤ p.fst.fst ∧ p.fst.fst < (↑n : Int)) ∧ PtrK a fun (A : Addr) ↦ PtrK (some (Addr.add A (Int.toNat p.fst.fst * (4 : Nat)))) fun (a_1 : Addr) ↦ ∃ (n_1 : Int), ∃ (n_2 : Int), ∃ (n_3 : Int), ∃ (s : ByteArray), Heap.has G a_1 [Value.int IntKind.i64 n_1, Value.int IntKind.u32 n_2, Value.int IntKind.u32 n_3, Value.string s] ∧ ((0 : Int) ≤ IntKind.wrap IntKind.i64 (p.fst.fst - (1 : Int)) ∧ IntKind.wrap IntKind.i64 (p.fst.fst - (1 : Int)) < (↑n : Int)) ∧ PtrK a fun (A : Addr) ↦ PtrK (some (Addr.add A (Int.toNat (IntKind.wrap IntKind.i64 (p.fst.fst - (1 : Int))) * (4 : Nat)))) fun (a_2 : Addr) ↦ ∃ (n_4 : Int), ∃ (n_5 : Int), ∃ (n_6 : Int), ∃ (s_1 : ByteArray), Heap.has G a_2 [Value.int IntKind.i64 n_4, Value.int IntKind.u32 n_5, Value.int IntKind.u32 n_6, Value.string s_1] ∧ Meets prog g [Value.agg { toList := [Value.int IntKind.i64 n_1, Value.int IntKind.u32 n_2, Value.int IntKind.u32 n_3, Value.string s] }, Value.agg { toList := [Value.int IntKind.i64 n_4, Value.int IntKind.u32 n_5, Value.int IntKind.u32 n_6, Value.string s_1] }] H fun (e : Ending) (H' : Nat → Option Obj) ↦ Keep G H H H' ∧ ∃ (b : Bool), e = Ending.returned (Value.bool b) ∧ Br b (((0 : Int) ≤ p.fst.fst ∧ p.fst.fst ≤ (↑n : Int)) ∧ a = a ∧ n = n ∧ c = c ∧ Value.func (Fn.func g) { toList := [] } { toList := [] } = Value.func (Fn.func g) { toList := [] } { toList := [] } ∧ (none : Option Addr) = none ∧ (0 : Nat) = (0 : Nat) ∧ (0 : Nat) = (0 : Nat) ∧ subAddr a c (Int.toNat p.fst.fst) (4 : Nat) = subAddr a c (Int.toNat p.fst.fst) (4 : Nat) ∧ n - Int.toNat p.fst.fst = n - Int.toNat p.fst.fst ∧ c - Int.toNat p.fst.fst = c - Int.toNat p.fst.fst ∧ LoopP (fun (K : (Int × Int × PUnit) × PUnit → (Nat → Option Obj) → Prop) (p_1 : (Int × Int × PUnit) × PUnit) (H : Nat → Option Obj) ↦ Br (decide (p_1.fst.snd.fst < (↑(n - Int.toNat p.fst.fst) : Int))) (∃ (G : Nat → Option Obj), G ≤ H ∧ ((0 : Int) ≤ p_1.fst.snd.fst ∧ p_1.fst.snd.fst < (↑(n - Int.toNat p.fst.fst) : Int)) ∧ PtrK (subAddr a c (Int.toNat p.fst.fst) (4 : Nat)) fun (A : Addr) ↦ PtrK (some (Addr.add A (Int.toNat p_1.fst.snd.fst * (4 : Nat)))) fun (a_3 : Addr) ↦ ∃ (n_7 : Int), ∃ (n_8 : Int), ∃ (n_9 : Int), ∃ (s : ByteArray), Heap.has G a_3 [Value.int IntKind.i64 n_7, Value.int IntKind.u32 n_8, Value.int IntKind.u32 n_9, Value.string s] ∧ ((0 : Int) ≤ IntKind.wrap IntKind.i64 (p_1.fst.snd.fst - (1 : Int)) ∧ IntKind.wrap IntKind.i64 (p_1.fst.snd.fst - (1 : Int)) < (↑(n - Int.toNat p.fst.fst) : Int)) ∧ PtrK (subAddr a c (Int.toNat p.fst.fst) (4 : Nat)) fun (A : Addr) ↦ PtrK (some (Addr.add A (Int.toNat (IntKind.wrap IntKind.i64 (p_1.fst.snd.fst - (1 : Int))) * (4 : Nat)))) fun (a_4 : Addr) ↦ ∃ (n_10 : Int), ∃ (n_11 : Int), ∃ (n_12 : Int), ∃ (s_2 : ByteArray), Heap.has G a_4 [Value.int IntKind.i64 n_10, Value.int IntKind.u32 n_11, Value.int IntKind.u32 n_12, Value.string s_2] ∧ Meets prog g [Value.agg { toList := [Value.int IntKind.i64 n_7, Value.int IntKind.u32 n_8, Value.int IntKind.u32 n_9, Value.string s] }, Value.agg { toList := [Value.int IntKind.i64 n_10, Value.int IntKind.u32 n_11, Value.int IntKind.u32 n_12, Value.string s_2] }] H fun (e : Ending) (H' : Nat → Option Obj) ↦ Keep G H H H' ∧ ∃ (b : Bool), e = Ending.returned (Value.bool b) ∧ Br (!b) (((0 : Int) ≤ p_1.fst.snd.fst ∧ p_1.fst.snd.fst < (↑(n - Int.toNat p.fst.fst) : Int)) ∧ PtrK (subAddr a c (Int.toNat p.fst.fst) (4 : Nat)) fun (A : Addr) ↦ PtrK (some (Addr.add A (Int.toNat p_1.fst.snd.fst * (4 : Nat)))) fun (a_5 : Addr) ↦ ∃ (n_13 : Int), ∃ (n_14 : Int), ∃ (n_15 : Int), ∃ (s : ByteArray), Heap.has (delLs H' []) a_5 [Value.int IntKind.i64 n_13, Value.int IntKind.u32 n_14, Value.int IntKind.u32 n_15, Value.string s] ∧ ((0 : Int) ≤ p_1.fst.fst ∧ p_1.fst.fst < (↑n : Int)) ∧ PtrK a fun (A : Addr) ↦ PtrK (some (Addr.add A (Int.toNat p_1.fst.fst * (4 : Nat)))) fun (A : Addr) ↦ ∃ (c_1 : Array Value), ∃ (ty : Nat), (delLs H' [] A.block = some (Obj.cells c_1 ty) ∧ A.spot = none ∧ A.off + (4 : Nat) ≤ Array.size c_1) ∧ a = a ∧ n = n ∧ c = c ∧ Value.func (Fn.func g) { toList := [] } { toList := [] } = Value.func (Fn.func g) { toList := [] } { toList := [] } ∧ (none : Option Addr) = none ∧ (0 : Nat) = (0 : Nat) ∧ (0 : Nat) = (0 : Nat) ∧ subAddr a c (Int.toNat p.fst.fst) (4 : Nat) = subAddr a c (Int.toNat p.fst.fst) (4 : Nat) ∧ n - Int.toNat p.fst.fst = n - Int.toNat p.fst.fst ∧ c - Int.toNat p.fst.fst = c - Int.toNat p.fst.fst ∧ K ((IntKind.wrap IntKind.i64 (p_1.fst.fst + (1 : Int)), IntKind.wrap IntKind.i64 (p_1.fst.snd.fst + (1 : Int)), PUnit.unit), PUnit.unit) (Heap.upd (delLs H' []) A.block (Obj.cells (writeCells c_1 A.off [Value.int IntKind.i64 n_13, Value.int IntKind.u32 n_14, Value.int IntKind.u32 n_15, Value.string s]) ty))) (a = a ∧ n = n ∧ c = c ∧ Value.func (Fn.func g) { toList := [] } { toList := [] } = Value.func (Fn.func g) { toList := [] } { toList := [] } ∧ (none : Option Addr) = none ∧ (0 : Nat) = (0 : Nat) ∧ (0 : Nat) = (0 : Nat) ∧ subAddr a c (Int.toNat p.fst.fst) (4 : Nat) = subAddr a c (Int.toNat p.fst.fst) (4 : Nat) ∧ n - Int.toNat p.fst.fst = n - Int.toNat p.fst.fst ∧ c - Int.toNat p.fst.fst = c - Int.toNat p.fst.fst ∧ K ((p_1.fst.fst, IntKind.wrap IntKind.i64 (p_1.fst.snd.fst + (1 : Int)), PUnit.unit), PUnit.unit) (delLs H' []))) (((0 : Int) ≤ p_1.fst.fst ∧ p_1.fst.fst ≤ (↑n : Int)) ∧ (n - Int.toNat p_1.fst.fst = (0 : Nat) ∧ ((0 : Int) ≤ p_1.fst.fst ∧ p_1.fst.fst ≤ (↑c : Int)) ∧ R (Ending.returned (Value.slice (subAddr a c (0 : Nat) (4 : Nat)) (Int.toNat p_1.fst.fst - (0 : Nat)) (c - (0 : Nat)))) H ∨ ∃ (A : Addr), ∃ (c_1 : Array Value), ∃ (ty : Nat), subAddr a c (Int.toNat p_1.fst.fst) (4 : Nat) = some A ∧ (H A.block = some (Obj.cells c_1 ty) ∧ A.spot = none ∧ A.off + (n - Int.toNat p_1.fst.fst) * (4 : Nat) ≤ Array.size c_1) ∧ ((0 : Int) ≤ p_1.fst.fst ∧ p_1.fst.fst ≤ (↑c : Int)) ∧ R (Ending.returned (Value.slice (subAddr a c (0 : Nat) (4 : Nat)) (Int.toNat p_1.fst.fst - (0 : Nat)) (c - (0 : Nat)))) (Heap.upd H A.block (Obj.cells (writeCells c_1 A.off (List.flatten (List.replicate (n - Int.toNat p_1.fst.fst) [Value.int IntKind.i64 (0 : Int), Value.int IntKind.u32 (0 : Int), Value.int IntKind.u32 (0 : Int), Value.string { data := #[] }]))) ty))))) ((p.fst.fst, (1 : Int), PUnit.unit), PUnit.unit) (delLs H' [])) (a = a ∧ n = n ∧ c = c ∧ Value.func (Fn.func g) { toList := [] } { toList := [] } = Value.func (Fn.func g) { toList := [] } { toList := [] } ∧ (none : Option Addr) = none ∧ (0 : Nat) = (0 : Nat) ∧ (0 : Nat) = (0 : Nat) ∧ K ((IntKind.wrap IntKind.i64 (p.fst.fst + (1 : Int)), PUnit.unit), PUnit.unit) (delLs H' []))) (R (Ending.returned (Value.slice a n c)) H)) (((1 : Int), PUnit.unit), PUnit.unit) H)
theorem vc_cpf (a : Option Addr) (n : Nat) (c : Nat) (g : Nat) (R : Ending → Heap → Prop) (H : Heap) : vcFun prog h_cpf f29 [SV.c (SC.v (Value.slice a n c)), SV.c (SC.v (Value.func (Fn.func g) #[] #[]))] R H = nf_cpf a n c g R H := by kernel_rfl

end Cr

set_option linter.unusedVariables false
set_option linter.unusedSimpArgs false
namespace Cr
open Go Sx Go.Proofs
open Go.Proofs.Try
set_option linter.unusedSectionVars false
variable [Dr]
set_option maxRecDepth 100000
/-- By a road. -/
def Joi (r : List Rd) (a b : Int) : Prop := ∃ x ∈ r, (x.f = a ∧ x.t = b) ∨ (x.f = b ∧ x.t = a)
/-! ### slices.Compact of a sorted row -/
/-- What is beside a place. -/
structure Bes (m : Int) (r : List Rd) (a : Int) (B : List Int) : Prop where
  up : B.Pairwise (· < ·)
  mem : ∀ b, b ∈ B ↔ (0 ≤ b ∧ b < m) ∧ Joi r a b
section
variable {H : Heap} {R : Ending → Heap → Prop}
end
end Cr

set_option linter.unusedVariables false
set_option linter.unusedSimpArgs false
namespace Cr
open Go Sx Stb
open Go.Sort (SWO)
open Go.Proofs.Try
set_option linter.unusedSectionVars false
variable [Dr]
set_option maxRecDepth 100000
/-- A predicate of two points. -/
def Pred2 (g : Nat) (f : Pt → Pt → Bool) : Prop := ∀ (p q : Pt) (H : Heap) (R : Ending → Heap → Prop), R (.returned (.bool (f p q))) H → Meets prog g [ptV p, ptV q] H R
/-- What stays behind an element. -/
def cptG (f : Pt → Pt → Bool) (y : Pt) : List Pt → List Pt
  | [] => []
  | x :: r => if f x y then cptG f x r else x :: cptG f x r
def cpt (f : Pt → Pt → Bool) : List Pt → List Pt
  | [] => []
  | x :: r => x :: cptG f x r
theorem cptG_snoc (f : Pt → Pt → Bool) (x : Pt) : ∀ (r : List Pt) (y z : Pt), (y :: r).getLast? = some z → cptG f y (r ++ [x]) = cptG f y r ++ (if f x z then [] else [x])
  | [], y, z, h => by
    simp at h; subst h
    simp only [List.nil_append, cptG]
  | w :: r, y, z, h => by
    have ih := cptG_snoc f x r w z (by simpa using h)
    rw [List.cons_append, cptG, cptG, ih]
    split <;> simp
theorem cpt_snoc (f : Pt → Pt → Bool) (x z : Pt) {l : List Pt} (h : l.getLast? = some z) : cpt f (l ++ [x]) = cpt f l ++ (if f x z then [] else [x]) := by
  cases l with
  | nil => cases h
  | cons y r =>
    rw [List.cons_append, cpt, cpt, cptG_snoc f x r y z h]
    simp
theorem take_last {l : List Pt} {t : Nat} {y : Pt} (h0 : 0 < t) (h : l[t - 1]? = some y) : (l.take t).getLast? = some y := by
  have hl := (List.getElem?_eq_some_iff.1 h).1
  rw [List.getLast?_eq_getElem?, List.length_take, List.getElem?_take_of_lt (by omega), show min t l.length - 1 = t - 1 by omega]
  exact h
section
variable {H : Heap} {R : Ending → Heap → Prop}
theorem s_cpf {g : Nat} {f : Pt → Pt → Bool} (hf : Pred2 g f) {v : Value} {ty : Nat} {l : List Pt} (h : RowAt H v ty 4 (pts l)) (hl : l.length ≤ 1000000)
    (k : ∀ v' H', RowAt H' v' ty 4 (pts (cpt f l)) → blockOf v' = blockOf v → Mod v H H' → R (.returned v') H') : Meets prog 29 [v, .func (.func g) #[] #[]] H R := by
  obtain ⟨a, c, rfl⟩ := row_val h
  have hpl : (pts l).length = l.length := by simp [pts]
  rw [hpl] at h k ⊢
  refine spec_of func29 (by kernel_rfl) (fun t h => by cases h) ?_ (vc_cpf a l.length c g R H) ?_
  · simp [argsR, SV.rep, SC.rep, Sx.one]
  unfold nf_cpf
  simp only [true_and]
  refine br (fun q => ?_) fun q => ?_
  · have : cpt f l = l := by
      match l, q with
      | [], _ => rfl
      | [x], _ => rfl
      | x :: y :: r, q => simp at q; omega
    rw [this] at k
    exact k _ _ h rfl (Mod.refl _ _)
  have h2 : 2 ≤ l.length := by simp at q; omega
  obtain ⟨A, rfl⟩ : ∃ A, a = some A := by
    obtain ⟨A, e, _⟩ := pr_get (row_slice h) (i := 0) (p := l[0]) (List.getElem?_eq_getElem (by omega))
    exact ⟨A, e⟩
  have hsp : A.spot = none := by
    obtain ⟨A', e, hs, _⟩ := slice_get (row_slice h) (i := 0) (e := ptC l[0]) (by show (l.map ptC)[0]? = _; rw [List.getElem?_map, List.getElem?_eq_getElem (by omega)]; rfl)
    cases e; exact hs
  have hcap := (row_len h).2
  refine ⟨fun p H' => ∃ t : Nat, p.1.1 = (t : Int) ∧ 1 ≤ t ∧ t ≤ l.length ∧ cpt f (l.take t) = l.take t ∧ H' = H, fun p _ => (l.length - p.1.1).toNat, ⟨1, rfl, by omega, by omega, ?_, rfl⟩, ?_⟩
  · match l, h2 with
    | x :: r, _ => simp [cpt, cptG]
  rintro ⟨⟨i, _⟩, _⟩ H1 ⟨t, hi, ht1, ht, hcp, rfl⟩
  simp only at hi ⊢
  subst hi
  refine br (fun q1 => ?_) fun q1 => ?_
  rotate_left
  · simp only [decide_eq_false_iff_not] at q1
    rw [List.take_of_length_le (by omega)] at hcp
    rw [hcp] at k
    exact k _ _ h rfl (Mod.refl _ _)
  simp only [decide_eq_true_eq] at q1
  obtain ⟨x, hd, htk, hx⟩ := drop_cons (l := l) (k := t) (by omega)
  obtain ⟨y, _, _, hy⟩ := drop_cons (l := l) (k := t - 1) (by omega)
  obtain ⟨A1, e, g1⟩ := pr_get (row_slice h) (i := t) hx
  cases e
  obtain ⟨A2, e, g2⟩ := pr_get (row_slice h) (i := t - 1) hy
  cases e
  rw [wi64 (k := (t : Int) - 1) (by omega), wi64 (k := (t : Int) + 1) (by omega), show ((t : Int) - 1).toNat = t - 1 by omega]
  refine ⟨H1, fun _ _ e => e, ⟨by omega, by omega⟩, ptr rfl (ptr rfl ⟨_, _, _, _, g1, ⟨by omega, by omega⟩, ptr rfl (ptr rfl ⟨_, _, _, _, g2, hf x y _ _ ⟨keep_same _ _ _, _, rfl, ?_⟩⟩)⟩)⟩
  have hsn := cpt_snoc f x y (l := l.take t) (take_last (by omega) hy)
  rw [← htk, hcp] at hsn
  simp only [delLs_nil]
  refine br (fun q2 => ?_) fun q2 => ?_
  rotate_left
  · rw [q2] at hsn
    simp only [Bool.false_eq_true, if_false] at hsn
    exact ⟨⟨t + 1, by simp, by omega, by omega, by rw [hsn, htk], by trivial⟩, by simp; omega⟩
  rw [Int.toNat_natCast]
  have hsub : ∀ j : Nat, PtrK (subAddr (some A) c t 4) = PtrK (some ⟨A.block, A.off + t * 4, none⟩) := fun j => by
    have : subAddr (some A) c t 4 = some ⟨A.block, A.off + t * 4, none⟩ := by
      unfold subAddr
      rw [if_neg (by omega)]
      simp [add_spot hsp]
    rw [this]
  rw [hsub 0]
  have hadr : ∀ j : Nat, (⟨A.block, A.off + t * 4, none⟩ : Addr).add (j * 4) = A.add ((t + j) * 4) := fun j => by
    rw [add_spot rfl, add_spot hsp]; simp only [Addr.mk.injEq, and_true, true_and]; omega
  -- t: the first place that is told twice
  refine ⟨by omega, fun p H' => ∃ (s : Nat) (F M : List Pt) (z : Pt), p.1.2.1 = (s : Int) ∧ 1 ≤ s ∧ t + s ≤ l.length ∧ F = cpt f (l.take (t + s)) ∧ p.1.1 = (F.length : Int) ∧ l[t + s - 1]? = some z ∧ F.length + M.length + 1 = t + s ∧ RowAt H' (.slice (some A) l.length c) ty 4 (pts (F ++ M ++ [z] ++ l.drop (t + s))) ∧ Mod (.slice (some A) l.length c) H1 H', fun p _ => (l.length - p.1.2.1).toNat, ⟨1, l.take t, [], x, rfl, by omega, by omega, ?_, ?_, by rw [Nat.add_sub_cancel]; exact hx, by simp; omega, ?_, Mod.refl _ _⟩, ?_⟩
  · rw [hsn, q2]; simp
  · rw [List.length_take]; simp; omega
  · have : l.take t ++ [] ++ [x] ++ l.drop (t + 1) = l := by
      rw [List.append_nil, ← htk, List.take_append_drop]
    rw [this]; exact h
  rintro ⟨⟨w, i, _⟩, _⟩ H2 ⟨s, F, M, z, hi, hs1, hs, hF, hw, hz, hlen, hrow, hmod⟩
  simp only at hi hw ⊢
  subst hi; subst hw
  refine br (fun q3 => ?_) fun q3 => ?_
  · simp only [decide_eq_true_eq] at q3
    obtain ⟨u, hd2, htk2, hu⟩ := drop_cons (l := l) (k := t + s) (by omega)
    have gu : (F ++ M ++ [z] ++ l.drop (t + s))[t + s]? = some u := by
      rw [List.getElem?_append_right (by simp; omega)]
      simp only [List.length_append, List.length_singleton]
      rw [show t + s - (F.length + M.length + 1) = 0 by omega, hd2]; rfl
    have gz : (F ++ M ++ [z] ++ l.drop (t + s))[t + s - 1]? = some z := by
      rw [List.getElem?_append_left (by simp; omega), List.getElem?_append_right (by simp; omega)]
      simp only [List.length_append]
      rw [show t + s - 1 - (F.length + M.length) = 0 by omega]; rfl
    obtain ⟨A3, e, g3⟩ := pr_get (row_slice hrow) (i := t + s) gu
    cases e
    obtain ⟨A4, e, g4⟩ := pr_get (row_slice hrow) (i := t + s - 1) gz
    cases e
    have hsn2 := cpt_snoc f u z (l := l.take (t + s)) (take_last (by omega) hz)
    rw [← htk2, ← hF] at hsn2
    rw [wi64 (k := (s : Int) - 1) (by omega), wi64 (k := (s : Int) + 1) (by omega), show ((s : Int) - 1).toNat = s - 1 by omega, Int.toNat_natCast]
    have b1 : (0 : Int) ≤ (s : Int) ∧ (s : Int) < ((l.length - t : Nat) : Int) := ⟨by omega, by omega⟩
    have b2 : (0 : Int) ≤ (s : Int) - 1 ∧ (s : Int) - 1 < ((l.length - t : Nat) : Int) := ⟨by omega, by omega⟩
    have e3 : H2.has ((⟨A.block, A.off + t * 4, none⟩ : Addr).add (s * 4)) (ptC u) := by rw [hadr]; exact g3
    have e4 : H2.has ((⟨A.block, A.off + t * 4, none⟩ : Addr).add ((s - 1) * 4)) (ptC z) := by rw [hadr, show t + (s - 1) = t + s - 1 by omega]; exact g4
    refine ⟨H2, fun _ _ e => e, b1, ptr rfl (ptr rfl ⟨_, _, _, _, e3, b2, ptr rfl (ptr rfl ⟨_, _, _, _, e4, hf u z _ _ ⟨keep_same _ _ _, _, rfl, ?_⟩⟩)⟩)⟩
    refine br (fun q4 => ?_) fun q4 => ?_
    · have q4 : f u z = false := by simpa using q4
      rw [q4] at hsn2
      simp only [Bool.false_eq_true, if_false] at hsn2
      have hFl : F.length < l.length := by omega
      obtain ⟨c1, m1, r1, d1⟩ := pr_put hrow (i := F.length) hFl u
      have hset : ∃ M', M'.length = M.length ∧ (F ++ M ++ [z] ++ l.drop (t + s)).set F.length u = (F ++ [u]) ++ M' ++ [u] ++ l.drop (t + s + 1) := by
        rw [hd2]
        cases M with
        | nil => exact ⟨[], rfl, by simp⟩
        | cons m M' => exact ⟨M' ++ [z], by simp, by simp⟩
      obtain ⟨M', hM', hset⟩ := hset
      rw [hset] at r1
      rw [Int.toNat_natCast, wi64 (k := (F.length : Int) + 1) (by omega)]
      refine ⟨b1, ptr rfl (ptr rfl ⟨_, _, _, _, e3, ⟨by omega, by omega⟩, ptr rfl (ptr rfl ⟨_, _, m1, ⟨s + 1, F ++ [u], M', u, by simp, by omega, by omega, ?_, by simp, ?_, by simp; omega, ?_, hmod.trans d1⟩, by simp; omega⟩)⟩)⟩
      · rw [← hsn2]; rfl
      · rw [show t + (s + 1) - 1 = t + s by omega]; exact hu
      · exact r1
    · have q4 : f u z = true := by simpa using q4
      rw [q4] at hsn2
      simp only [if_true, List.append_nil] at hsn2
      refine ⟨⟨s + 1, F, M ++ [z], u, by simp, by omega, by omega, ?_, rfl, ?_, by simp; omega, ?_, hmod⟩, by simp; omega⟩
      · rw [← hsn2]; rfl
      · rw [show t + (s + 1) - 1 = t + s by omega]; exact hu
      · rw [hd2] at hrow
        have : F ++ (M ++ [z]) ++ [u] ++ l.drop (t + (s + 1)) = F ++ M ++ [z] ++ u :: l.drop (t + s + 1) := by simp [Nat.add_assoc]
        rw [this]; exact hrow
  · simp only [decide_eq_false_iff_not] at q3
    have hts : t + s = l.length := by omega
    rw [hts, List.take_length] at hF
    rw [hts, List.drop_length, List.append_nil, List.append_assoc] at hrow
    rw [← hF] at k
    have hz2 : pts (F ++ (M ++ [z])) = pts F ++ pts (M ++ [z]) := by simp [pts]
    rw [hz2] at hrow
    obtain ⟨cl, ⟨e1, e2, e3⟩, r1, d1⟩ := row_fill hrow (ws := List.replicate (l.length - F.length) [vi 0, .int .u32 0, .int .u32 0, .string { data := #[] }]) (by simp [pts]; omega) (by intro e he; rw [List.eq_of_mem_replicate he]; rfl) (by intro e he x hx; rw [List.eq_of_mem_replicate he] at hx; simp at hx; rcases hx with rfl | rfl | rfl | rfl <;> rfl)
    have hfl : (pts F).length = F.length := by simp [pts]
    have hsub2 : subAddr (some A) c F.length 4 = some ⟨A.block, A.off + F.length * 4, none⟩ := by
      unfold subAddr
      rw [if_neg (by omega)]
      simp [add_spot e2]
    have hsub0 : subAddr (some A) c 0 4 = some A := by
      unfold subAddr
      split
      · rfl
      · simp
    rw [Int.toNat_natCast, hsub0, Nat.sub_zero, Nat.sub_zero]
    rw [List.length_replicate] at e3
    refine ⟨⟨by omega, by omega⟩, .inr ⟨_, cl, ty, hsub2, ⟨e1, rfl, ?_⟩, ⟨by omega, by omega⟩, ?_⟩⟩
    · rw [hfl] at e3; exact e3
    · rw [hfl] at r1 d1
      have := row_prefix r1
      rw [hfl] at this
      exact k _ _ this rfl (hmod.trans d1)
end
end Cr

set_option linter.unusedVariables false
set_option maxHeartbeats 40000000
set_option maxRecDepth 1000000
namespace Cr
open Go Sx
open Go.Proofs.Try
set_option linter.unusedSectionVars false
variable [Dr]
def h_far35 : Hints := { loops := [(6, ⟨[0, 2, 3, 5, 6, 7, 33, 34], [.f 35 (.int .i64)], [.box 2 28 [.f (.int .i64), .f (.int .u32), .f (.int .u32), .f .str], .box 3 28 [.f (.int .i64), .f (.int .u32), .f (.int .u32), .f .str], .box 5 28 [.f (.int .i64), .f (.int .u32), .f (.int .u32), .f .str], .box 6 28 [.f (.int .i64), .f (.int .u32), .f (.int .u32), .f .str], .box 7 43 [.f (.int .u64), .f (.int .u64)]]⟩), (9, ⟨[0, 2, 3, 5, 6, 7, 8, 9, 33, 34, 35, 43, 44], [.f 45 (.int .i64)], [.keep 2, .keep 3, .box 5 28 [.f (.int .i64), .f (.int .u32), .f (.int .u32), .f .str], .box 6 28 [.f (.int .i64), .f (.int .u32), .f (.int .u32), .f .str], .box 7 43 [.f (.int .u64), .f (.int .u64)], .keep 9]⟩)] }
def h_lfar35 : Hints := { eqs := [28], cuts := [(5, ⟨[], [.f 0 .slc], []⟩)], loops := [(9, ⟨[0, 3, 4], [.f 5 (.int .u64), .f 6 (.int .u64), .f 7 .bool, .f 8 (.int .i64)], [.box 3 28 [.f (.int .i64), .f (.int .u32), .f (.int .u32), .f .str], .box 4 28 [.f (.int .i64), .f (.int .u32), .f (.int .u32), .f .str]]⟩), (12, ⟨[0, 3, 4, 8], [.f 5 (.int .u64), .f 6 (.int .u64), .f 7 .bool, .f 9 (.int .i64)], [.box 3 28 [.f (.int .i64), .f (.int .u32), .f (.int .u32), .f .str], .box 4 28 [.f (.int .i64), .f (.int .u32), .f (.int .u32), .f .str]]⟩)] }
def nf_nanw (x : Int) (R : Ending → Heap → Prop) (H : Heap) : Prop := R (Ending.returned (Value.bool (x != x))) H
theorem vc_nanw (x : Int) (R : Ending → Heap → Prop) (H : Heap) : vcFun prog { } f64 [SV.c (SC.v (Value.int IntKind.u32 x))] R H = nf_nanw x R H := by kernel_rfl

def nf_nans (x : ByteArray) (R : Ending → Heap → Prop) (H : Heap) : Prop := R (Ending.returned (Value.bool !ByteArray.toList x == ByteArray.toList x)) H
theorem vc_nans (x : ByteArray) (R : Ending → Heap → Prop) (H : Heap) : vcFun prog { } f66 [SV.c (SC.v (Value.string x))] R H = nf_nans x R H := by kernel_rfl

def nf_cmpw (x : Int) (y : Int) (R : Ending → Heap → Prop) (H : Heap) : Prop := Meets prog (64 : Nat) [Value.int IntKind.u32 x] H fun (e : Ending) (H' : Nat → Option Obj) ↦ ∃ (b : Bool), e = Ending.returned (Value.bool b) ∧ Meets prog (64 : Nat) [Value.int IntKind.u32 y] H' fun (e : Ending) (H' : Nat → Option Obj) ↦ ∃ (b_1 : Bool), e = Ending.returned (Value.bool b_1) ∧ Br b (Br b_1 (R (Ending.returned (Value.int IntKind.i64 (0 : Int))) H') (R (Ending.returned (Value.int IntKind.i64 (-1 : Int))) H')) (Br b_1 (R (Ending.returned (Value.int IntKind.i64 (1 : Int))) H') (Br (decide (x < y)) (R (Ending.returned (Value.int IntKind.i64 (-1 : Int))) H') (Br (decide (x > y)) (R (Ending.returned (Value.int IntKind.i64 (1 : Int))) H') (R (Ending.returned (Value.int IntKind.i64 (0 : Int))) H'))))
theorem vc_cmpw (x : Int) (y : Int) (R : Ending → Heap → Prop) (H : Heap) : vcFun prog { } f44 [SV.c (SC.v (Value.int IntKind.u32 x)), SV.c (SC.v (Value.int IntKind.u32 y))] R H = nf_cmpw x y R H := by kernel_rfl

def nf_cmps (x : ByteArray) (y : ByteArray) (R : Ending → Heap → Prop) (H : Heap) : Prop := Meets prog (66 : Nat) [Value.string x] H fun (e : Ending) (H' : Nat → Option Obj) ↦ ∃ (b : Bool), e = Ending.returned (Value.bool b) ∧ Meets prog (66 : Nat) [Value.string y] H' fun (e : Ending) (H' : Nat → Option Obj) ↦ ∃ (b_1 : Bool), e = Ending.returned (Value.bool b_1) ∧ Br b (Br b_1 (R (Ending.returned (Value.int IntKind.i64 (0 : Int))) H') (R (Ending.returned (Value.int IntKind.i64 (-1 : Int))) H')) (Br b_1 (R (Ending.returned (Value.int IntKind.i64 (1 : Int))) H') (Br (Op.bytesLess (ByteArray.toList x) (ByteArray.toList y)) (R (Ending.returned (Value.int IntKind.i64 (-1 : Int))) H') (Br (!(Op.bytesLess (ByteArray.toList x) (ByteArray.toList y) || ByteArray.toList x == ByteArray.toList y)) (R (Ending.returned (Value.int IntKind.i64 (1 : Int))) H') (R (Ending.returned (Value.int IntKind.i64 (0 : Int))) H'))))
theorem vc_cmps (x : ByteArray) (y : ByteArray) (R : Ending → Heap → Prop) (H : Heap) : vcFun prog { } f46 [SV.c (SC.v (Value.string x)), SV.c (SC.v (Value.string y))] R H = nf_cmps x y R H := by kernel_rfl

def nf_hord (i1 : Int) (x1 : Int) (y1 : Int) (d1 : ByteArray) (i2 : Int) (x2 : Int) (y2 : Int) (d2 : ByteArray) (R : Ending → Heap → Prop) (H : Heap) : Prop := ∃ (G : Nat → Option Obj), G ≤ H ∧ Meets prog (44 : Nat) [Value.int IntKind.u32 x1, Value.int IntKind.u32 x2] H fun (e : Ending) (H' : Nat → Option Obj) ↦ Keep G H H H' ∧ ∃ (n : Int), e = Ending.returned (Value.int IntKind.i64 n) ∧ Meets prog (44 : Nat) [Value.int IntKind.u32 y1, Value.int IntKind.u32 y2] (delLs H' []) fun (e : Ending) (H'_1 : Nat → Option Obj) ↦ Keep G (delLs H' []) (delLs H' []) H'_1 ∧ ∃ (n_1 : Int), e = Ending.returned (Value.int IntKind.i64 n_1) ∧ Meets prog (45 : Nat) [Value.int IntKind.i64 i1, Value.int IntKind.i64 i2] (delLs H'_1 []) fun (e : Ending) (H' : Nat → Option Obj) ↦ Keep G (delLs H'_1 []) (delLs H'_1 []) H' ∧ ∃ (n_2 : Int), e = Ending.returned (Value.int IntKind.i64 n_2) ∧ Meets prog (46 : Nat) [Value.string d1, Value.string d2] (delLs H' []) fun (e : Ending) (H'_2 : Nat → Option Obj) ↦ Keep G (delLs H' []) (delLs H' []) H'_2 ∧ ∃ (n_3 : Int), e = Ending.returned (Value.int IntKind.i64 n_3) ∧ ∀ (v : Value) (H' : Nat → Option Obj), delLs H'_2 [] ≤ H' → (∀ (b : Nat), blockOf v = some b → delLs H'_2 [] b = none) → (∀ (b : Nat) (o : Obj), H' b = some o → delLs H'_2 [] b = some o ∨ blockOf v = some b) → RowAt H' v (3 : Nat) (1 : Nat) [[Value.int IntKind.i64 n], [Value.int IntKind.i64 n_1], [Value.int IntKind.i64 n_2], [Value.int IntKind.i64 n_3]] → Meets prog (40 : Nat) [v] H' fun (e : Ending) (H'_3 : Nat → Option Obj) ↦ Keep G (delLs H'_2 []) H' H'_3 ∧ ∃ (n : Int), e = Ending.returned (Value.int IntKind.i64 n) ∧ R (Ending.returned (Value.int IntKind.i64 n)) (delLs H'_3 [{ site := (25 : Nat), val := v, kind := LK.row (3 : Nat) (1 : Nat) }])
theorem vc_hord (i1 : Int) (x1 : Int) (y1 : Int) (d1 : ByteArray) (i2 : Int) (x2 : Int) (y2 : Int) (d2 : ByteArray) (R : Ending → Heap → Prop) (H : Heap) : vcFun prog { } f28 [SV.agg [Seg.c (SC.v (Value.int IntKind.i64 i1)), Seg.c (SC.v (Value.int IntKind.u32 x1)), Seg.c (SC.v (Value.int IntKind.u32 y1)), Seg.c (SC.v (Value.string d1))], SV.agg [Seg.c (SC.v (Value.int IntKind.i64 i2)), Seg.c (SC.v (Value.int IntKind.u32 x2)), Seg.c (SC.v (Value.int IntKind.u32 y2)), Seg.c (SC.v (Value.string d2))]] R H = nf_hord i1 x1 y1 d1 i2 x2 y2 d2 R H := by kernel_rfl

def nf_hpl1 (i1 : Int) (x1 : Int) (y1 : Int) (d1 : ByteArray) (i2 : Int) (x2 : Int) (y2 : Int) (d2 : ByteArray) (R : Ending → Heap → Prop) (H : Heap) : Prop := Br (x1 == x2) (R (Ending.returned (Value.bool (y1 == y2))) H) (R (Ending.returned (Value.bool false)) H)
theorem vc_hpl1 (i1 : Int) (x1 : Int) (y1 : Int) (d1 : ByteArray) (i2 : Int) (x2 : Int) (y2 : Int) (d2 : ByteArray) (R : Ending → Heap → Prop) (H : Heap) : vcFun prog { } f30 [SV.agg [Seg.c (SC.v (Value.int IntKind.i64 i1)), Seg.c (SC.v (Value.int IntKind.u32 x1)), Seg.c (SC.v (Value.int IntKind.u32 y1)), Seg.c (SC.v (Value.string d1))], SV.agg [Seg.c (SC.v (Value.int IntKind.i64 i2)), Seg.c (SC.v (Value.int IntKind.u32 x2)), Seg.c (SC.v (Value.int IntKind.u32 y2)), Seg.c (SC.v (Value.string d2))]] R H = nf_hpl1 i1 x1 y1 d1 i2 x2 y2 d2 R H := by kernel_rfl

def nf_hplc (a : Option Addr) (n : Nat) (c : Nat) (R : Ending → Heap → Prop) (H : Heap) : Prop := Meets prog (26 : Nat) [Value.slice a n c] H fun (e : Ending) (H' : Nat → Option Obj) ↦ ∃ (a : Option Addr), ∃ (n : Nat), ∃ (c : Nat), e = Ending.returned (Value.slice a n c) ∧ ∃ (es : List (List Value)), RowAt H' (Value.slice a n c) (28 : Nat) (4 : Nat) es ∧ ∀ (v : Value) (H'_1 : Nat → Option Obj), Heap.delO H' (blockOf (Value.slice a n c)) ≤ H'_1 → (∀ (b : Nat), blockOf v = some b → Heap.delO H' (blockOf (Value.slice a n c)) b = none) → (∀ (b : Nat) (o : Obj), H'_1 b = some o → Heap.delO H' (blockOf (Value.slice a n c)) b = some o ∨ blockOf v = some b) → RowAt H'_1 v (28 : Nat) (4 : Nat) es → Meets prog (27 : Nat) [v, Value.func (Fn.func (28 : Nat)) { toList := [] } { toList := [] }] H'_1 fun (e : Ending) (H' : Nat → Option Obj) ↦ e = Ending.returned (Value.tuple { toList := [] }) ∧ ∃ (es : List (List Value)), RowAt H' v (28 : Nat) (4 : Nat) es ∧ ∀ (v_1 : Value) (H'_2 : Nat → Option Obj), Heap.delO H' (blockOf v) ≤ H'_2 → (∀ (b : Nat), blockOf v_1 = some b → Heap.delO H' (blockOf v) b = none) → (∀ (b : Nat) (o : Obj), H'_2 b = some o → Heap.delO H' (blockOf v) b = some o ∨ blockOf v_1 = some b) → RowAt H'_2 v_1 (28 : Nat) (4 : Nat) es → Meets prog (29 : Nat) [v_1, Value.func (Fn.func (30 : Nat)) { toList := [] } { toList := [] }] H'_2 fun (e : Ending) (H' : Nat → Option Obj) ↦ (fun (x : Nat) ↦ none) ≤ H' ∧ ∃ (a : Option Addr), ∃ (n : Nat), ∃ (c : Nat), e = Ending.returned (Value.slice a n c) ∧ R (Ending.returned (Value.slice a n c)) H'
theorem vc_hplc (a : Option Addr) (n : Nat) (c : Nat) (R : Ending → Heap → Prop) (H : Heap) : vcFun prog { ownc := [((5 : Nat), (28 : Nat), (4 : Nat))], give := [(9 : Nat)] } f16 [SV.c (SC.v (Value.slice a n c))] R H = nf_hplc a n c R H := by kernel_rfl

def nf_hof (a : Option Addr) (n : Nat) (c : Nat) (R : Ending → Heap → Prop) (H : Heap) : Prop := Meets prog (16 : Nat) [Value.slice a n c] H fun (e : Ending) (H' : Nat → Option Obj) ↦ ∃ (a : Option Addr), ∃ (n : Nat), ∃ (c : Nat), e = Ending.returned (Value.slice a n c) ∧ Br (decide ((↑n : Int) < (2 : Int))) (R (Ending.returned (Value.slice a n c)) H') (Meets prog (17 : Nat) [Value.slice a n c] H' fun (e : Ending) (H' : Nat → Option Obj) ↦ ∃ (a_1 : Option Addr), ∃ (n_1 : Nat), ∃ (c_1 : Nat), e = Ending.returned (Value.slice a_1 n_1 c_1) ∧ Meets prog (18 : Nat) [Value.slice a n c] H' fun (e : Ending) (H' : Nat → Option Obj) ↦ e = Ending.returned (Value.tuple { toList := [] }) ∧ Meets prog (17 : Nat) [Value.slice a n c] H' fun (e : Ending) (H' : Nat → Option Obj) ↦ ∃ (a : Option Addr), ∃ (n : Nat), ∃ (c : Nat), e = Ending.returned (Value.slice a n c) ∧ ∀ (v : Value) (H'_1 : Nat → Option Obj), H' ≤ H'_1 → (∀ (b : Nat), blockOf v = some b → H' b = none) → (∀ (b : Nat) (o : Obj), H'_1 b = some o → H' b = some o ∨ blockOf v = some b) → RowAt H'_1 v (22 : Nat) (1 : Nat) [[Value.slice a_1 n_1 c_1], [Value.slice a n c]] → Meets prog (19 : Nat) [v] H'_1 fun (e : Ending) (H' : Nat → Option Obj) ↦ ∃ (a : Option Addr), ∃ (n : Nat), ∃ (c : Nat), e = Ending.returned (Value.slice a n c) ∧ ∃ (es : List (List Value)), RowAt H' v (22 : Nat) (1 : Nat) es ∧ R (Ending.returned (Value.slice a n c)) (Heap.delO H' (blockOf v)))
theorem vc_hof (a : Option Addr) (n : Nat) (c : Nat) (R : Ending → Heap → Prop) (H : Heap) : vcFun prog { } f8 [SV.c (SC.v (Value.slice a n c))] R H = nf_hof a n c R H := by kernel_rfl

def nf_hhas (a : Option Addr) (n : Nat) (c : Nat) (x : Int) (y : Int) (R : Ending → Heap → Prop) (H : Heap) : Prop := Meets prog (20 : Nat) [Value.slice a n c, Value.int IntKind.u32 x, Value.int IntKind.u32 y] H fun (e : Ending) (H' : Nat → Option Obj) ↦ ∃ (b : Bool), e = Ending.returned (Value.bool b) ∧ R (Ending.returned (Value.bool b)) H'
theorem vc_hhas (a : Option Addr) (n : Nat) (c : Nat) (x : Int) (y : Int) (R : Ending → Heap → Prop) (H : Heap) : vcFun prog { } f9 [SV.c (SC.v (Value.slice a n c)), SV.c (SC.v (Value.int IntKind.u32 x)), SV.c (SC.v (Value.int IntKind.u32 y))] R H = nf_hhas a n c x y R H := by kernel_rfl

def nf_hfar (a : Option Addr) (n : Nat) (c : Nat) (R : Ending → Heap → Prop) (H : Heap) : Prop := Br (decide ((↑n : Int) < (2 : Int))) (R (Ending.returned (Value.tuple { toList := [Value.agg { toList := [Value.int IntKind.i64 (0 : Int), Value.int IntKind.u32 (0 : Int), Value.int IntKind.u32 (0 : Int), Value.string { data := #[] }] }, Value.agg { toList := [Value.int IntKind.i64 (0 : Int), Value.int IntKind.u32 (0 : Int), Value.int IntKind.u32 (0 : Int), Value.string { data := #[] }] }, Value.bool false] })) H) (∃ (G : Nat → Option Obj), G ≤ H ∧ ((0 : Int) ≤ (0 : Int) ∧ (0 : Int) < (↑n : Int)) ∧ PtrK a fun (A : Addr) ↦ PtrK (some (Addr.add A (0 : Nat))) fun (a_1 : Addr) ↦ ∃ (n_1 : Int), ∃ (n_2 : Int), ∃ (n_3 : Int), ∃ (s : ByteArray), Heap.has G a_1 [Value.int IntKind.i64 n_1, Value.int IntKind.u32 n_2, Value.int IntKind.u32 n_3, Value.string s] ∧ ((0 : Int) ≤ (1 : Int) ∧ (1 : Int) < (↑n : Int)) ∧ PtrK a fun (A : Addr) ↦ PtrK (some (Addr.add A (4 : Nat))) fun (a_2 : Addr) ↦ ∃ (n_4 : Int), ∃ (n_5 : Int), ∃ (n_6 : Int), ∃ (s_1 : ByteArray), Heap.has G a_2 [Value.int IntKind.i64 n_4, Value.int IntKind.u32 n_5, Value.int IntKind.u32 n_6, Value.string s_1] ∧ Meets prog (24 : Nat) [Value.int IntKind.u32 n_2, Value.int IntKind.u32 n_3, Value.int IntKind.u32 n_5, Value.int IntKind.u32 n_6] H fun (e : Ending) (H' : Nat → Option Obj) ↦ ∃ (n_7 : Int), ∃ (n_8 : Int), e = Ending.returned (Value.agg { toList := [Value.int IntKind.u64 n_7, Value.int IntKind.u64 n_8] }) ∧ a = a ∧ n = n ∧ c = c ∧ (0 : Nat) = (0 : Nat) ∧ (0 : Nat) = (0 : Nat) ∧ (0 : Nat) = (0 : Nat) ∧ (0 : Nat) = (0 : Nat) ∧ (0 : Nat) = (0 : Nat) ∧ a = a ∧ n = n ∧ c = c ∧ (↑n : Int) = (↑n : Int) ∧ LoopP (fun (K : (Int × PUnit) × (Int × Int × Int × ByteArray × PUnit) × (Int × Int × Int × ByteArray × PUnit) × (Int × Int × Int × ByteArray × PUnit) × (Int × Int × Int × ByteArray × PUnit) × (Int × Int × PUnit) × PUnit → (Nat → Option Obj) → Prop) (p : (Int × PUnit) × (Int × Int × Int × ByteArray × PUnit) × (Int × Int × Int × ByteArray × PUnit) × (Int × Int × Int × ByteArray × PUnit) × (Int × Int × Int × ByteArray × PUnit) × (Int × Int × PUnit) × PUnit) (H : Nat → Option Obj) ↦ Br (decide (p.fst.fst < (↑n : Int))) (((0 : Int) ≤ p.fst.fst ∧ p.fst.fst < (↑n : Int)) ∧ PtrK a fun (A : Addr) ↦ PtrK (some (Addr.add A (Int.toNat p.fst.fst * (4 : Nat)))) fun (a_3 : Addr) ↦ ∃ (n_9 : Int), ∃ (n_10 : Int), ∃ (n_11 : Int), ∃ (s : ByteArray), Heap.has H a_3 [Value.int IntKind.i64 n_9, Value.int IntKind.u32 n_10, Value.int IntKind.u32 n_11, Value.string s] ∧ ((0 : Int) ≤ IntKind.wrap IntKind.i64 (p.fst.fst + (1 : Int)) ∧ IntKind.wrap IntKind.i64 (p.fst.fst + (1 : Int)) ≤ (↑n : Int)) ∧ a = a ∧ n = n ∧ c = c ∧ (0 : Nat) = (0 : Nat) ∧ (0 : Nat) = (0 : Nat) ∧ (0 : Nat) = (0 : Nat) ∧ (0 : Nat) = (0 : Nat) ∧ (0 : Nat) = (0 : Nat) ∧ p.fst.fst = p.fst.fst ∧ (0 : Nat) = (0 : Nat) ∧ a = a ∧ n = n ∧ c = c ∧ (↑n : Int) = (↑n : Int) ∧ p.fst.fst = p.fst.fst ∧ subAddr a c (Int.toNat (IntKind.wrap IntKind.i64 (p.fst.fst + (1 : Int)))) (4 : Nat) = subAddr a c (Int.toNat (IntKind.wrap IntKind.i64 (p.fst.fst + (1 : Int)))) (4 : Nat) ∧ n - Int.toNat (IntKind.wrap IntKind.i64 (p.fst.fst + (1 : Int))) = n - Int.toNat (IntKind.wrap IntKind.i64 (p.fst.fst + (1 : Int))) ∧ c - Int.toNat (IntKind.wrap IntKind.i64 (p.fst.fst + (1 : Int))) = c - Int.toNat (IntKind.wrap IntKind.i64 (p.fst.fst + (1 : Int))) ∧ (↑(n - Int.toNat (IntKind.wrap IntKind.i64 (p.fst.fst + (1 : Int)))) : Int) = (↑(n - Int.toNat (IntKind.wrap IntKind.i64 (p.fst.fst + (1 : Int)))) : Int) ∧ p.snd.fst.fst = p.snd.fst.fst ∧ p.snd.fst.snd.fst = p.snd.fst.snd.fst ∧ p.snd.fst.snd.snd.fst = p.snd.fst.snd.snd.fst ∧ Value.string p.snd.fst.snd.snd.snd.fst = Value.string p.snd.fst.snd.snd.snd.fst ∧ p.snd.snd.fst.fst = p.snd.snd.fst.fst ∧ p.snd.snd.fst.snd.fst = p.snd.snd.fst.snd.fst ∧ p.snd.snd.fst.snd.snd.fst = p.snd.snd.fst.snd.snd.fst ∧ Value.string p.snd.snd.fst.snd.snd.snd.fst = Value.string p.snd.snd.fst.snd.snd.snd.fst ∧ n_9 = n_9 ∧ n_10 = n_10 ∧ n_11 = n_11 ∧ Value.string s = Value.string s ∧ LoopP (fun (K_1 : (Int × PUnit) × PUnit × PUnit × (Int × Int × Int × ByteArray × PUnit) × (Int × Int × Int × ByteArray × PUnit) × (Int × Int × PUnit) × PUnit × PUnit → (Nat → Option Obj) → Prop) (p_1 : (Int × PUnit) × PUnit × PUnit × (Int × Int × Int × ByteArray × PUnit) × (Int × Int × Int × ByteArray × PUnit) × (Int × Int × PUnit) × PUnit × PUnit) (H : Nat → Option Obj) ↦ Br (decide (p_1.fst.fst < (↑(n - Int.toNat (IntKind.wrap IntKind.i64 (p.fst.fst + (1 : Int)))) : Int))) (((0 : Int) ≤ p_1.fst.fst ∧ p_1.fst.fst < (↑(n - Int.toNat (IntKind.wrap IntKind.i64 (p.fst.fst + (1 : Int)))) : Int)) ∧ PtrK (subAddr a c (Int.toNat (IntKind.wrap IntKind.i64 (p.fst.fst + (1 : Int)))) (4 : Nat)) fun (A : Addr) ↦ PtrK (some (Addr.add A (Int.toNat p_1.fst.fst * (4 : Nat)))) fun (a_4 : Addr) ↦ ∃ (n_12 : Int), ∃ (n_13 : Int), ∃ (n_14 : Int), ∃ (s_2 : ByteArray), Heap.has H a_4 [Value.int IntKind.i64 n_12, Value.int IntKind.u32 n_13, Value.int IntKind.u32 n_14, Value.string s_2] ∧ Meets prog (24 : Nat) [Value.int IntKind.u32 n_10, Value.int IntKind.u32 n_11, Value.int IntKind.u32 n_13, Value.int IntKind.u32 n_14] H fun (e : Ending) (H' : Nat → Option Obj) ↦ ∃ (n_15 : Int), ∃ (n_16 : Int), e = Ending.returned (Value.agg { toList := [Value.int IntKind.u64 n_15, Value.int IntKind.u64 n_16] }) ∧ Meets prog (25 : Nat) [Value.agg { toList := [Value.int IntKind.u64 n_15, Value.int IntKind.u64 n_16] }, Value.agg { toList := [Value.int IntKind.u64 p_1.snd.snd.snd.snd.snd.fst.fst, Value.int IntKind.u64 p_1.snd.snd.snd.snd.snd.fst.snd.fst] }] H' fun (e : Ending) (H' : Nat → Option Obj) ↦ ∃ (n_17 : Int), e = Ending.returned (Value.int IntKind.i64 n_17) ∧ Br (decide (n_17 > (0 : Int))) (∃ (G : Nat → Option Obj), G ≤ H' ∧ a = a ∧ n = n ∧ c = c ∧ (0 : Nat) = (0 : Nat) ∧ (0 : Nat) = (0 : Nat) ∧ (0 : Nat) = (0 : Nat) ∧ (0 : Nat) = (0 : Nat) ∧ (0 : Nat) = (0 : Nat) ∧ p.fst.fst = p.fst.fst ∧ (0 : Nat) = (0 : Nat) ∧ a = a ∧ n = n ∧ c = c ∧ (↑n : Int) = (↑n : Int) ∧ p.fst.fst = p.fst.fst ∧ subAddr a c (Int.toNat (IntKind.wrap IntKind.i64 (p.fst.fst + (1 : Int)))) (4 : Nat) = subAddr a c (Int.toNat (IntKind.wrap IntKind.i64 (p.fst.fst + (1 : Int)))) (4 : Nat) ∧ n - Int.toNat (IntKind.wrap IntKind.i64 (p.fst.fst + (1 : Int))) = n - Int.toNat (IntKind.wrap IntKind.i64 (p.fst.fst + (1 : Int))) ∧ c - Int.toNat (IntKind.wrap IntKind.i64 (p.fst.fst + (1 : Int))) = c - Int.toNat (IntKind.wrap IntKind.i64 (p.fst.fst + (1 : Int))) ∧ (↑(n - Int.toNat (IntKind.wrap IntKind.i64 (p.fst.fst + (1 : Int)))) : Int) = (↑(n - Int.toNat (IntKind.wrap IntKind.i64 (p.fst.fst + (1 : Int)))) : Int) ∧ p.snd.fst.fst = p.snd.fst.fst ∧ p.snd.fst.snd.fst = p.snd.fst.snd.fst ∧ p.snd.fst.snd.snd.fst = p.snd.fst.snd.snd.fst ∧ Value.string p.snd.fst.snd.snd.snd.fst = Value.string p.snd.fst.snd.snd.snd.fst ∧ p.snd.snd.fst.fst = p.snd.snd.fst.fst ∧ p.snd.snd.fst.snd.fst = p.snd.snd.fst.snd.fst ∧ p.snd.snd.fst.snd.snd.fst = p.snd.snd.fst.snd.snd.fst ∧ Value.string p.snd.snd.fst.snd.snd.snd.fst = Value.string p.snd.snd.fst.snd.snd.snd.fst ∧ n_9 = n_9 ∧ n_10 = n_10 ∧ n_11 = n_11 ∧ Value.string s = Value.string s ∧ K_1 ((IntKind.wrap IntKind.i64 (p_1.fst.fst + (1 : Int)), PUnit.unit), PUnit.unit, PUnit.unit, (n_9, n_10, n_11, s, PUnit.unit), (n_12, n_13, n_14, s_2, PUnit.unit), (n_15, n_16, PUnit.unit), PUnit.unit, PUnit.unit) H') (a = a ∧ n = n ∧ c = c ∧ (0 : Nat) = (0 : Nat) ∧ (0 : Nat) = (0 : Nat) ∧ (0 : Nat) = (0 : Nat) ∧ (0 : Nat) = (0 : Nat) ∧ (0 : Nat) = (0 : Nat) ∧ p.fst.fst = p.fst.fst ∧ (0 : Nat) = (0 : Nat) ∧ a = a ∧ n = n ∧ c = c ∧ (↑n : Int) = (↑n : Int) ∧ p.fst.fst = p.fst.fst ∧ subAddr a c (Int.toNat (IntKind.wrap IntKind.i64 (p.fst.fst + (1 : Int)))) (4 : Nat) = subAddr a c (Int.toNat (IntKind.wrap IntKind.i64 (p.fst.fst + (1 : Int)))) (4 : Nat) ∧ n - Int.toNat (IntKind.wrap IntKind.i64 (p.fst.fst + (1 : Int))) = n - Int.toNat (IntKind.wrap IntKind.i64 (p.fst.fst + (1 : Int))) ∧ c - Int.toNat (IntKind.wrap IntKind.i64 (p.fst.fst + (1 : Int))) = c - Int.toNat (IntKind.wrap IntKind.i64 (p.fst.fst + (1 : Int))) ∧ (↑(n - Int.toNat (IntKind.wrap IntKind.i64 (p.fst.fst + (1 : Int)))) : Int) = (↑(n - Int.toNat (IntKind.wrap IntKind.i64 (p.fst.fst + (1 : Int)))) : Int) ∧ p.snd.fst.fst = p.snd.fst.fst ∧ p.snd.fst.snd.fst = p.snd.fst.snd.fst ∧ p.snd.fst.snd.snd.fst = p.snd.fst.snd.snd.fst ∧ Value.string p.snd.fst.snd.snd.snd.fst = Value.string p.snd.fst.snd.snd.snd.fst ∧ p.snd.snd.fst.fst = p.snd.snd.fst.fst ∧ p.snd.snd.fst.snd.fst = p.snd.snd.fst.snd.fst ∧ p.snd.snd.fst.snd.snd.fst = p.snd.snd.fst.snd.snd.fst ∧ Value.string p.snd.snd.fst.snd.snd.snd.fst = Value.string p.snd.snd.fst.snd.snd.snd.fst ∧ n_9 = n_9 ∧ n_10 = n_10 ∧ n_11 = n_11 ∧ Value.string s = Value.string s ∧ K_1 ((IntKind.wrap IntKind.i64 (p_1.fst.fst + (1 : Int)), PUnit.unit), PUnit.unit, PUnit.unit, (p_1.snd.snd.snd.fst.fst, p_1.snd.snd.snd.fst.snd.fst, p_1.snd.snd.snd.fst.snd.snd.fst, p_1.snd.snd.snd.fst.snd.snd.snd.fst, PUnit.unit), (p_1.snd.snd.snd.snd.fst.fst, p_1.snd.snd.snd.snd.fst.snd.fst, p_1.snd.snd.snd.snd.fst.snd.snd.fst, p_1.snd.snd.snd.snd.fst.snd.snd.snd.fst, PUnit.unit), (p_1.snd.snd.snd.snd.snd.fst.fst, p_1.snd.snd.snd.snd.snd.fst.snd.fst, PUnit.unit), PUnit.unit, PUnit.unit) H')) (a = a ∧ n = n ∧ c = c ∧ (0 : Nat) = (0 : Nat) ∧ (0 : Nat) = (0 : Nat) ∧ (0 : Nat) = (0 : Nat) ∧ (0 : Nat) = (0 : Nat) ∧ (0 : Nat) = (0 : Nat) ∧ a = a ∧ n = n ∧ c = c ∧ (↑n : Int) = (↑n : Int) ∧ K ((IntKind.wrap IntKind.i64 (p.fst.fst + (1 : Int)), PUnit.unit), (p.snd.fst.fst, p.snd.fst.snd.fst, p.snd.fst.snd.snd.fst, p.snd.fst.snd.snd.snd.fst, PUnit.unit), (p.snd.snd.fst.fst, p.snd.snd.fst.snd.fst, p.snd.snd.fst.snd.snd.fst, p.snd.snd.fst.snd.snd.snd.fst, PUnit.unit), (p_1.snd.snd.snd.fst.fst, p_1.snd.snd.snd.fst.snd.fst, p_1.snd.snd.snd.fst.snd.snd.fst, p_1.snd.snd.snd.fst.snd.snd.snd.fst, PUnit.unit), (p_1.snd.snd.snd.snd.fst.fst, p_1.snd.snd.snd.snd.fst.snd.fst, p_1.snd.snd.snd.snd.fst.snd.snd.fst, p_1.snd.snd.snd.snd.fst.snd.snd.snd.fst, PUnit.unit), (p_1.snd.snd.snd.snd.snd.fst.fst, p_1.snd.snd.snd.snd.snd.fst.snd.fst, PUnit.unit), PUnit.unit) H)) (((0 : Int), PUnit.unit), PUnit.unit, PUnit.unit, (p.snd.snd.snd.fst.fst, p.snd.snd.snd.fst.snd.fst, p.snd.snd.snd.fst.snd.snd.fst, p.snd.snd.snd.fst.snd.snd.snd.fst, PUnit.unit), (p.snd.snd.snd.snd.fst.fst, p.snd.snd.snd.snd.fst.snd.fst, p.snd.snd.snd.snd.fst.snd.snd.fst, p.snd.snd.snd.snd.fst.snd.snd.snd.fst, PUnit.unit), (p.snd.snd.snd.snd.snd.fst.fst, p.snd.snd.snd.snd.snd.fst.snd.fst, PUnit.unit), PUnit.unit, PUnit.unit) H) (∃ (G : Nat → Option Obj), G ≤ H ∧ R (Ending.returned (Value.tuple { toList := [Value.agg { toList := [Value.int IntKind.i64 p.snd.snd.snd.fst.fst, Value.int IntKind.u32 p.snd.snd.snd.fst.snd.fst, Value.int IntKind.u32 p.snd.snd.snd.fst.snd.snd.fst, Value.string p.snd.snd.snd.fst.snd.snd.snd.fst] }, Value.agg { toList := [Value.int IntKind.i64 p.snd.snd.snd.snd.fst.fst, Value.int IntKind.u32 p.snd.snd.snd.snd.fst.snd.fst, Value.int IntKind.u32 p.snd.snd.snd.snd.fst.snd.snd.fst, Value.string p.snd.snd.snd.snd.fst.snd.snd.snd.fst] }, Value.bool true] })) H)) (((0 : Int), PUnit.unit), ((0 : Int), (0 : Int), (0 : Int), { data := #[] }, PUnit.unit), ((0 : Int), (0 : Int), (0 : Int), { data := #[] }, PUnit.unit), (n_1, n_2, n_3, s, PUnit.unit), (n_4, n_5, n_6, s_1, PUnit.unit), (n_7, n_8, PUnit.unit), PUnit.unit) H')
theorem vc_hfar (a : Option Addr) (n : Nat) (c : Nat) (R : Ending → Heap → Prop) (H : Heap) : vcFun prog h_far35 f15 [SV.c (SC.v (Value.slice a n c))] R H = nf_hfar a n c R H := by kernel_rfl

def nf_al35 (R : Ending → Heap → Prop) (H : Heap) : Prop := ∀ (v : Value) (H' : Nat → Option Obj), H ≤ H' → (∀ (b : Nat), blockOf v = some b → H b = none) → (∀ (b : Nat) (o : Obj), H' b = some o → H b = some o ∨ blockOf v = some b) → RowAt H' v (28 : Nat) (4 : Nat) [[Value.int IntKind.i64 (5 : Int), Value.int IntKind.u32 (0 : Int), Value.int IntKind.u32 (0 : Int), Value.string { data := #[] }]] → Meets prog (8 : Nat) [v] H' fun (e : Ending) (H' : Nat → Option Obj) ↦ (fun (x : Nat) ↦ none) ≤ H' ∧ ∃ (a : Option Addr), ∃ (n : Nat), ∃ (c : Nat), e = Ending.returned (Value.slice a n c) ∧ Br ((↑n : Int) == (1 : Int)) (((0 : Int) ≤ (0 : Int) ∧ (0 : Int) < (↑n : Int)) ∧ PtrK a fun (A : Addr) ↦ PtrK (some (Addr.add A (0 : Nat))) fun (a_1 : Addr) ↦ PtrK (some (Addr.add a_1 (0 : Nat))) fun (a_2 : Addr) ↦ ∃ (n_1 : Int), Heap.has H' a_2 [Value.int IntKind.i64 n_1] ∧ Br (n_1 == (5 : Int)) (Meets prog (9 : Nat) [Value.slice a n c, Value.int IntKind.u32 (0 : Int), Value.int IntKind.u32 (0 : Int)] H' fun (e : Ending) (H' : Nat → Option Obj) ↦ ∃ (b : Bool), e = Ending.returned (Value.bool b) ∧ R (Ending.returned (Value.bool b)) H') (R (Ending.returned (Value.bool false)) H')) (R (Ending.returned (Value.bool false)) H')
theorem vc_al35 (R : Ending → Heap → Prop) (H : Heap) : vcFun prog { give := [(4 : Nat)] } f7 [] R H = nf_al35 R H := by kernel_rfl

def nf_lfar35 (a : Option Addr) (n : Nat) (c : Nat) (R : Ending → Heap → Prop) (H : Heap) : Prop := Meets prog (7 : Nat) [] H fun (e : Ending) (H' : Nat → Option Obj) ↦ ∃ (b : Bool), e = Ending.returned (Value.bool b) ∧ Br (!b) (R (Ending.returned (Value.bool false)) H') (CutP (fun (I : ((Option Addr × Nat × Nat) × PUnit) × PUnit → (Nat → Option Obj) → Prop) ↦ Br (decide ((↑n : Int) > (30 : Int))) (((0 : Int) ≤ (30 : Int) ∧ (30 : Int) ≤ (↑c : Int)) ∧ I (((subAddr a c (0 : Nat) (4 : Nat), (30 : Nat), c - (0 : Nat)), PUnit.unit), PUnit.unit) H') (I (((a, n, c), PUnit.unit), PUnit.unit) H')) fun (p : ((Option Addr × Nat × Nat) × PUnit) × PUnit) (H : Nat → Option Obj) ↦ p.fst.fst.1 = p.fst.fst.1 ∧ p.fst.fst.snd.fst = p.fst.fst.snd.fst ∧ p.fst.fst.snd.snd = p.fst.fst.snd.snd ∧ (0 : Nat) = (0 : Nat) ∧ (0 : Nat) = (0 : Nat) ∧ LoopP (fun (K : (Int × Int × Bool × Int × PUnit) × (Int × Int × Int × ByteArray × PUnit) × (Int × Int × Int × ByteArray × PUnit) × PUnit → (Nat → Option Obj) → Prop) (p_1 : (Int × Int × Bool × Int × PUnit) × (Int × Int × Int × ByteArray × PUnit) × (Int × Int × Int × ByteArray × PUnit) × PUnit) (H : Nat → Option Obj) ↦ Br (decide (p_1.fst.snd.snd.snd.fst < (↑p.fst.fst.snd.fst : Int))) (p.fst.fst.1 = p.fst.fst.1 ∧ p.fst.fst.snd.fst = p.fst.fst.snd.fst ∧ p.fst.fst.snd.snd = p.fst.fst.snd.snd ∧ (0 : Nat) = (0 : Nat) ∧ (0 : Nat) = (0 : Nat) ∧ p_1.fst.snd.snd.snd.fst = p_1.fst.snd.snd.snd.fst ∧ LoopP (fun (K_1 : (Int × Int × Bool × Int × PUnit) × (Int × Int × Int × ByteArray × PUnit) × (Int × Int × Int × ByteArray × PUnit) × PUnit → (Nat → Option Obj) → Prop) (p_2 : (Int × Int × Bool × Int × PUnit) × (Int × Int × Int × ByteArray × PUnit) × (Int × Int × Int × ByteArray × PUnit) × PUnit) (H : Nat → Option Obj) ↦ Br (decide (p_2.fst.snd.snd.snd.fst < (↑p.fst.fst.snd.fst : Int))) (∃ (G : Nat → Option Obj), G ≤ H ∧ ((0 : Int) ≤ p_1.fst.snd.snd.snd.fst ∧ p_1.fst.snd.snd.snd.fst < (↑p.fst.fst.snd.fst : Int)) ∧ PtrK p.fst.fst.1 fun (A : Addr) ↦ PtrK (some (Addr.add A (Int.toNat p_1.fst.snd.snd.snd.fst * (4 : Nat)))) fun (a : Addr) ↦ PtrK (some (Addr.add a (1 : Nat))) fun (a : Addr) ↦ ∃ (n : Int), Heap.has G a [Value.int IntKind.u32 n] ∧ ((0 : Int) ≤ p_1.fst.snd.snd.snd.fst ∧ p_1.fst.snd.snd.snd.fst < (↑p.fst.fst.snd.fst : Int)) ∧ PtrK p.fst.fst.1 fun (A : Addr) ↦ PtrK (some (Addr.add A (Int.toNat p_1.fst.snd.snd.snd.fst * (4 : Nat)))) fun (a : Addr) ↦ PtrK (some (Addr.add a (2 : Nat))) fun (a : Addr) ↦ ∃ (n_1 : Int), Heap.has G a [Value.int IntKind.u32 n_1] ∧ ((0 : Int) ≤ p_2.fst.snd.snd.snd.fst ∧ p_2.fst.snd.snd.snd.fst < (↑p.fst.fst.snd.fst : Int)) ∧ PtrK p.fst.fst.1 fun (A : Addr) ↦ PtrK (some (Addr.add A (Int.toNat p_2.fst.snd.snd.snd.fst * (4 : Nat)))) fun (a : Addr) ↦ PtrK (some (Addr.add a (1 : Nat))) fun (a : Addr) ↦ ∃ (n_2 : Int), Heap.has G a [Value.int IntKind.u32 n_2] ∧ ((0 : Int) ≤ p_2.fst.snd.snd.snd.fst ∧ p_2.fst.snd.snd.snd.fst < (↑p.fst.fst.snd.fst : Int)) ∧ PtrK p.fst.fst.1 fun (A : Addr) ↦ PtrK (some (Addr.add A (Int.toNat p_2.fst.snd.snd.snd.fst * (4 : Nat)))) fun (a : Addr) ↦ PtrK (some (Addr.add a (2 : Nat))) fun (a : Addr) ↦ ∃ (n_3 : Int), Heap.has G a [Value.int IntKind.u32 n_3] ∧ Meets prog (13 : Nat) [Value.int IntKind.u32 n, Value.int IntKind.u32 n_1, Value.int IntKind.u32 n_2, Value.int IntKind.u32 n_3] H fun (e : Ending) (H' : Nat → Option Obj) ↦ Keep G H H H' ∧ ∃ (n : Int), ∃ (n_4 : Int), e = Ending.returned (Value.tuple { toList := [Value.int IntKind.u64 n, Value.int IntKind.u64 n_4] }) ∧ Br (!p_2.fst.snd.snd.fst) (∃ (G : Nat → Option Obj), G ≤ delLs H' [] ∧ ((0 : Int) ≤ p_1.fst.snd.snd.snd.fst ∧ p_1.fst.snd.snd.snd.fst < (↑p.fst.fst.snd.fst : Int)) ∧ PtrK p.fst.fst.1 fun (A : Addr) ↦ PtrK (some (Addr.add A (Int.toNat p_1.fst.snd.snd.snd.fst * (4 : Nat)))) fun (a : Addr) ↦ ∃ (n_5 : Int), ∃ (n_6 : Int), ∃ (n_7 : Int), ∃ (s : ByteArray), Heap.has G a [Value.int IntKind.i64 n_5, Value.int IntKind.u32 n_6, Value.int IntKind.u32 n_7, Value.string s] ∧ ((0 : Int) ≤ p_2.fst.snd.snd.snd.fst ∧ p_2.fst.snd.snd.snd.fst < (↑p.fst.fst.snd.fst : Int)) ∧ PtrK p.fst.fst.1 fun (A : Addr) ↦ PtrK (some (Addr.add A (Int.toNat p_2.fst.snd.snd.snd.fst * (4 : Nat)))) fun (a : Addr) ↦ ∃ (n_8 : Int), ∃ (n_9 : Int), ∃ (n_10 : Int), ∃ (s_1 : ByteArray), Heap.has G a [Value.int IntKind.i64 n_8, Value.int IntKind.u32 n_9, Value.int IntKind.u32 n_10, Value.string s_1] ∧ p.fst.fst.1 = p.fst.fst.1 ∧ p.fst.fst.snd.fst = p.fst.fst.snd.fst ∧ p.fst.fst.snd.snd = p.fst.fst.snd.snd ∧ (0 : Nat) = (0 : Nat) ∧ (0 : Nat) = (0 : Nat) ∧ p_1.fst.snd.snd.snd.fst = p_1.fst.snd.snd.snd.fst ∧ K_1 ((n, n_4, true, IntKind.wrap IntKind.i64 (p_2.fst.snd.snd.snd.fst + (1 : Int)), PUnit.unit), (n_5, n_6, n_7, s, PUnit.unit), (n_8, n_9, n_10, s_1, PUnit.unit), PUnit.unit) (delLs H' [])) (Meets prog (14 : Nat) [Value.int IntKind.u64 p_2.fst.fst, Value.int IntKind.u64 p_2.fst.snd.fst, Value.int IntKind.u64 n, Value.int IntKind.u64 n_4] (delLs H' []) fun (e : Ending) (H' : Nat → Option Obj) ↦ ∃ (b : Bool), e = Ending.returned (Value.bool b) ∧ Br b (∃ (G : Nat → Option Obj), G ≤ H' ∧ ((0 : Int) ≤ p_1.fst.snd.snd.snd.fst ∧ p_1.fst.snd.snd.snd.fst < (↑p.fst.fst.snd.fst : Int)) ∧ PtrK p.fst.fst.1 fun (A : Addr) ↦ PtrK (some (Addr.add A (Int.toNat p_1.fst.snd.snd.snd.fst * (4 : Nat)))) fun (a : Addr) ↦ ∃ (n_5 : Int), ∃ (n_6 : Int), ∃ (n_7 : Int), ∃ (s : ByteArray), Heap.has G a [Value.int IntKind.i64 n_5, Value.int IntKind.u32 n_6, Value.int IntKind.u32 n_7, Value.string s] ∧ ((0 : Int) ≤ p_2.fst.snd.snd.snd.fst ∧ p_2.fst.snd.snd.snd.fst < (↑p.fst.fst.snd.fst : Int)) ∧ PtrK p.fst.fst.1 fun (A : Addr) ↦ PtrK (some (Addr.add A (Int.toNat p_2.fst.snd.snd.snd.fst * (4 : Nat)))) fun (a : Addr) ↦ ∃ (n_8 : Int), ∃ (n_9 : Int), ∃ (n_10 : Int), ∃ (s_1 : ByteArray), Heap.has G a [Value.int IntKind.i64 n_8, Value.int IntKind.u32 n_9, Value.int IntKind.u32 n_10, Value.string s_1] ∧ p.fst.fst.1 = p.fst.fst.1 ∧ p.fst.fst.snd.fst = p.fst.fst.snd.fst ∧ p.fst.fst.snd.snd = p.fst.fst.snd.snd ∧ (0 : Nat) = (0 : Nat) ∧ (0 : Nat) = (0 : Nat) ∧ p_1.fst.snd.snd.snd.fst = p_1.fst.snd.snd.snd.fst ∧ K_1 ((n, n_4, true, IntKind.wrap IntKind.i64 (p_2.fst.snd.snd.snd.fst + (1 : Int)), PUnit.unit), (n_5, n_6, n_7, s, PUnit.unit), (n_8, n_9, n_10, s_1, PUnit.unit), PUnit.unit) H') (p.fst.fst.1 = p.fst.fst.1 ∧ p.fst.fst.snd.fst = p.fst.fst.snd.fst ∧ p.fst.fst.snd.snd = p.fst.fst.snd.snd ∧ (0 : Nat) = (0 : Nat) ∧ (0 : Nat) = (0 : Nat) ∧ p_1.fst.snd.snd.snd.fst = p_1.fst.snd.snd.snd.fst ∧ K_1 ((p_2.fst.fst, p_2.fst.snd.fst, p_2.fst.snd.snd.fst, IntKind.wrap IntKind.i64 (p_2.fst.snd.snd.snd.fst + (1 : Int)), PUnit.unit), (p_2.snd.fst.fst, p_2.snd.fst.snd.fst, p_2.snd.fst.snd.snd.fst, p_2.snd.fst.snd.snd.snd.fst, PUnit.unit), (p_2.snd.snd.fst.fst, p_2.snd.snd.fst.snd.fst, p_2.snd.snd.fst.snd.snd.fst, p_2.snd.snd.fst.snd.snd.snd.fst, PUnit.unit), PUnit.unit) H'))) (p.fst.fst.1 = p.fst.fst.1 ∧ p.fst.fst.snd.fst = p.fst.fst.snd.fst ∧ p.fst.fst.snd.snd = p.fst.fst.snd.snd ∧ (0 : Nat) = (0 : Nat) ∧ (0 : Nat) = (0 : Nat) ∧ K ((p_2.fst.fst, p_2.fst.snd.fst, p_2.fst.snd.snd.fst, IntKind.wrap IntKind.i64 (p_1.fst.snd.snd.snd.fst + (1 : Int)), PUnit.unit), (p_2.snd.fst.fst, p_2.snd.fst.snd.fst, p_2.snd.fst.snd.snd.fst, p_2.snd.fst.snd.snd.snd.fst, PUnit.unit), (p_2.snd.snd.fst.fst, p_2.snd.snd.fst.snd.fst, p_2.snd.snd.fst.snd.snd.fst, p_2.snd.snd.fst.snd.snd.snd.fst, PUnit.unit), PUnit.unit) H)) ((p_1.fst.fst, p_1.fst.snd.fst, p_1.fst.snd.snd.fst, IntKind.wrap IntKind.i64 (p_1.fst.snd.snd.snd.fst + (1 : Int)), PUnit.unit), (p_1.snd.fst.fst, p_1.snd.fst.snd.fst, p_1.snd.fst.snd.snd.fst, p_1.snd.fst.snd.snd.snd.fst, PUnit.unit), (p_1.snd.snd.fst.fst, p_1.snd.snd.fst.snd.fst, p_1.snd.snd.fst.snd.snd.fst, p_1.snd.snd.fst.snd.snd.snd.fst, PUnit.unit), PUnit.unit) H) (Meets prog (15 : Nat) [Value.slice p.fst.fst.1 p.fst.fst.snd.fst p.fst.fst.snd.snd] H fun (e : Ending) (H' : Nat → Option Obj) ↦ ∃ (n : Int), ∃ (n_1 : Int), ∃ (n_2 : Int), ∃ (s : ByteArray), ∃ (n_3 : Int), ∃ (n_4 : Int), ∃ (n_5 : Int), ∃ (s_1 : ByteArray), ∃ (b : Bool), e = Ending.returned (Value.tuple { toList := [Value.agg { toList := [Value.int IntKind.i64 n, Value.int IntKind.u32 n_1, Value.int IntKind.u32 n_2, Value.string s] }, Value.agg { toList := [Value.int IntKind.i64 n_3, Value.int IntKind.u32 n_4, Value.int IntKind.u32 n_5, Value.string s_1] }, Value.bool b] }) ∧ Br (andO (some (andO (some (andO (some (andO none (n == p_1.snd.fst.fst))) (n_1 == p_1.snd.fst.snd.fst))) (n_2 == p_1.snd.fst.snd.snd.fst))) (s == p_1.snd.fst.snd.snd.snd.fst)) (Br (andO (some (andO (some (andO (some (andO none (n_3 == p_1.snd.snd.fst.fst))) (n_4 == p_1.snd.snd.fst.snd.fst))) (n_5 == p_1.snd.snd.fst.snd.snd.fst))) (s_1 == p_1.snd.snd.fst.snd.snd.snd.fst)) (R (Ending.returned (Value.bool (b == p_1.fst.snd.snd.fst))) H') (R (Ending.returned (Value.bool false)) H')) (R (Ending.returned (Value.bool false)) H'))) (((0 : Int), (0 : Int), false, (0 : Int), PUnit.unit), ((0 : Int), (0 : Int), (0 : Int), { data := #[] }, PUnit.unit), ((0 : Int), (0 : Int), (0 : Int), { data := #[] }, PUnit.unit), PUnit.unit) H)
theorem vc_lfar35 (a : Option Addr) (n : Nat) (c : Nat) (R : Ending → Heap → Prop) (H : Heap) : vcFun prog h_lfar35 f6 [SV.c (SC.v (Value.slice a n c))] R H = nf_lfar35 a n c R H := by kernel_rfl

end Cr

set_option linter.unusedVariables false
set_option linter.unusedSimpArgs false
namespace Sx
open Go
set_option linter.unusedSectionVars false
variable [Dr]
section
variable {P : Program} {H : Type} {enc : TypeId × Value → H} {W : World}
theorem open_sl {E : Type} [Inhabited E] {tS tE sz by_ : Nat} {cell : E → List Value} {Q : E → Prop} (hS : P.underlying tS = some (.slice tE)) (hc : P.cellsOf tE = sz) (hby : P.bytesOf tE = by_) (hsz : 0 < sz) (hcl : ∀ e, (cell e).length = sz)
    (hon : ∀ e, ∀ x ∈ cell e, one x = true)
    (op : ∀ (fuel : Nat) (cs : List Value) (y : DataW H × List MemPlace), DataW.trod enc P W 0 (fun _ => true) true fuel tE cs = some y → ∃ e, cs = cell e ∧ Q e)
    {v : Value} {d : DataW H} {ps : List MemPlace} {base : Nat} (hv : Value.okWide P W .any base tS v) (h : DataW.Trod enc P W 0 (fun _ => true) true tS v d ps) :
    ∃ l : List E, SliceAt (full W) v sz (l.map cell) ∧ (∀ e ∈ l, Q e) ∧ ((d.weights P tS).all (· ≤ reachBytes) = true → l.length * by_ ≤ reachBytes) := by
  obtain ⟨a, len, cap, rfl⟩ := Go.WideShapes.okWide_slice hS hv
  obtain ⟨fuel, hf⟩ := h
  rcases Go.Deep.open_slice hS hf with ⟨e, e2⟩ | ⟨A, ln, cp, m, n, D, Pl, e, hb, hl, hm, hmm, e2, hx⟩
  · cases e
    exact ⟨[], ⟨none, 0, 0, rfl, rfl, Nat.le_refl _, by simp, by simp, by simp⟩, by simp, by simp⟩
  · cases e
    obtain ⟨rfl, -⟩ := Prod.mk.inj e2
    simp only [if_true] at hmm
    subst hmm
    have a0 : A.add (0 * sz) = A := by rw [Nat.zero_mul]; rfl
    have a1 : ∀ B : Addr, B.add 0 = B := fun B => rfl
    have pick : ∀ i, ∃ p : E, i < len → Q p ∧ (full W).has (A.add (i * sz)) (cell p) ∧ A.spot = none := fun i => by
      by_cases hi : i < len
      · obtain ⟨cs', h1, h2⟩ := hx i (by omega)
        rw [hc] at h1
        obtain ⟨p, rfl, hp⟩ := op _ _ _ h2
        obtain ⟨_, h3, h4⟩ := World.cells?_some h1
        refine ⟨p, fun _ => ⟨hp, ?_, ?_⟩⟩
        · intro j x hj
          have hj4 : j < sz := by have := (List.getElem?_eq_some_iff.1 hj).1; rw [hcl] at this; exact this
          have := h4 j hj4
          rw [hj] at this
          exact this
        · obtain ⟨cs0, k1, k2⟩ := hx 0 (by omega)
          rw [hc] at k1
          obtain ⟨k5, k3, k4⟩ := World.cells?_some k1
          have := k4 0 hsz
          rw [a0, a1, List.getElem?_eq_getElem (by omega)] at this
          unfold World.cell? at this
          split at this
          · split at this
            · cases this
            · rename_i hs
              simpa using hs
          · cases this
      · exact ⟨default, fun h => absurd h hi⟩
    obtain ⟨f, hf⟩ := Classical.axiomOfChoice pick
    refine ⟨(List.range len).map f, ⟨some A, len, _, rfl, by simp, hl, ?_, ?_, fun i e he => ?_⟩, ?_, fun hw => ?_⟩
    · intro e he
      obtain ⟨p, _, rfl⟩ := List.mem_map.1 he
      exact hcl p
    · intro e he
      obtain ⟨p, _, rfl⟩ := List.mem_map.1 he
      exact hon p
    · simp only [List.getElem?_map] at he
      obtain ⟨p, hp, rfl⟩ := Option.map_eq_some_iff.1 he
      obtain ⟨i', hi', rfl⟩ := Option.map_eq_some_iff.1 hp
      have hlt := (List.getElem?_eq_some_iff.1 hi').1
      have hii : i' = i := by have := (List.getElem?_eq_some_iff.1 hi').2; simp at this; omega
      subst hii
      obtain ⟨_, g1, g2⟩ := hf i' (by simpa using hlt)
      exact ⟨A, rfl, g2, g1⟩
    · intro p hp
      obtain ⟨i, hi, rfl⟩ := List.mem_map.1 hp
      exact (hf i (List.mem_range.1 hi)).1
    · simp only [DataW.weights, hS, List.all_cons, Bool.and_eq_true, decide_eq_true_eq, List.length_map, List.length_range, hby] at hw
      simp only [List.length_map, List.length_range]
      have h0 := hw.1
      exact Nat.le_trans (Nat.mul_le_mul_right _ (Nat.le_add_right _ _)) h0
end
end Sx

set_option linter.unusedVariables false
set_option linter.unusedSimpArgs false
namespace Cr
open Go Sx
open Go.Proofs.Try
set_option linter.unusedSectionVars false
variable [Dr]
set_option maxRecDepth 100000
theorem own : ownKnob Go.Proofs.Try.prog.godebug = none := by kernel_rfl
theorem laidOut : laidOutB Go.Proofs.Try.prog = true := by kernel_rfl
section
variable {H : Type} {enc : TypeId × Value → H} {W : World}
theorem u32_wf {b : Int} (w : (Lit.int .u32 b).wf = true) : U32 b := by simp [Lit.wf, IntKind.min, IntKind.max, IntKind.bits, IntKind.signed] at w; omega
theorem i64_wf {b : Int} (w : (Lit.int .i64 b).wf = true) : -9223372036854775808 ≤ b ∧ b ≤ 9223372036854775807 := by simp [Lit.wf, IntKind.min, IntKind.max, IntKind.bits, IntKind.signed] at w; omega
abbrev I64 (x : Int) : Prop := -9223372036854775808 ≤ x ∧ x ≤ 9223372036854775807
theorem openPt {fuel : Nat} {cs : List Value} {y : DataW H × List MemPlace} (h : DataW.trod enc prog W 0 (fun _ => true) true fuel 28 cs = some y) : ∃ p : Pt, cs = ptC p ∧ (U32 p.x ∧ U32 p.y) ∧ I64 p.id := by
  obtain ⟨y0, y1, y2, y3, n, _, hl, h0, h1, h2, h3⟩ := Go.Joins.trod_struct4 Go.Proofs.Try.underlying28 h
  obtain ⟨a, e0, _, w0⟩ := DataW.trod_int Go.Proofs.Try.underlying3 h0
  obtain ⟨b, e1, _, w1⟩ := DataW.trod_int Go.Proofs.Try.underlying26 h1
  obtain ⟨c, e2, _, w2⟩ := DataW.trod_int Go.Proofs.Try.underlying26 h2
  obtain ⟨s, e3, _, _⟩ := DataW.trod_string Go.Proofs.Try.underlying9 h3
  have c4 : prog.cellsOf 28 = 4 := by kernel_rfl
  have c1 : prog.cellsOf 3 = 1 := by kernel_rfl
  have c2 : prog.cellsOf 26 = 1 := by kernel_rfl
  have c3 : prog.cellsOf 9 = 1 := by kernel_rfl
  rw [c4] at hl
  match cs, hl with
  | [q0, q1, q2, q3], _ =>
    simp only [c1, c2, c3, List.drop_zero, List.drop_succ_cons, List.take_succ_cons, List.take_zero] at e0 e1 e2 e3
    cases e0; cases e1; cases e2; cases e3
    exact ⟨⟨a, b, c, s⟩, rfl, ⟨u32_wf w1, u32_wf w2⟩, i64_wf w0⟩
theorem openPts {v : Value} {d : DataW H} {ps : List MemPlace} {base : Nat} (hv : Value.okWide prog W .any base 22 v) (h : DataW.Trod enc prog W 0 (fun _ => true) true 22 v d ps) :
    ∃ l : List Pt, SliceAt (full W) v 4 (pts l) ∧ (∀ p ∈ l, (U32 p.x ∧ U32 p.y) ∧ I64 p.id) ∧ ((d.weights prog 22).all (· ≤ reachBytes) = true → l.length ≤ 10000000000000) := by
  obtain ⟨l, h1, h2, h3⟩ := open_sl (P := prog) (cell := ptC) (Q := fun p => (U32 p.x ∧ U32 p.y) ∧ I64 p.id) (sz := 4) (by_ := 32) Go.Proofs.Try.underlying22 (by kernel_rfl) (by kernel_rfl) (by omega) (fun _ => rfl) ptC_one (fun _ _ _ h => openPt h) hv h
  refine ⟨l, h1, h2, fun hw => ?_⟩
  have := h3 hw
  unfold reachBytes at this
  omega
end
end Cr

set_option linter.unusedVariables false
set_option linter.unusedSimpArgs false
namespace Cr
open Go Sx
open Go.Proofs Go.Sort
open Go.Proofs.Try
set_option linter.unusedSectionVars false
variable [Dr]
set_option maxRecDepth 100000
/-! ### Octets in order -/
theorem bl_irrefl : ∀ l : List UInt8, Op.bytesLess l l = false
  | [] => rfl
  | a :: l => by simp [Op.bytesLess, bl_irrefl l]
theorem bl_trans : ∀ {a b c : List UInt8}, Op.bytesLess a b = true → Op.bytesLess b c = true → Op.bytesLess a c = true
  | _, [], _, h, _ => by simp [Op.bytesLess] at h
  | _, _ :: _, [], _, h => by simp [Op.bytesLess] at h
  | [], _ :: _, _ :: _, _, _ => rfl
  | x :: a, y :: b, z :: c, h, h' => by
    simp only [Op.bytesLess, Bool.or_eq_true, decide_eq_true_eq, Bool.and_eq_true, beq_iff_eq] at h h' ⊢
    rcases h with h | ⟨rfl, h⟩
    · rcases h' with h' | ⟨rfl, h'⟩
      · exact .inl (UInt8.lt_trans h h')
      · exact .inl h
    · rcases h' with h' | ⟨rfl, h'⟩
      · exact .inl h'
      · exact .inr ⟨rfl, bl_trans h h'⟩
theorem bl_tri : ∀ {a b : List UInt8}, Op.bytesLess a b = false → Op.bytesLess b a = false → a = b
  | [], [], _, _ => rfl
  | [], _ :: _, h, _ => by simp [Op.bytesLess] at h
  | _ :: _, [], _, h => by simp [Op.bytesLess] at h
  | x :: a, y :: b, h, h' => by
    simp only [Op.bytesLess, Bool.or_eq_false_iff, decide_eq_false_iff_not, Bool.and_eq_false_iff, beq_eq_false_iff_ne] at h h'
    have e : x = y := UInt8.le_antisymm (UInt8.not_lt.1 h'.1) (UInt8.not_lt.1 h.1)
    subst e
    have h1 : Op.bytesLess a b = false := h.2.resolve_left (by simp)
    have h2 : Op.bytesLess b a = false := h'.2.resolve_left (by simp)
    rw [bl_tri h1 h2]
/-- -1, 0, 1 of strings. -/
def strC (a b : ByteArray) : Int := if Op.bytesLess a.toList b.toList then -1 else if (!(Op.bytesLess a.toList b.toList || (a.toList == b.toList))) then 1 else 0
theorem strC_neg {a b : ByteArray} : strC a b < 0 ↔ Op.bytesLess a.toList b.toList = true := by
  unfold strC
  by_cases h : Op.bytesLess a.toList b.toList = true
  · simp [h]
  · rw [if_neg h]
    split <;> simp [h]
def ordH (p q : Pt) : Int := orL [sgn3 p.x q.x, sgn3 p.y q.y, sgn3 p.id q.id, strC p.data q.data]
def ltA (p q : Pt) : Prop := p.x < q.x ∨ (p.x = q.x ∧ (p.y < q.y ∨ (p.y = q.y ∧ p.id < q.id)))
def eqA (p q : Pt) : Prop := p.x = q.x ∧ p.y = q.y ∧ p.id = q.id
def ltH (p q : Pt) : Prop := ltA p q ∨ (eqA p q ∧ Op.bytesLess p.data.toList q.data.toList = true)
theorem ordH_neg {p q : Pt} : ordH p q < 0 ↔ ltH p q := by
  unfold ordH
  rw [orL_neg, orL_neg, orL_neg, orL_neg, sgn3_neg, sgn3_neg, sgn3_neg, sgn3_zero, sgn3_zero, sgn3_zero, strC_neg]
  unfold ltH ltA eqA
  simp only [orL]
  constructor
  · rintro (h | ⟨h1, h | ⟨h2, h | ⟨h3, h | ⟨_, h⟩⟩⟩⟩)
    · exact .inl (.inl h)
    · exact .inl (.inr ⟨h1, .inl h⟩)
    · exact .inl (.inr ⟨h1, .inr ⟨h2, h⟩⟩)
    · exact .inr ⟨⟨h1, h2, h3⟩, h⟩
    · exact absurd h (by decide)
  · rintro ((h | ⟨h1, h | ⟨h2, h⟩⟩) | ⟨⟨h1, h2, h3⟩, h⟩)
    · exact .inl h
    · exact .inr ⟨h1, .inl h⟩
    · exact .inr ⟨h1, .inr ⟨h2, .inl h⟩⟩
    · exact .inr ⟨h1, .inr ⟨h2, .inr ⟨h3, .inl h⟩⟩⟩
theorem lt_ordH {p q : Pt} : ltOf ordH p q = true ↔ ltH p q := by
  unfold ltOf
  rw [decide_eq_true_eq]; exact ordH_neg
theorem lt_ordHn {p q : Pt} : ltOf ordH p q = false ↔ ¬ ltH p q := by
  rw [← lt_ordH]; simp
theorem ltH_trans {p q r : Pt} (h : ltH p q) (h' : ltH q r) : ltH p r := by
  unfold ltH ltA eqA at *
  rcases h with h | ⟨h, k⟩ <;> rcases h' with h' | ⟨h', k'⟩
  · left; omega
  · left; omega
  · left; omega
  · exact .inr ⟨by omega, bl_trans k k'⟩
theorem ltH_irrefl (p : Pt) : ¬ ltH p p := by
  unfold ltH ltA eqA
  rintro (h | ⟨-, h⟩)
  · omega
  · rw [bl_irrefl] at h; cases h
theorem ltH_ntrans {p q r : Pt} (h : ¬ ltH p q) (h' : ¬ ltH q r) : ¬ ltH p r := by
  intro hk
  unfold ltH at *
  have h1 : ¬ ltA p q := fun k => h (.inl k)
  have h2 : ¬ ltA q r := fun k => h' (.inl k)
  unfold ltA eqA at *
  rcases hk with hk | ⟨hk, kk⟩
  · omega
  · have e1 : p.x = q.x ∧ p.y = q.y ∧ p.id = q.id := by omega
    have e2 : q.x = r.x ∧ q.y = r.y ∧ q.id = r.id := by omega
    have b1 : Op.bytesLess p.data.toList q.data.toList = false := by
      cases hb : Op.bytesLess p.data.toList q.data.toList with
      | false => rfl
      | true => exact absurd (.inr ⟨e1, hb⟩) h
    have b2 : Op.bytesLess q.data.toList r.data.toList = false := by
      cases hb : Op.bytesLess q.data.toList r.data.toList with
      | false => rfl
      | true => exact absurd (.inr ⟨e2, hb⟩) h'
    by_cases b3 : Op.bytesLess q.data.toList p.data.toList = true
    · have := bl_trans b3 kk
      rw [b2] at this; cases this
    · have e := bl_tri b1 (by simpa using b3)
      rw [e, b2] at kk; cases kk
theorem swoH : SWO (ltOf ordH) where
  irrefl x := lt_ordHn.2 (ltH_irrefl x)
  trans x y z h h' := lt_ordH.2 (ltH_trans (lt_ordH.1 h) (lt_ordH.1 h'))
  ntrans x y z h h' := lt_ordHn.2 (ltH_ntrans (lt_ordHn.1 h) (lt_ordHn.1 h'))
section
variable {H : Heap} {R : Ending → Heap → Prop}
theorem s_nanw {x : Int} (k : R (.returned (.bool false)) H) : Meets prog 64 [.int .u32 x] H R := by
  refine spec_of func64 (by kernel_rfl) (fun t h => by cases h) ?_ (vc_nanw x R H) ?_
  · simp [argsR, SV.rep, SC.rep, Sx.one]
  unfold nf_nanw
  rw [bne_self_eq_false]
  exact k
theorem s_nans {x : ByteArray} (k : R (.returned (.bool false)) H) : Meets prog 66 [.string x] H R := by
  refine spec_of func66 (by kernel_rfl) (fun t h => by cases h) ?_ (vc_nans x R H) ?_
  · simp [argsR, SV.rep, SC.rep, Sx.one]
  unfold nf_nans
  simpa using k
theorem s_cmpw {x y : Int} (k : R (.returned (vi (sgn3 x y))) H) : Meets prog 44 [.int .u32 x, .int .u32 y] H R := by
  refine spec_of func44 (by kernel_rfl) (fun t h => by cases h) ?_ (vc_cmpw x y R H) ?_
  · simp [argsR, SV.rep, SC.rep, Sx.one]
  unfold nf_cmpw
  refine s_nanw ⟨false, rfl, s_nanw ⟨false, rfl, br (fun q => by cases q) fun _ => br (fun q => by cases q) fun _ => ?_⟩⟩
  exact sgn3_br (Q := fun n => R (.returned (vi n)) H) k
theorem s_cmps {x y : ByteArray} (k : R (.returned (vi (strC x y))) H) : Meets prog 46 [.string x, .string y] H R := by
  refine spec_of func46 (by kernel_rfl) (fun t h => by cases h) ?_ (vc_cmps x y R H) ?_
  · simp [argsR, SV.rep, SC.rep, Sx.one]
  unfold nf_cmps
  refine s_nans ⟨false, rfl, s_nans ⟨false, rfl, br (fun q => by cases q) fun _ => br (fun q => by cases q) fun _ => ?_⟩⟩
  unfold strC at k
  refine br (fun q => ?_) fun q => br (fun q2 => ?_) fun q2 => ?_
  · rw [if_pos q] at k; exact k
  · rw [if_neg (by rw [q]; decide), if_pos q2] at k; exact k
  · rw [if_neg (by rw [q]; decide), if_neg (by rw [q2]; decide)] at k; exact k
theorem cmpM_ordH : CmpM prog 28 ptC ordH := by
  intro _ x y H R k
  refine spec_of func28 (by kernel_rfl) (fun t h => by cases h) ?_ (vc_hord x.id x.x x.y x.data y.id y.x y.y y.data R H) ?_
  · simp [argsR, SV.rep, SC.rep, Sx.one, SegsRep]
  unfold nf_hord
  refine ⟨H, fun _ _ e => e, s_cmpw ⟨keep_same _ _ _, _, rfl, s_cmpw ⟨keep_same _ _ _, _, rfl, s_cmpi ⟨keep_same _ _ _, _, rfl, s_cmps ⟨keep_same _ _ _, _, rfl, fun v H' hle hf hb hrow => ?_⟩⟩⟩⟩⟩
  simp only [delLs_nil] at hle hf hb ⊢
  refine s_cor (l := [sgn3 x.x y.x, sgn3 x.y y.y, sgn3 x.id y.id, strC x.data y.data]) (row_slice hrow) (by simp) ⟨keep_same _ _ _, _, rfl, ?_⟩
  show R _ (Heap.delO H' (blockOf v))
  rw [lend_off hle hf hb]
  exact k
/-- Are two points at one place? -/
def samP (p q : Pt) : Bool := (p.x == q.x) && (p.y == q.y)
theorem pred_hpl1 : Pred2 30 samP := fun p q H R k => by
  refine spec_of func30 (by kernel_rfl) (fun t h => by cases h) ?_ (vc_hpl1 p.id p.x p.y p.data q.id q.x q.y q.data R H) ?_
  · simp [argsR, SV.rep, SC.rep, Sx.one, SegsRep]
  unfold nf_hpl1
  unfold samP at k
  refine br (fun e => ?_) fun e => ?_
  · rw [e, Bool.true_and] at k; exact k
  · rw [e, Bool.false_and] at k; exact k
/-- One of each place, in order. -/
theorem s_hplc {v : Value} {l : List Pt} (h : SliceAt H v 4 (pts l)) (hl : l.length ≤ 1000000)
    (k : ∀ d v' H', d.Perm l → d.Pairwise (fun x y => ¬ ltH y x) → H ≤ H' → (∀ b, blockOf v' = some b → H b = none) → RowAt H' v' 28 4 (pts (cpt samP d)) → R (.returned v') H') : Meets prog 16 [v] H R := by
  obtain ⟨a, n, c, e, hn⟩ := h
  subst e
  refine spec_of func16 (by kernel_rfl) (fun t h => by cases h) ?_ (vc_hplc a n c R H) ?_
  · simp [argsR, SV.rep, SC.rep, Sx.one]
  unfold nf_hplc
  refine s_clone ⟨a, n, c, rfl, hn⟩ hl fun v H' h1 h2 h3 => ?_
  obtain ⟨a', c', rfl⟩ := row_val h3
  refine ⟨_, _, _, rfl, _, h3, fun v2 H2 hle2 hf2 hb2 hrow2 => ?_⟩
  have eH : ∀ b o, H b = some o → H2 b = some o := fun b o e => hle2 b o (by
    refine le_delO h1 (fun z hz => h2 z hz) b o e)
  have fr2 : ∀ b, blockOf v2 = some b → H b = none := fun b hb => by
    cases e : H b with
    | none => rfl
    | some o =>
      have := le_delO h1 (fun z hz => h2 z hz) b o e
      rw [hf2 b hb] at this; cases this
  have hpl : (pts l).length = l.length := by simp [pts]
  refine meets_sortFunc (enc := ptC) (cf := ordH) (k := 4) Go.Proofs.sortPt isAgg28 sizeOf28 (fun _ => rfl) (fun x v hv => by simp at hv; rcases hv with rfl | rfl | rfl | rfl <;> rfl) swoH (by kernel_rfl) (by kernel_rfl) cmpM_ordH hrow2 (by omega) ?_
  intro d H3 hp hs hr3 hm
  have eH3 : H ≤ H3 := fun b o e => by rw [hm b (fun q => by rw [fr2 b q] at e; cases e)]; exact eH b o e
  refine ⟨rfl, _, hr3, fun v3 H4 hle4 hf4 hb4 hrow4 => ?_⟩
  have eH4 : H ≤ H4 := fun b o e => hle4 b o (le_delO eH3 (fun z hz => fr2 z hz) b o e)
  have fr3 : ∀ b, blockOf v3 = some b → H b = none := fun b hb => by
    cases e : H b with
    | none => rfl
    | some o =>
      have := le_delO eH3 (fun z hz => fr2 z hz) b o e
      rw [hf4 b hb] at this; cases this
  refine s_cpf pred_hpl1 hrow4 (by rw [hp.length_eq]; exact hl) fun v5 H5 hr5 hb5 hm5 => ⟨fun _ _ e => (by cases e), ?_⟩
  obtain ⟨a5, c5, rfl⟩ := row_val hr5
  refine ⟨_, _, _, rfl, ?_⟩
  refine k d _ _ hp (hs.imp fun {x y} q => lt_ordHn.1 q) ?_ ?_ hr5
  · exact fun b o e => by rw [hm5 b (fun q => by rw [fr3 b q] at e; cases e)]; exact eH4 b o e
  · intro b hb
    rw [hb5] at hb
    exact fr3 b hb
end
end Cr

set_option linter.unusedVariables false
set_option linter.unusedSimpArgs false
namespace Cr
open Go Sx
open Go.Proofs.Try
set_option linter.unusedSectionVars false
variable [Dr]
set_option maxRecDepth 100000
/-! ### The farthest pair -/
def dP (p q : Pt) : Int := sqd p.x p.y q.x q.y
abbrev FS := Pt × Pt × Int
def stpF (p : Pt) (s : FS) (q : Pt) : FS := if dP p q > s.2.2 then (p, q, dP p q) else s
def outF : List Pt → FS → FS
  | [], s => s
  | p :: r, s => outF r (r.foldl (stpF p) s)
def stpO (p : Pt) (s : Option FS) (q : Pt) : Option FS := match s with
  | none => some (p, q, dP p q)
  | some s => some (stpF p s q)
def outO : List Pt → Option FS → Option FS
  | [], s => s
  | p :: r, s => outO r (r.foldl (stpO p) s)
theorem fold_some (p : Pt) : ∀ (r : List Pt) (s : FS), r.foldl (stpO p) (some s) = some (r.foldl (stpF p) s)
  | [], _ => rfl
  | q :: r, s => by simp only [List.foldl_cons, stpO]; exact fold_some p r _
theorem out_some : ∀ (l : List Pt) (s : FS), outO l (some s) = some (outF l s)
  | [], _ => rfl
  | p :: r, s => by simp only [outO, outF]; rw [fold_some, out_some r]
theorem out_two (p q : Pt) (r : List Pt) : outO (p :: q :: r) none = some (outF (p :: q :: r) (p, q, dP p q)) := by
  have e : stpF p (p, q, dP p q) q = (p, q, dP p q) := by unfold stpF; rw [if_neg (by simp)]
  simp only [outO, outF, List.foldl_cons, stpO, e]
  rw [fold_some]
  exact (out_some (q :: r) (r.foldl (stpF p) (p, q, dP p q))).trans (by simp only [outF])
theorem out_few {l : List Pt} (h : l.length < 2) : outO l none = none := by
  match l, h with
  | [], _ => rfl
  | [p], _ => rfl
  | _ :: _ :: _, h => simp at h; omega
theorem cmpD_gt {m n : Int} : (cmpD (m / 18446744073709551616) (m % 18446744073709551616) (n / 18446744073709551616) (n % 18446744073709551616) > 0) ↔ n < m := by
  unfold cmpD sgn3
  simp only [orL]
  by_cases q1 : m / 18446744073709551616 < n / 18446744073709551616
  · simp [q1]; omega
  · by_cases q2 : m / 18446744073709551616 > n / 18446744073709551616
    · simp [q1, q2]; omega
    · by_cases q3 : m % 18446744073709551616 < n % 18446744073709551616
      · simp [q1, q2, q3]; omega
      · by_cases q4 : m % 18446744073709551616 > n % 18446744073709551616
        · simp [q1, q2, q3, q4]; omega
        · simp [q1, q2, q3, q4]; omega
theorem dLt_iff {m n : Int} : dLt (m / 18446744073709551616) (m % 18446744073709551616) (n / 18446744073709551616) (n % 18446744073709551616) ↔ m < n := by unfold dLt; omega
theorem dP_nn {p q : Pt} (hp : PtC p) (hq : PtC q) : 0 ≤ dP p q := (sqd_in hp.1 hp.2 hq.1 hq.2).1
abbrev z0 : Pt := ⟨0, 0, 0, { data := { toList := [] } }⟩
def fA_ (s : Option FS) : Pt := match s with | none => z0 | some s => s.1
def fB_ (s : Option FS) : Pt := match s with | none => z0 | some s => s.2.1
def dO (s : Option FS) : Int := match s with | none => 0 | some s => s.2.2
section
variable {H : Heap} {R : Ending → Heap → Prop}
theorem s_hfar {v : Value} {l : List Pt} (h : SliceAt H v 4 (pts l)) (hl : l.length ≤ 1000000) (hr : ∀ p ∈ l, PtC p)
    (k : R (.returned (.tuple { toList := [ptV (fA_ (outO l none)), ptV (fB_ (outO l none)), .bool (outO l none).isSome] })) H) : Meets prog 15 [v] H R := by
  obtain ⟨a, n, c, e, hn⟩ := h
  subst e
  have h : SliceAt H (.slice a n c) 4 (pts l) := ⟨a, n, c, rfl, hn⟩
  have hln : l.length = n := by simpa [pts] using hn.1
  refine spec_of func15 (by kernel_rfl) (fun t h => by cases h) ?_ (vc_hfar a n c R H) ?_
  · simp [argsR, SV.rep, SC.rep, Sx.one]
  unfold nf_hfar
  refine br (fun q0 => ?_) fun q0 => ?_
  · simp only [decide_eq_true_eq] at q0
    rw [out_few (by omega)] at k
    exact k
  · simp only [decide_eq_false_iff_not] at q0
    obtain ⟨p0, p1, r, rfl⟩ : ∃ p0 p1 r, l = p0 :: p1 :: r := by
      match l, hln with
      | [], e => simp at e; omega
      | [_], e => simp at e; omega
      | p0 :: p1 :: r, _ => exact ⟨p0, p1, r, rfl⟩
    rw [out_two] at k
    obtain ⟨A0, e0, g0⟩ := pr_get h (i := 0) (p := p0) rfl
    subst e0
    obtain ⟨A1, e1, g1⟩ := pr_get h (i := 1) (p := p1) rfl
    cases e1
    have hc0 := hr p0 (by simp)
    have hc1 := hr p1 (by simp)
    refine ⟨H, heap_refl _, ⟨by omega, by omega⟩, ptr rfl (ptr rfl ⟨_, _, _, _, by simpa using g0, ⟨by omega, by omega⟩, ptr rfl (ptr rfl ⟨_, _, _, _, g1, ?_⟩)⟩)⟩
    refine s_wbet hc0.1 hc0.2 hc1.1 hc1.2 ⟨_, _, rfl, ?_⟩
    simp only [true_and]
    generalize hL : p0 :: p1 :: r = l at *
    refine ⟨fun p H' => ∃ (t : Nat) (s : FS), p.1.1 = (t : Int) ∧ t ≤ n ∧ p.2.2.2.1 = parP s.1 ∧ p.2.2.2.2.1 = parP s.2.1 ∧ p.2.2.2.2.2.1 = (s.2.2 / 18446744073709551616, s.2.2 % 18446744073709551616, ()) ∧ outF (l.drop t) s = outF l (p0, p1, dP p0 p1) ∧ H' = H, fun p _ => (n - p.1.1).toNat,
      ⟨0, (p0, p1, dP p0 p1), rfl, by omega, rfl, rfl, rfl, rfl, rfl⟩, ?_⟩
    rintro ⟨⟨i, _⟩, b2, b3, b5, b6, b7, _⟩ H1 ⟨t, s, hi, ht, hb5, hb6, hb7, hF, rfl⟩
    simp only at hi hb5 hb6 hb7 ⊢
    subst hi hb5 hb6 hb7
    refine br (fun q1 => ?_) fun q1 => ?_
    · simp only [decide_eq_true_eq] at q1
      obtain ⟨p, hd, _, hx⟩ := drop_cons (l := l) (k := t) (by omega)
      obtain ⟨A2, e2, g2⟩ := pr_get h hx
      cases e2
      have hcp := hr p (List.mem_of_getElem? hx)
      refine ⟨⟨by omega, by omega⟩, ptr rfl (ptr rfl ⟨_, _, _, _, g2, ?_⟩)⟩
      rw [wi64 (by omega)]
      have et : ((t : Int) + 1).toNat = t + 1 := by omega
      rw [et]
      refine ⟨⟨by omega, by omega⟩, ?_⟩
      have hsl : SliceAt H1 (.slice (subAddr (some A0) c (t + 1) 4) (n - (t + 1)) (c - (t + 1))) 4 (pts (l.drop (t + 1))) := by
        have := slice_suf h (lo := t + 1) (by omega)
        rwa [← List.map_drop] at this
      rw [hd] at hF
      simp only [outF] at hF
      refine ⟨fun p' H' => ∃ (j : Nat) (s : FS), p'.1.1 = (j : Int) ∧ j ≤ n - (t + 1) ∧ p'.2.2.2.1 = parP s.1 ∧ p'.2.2.2.2.1 = parP s.2.1 ∧ p'.2.2.2.2.2.1 = (s.2.2 / 18446744073709551616, s.2.2 % 18446744073709551616, ()) ∧ outF (l.drop (t + 1)) (((l.drop (t + 1)).drop j).foldl (stpF p) s) = outF l (p0, p1, dP p0 p1) ∧ H' = H1, fun p' _ => (n - p'.1.1).toNat,
        ⟨0, s, rfl, by omega, rfl, rfl, rfl, hF, rfl⟩, ?_⟩
      rintro ⟨⟨i, _⟩, b2', b3', b5, b6, b7, _⟩ H2 ⟨j, s, hi, hj, hb5, hb6, hb7, hF, rfl⟩
      simp only at hi hb5 hb6 hb7 ⊢
      subst hi hb5 hb6 hb7
      refine br (fun q2 => ?_) fun q2 => ?_
      · simp only [decide_eq_true_eq] at q2
        have hj2 : j < (l.drop (t + 1)).length := by rw [List.length_drop]; omega
        obtain ⟨q, hd2, _, hx2⟩ := drop_cons (l := l.drop (t + 1)) (k := j) hj2
        have hx3 : l[t + 1 + j]? = some q := by rw [List.getElem?_drop] at hx2; exact hx2
        have hcq := hr q (List.mem_of_getElem? hx3)
        obtain ⟨A3, e3, g3⟩ := pr_get hsl hx2
        refine ⟨⟨by omega, by omega⟩, ptr e3 (ptr rfl ⟨_, _, _, _, g3, ?_⟩)⟩
        have hnn := dP_nn hcp hcq
        rw [hd2] at hF
        simp only [List.foldl_cons] at hF
        refine s_wbet hcp.1 hcp.2 hcq.1 hcq.2 ⟨_, _, rfl, s_wcmp ⟨_, rfl, br (fun q3 => ?_) fun q3 => ?_⟩⟩
        · have q3 : s.2.2 < dP p q := (cmpD_gt (m := dP p q)).1 (of_decide_eq_true q3)
          rw [wi64 (by omega)]
          have es : stpF p s q = (p, q, dP p q) := by unfold stpF; rw [if_pos (by omega)]
          rw [es] at hF
          exact ⟨H2, heap_refl _, ⟨j + 1, (p, q, dP p q), by simp, by omega, rfl, rfl, rfl, hF, rfl⟩, by omega⟩
        · have q3 : ¬ s.2.2 < dP p q := fun hlt => by
            have h1 := (cmpD_gt (m := dP p q)).2 hlt
            exact (of_decide_eq_false q3) h1
          rw [wi64 (by omega)]
          have es : stpF p s q = s := by unfold stpF; rw [if_neg (by omega)]
          rw [es] at hF
          exact ⟨⟨j + 1, s, by simp, by omega, rfl, rfl, rfl, hF, rfl⟩, by omega⟩
      · simp only [decide_eq_false_iff_not] at q2
        have ej : j = n - (t + 1) := by omega
        rw [show (l.drop (t + 1)).drop j = [] from List.drop_of_length_le (by rw [List.length_drop]; omega)] at hF
        exact ⟨⟨t + 1, s, by simp, by omega, rfl, rfl, rfl, hF, by trivial⟩, by omega⟩
    · simp only [decide_eq_false_iff_not] at q1
      rw [List.drop_of_length_le (by omega)] at hF
      simp only [outF] at hF
      refine ⟨H1, heap_refl _, ?_⟩
      rw [← hF] at k
      exact k
end
end Cr

set_option linter.unusedVariables false
set_option linter.unusedSimpArgs false
namespace Cr
open Go Sx
open Go.Proofs.Try
set_option linter.unusedSectionVars false
variable [Dr]
set_option maxRecDepth 100000
section
variable {H : Heap} {R : Ending → Heap → Prop}
theorem s_pwit1 {v : Value} {l : List Pt} {x y : Int} (h : SliceAt H v 4 (pts l)) (hl : l.length ≤ 1000000) (hr : ∀ p ∈ l, PtC p) (hx : U32 x) (hy : U32 y) (hon : onL l (plc x y) = true)
    (k : ∀ H', H ≤ H' → R (.returned (.bool true)) H') : Meets prog 20 [v, .int .u32 x, .int .u32 y] H R := by
  obtain ⟨a, n, c, e, hn⟩ := h
  subst e
  have h : SliceAt H (.slice a n c) 4 (pts l) := ⟨a, n, c, rfl, hn⟩
  refine spec_of func20 (by kernel_rfl) (fun t h => by cases h) ?_ (vc_pwit a n c x y R H) ?_
  · simp [argsR, SV.rep, SC.rep, Sx.one]
  unfold nf_pwit
  intro b hb
  have l1 := upd_leN (o := .cells { toList := [.int .u32 y] } 26 (0, 0)) hb
  refine ptr rfl ⟨y, cells_has (l := [.int .u32 y]) (upd_at _ _ _), s_pon (slice_le h l1) hl hr hx hy fun H' hle => ⟨_, rfl, br (fun _ => ?_) fun q => ?_⟩⟩
  · exact k H' (heap_trans l1 hle)
  · rw [hon] at q; cases q
abbrev p5 : Pt := ⟨5, 0, 0, { data := { toList := [] } }⟩
theorem s_al35 (k : ∀ H', H ≤ H' → R (.returned (.bool true)) H') : Meets prog 7 [] H R := by
  refine spec_of func7 (by kernel_rfl) (fun t h => by cases h) ?_ (vc_al35 R H) ?_
  · simp [argsR]
  unfold nf_al35
  intro v H1 hle hf hb hrow
  have hrow : RowAt H1 v 28 4 (pts [p5]) := hrow
  obtain ⟨a0, c0, rfl⟩ := row_val hrow
  refine spec_of func8 (by kernel_rfl) (fun t h => by cases h) ?_ (vc_hof a0 1 c0 _ H1) ?_
  · simp [argsR, SV.rep, SC.rep, Sx.one]
  unfold nf_hof
  refine s_hplc (row_slice hrow) (by simp) fun d v' H2 hp hs hle2 hf2 hr2 => ?_
  have hd : d = [p5] := List.perm_singleton.1 hp
  subst hd
  have hc : cpt samP [p5] = [p5] := rfl
  rw [hc] at hr2
  obtain ⟨a1, c1, rfl⟩ := row_val hr2
  refine ⟨_, _, _, rfl, br (fun _ => ?_) fun q => by simp at q⟩
  refine ⟨fun _ _ e => (by cases e), _, _, _, rfl, br (fun _ => ?_) fun q => by simp at q⟩
  have hsl := row_slice hr2
  obtain ⟨A, e, g⟩ := pr_get (a := a1) hsl (i := 0) (p := p5) rfl
  subst e
  have g0 : H2.has (A.add 0) (ptC p5) := by simpa using g
  have g1 : H2.has ((A.add 0).add 0) [vi 5] := fun j x hx => by
    have e : (A.add 0).add 0 = A.add 0 := rfl
    rw [e]
    match j, hx with
    | 0, hx => exact g0 0 x (by simpa using hx)
    | j + 1, hx => simp at hx
  refine ⟨⟨by decide, by simp⟩, ptr rfl (ptr rfl (ptr rfl ⟨5, g1, br (fun _ => ?_) fun q => by simp at q⟩))⟩
  refine spec_of func9 (by kernel_rfl) (fun t h => by cases h) ?_ (vc_hhas (some A) 1 c1 0 0 _ H2) ?_
  · simp [argsR, SV.rep, SC.rep, Sx.one]
  unfold nf_hhas
  refine s_pwit1 (l := [p5]) hsl (by simp) (fun p hp => by simp at hp; subst hp; exact ⟨by decide, by decide⟩) (by decide) (by decide) (by decide) fun H3 hle3 => ⟨true, rfl, true, rfl, k H3 (heap_trans hle (heap_trans hle2 hle3))⟩
end
end Cr

set_option linter.unusedVariables false
set_option linter.unusedSimpArgs false
namespace Cr
open Go Sx
open Go.Proofs.Try
set_option linter.unusedSectionVars false
variable [Dr]
set_option maxRecDepth 100000
section
variable {H : Heap} {R : Ending → Heap → Prop}
theorem dO_lt {s : FS} {d : Int} : dLt (dO (some s) / 18446744073709551616) (dO (some s) % 18446744073709551616) (d / 18446744073709551616) (d % 18446744073709551616) ↔ s.2.2 < d := dLt_iff
theorem fld_xy {H : Heap} {A : Addr} {p : Pt} (h : H.has A (ptC p)) : H.has (A.add 1) [.int .u32 p.x] ∧ H.has (A.add 2) [.int .u32 p.y] := fld h
theorem eqs_pt35 : ∀ t, memN [28] t = true → EqOK prog t := fun t h => by
  obtain rfl : t = 28 := memN_one' h
  exact eqOK_of (by kernel_rfl) (by kernel_rfl) (by kernel_rfl)
theorem s_lfar35 {v : Value} {l0 : List Pt} (h0 : SliceAt H v 4 (pts l0)) (hr0 : ∀ p ∈ l0, PtC p) (k : ∀ H', H ≤ H' → R (.returned (.bool true)) H') : Meets prog 6 [v] H R := by
  obtain ⟨a, n, c, e, hn⟩ := h0
  subst e
  have h0 : SliceAt H (.slice a n c) 4 (pts l0) := ⟨a, n, c, rfl, hn⟩
  refine spec_of func6 (by kernel_rfl) eqs_pt35 ?_ (vc_lfar35 a n c R H) ?_
  · simp [argsR, SV.rep, SC.rep, Sx.one]
  unfold nf_lfar35
  refine s_al35 fun H1 hle1 => ⟨true, rfl, br (fun q => by cases q) fun _ => ?_⟩
  have h1 := slice_le h0 hle1
  have hln0 : l0.length = n := by simpa [pts] using hn.1
  refine ⟨fun p H' => H' = H1 ∧ ∃ l : List Pt, SliceAt H1 (.slice p.1.1.1 p.1.1.2.1 p.1.1.2.2) 4 (pts l) ∧ l.length ≤ 30 ∧ ∀ p ∈ l, PtC p, ?_, ?_⟩
  · refine br (fun q => ?_) fun q => ?_
    · have q : (30 : Int) < n := by simpa using q
      have hs := slice_sub h1 (lo := 0) (hi := 30) (by omega) (by omega)
      have hc := (slice_len h1).2
      refine ⟨⟨by decide, by omega⟩, rfl, l0.take 30, ?_, by rw [List.length_take]; omega, fun p hp => hr0 p (List.mem_of_mem_take hp)⟩
      have e : pts (l0.take 30) = ((pts l0).drop 0).take (30 - 0) := by rw [List.drop_zero]; exact List.map_take
      rw [e]; exact hs
    · have q : ¬ (30 : Int) < n := by simpa using q
      exact ⟨rfl, l0, h1, by omega, hr0⟩
  rintro ⟨⟨⟨a, n, c⟩, _⟩, _⟩ H2 ⟨rfl, l, h, hl30, hr⟩
  simp only [true_and] at h ⊢
  have hln : l.length = n := by have := (slice_len h).1; simpa [pts] using this
  refine ⟨fun p H' => ∃ (t : Nat) (s : Option FS), p.1.2.2.2.1 = (t : Int) ∧ t ≤ n ∧ p.1.1 = dO s / 18446744073709551616 ∧ p.1.2.1 = dO s % 18446744073709551616 ∧ p.1.2.2.1 = s.isSome ∧ p.2.1 = parP (fA_ s) ∧ p.2.2.1 = parP (fB_ s) ∧ outO (l.drop t) s = outO l none ∧ H' = H2, fun p _ => (n - p.1.2.2.2.1).toNat,
    ⟨0, none, rfl, by omega, rfl, rfl, rfl, rfl, rfl, rfl, rfl⟩, ?_⟩
  rintro ⟨⟨x1, x2, x3, i, _⟩, b3, b4, _⟩ H3 ⟨t, s, hi, ht, e1, e2, e3, e4, e5, hF, rfl⟩
  simp only [true_and] at hi e1 e2 e3 e4 e5 ⊢
  subst hi e1 e2 e3 e4 e5
  refine br (fun q1 => ?_) fun q1 => ?_
  · simp only [decide_eq_true_eq] at q1
    obtain ⟨p, hd, _, hx⟩ := drop_cons (l := l) (k := t) (by omega)
    have hcp := hr p (List.mem_of_getElem? hx)
    obtain ⟨A, eA, gp⟩ := pr_get h hx
    subst eA
    rw [hd] at hF
    simp only [outO] at hF
    rw [wi64 (by omega)]
    refine ⟨fun p' H' => ∃ (j : Nat) (s : Option FS), p'.1.2.2.2.1 = (j : Int) ∧ t + 1 ≤ j ∧ j ≤ n ∧ p'.1.1 = dO s / 18446744073709551616 ∧ p'.1.2.1 = dO s % 18446744073709551616 ∧ p'.1.2.2.1 = s.isSome ∧ p'.2.1 = parP (fA_ s) ∧ p'.2.2.1 = parP (fB_ s) ∧ outO (l.drop (t + 1)) ((l.drop j).foldl (stpO p) s) = outO l none ∧ H' = H3, fun p' _ => (n - p'.1.2.2.2.1).toNat,
      ⟨t + 1, s, by simp, by omega, by omega, rfl, rfl, rfl, rfl, rfl, hF, rfl⟩, ?_⟩
    rintro ⟨⟨x1, x2, x3, i, _⟩, b3, b4, _⟩ H4 ⟨j, s, hi, hj0, hj, e1, e2, e3, e4, e5, hF, rfl⟩
    simp only [true_and] at hi e1 e2 e3 e4 e5 ⊢
    subst hi e1 e2 e3 e4 e5
    refine br (fun q2 => ?_) fun q2 => ?_
    · simp only [decide_eq_true_eq] at q2
      obtain ⟨q, hd2, _, hx2⟩ := drop_cons (l := l) (k := j) (by omega)
      have hcq := hr q (List.mem_of_getElem? hx2)
      obtain ⟨A', eA, gq⟩ := pr_get h hx2
      cases eA
      rw [hd2] at hF
      simp only [List.foldl_cons] at hF
      obtain ⟨p1, p2⟩ := fld_xy gp
      obtain ⟨q3, q4⟩ := fld_xy gq
      refine ⟨H4, heap_refl _, ⟨by omega, by omega⟩, ptr rfl (ptr rfl (ptr rfl ⟨_, p1, ⟨by omega, by omega⟩, ptr rfl (ptr rfl (ptr rfl ⟨_, p2, ⟨by omega, by omega⟩, ptr rfl (ptr rfl (ptr rfl ⟨_, q3, ⟨by omega, by omega⟩, ptr rfl (ptr rfl (ptr rfl ⟨_, q4, ?_⟩))⟩))⟩))⟩))⟩
      refine s_rbet hcp.1 hcp.2 hcq.1 hcq.2 ⟨keep_same _ _ _, _, _, rfl, ?_⟩
      rw [wi64 (by omega)]
      have take : ∀ s' : Option FS, s' = some (p, q, dP p q) → stpO p s q = s' → (∃ (G : Heap), G ≤ H4 ∧ (0 ≤ (t : Int) ∧ (t : Int) < n) ∧ True) := fun _ _ _ => ⟨H4, heap_refl _, ⟨by omega, by omega⟩, trivial⟩
      refine br (fun q5 => ?_) fun q5 => ?_
      · have hs : s = none := by cases s with | none => rfl | some _ => simp at q5
        subst hs
        refine ⟨H4, heap_refl _, ⟨by omega, by omega⟩, ptr rfl (ptr rfl ⟨_, _, _, _, gp, ⟨by omega, by omega⟩, ptr rfl (ptr rfl ⟨_, _, _, _, gq, ?_⟩)⟩)⟩
        exact ⟨⟨j + 1, some (p, q, dP p q), by simp, by omega, by omega, rfl, rfl, rfl, rfl, rfl, hF, rfl⟩, by omega⟩
      · obtain ⟨s, rfl⟩ : ∃ s', s = some s' := by cases s with | none => simp at q5 | some s => exact ⟨s, rfl⟩
        refine s_rless ⟨_, rfl, br (fun q6 => ?_) fun q6 => ?_⟩
        · have q6 := (dO_lt (s := s) (d := dP p q)).1 (of_decide_eq_true q6)
          have es : stpO p (some s) q = some (p, q, dP p q) := by simp only [stpO]; unfold stpF; rw [if_pos (by omega)]
          rw [es] at hF
          refine ⟨H4, heap_refl _, ⟨by omega, by omega⟩, ptr rfl (ptr rfl ⟨_, _, _, _, gp, ⟨by omega, by omega⟩, ptr rfl (ptr rfl ⟨_, _, _, _, gq, ?_⟩)⟩)⟩
          exact ⟨⟨j + 1, some (p, q, dP p q), by simp, by omega, by omega, rfl, rfl, rfl, rfl, rfl, hF, rfl⟩, by omega⟩
        · have q6 : ¬ s.2.2 < dP p q := fun hlt => of_decide_eq_false q6 ((dO_lt (s := s) (d := dP p q)).2 hlt)
          have es : stpO p (some s) q = some s := by simp only [stpO]; unfold stpF; rw [if_neg (by omega)]
          rw [es] at hF
          exact ⟨⟨j + 1, some s, by simp, by omega, by omega, rfl, rfl, rfl, rfl, rfl, hF, rfl⟩, by omega⟩
    · simp only [decide_eq_false_iff_not] at q2
      rw [show l.drop j = [] from List.drop_of_length_le (by omega)] at hF
      exact ⟨⟨t + 1, s, by simp, by omega, rfl, rfl, rfl, rfl, rfl, hF, by trivial⟩, by omega⟩
  · simp only [decide_eq_false_iff_not] at q1
    rw [show l.drop t = [] from List.drop_of_length_le (by omega)] at hF
    simp only [outO] at hF
    subst hF
    refine s_hfar h (by omega) hr ⟨_, _, _, _, _, _, _, _, _, rfl, ?_⟩
    generalize fA_ (outO l none) = P1
    generalize fB_ (outO l none) = P2
    simp only [andO, ba_beq, beq_self_eq_true, decide_true, Bool.and_self]
    exact br (fun _ => br (fun _ => k _ hle1) fun q => by cases q) fun q => by cases q
end
end Cr
