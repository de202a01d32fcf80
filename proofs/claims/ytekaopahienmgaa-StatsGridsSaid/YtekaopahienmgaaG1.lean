/- The grove: nodes by number; the library's Clone of points. -/
import Derived.Test.YtekaopahienmgaaSxX
import Derived.Test.YtekaopahienmgaaK4
set_option linter.unusedVariables false
set_option linter.unusedSimpArgs false
namespace Cr
open Go Sx Stb
open Go.Proofs.Try
set_option maxRecDepth 100000
abbrev ndA (lf : Bool) (a : Option Addr) (n c : Nat) (nx : Int) (ks cs : List Int) : SV := .agg [.c (.v (.bool lf)), .c (.v (.slice a n c)), .c (.v (.int .i64 nx)), .ints .i64 4 ks, .ints .i64 4 cs]
abbrev ptA (i x y : Int) (d : ByteArray) : SV := .agg [.c (.v (.int .i64 i)), .c (.v (.int .u32 x)), .c (.v (.int .u32 y)), .c (.v (.string d))]
def h_np : Hints := { loops := [(2, ⟨[0, 2, 5, 6], [.f 7 (.int .i64)], []⟩)] }
def h_nq : Hints := { loops := [(2, ⟨[1, 2, 7], [.f 8 (.int .i64)], [.keep 1]⟩)] }
def h_may : Hints := { eqs := [72] }
def nf_clone (a : Option Addr) (n : Nat) (c : Nat) (R : Ending → Heap → Prop) (H : Heap) : Prop := Br (Option.isNone a) (R (Ending.returned (Value.slice none (0 : Nat) (0 : Nat))) H) (∃ (es2 : List (List Value)), SliceAt H (Value.slice a n c) (4 : Nat) es2 ∧ List.length es2 * (32 : Nat) ≤ (140737488355328 : Nat) ∧ ∀ (v : Value) (H' : Nat → Option Obj), H ≤ H' → (∀ (b : Nat), blockOf v = some b → H b = none) → (∀ (b : Nat) (o : Obj), H' b = some o → H b = some o ∨ blockOf v = some b) → RowAt H' v (28 : Nat) (4 : Nat) es2 → R (Ending.returned v) H')
theorem vc_clone (a : Option Addr) (n : Nat) (c : Nat) (R : Ending → Heap → Prop) (H : Heap) : vcFun prog { } f87 [SV.c (SC.v (Value.slice a n c))] R H = nf_clone a n c R H := by kernel_rfl

def nf_new (R : Ending → Heap → Prop) (H : Heap) : Prop := ∀ (r : Nat), H r = none → ∀ (b : Nat), Heap.upd H r (Obj.map #[] (0 : Nat)) b = none → R (Ending.returned (Value.pointer (some { block := b, off := (0 : Nat) }))) (Heap.upd (Heap.upd H r (Obj.map #[] (0 : Nat))) b (Obj.cells { toList := [Value.map (some r)] } (106 : Nat)))
theorem vc_new (R : Ending → Heap → Prop) (H : Heap) : vcFun prog { } f75 [] R H = nf_new R H := by kernel_rfl

def nf_is (g : Option Addr) (R : Ending → Heap → Prop) (H : Heap) : Prop := Br (!Option.isNone g) (PtrK g fun (a : Addr) ↦ PtrK (some a) fun (a : Addr) ↦ PtrK (some (Addr.add a (0 : Nat))) fun (a : Addr) ↦ ∃ (r : Option Nat), Heap.has H a [Value.map r] ∧ R (Ending.returned (Value.bool !Option.isNone r)) H) (R (Ending.returned (Value.bool false)) H)
theorem vc_is (g : Option Addr) (R : Ending → Heap → Prop) (H : Heap) : vcFun prog { } f67 [SV.c (SC.v (Value.pointer g))] R H = nf_is g R H := by kernel_rfl

def nf_own (lf : Bool) (a : Option Addr) (n : Nat) (c : Nat) (nx : Int) (ks : List Int) (cs : List Int) (R : Ending → Heap → Prop) (H : Heap) : Prop := Meets prog (87 : Nat) [Value.slice a n c] H fun (e : Ending) (H' : Nat → Option Obj) ↦ ∃ (a : Option Addr), ∃ (n : Nat), ∃ (c : Nat), e = Ending.returned (Value.slice a n c) ∧ R (Ending.returned (Value.agg { toList := Value.bool lf :: Value.slice a n c :: Value.int IntKind.i64 nx :: List.append (List.map (Value.int IntKind.i64) ks) (List.map (Value.int IntKind.i64) cs ++ []) })) H'
theorem vc_own (lf : Bool) (a : Option Addr) (n : Nat) (c : Nat) (nx : Int) (ks : List Int) (cs : List Int) (R : Ending → Heap → Prop) (H : Heap) : vcFun prog { } f84 [ndA lf a n c nx ks cs] R H = nf_own lf a n c nx ks cs R H := by kernel_rfl

def nf_get (g : Option Addr) (id : Int) (R : Ending → Heap → Prop) (H : Heap) : Prop := Meets prog (67 : Nat) [Value.pointer g] H fun (e : Ending) (H' : Nat → Option Obj) ↦ ∃ (b : Bool), e = Ending.returned (Value.bool b) ∧ Br (!b) (R (Ending.returned (Value.tuple { toList := [Value.agg { toList := [Value.bool false, Value.slice none (0 : Nat) (0 : Nat), Value.int IntKind.i64 (0 : Int), Value.int IntKind.i64 (0 : Int), Value.int IntKind.i64 (0 : Int), Value.int IntKind.i64 (0 : Int), Value.int IntKind.i64 (0 : Int), Value.int IntKind.i64 (0 : Int), Value.int IntKind.i64 (0 : Int), Value.int IntKind.i64 (0 : Int), Value.int IntKind.i64 (0 : Int)] }, Value.bool false] })) H') (PtrK g fun (a : Addr) ↦ PtrK (some a) fun (a : Addr) ↦ PtrK (some (Addr.add a (0 : Nat))) fun (a : Addr) ↦ ∃ (r : Option Nat), Heap.has H' a [Value.map r] ∧ ∃ (b : Bool), ∃ (a : Option Addr), ∃ (n : Nat), ∃ (c : Nat), ∃ (n_1 : Int), ∃ (xs : List Int), List.length xs = (4 : Nat) ∧ ∃ (xs_1 : List Int), List.length xs_1 = (4 : Nat) ∧ ∃ (b_1 : Bool), LookAt H' r IntKind.i64 id (Value.agg { toList := [Value.bool false, Value.slice none (0 : Nat) (0 : Nat), Value.int IntKind.i64 (0 : Int), Value.int IntKind.i64 (0 : Int), Value.int IntKind.i64 (0 : Int), Value.int IntKind.i64 (0 : Int), Value.int IntKind.i64 (0 : Int), Value.int IntKind.i64 (0 : Int), Value.int IntKind.i64 (0 : Int), Value.int IntKind.i64 (0 : Int), Value.int IntKind.i64 (0 : Int)] }) (Value.agg { toList := Value.bool b :: Value.slice a n c :: Value.int IntKind.i64 n_1 :: List.append (List.map (Value.int IntKind.i64) xs) (flatD [Seg.ints IntKind.i64 (4 : Nat) xs_1]) }) b_1 ∧ Meets prog (84 : Nat) [Value.agg { toList := Value.bool b :: Value.slice a n c :: Value.int IntKind.i64 n_1 :: List.append (List.map (Value.int IntKind.i64) xs) (List.map (Value.int IntKind.i64) xs_1 ++ []) }] H' fun (e : Ending) (H' : Nat → Option Obj) ↦ ∃ (b : Bool), ∃ (a : Option Addr), ∃ (n : Nat), ∃ (c : Nat), ∃ (n_2 : Int), ∃ (xs : List Int), List.length xs = (4 : Nat) ∧ ∃ (xs_2 : List Int), List.length xs_2 = (4 : Nat) ∧ e = Ending.returned (Value.agg { toList := Value.bool b :: Value.slice a n c :: Value.int IntKind.i64 n_2 :: List.append (List.map (Value.int IntKind.i64) xs) (flatD [Seg.ints IntKind.i64 (4 : Nat) xs_2]) }) ∧ R (Ending.returned (Value.tuple { toList := [Value.agg { toList := Value.bool b :: Value.slice a n c :: Value.int IntKind.i64 n_2 :: List.append (List.map (Value.int IntKind.i64) xs) (List.map (Value.int IntKind.i64) xs_2 ++ []) }, Value.bool b_1] })) H')
theorem vc_get (g : Option Addr) (id : Int) (R : Ending → Heap → Prop) (H : Heap) : vcFun prog { } f50 [SV.c (SC.v (Value.pointer g)), SV.c (SC.v (Value.int IntKind.i64 id))] R H = nf_get g id R H := by kernel_rfl

def nf_put (g : Option Addr) (id : Int) (lf : Bool) (a : Option Addr) (n : Nat) (c : Nat) (nx : Int) (ks : List Int) (cs : List Int) (R : Ending → Heap → Prop) (H : Heap) : Prop := Meets prog (67 : Nat) [Value.pointer g] H fun (e : Ending) (H' : Nat → Option Obj) ↦ ∃ (b : Bool), e = Ending.returned (Value.bool b) ∧ Br (!b) (R (Ending.returned (Value.int IntKind.i64 (9 : Int))) H') (Meets prog (85 : Nat) [Value.agg { toList := Value.bool lf :: Value.slice a n c :: Value.int IntKind.i64 nx :: List.append (List.map (Value.int IntKind.i64) ks) (List.map (Value.int IntKind.i64) cs ++ []) }] H' fun (e : Ending) (H' : Nat → Option Obj) ↦ ∃ (n_1 : Int), e = Ending.returned (Value.int IntKind.i64 n_1) ∧ Br (n_1 != (0 : Int)) (R (Ending.returned (Value.int IntKind.i64 (9 : Int))) H') (Br (decide (id < (1 : Int))) (R (Ending.returned (Value.int IntKind.i64 (4 : Int))) H') (Br (decide (id ≥ (256 : Int))) (R (Ending.returned (Value.int IntKind.i64 (4 : Int))) H') (∃ (G : Nat → Option Obj), G ≤ H' ∧ PtrK g fun (a_1 : Addr) ↦ PtrK (some a_1) fun (a_2 : Addr) ↦ PtrK (some (Addr.add a_2 (0 : Nat))) fun (a_3 : Addr) ↦ ∃ (r : Option Nat), Heap.has G a_3 [Value.map r] ∧ Meets prog (84 : Nat) [Value.agg { toList := Value.bool lf :: Value.slice a n c :: Value.int IntKind.i64 nx :: List.append (List.map (Value.int IntKind.i64) ks) (List.map (Value.int IntKind.i64) cs ++ []) }] H' fun (e : Ending) (H'_1 : Nat → Option Obj) ↦ Keep G H' H' H'_1 ∧ ∃ (b : Bool), ∃ (a : Option Addr), ∃ (n : Nat), ∃ (c : Nat), ∃ (n_2 : Int), ∃ (xs : List Int), List.length xs = (4 : Nat) ∧ ∃ (xs_1 : List Int), List.length xs_1 = (4 : Nat) ∧ e = Ending.returned (Value.agg { toList := Value.bool b :: Value.slice a n c :: Value.int IntKind.i64 n_2 :: List.append (List.map (Value.int IntKind.i64) xs) (flatD [Seg.ints IntKind.i64 (4 : Nat) xs_1]) }) ∧ MapK r fun (r : Nat) ↦ ∃ (es : Array MapEntry), ∃ (clk : Nat), (delLs H'_1 [] r = some (Obj.map es clk) ∧ IntKeys IntKind.i64 es.toList) ∧ R (Ending.returned (Value.int IntKind.i64 (0 : Int))) (Heap.upd (delLs H'_1 []) r (mapPut es clk IntKind.i64 id (Value.agg { toList := Value.bool b :: Value.slice a n c :: Value.int IntKind.i64 n_2 :: List.append (List.map (Value.int IntKind.i64) xs) (List.map (Value.int IntKind.i64) xs_1 ++ []) })))))))
theorem vc_put (g : Option Addr) (id : Int) (lf : Bool) (a : Option Addr) (n : Nat) (c : Nat) (nx : Int) (ks : List Int) (cs : List Int) (R : Ending → Heap → Prop) (H : Heap) : vcFun prog { } f53 [SV.c (SC.v (Value.pointer g)), SV.c (SC.v (Value.int IntKind.i64 id)), ndA lf a n c nx ks cs] R H = nf_put g id lf a n c nx ks cs R H := by kernel_rfl

def nf_drop (g : Option Addr) (id : Int) (R : Ending → Heap → Prop) (H : Heap) : Prop := Meets prog (67 : Nat) [Value.pointer g] H fun (e : Ending) (H' : Nat → Option Obj) ↦ ∃ (b : Bool), e = Ending.returned (Value.bool b) ∧ Br (!b) (R (Ending.returned (Value.bool false)) H') (PtrK g fun (a : Addr) ↦ PtrK (some a) fun (a : Addr) ↦ PtrK (some (Addr.add a (0 : Nat))) fun (a : Addr) ↦ ∃ (r : Option Nat), Heap.has H' a [Value.map r] ∧ ∃ (b : Bool), ∃ (a : Option Addr), ∃ (n : Nat), ∃ (c : Nat), ∃ (n_1 : Int), ∃ (xs : List Int), List.length xs = (4 : Nat) ∧ ∃ (xs_1 : List Int), List.length xs_1 = (4 : Nat) ∧ ∃ (b_1 : Bool), LookAt H' r IntKind.i64 id (Value.agg { toList := [Value.bool false, Value.slice none (0 : Nat) (0 : Nat), Value.int IntKind.i64 (0 : Int), Value.int IntKind.i64 (0 : Int), Value.int IntKind.i64 (0 : Int), Value.int IntKind.i64 (0 : Int), Value.int IntKind.i64 (0 : Int), Value.int IntKind.i64 (0 : Int), Value.int IntKind.i64 (0 : Int), Value.int IntKind.i64 (0 : Int), Value.int IntKind.i64 (0 : Int)] }) (Value.agg { toList := Value.bool b :: Value.slice a n c :: Value.int IntKind.i64 n_1 :: List.append (List.map (Value.int IntKind.i64) xs) (flatD [Seg.ints IntKind.i64 (4 : Nat) xs_1]) }) b_1 ∧ PtrK g fun (a : Addr) ↦ PtrK (some a) fun (a : Addr) ↦ PtrK (some (Addr.add a (0 : Nat))) fun (a : Addr) ↦ ∃ (r : Option Nat), Heap.has H' a [Value.map r] ∧ MapK r fun (r : Nat) ↦ ∃ (es : Array MapEntry), ∃ (clk : Nat), (H' r = some (Obj.map es clk) ∧ IntKeys IntKind.i64 es.toList) ∧ R (Ending.returned (Value.bool b_1)) (Heap.upd H' r (mapDel es clk id)))
theorem vc_drop (g : Option Addr) (id : Int) (R : Ending → Heap → Prop) (H : Heap) : vcFun prog { } f55 [SV.c (SC.v (Value.pointer g)), SV.c (SC.v (Value.int IntKind.i64 id))] R H = nf_drop g id R H := by kernel_rfl

def nf_pchk (i : Int) (x : Int) (y : Int) (d : ByteArray) (R : Ending → Heap → Prop) (H : Heap) : Prop := Br (decide (i < (1 : Int))) (R (Ending.returned (Value.int IntKind.i64 (4 : Int))) H) (Br (decide (i > (2147483647 : Int))) (R (Ending.returned (Value.int IntKind.i64 (4 : Int))) H) (Br (decide ((↑(ByteArray.size d) : Int) > (16 : Int))) (R (Ending.returned (Value.int IntKind.i64 (5 : Int))) H) (R (Ending.returned (Value.int IntKind.i64 (0 : Int))) H)))
theorem vc_pchk (i : Int) (x : Int) (y : Int) (d : ByteArray) (R : Ending → Heap → Prop) (H : Heap) : vcFun prog { } f58 [ptA i x y d] R H = nf_pchk i x y d R H := by kernel_rfl

def nf_npts (a : Option Addr) (n : Nat) (c : Nat) (R : Ending → Heap → Prop) (H : Heap) : Prop := a = a ∧ n = n ∧ c = c ∧ false = false ∧ a = a ∧ n = n ∧ c = c ∧ (↑n : Int) = (↑n : Int) ∧ LoopP (fun (K : (Int × PUnit) × PUnit → (Nat → Option Obj) → Prop) (p : (Int × PUnit) × PUnit) (H : Nat → Option Obj) ↦ Br (decide (p.fst.fst < (↑n : Int))) (((0 : Int) ≤ p.fst.fst ∧ p.fst.fst < (↑n : Int)) ∧ PtrK a fun (A : Addr) ↦ PtrK (some (Addr.add A (Int.toNat p.fst.fst * (4 : Nat)))) fun (a_1 : Addr) ↦ ∃ (n_1 : Int), ∃ (n_2 : Int), ∃ (n_3 : Int), ∃ (s : ByteArray), Heap.has H a_1 [Value.int IntKind.i64 n_1, Value.int IntKind.u32 n_2, Value.int IntKind.u32 n_3, Value.string s] ∧ ∃ (G : Nat → Option Obj), G ≤ H ∧ Meets prog (58 : Nat) [Value.agg { toList := [Value.int IntKind.i64 n_1, Value.int IntKind.u32 n_2, Value.int IntKind.u32 n_3, Value.string s] }] H fun (e : Ending) (H' : Nat → Option Obj) ↦ Keep G H H H' ∧ ∃ (n_4 : Int), e = Ending.returned (Value.int IntKind.i64 n_4) ∧ Br (n_4 != (0 : Int)) (R (Ending.returned (Value.bool false)) (delLs H' [])) (Br (decide (p.fst.fst > (0 : Int))) (((0 : Int) ≤ IntKind.wrap IntKind.i64 (p.fst.fst - (1 : Int)) ∧ IntKind.wrap IntKind.i64 (p.fst.fst - (1 : Int)) < (↑n : Int)) ∧ PtrK a fun (A : Addr) ↦ PtrK (some (Addr.add A (Int.toNat (IntKind.wrap IntKind.i64 (p.fst.fst - (1 : Int))) * (4 : Nat)))) fun (a_2 : Addr) ↦ PtrK (some (Addr.add a_2 (0 : Nat))) fun (a_3 : Addr) ↦ ∃ (n_5 : Int), Heap.has G a_3 [Value.int IntKind.i64 n_5] ∧ Br (decide (n_1 ≤ n_5)) (R (Ending.returned (Value.bool false)) (delLs H' [])) (a = a ∧ n = n ∧ c = c ∧ false = false ∧ a = a ∧ n = n ∧ c = c ∧ (↑n : Int) = (↑n : Int) ∧ K ((IntKind.wrap IntKind.i64 (p.fst.fst + (1 : Int)), PUnit.unit), PUnit.unit) (delLs H' []))) (a = a ∧ n = n ∧ c = c ∧ false = false ∧ a = a ∧ n = n ∧ c = c ∧ (↑n : Int) = (↑n : Int) ∧ K ((IntKind.wrap IntKind.i64 (p.fst.fst + (1 : Int)), PUnit.unit), PUnit.unit) (delLs H' [])))) (R (Ending.returned (Value.bool (decide ((↑n : Int) ≤ (4 : Int))))) H)) (((0 : Int), PUnit.unit), PUnit.unit) H
theorem vc_npts (a : Option Addr) (n : Nat) (c : Nat) (R : Ending → Heap → Prop) (H : Heap) : vcFun prog h_np f131 [SV.c (SC.v (Value.slice a n c))] R H = nf_npts a n c R H := by kernel_rfl

def nf_nqua (lf : Bool) (a : Option Addr) (n : Nat) (c : Nat) (nx : Int) (ks : List Int) (cs : List Int) (R : Ending → Heap → Prop) (H : Heap) : Prop := (0 : Nat) = (0 : Nat) ∧ false = false ∧ ks = ks ∧ lf = lf ∧ a = a ∧ n = n ∧ c = c ∧ nx = nx ∧ ks = ks ∧ cs = cs ∧ LoopP (fun (K : (Int × PUnit) × PUnit × PUnit → (Nat → Option Obj) → Prop) (p : (Int × PUnit) × PUnit × PUnit) (H : Nat → Option Obj) ↦ Br (decide (p.fst.fst < (4 : Int))) (((0 : Int) ≤ p.fst.fst ∧ p.fst.fst < (↑(4 : Nat) : Int)) ∧ ((0 : Int) ≤ p.fst.fst ∧ p.fst.fst < (↑(4 : Nat) : Int)) ∧ Br (decide (List.getD ks (Int.toNat p.fst.fst) (0 : Int) < (0 : Int))) (R (Ending.returned (Value.bool false)) H) (Br (decide (List.getD ks (Int.toNat p.fst.fst) (0 : Int) > (255 : Int))) (R (Ending.returned (Value.bool false)) H) (Br (decide (List.getD cs (Int.toNat p.fst.fst) (0 : Int) < (0 : Int))) (R (Ending.returned (Value.bool false)) H) (Br (decide (List.getD cs (Int.toNat p.fst.fst) (0 : Int) > (65535 : Int))) (R (Ending.returned (Value.bool false)) H) (Br (!(List.getD ks (Int.toNat p.fst.fst) (0 : Int) == (0 : Int)) == (List.getD cs (Int.toNat p.fst.fst) (0 : Int) == (0 : Int))) (R (Ending.returned (Value.bool false)) H) ((0 : Nat) = (0 : Nat) ∧ false = false ∧ ks = ks ∧ lf = lf ∧ a = a ∧ n = n ∧ c = c ∧ nx = nx ∧ ks = ks ∧ cs = cs ∧ K ((IntKind.wrap IntKind.i64 (p.fst.fst + (1 : Int)), PUnit.unit), PUnit.unit, PUnit.unit) H)))))) (R (Ending.returned (Value.bool true)) H)) (((0 : Int), PUnit.unit), PUnit.unit, PUnit.unit) H
theorem vc_nqua (lf : Bool) (a : Option Addr) (n : Nat) (c : Nat) (nx : Int) (ks : List Int) (cs : List Int) (R : Ending → Heap → Prop) (H : Heap) : vcFun prog h_nq f132 [ndA lf a n c nx ks cs] R H = nf_nqua lf a n c nx ks cs R H := by kernel_rfl

def nf_may (lf : Bool) (a : Option Addr) (n : Nat) (c : Nat) (nx : Int) (ks : List Int) (cs : List Int) (R : Ending → Heap → Prop) (H : Heap) : Prop := Br lf (Meets prog (131 : Nat) [Value.slice a n c] H fun (e : Ending) (H' : Nat → Option Obj) ↦ ∃ (b : Bool), e = Ending.returned (Value.bool b) ∧ Br b (Br (decide (nx ≥ (0 : Int))) (Br (decide (nx ≤ (255 : Int))) (Br (andO none (ks == [(0 : Int), (0 : Int), (0 : Int), (0 : Int)])) (R (Ending.returned (Value.bool (andO none (cs == [(0 : Int), (0 : Int), (0 : Int), (0 : Int)])))) H') (R (Ending.returned (Value.bool false)) H')) (R (Ending.returned (Value.bool false)) H')) (R (Ending.returned (Value.bool false)) H')) (R (Ending.returned (Value.bool false)) H')) (Br ((↑n : Int) == (0 : Int)) (Br (nx == (0 : Int)) (Meets prog (132 : Nat) [Value.agg { toList := Value.bool lf :: Value.slice a n c :: Value.int IntKind.i64 nx :: List.append (List.map (Value.int IntKind.i64) ks) (List.map (Value.int IntKind.i64) cs ++ []) }] H fun (e : Ending) (H' : Nat → Option Obj) ↦ ∃ (b : Bool), e = Ending.returned (Value.bool b) ∧ R (Ending.returned (Value.bool b)) H') (R (Ending.returned (Value.bool false)) H)) (R (Ending.returned (Value.bool false)) H))
theorem vc_may (lf : Bool) (a : Option Addr) (n : Nat) (c : Nat) (nx : Int) (ks : List Int) (cs : List Int) (R : Ending → Heap → Prop) (H : Heap) : vcFun prog h_may f122 [ndA lf a n c nx ks cs] R H = nf_may lf a n c nx ks cs R H := by kernel_rfl

def nf_nchk (lf : Bool) (a : Option Addr) (n : Nat) (c : Nat) (nx : Int) (ks : List Int) (cs : List Int) (R : Ending → Heap → Prop) (H : Heap) : Prop := Meets prog (122 : Nat) [Value.agg { toList := Value.bool lf :: Value.slice a n c :: Value.int IntKind.i64 nx :: List.append (List.map (Value.int IntKind.i64) ks) (List.map (Value.int IntKind.i64) cs ++ []) }] H fun (e : Ending) (H' : Nat → Option Obj) ↦ ∃ (b : Bool), e = Ending.returned (Value.bool b) ∧ Br (!b) (R (Ending.returned (Value.int IntKind.i64 (9 : Int))) H') (R (Ending.returned (Value.int IntKind.i64 (0 : Int))) H')
theorem vc_nchk (lf : Bool) (a : Option Addr) (n : Nat) (c : Nat) (nx : Int) (ks : List Int) (cs : List Int) (R : Ending → Heap → Prop) (H : Heap) : vcFun prog { } f85 [ndA lf a n c nx ks cs] R H = nf_nchk lf a n c nx ks cs R H := by kernel_rfl

def nf_total (lf : Bool) (a : Option Addr) (n : Nat) (c : Nat) (nx : Int) (ks : List Int) (cs : List Int) (R : Ending → Heap → Prop) (H : Heap) : Prop := Br lf (R (Ending.returned (Value.int IntKind.i64 (↑n : Int))) H) (((0 : Int) ≤ (0 : Int) ∧ (0 : Int) < (↑(4 : Nat) : Int)) ∧ ((0 : Int) ≤ (1 : Int) ∧ (1 : Int) < (↑(4 : Nat) : Int)) ∧ ((0 : Int) ≤ (2 : Int) ∧ (2 : Int) < (↑(4 : Nat) : Int)) ∧ ((0 : Int) ≤ (3 : Int) ∧ (3 : Int) < (↑(4 : Nat) : Int)) ∧ R (Ending.returned (Value.int IntKind.i64 (IntKind.wrap IntKind.i64 (IntKind.wrap IntKind.i64 (IntKind.wrap IntKind.i64 (List.getD cs (0 : Nat) (0 : Int) + List.getD cs (1 : Nat) (0 : Int)) + List.getD cs (2 : Nat) (0 : Int)) + List.getD cs (3 : Nat) (0 : Int))))) H)
theorem vc_total (lf : Bool) (a : Option Addr) (n : Nat) (c : Nat) (nx : Int) (ks : List Int) (cs : List Int) (R : Ending → Heap → Prop) (H : Heap) : vcFun prog { } f106 [ndA lf a n c nx ks cs] R H = nf_total lf a n c nx ks cs R H := by kernel_rfl

@[simp] theorem add0 (a : Addr) : Addr.add a 0 = a := rfl
structure Nd where
  leaf : Bool
  pts : List Pt
  next : Int
  kids : List Int
  counts : List Int
  deriving Inhabited, DecidableEq
@[reducible] def ndL (lf : Bool) (a : Option Addr) (n c : Nat) (nx : Int) (ks cs : List Int) : List Value := .bool lf :: .slice a n c :: vi nx :: List.append (ks.map vi) (cs.map vi ++ [])
abbrev ndV (lf : Bool) (a : Option Addr) (n c : Nat) (nx : Int) (ks cs : List Int) : Value := .agg { toList := ndL lf a n c nx ks cs }
@[reducible] def z4 : List Int := [0, 0, 0, 0]
@[reducible] def nd0 : Nd := ⟨false, [], 0, z4, z4⟩
/-- A node that is a value. -/
def NdAt (H : Heap) (v : Value) (d : Nd) : Prop := ∃ a n c, v = ndV d.leaf a n c d.next d.kids d.counts ∧ SliceAt H (.slice a n c) 4 (pts d.pts) ∧ d.kids.length = 4 ∧ d.counts.length = 4
theorem NdAt.le {H H' : Heap} {v : Value} {d : Nd} (h : NdAt H v d) (hle : H ≤ H') : NdAt H' v d := by
  obtain ⟨a, n, c, h1, h2, h3⟩ := h
  exact ⟨a, n, c, h1, slice_le h2 hle, h3⟩
theorem NdAt.map {H : Heap} {v : Value} {d : Nd} (h : NdAt H v d) {r : Nat} {es : Array MapEntry} {clk : Nat} (hr : H r = some (.map es clk)) {o : Obj} : NdAt (H.upd r o) v d := by
  obtain ⟨a, n, c, h1, h2, h3⟩ := h
  exact ⟨a, n, c, h1, slice_map hr h2, h3⟩
theorem slice_nil (H : Heap) {sz : Nat} : SliceAt H (.slice none 0 0) sz [] := ⟨none, 0, 0, rfl, rfl, Nat.le_refl _, by simp, by simp, by simp⟩
theorem NdAt.zero (H : Heap) : NdAt H (ndV false none 0 0 0 z4 z4) nd0 := ⟨none, 0, 0, rfl, slice_nil H, rfl, rfl⟩
/-- A grove: its map stands at r. -/
def GroveAt (H : Heap) (g : Addr) (r : Nat) (m : Int → Option Nd) : Prop :=
  H.has g [.map (some r)] ∧ ∃ l, MapAt H r .i64 l ∧ ∀ id, (getL l id = none ∧ m id = none) ∨ ∃ v d, getL l id = some v ∧ m id = some d ∧ NdAt H v d
/-- All but one block is as it was. -/
def GMod (r : Nat) (H H' : Heap) : Prop := ∀ b o, b ≠ r → H b = some o → H' b = some o
theorem GMod.refl (r : Nat) (H : Heap) : GMod r H H := fun _ _ _ h => h
theorem GMod.of_le {r : Nat} {H H' : Heap} (h : H ≤ H') : GMod r H H' := fun b o _ e => h b o e
theorem GMod.trans {r : Nat} {A B C : Heap} (h : GMod r A B) (h' : GMod r B C) : GMod r A C := fun b o n e => h' b o n (h b o n e)
theorem GMod.upd {r : Nat} {H : Heap} {o : Obj} : GMod r H (H.upd r o) := fun b o' n e => by rw [upd_ne _ _ n]; exact e
theorem GroveAt.le {H H' : Heap} {g : Addr} {r : Nat} {m : Int → Option Nd} (h : GroveAt H g r m) (hle : H ≤ H') : GroveAt H' g r m := by
  obtain ⟨h1, l, h2, h3⟩ := h
  refine ⟨has_le h1 hle, l, map_same h2 (fun o e => hle _ _ e), fun id => ?_⟩
  rcases h3 id with h | ⟨v, d, e1, e2, e3⟩
  · exact .inl h
  · exact .inr ⟨v, d, e1, e2, e3.le hle⟩
def setM {β : Type} (m : Int → Option β) (id : Int) (d : β) : Int → Option β := fun j => if j = id then some d else m j
def delM {β : Type} (m : Int → Option β) (id : Int) : Int → Option β := fun j => if j = id then none else m j
/-- What a node must be. -/
def ptOK (p : Pt) : Prop := 1 ≤ p.id ∧ p.id ≤ 2147483647 ∧ p.data.size ≤ 16
def pcode (p : Pt) : Int := if p.id < 1 ∨ p.id > 2147483647 then 4 else if p.data.size > 16 then 5 else 0
theorem pcode_ok {p : Pt} : pcode p = 0 ↔ ptOK p := by
  unfold pcode ptOK
  split
  · constructor
    · intro h; cases h
    · intro h; omega
  · split
    · constructor
      · intro h; cases h
      · intro h; omega
    · constructor
      · intro _; omega
      · intro _; rfl
structure PtsOK (l : List Pt) : Prop where
  each : ∀ (i : Nat) (p : Pt), l[i]? = some p → ptOK p
  rise : ∀ (i : Nat) (p q : Pt), l[i]? = some p → l[i + 1]? = some q → p.id < q.id
  few : l.length ≤ 4
def QuaOK (ks cs : List Int) : Prop := ∀ q : Nat, q < 4 → 0 ≤ ks.getD q 0 ∧ ks.getD q 0 ≤ 255 ∧ 0 ≤ cs.getD q 0 ∧ cs.getD q 0 ≤ 65535 ∧ (ks.getD q 0 = 0 ↔ cs.getD q 0 = 0)
def NdOK (d : Nd) : Prop := if d.leaf then PtsOK d.pts ∧ 0 ≤ d.next ∧ d.next ≤ 255 ∧ d.kids = z4 ∧ d.counts = z4 else d.pts = [] ∧ d.next = 0 ∧ QuaOK d.kids d.counts
section
variable {R : Ending → Heap → Prop} {H : Heap}
theorem s_clone {v : Value} {l : List Pt} (h : SliceAt H v 4 (pts l)) (hl : l.length ≤ 1000000) (k : ∀ v H', H ≤ H' → (∀ b, blockOf v = some b → H b = none) → RowAt H' v tPt 4 (pts l) → R (.returned v) H') :
    Meets prog 87 [v] H R := by
  obtain ⟨a, n, c, e, hn⟩ := h
  subst e
  have h : SliceAt H (.slice a n c) 4 (pts l) := ⟨a, n, c, rfl, hn⟩
  refine spec_of func87 (by kernel_rfl) (fun t h => by cases h) ?_ (vc_clone a n c R H) ?_
  · simp [argsR, SV.rep, SC.rep, one]
  unfold nf_clone
  refine br (fun q => ?_) fun q => ?_
  · have : l = [] := by
      cases l with
      | nil => rfl
      | cons p l =>
        obtain ⟨A, e, _⟩ := pr_get h (i := 0) (p := p) rfl
        subst e
        simp at q
    subst this
    exact k _ _ (fun _ _ h => h) (by simp [blockOf]) (.inl ⟨rfl, rfl⟩)
  · refine ⟨_, h, ?_, fun v H' h1 h2 h3 h4 => k v H' h1 h2 h4⟩
    simp [pts]; omega
theorem s_own {v : Value} {d : Nd} (h : NdAt H v d) (hl : d.pts.length ≤ 1000000) (k : ∀ v H', H ≤ H' → NdAt H' v d → R (.returned v) H') :
    Meets prog 84 [v] H R := by
  obtain ⟨a, n, c, rfl, h1, h2, h3⟩ := h
  refine spec_of func84 (by kernel_rfl) (fun t h => by cases h) ?_ (vc_own d.leaf a n c d.next d.kids d.counts R H) ?_
  · simp [argsR, SV.rep, SegsRep, SC.rep, one, h2, h3]
  unfold nf_own
  refine s_clone h1 hl fun v H' hle _ hr => ?_
  obtain ⟨a', c', rfl⟩ := row_val hr
  exact ⟨_, _, _, rfl, k _ _ hle ⟨_, _, _, rfl, row_slice hr, h2, h3⟩⟩
theorem s_is {g : Addr} {r : Option Nat} (h : H.has g [.map r]) (k : R (.returned (.bool !r.isNone)) H) : Meets prog 67 [.pointer (some g)] H R := by
  refine spec_of func67 (by kernel_rfl) (fun t h => by cases h) ?_ (vc_is (some g) R H) ?_
  · simp [argsR, SV.rep, SC.rep, one]
  unfold nf_is
  refine br (fun q => ?_) fun q => ?_
  · exact ptr rfl (ptr rfl (ptr rfl ⟨r, h, k⟩))
  · simp at q
theorem s_is_nil (k : R (.returned (.bool false)) H) : Meets prog 67 [.pointer none] H R := by
  refine spec_of func67 (by kernel_rfl) (fun t h => by cases h) ?_ (vc_is none R H) ?_
  · simp [argsR, SV.rep, SC.rep, one]
  unfold nf_is
  exact br (fun q => by simp at q) fun q => k
theorem s_get_nil {id : Int} (k : ∀ v H', H ≤ H' → NdAt H' v nd0 → R (.returned (.tuple #[v, .bool false])) H') : Meets prog 50 [.pointer none, vi id] H R := by
  refine spec_of func50 (by kernel_rfl) (fun t h => by cases h) ?_ (vc_get none id R H) ?_
  · simp [argsR, SV.rep, SC.rep, one]
  unfold nf_get
  exact s_is_nil ⟨_, rfl, br (fun _ => k _ _ (fun _ _ h => h) (NdAt.zero H)) fun q => by simp at q⟩
theorem NdAt.small {H : Heap} {g : Addr} {r : Nat} {m : Int → Option Nd} (h : GroveAt H g r m) : True := trivial
theorem s_get {g : Addr} {r : Nat} {m : Int → Option Nd} {id : Int} (h : GroveAt H g r m) (hs : ∀ d, m id = some d → d.pts.length ≤ 1000000) (k : ∀ v H', H ≤ H' → NdAt H' v ((m id).getD nd0) → R (.returned (.tuple #[v, .bool (m id).isSome])) H') :
    Meets prog 50 [.pointer (some g), vi id] H R := by
  refine spec_of func50 (by kernel_rfl) (fun t h => by cases h) ?_ (vc_get (some g) id R H) ?_
  · simp [argsR, SV.rep, SC.rep, one]
  unfold nf_get
  obtain ⟨h1, l, h2, h3⟩ := h
  refine s_is h1 ⟨_, rfl, br (fun q => by simp at q) fun _ => ptr rfl (ptr rfl (ptr rfl ⟨_, h1, ?_⟩))⟩
  have hlk := map_look h2 id (ndV false none 0 0 0 z4 z4)
  obtain ⟨v, hv, hvd, hb⟩ : ∃ v, ((getL l id).getD (ndV false none 0 0 0 z4 z4)) = v ∧ NdAt H v ((m id).getD nd0) ∧ (getL l id).isSome = (m id).isSome := by
    rcases h3 id with ⟨e1, e2⟩ | ⟨v, d, e1, e2, e3⟩
    · rw [e1, e2]; exact ⟨_, rfl, NdAt.zero H, rfl⟩
    · rw [e1, e2]; exact ⟨_, rfl, e3, rfl⟩
  rw [hv, hb] at hlk
  obtain ⟨a, n, c, rfl, hs1, hk, hc⟩ := hvd
  refine ⟨_, a, n, c, _, _, hk, _, hc, _, hlk, ?_⟩
  refine s_own (d := (m id).getD nd0) ⟨a, n, c, rfl, hs1, hk, hc⟩ ?_ fun v H' hle hv => ?_
  · cases e : m id with
    | none => simp
    | some d => exact hs d e
  · have hv2 := hv
    obtain ⟨a', n', c', rfl, hs2, _, _⟩ := hv2
    exact ⟨_, a', n', c', _, _, hk, _, hc, rfl, k _ _ hle hv⟩
theorem s_pchk {p : Pt} (k : R (.returned (vi (pcode p))) H) : Meets prog 58 [ptV p] H R := by
  refine spec_of func58 (by kernel_rfl) (fun t h => by cases h) ?_ (vc_pchk p.id p.x p.y p.data R H) ?_
  · simp [argsR, SV.rep, SegsRep, SC.rep, one]
  unfold nf_pchk
  unfold pcode at k
  refine br (fun q => ?_) fun q => br (fun q1 => ?_) fun q1 => br (fun q2 => ?_) fun q2 => ?_
  all_goals simp only [decide_eq_true_eq, decide_eq_false_iff_not] at *
  · rwa [if_pos (by omega)] at k
  · rwa [if_pos (by omega)] at k
  · rwa [if_neg (by omega), if_pos (by omega)] at k
  · rwa [if_neg (by omega), if_neg (by omega)] at k
theorem s_npts {v : Value} {l : List Pt} (h : SliceAt H v 4 (pts l)) (hl : l.length ≤ 1000000) (k : ∀ b : Bool, (b = true ↔ PtsOK l) → R (.returned (.bool b)) H) : Meets prog 131 [v] H R := by
  obtain ⟨a, n, c, e, hn⟩ := h
  subst e
  have h : SliceAt H (.slice a n c) 4 (pts l) := ⟨a, n, c, rfl, hn⟩
  have hln : l.length = n := by simpa [pts] using hn.1
  refine spec_of func131 (by kernel_rfl) (fun t h => by cases h) ?_ (vc_npts a n c R H) ?_
  · simp [argsR, SV.rep, SC.rep, one]
  unfold nf_npts
  simp only [true_and, delLs_nil]
  refine ⟨fun p H' => ∃ t : Nat, p.1.1 = t ∧ t ≤ n ∧ (∀ (i : Nat) (p : Pt), i < t → l[i]? = some p → ptOK p) ∧ (∀ (i : Nat) (p q : Pt), i + 1 < t → l[i]? = some p → l[i + 1]? = some q → p.id < q.id) ∧ H' = H, fun p _ => (n - p.1.1).toNat, ⟨0, rfl, by omega, by omega, by omega, rfl⟩, ?_⟩
  rintro ⟨⟨i, _⟩, _⟩ H1 ⟨t, hi, ht, f1, f2, rfl⟩
  simp only at hi ⊢
  subst hi
  refine br (fun q => ?_) fun q => ?_
  · simp only [decide_eq_true_eq] at q
    have hx : l[t]? = some l[t] := List.getElem?_eq_getElem (by omega)
    obtain ⟨A, e, g⟩ := pr_get h (i := t) hx
    subst e
    refine ⟨⟨by omega, by omega⟩, ptr rfl (ptr rfl ⟨_, _, _, _, g, H1, heap_refl _, s_pchk ⟨keep_same _ _ _, _, rfl, br (fun q1 => ?_) fun q1 => br (fun q2 => ?_) fun q2 => ?_⟩⟩)⟩
    · refine k false ⟨fun h => (by cases h), fun hp => ?_⟩
      have := pcode_ok.2 (hp.each t _ hx)
      simp [this] at q1
    · simp only [decide_eq_true_eq] at q2
      obtain ⟨u, rfl⟩ : ∃ u, t = u + 1 := ⟨t - 1, by omega⟩
      have hy : l[u]? = some l[u] := List.getElem?_eq_getElem (by omega)
      obtain ⟨A', e, g'⟩ := pr_get h (i := u) hy
      cases e
      rw [w64 (by omega), w64 (by omega), show ((u + 1 : Nat) : Int) - 1 = u by omega]
      refine ⟨⟨by omega, by omega⟩, ptr rfl (ptr rfl (ptr rfl ⟨l[u].id, fun j x hj => g' j x (by
        cases j with
        | zero => simpa using hj
        | succ j => simp at hj), br (fun q3 => ?_) fun q3 => ?_⟩))⟩
      · refine k false ⟨fun h => (by cases h), fun hp => ?_⟩
        have := hp.rise u _ _ hy hx
        simp at q3; omega
      · refine ⟨⟨u + 1 + 1, by omega, by omega, fun i p hi hp => ?_, fun i p q hi hp hq => ?_, rfl⟩, by omega⟩
        · rcases Nat.lt_or_ge i (u + 1) with hlt | hge
          · exact f1 i p hlt hp
          · have : i = u + 1 := by omega
            subst this
            rw [hx] at hp; cases hp
            exact pcode_ok.1 (by simpa using q1)
        · rcases Nat.lt_or_ge (i + 1) (u + 1) with hlt | hge
          · exact f2 i p q hlt hp hq
          · have : i = u := by omega
            subst this
            rw [hx] at hq; rw [hy] at hp; cases hp; cases hq
            simp at q3; omega
    · simp only [decide_eq_false_iff_not] at q2
      have : t = 0 := by omega
      subst this
      rw [w64 (by omega)]
      refine ⟨⟨1, rfl, by omega, fun i p hi hp => ?_, by omega, rfl⟩, by omega⟩
      have : i = 0 := by omega
      subst this
      rw [hx] at hp; cases hp
      exact pcode_ok.1 (by simpa using q1)
  · simp only [decide_eq_false_iff_not] at q
    refine k _ ⟨fun h => ?_, fun hp => ?_⟩
    · simp only [decide_eq_true_eq] at h
      refine ⟨fun i p hp => f1 i p ?_ hp, fun i p q hp hq => f2 i p q ?_ hp hq, by omega⟩
      · have := (List.getElem?_eq_some_iff.1 hp).1; omega
      · have := (List.getElem?_eq_some_iff.1 hq).1; omega
    · have := hp.few
      simp; omega
theorem s_nqua {v : Value} {d : Nd} (h : NdAt H v d) (k : ∀ b : Bool, (b = true ↔ QuaOK d.kids d.counts) → R (.returned (.bool b)) H) : Meets prog 132 [v] H R := by
  obtain ⟨a, n, c, rfl, h1, h2, h3⟩ := h
  refine spec_of func132 (by kernel_rfl) (fun t h => by cases h) ?_ (vc_nqua d.leaf a n c d.next d.kids d.counts R H) ?_
  · simp [argsR, SV.rep, SegsRep, SC.rep, one, h2, h3]
  unfold nf_nqua
  simp only [true_and]
  refine ⟨fun p H' => ∃ t : Nat, p.1.1 = t ∧ t ≤ 4 ∧ (∀ q : Nat, q < t → 0 ≤ d.kids.getD q 0 ∧ d.kids.getD q 0 ≤ 255 ∧ 0 ≤ d.counts.getD q 0 ∧ d.counts.getD q 0 ≤ 65535 ∧ (d.kids.getD q 0 = 0 ↔ d.counts.getD q 0 = 0)) ∧ H' = H, fun p _ => (4 - p.1.1).toNat, ⟨0, rfl, by omega, by omega, rfl⟩, ?_⟩
  rintro ⟨⟨i, _⟩, _⟩ H1 ⟨t, hi, ht, f1, rfl⟩
  simp only at hi ⊢
  subst hi
  refine br (fun q => ?_) fun q => ?_
  · simp only [decide_eq_true_eq] at q
    rw [Int.toNat_natCast, w64 (by omega)]
    generalize hkk : d.kids.getD t 0 = kk
    generalize hcc : d.counts.getD t 0 = cc
    have no : QuaOK d.kids d.counts → 0 ≤ kk ∧ kk ≤ 255 ∧ 0 ≤ cc ∧ cc ≤ 65535 ∧ (kk = 0 ↔ cc = 0) := fun hp => by rw [← hkk, ← hcc]; exact hp t (by omega)
    refine ⟨⟨by omega, by omega⟩, ⟨by omega, by omega⟩, br (fun q1 => ?_) fun q1 => br (fun q2 => ?_) fun q2 => br (fun q3 => ?_) fun q3 => br (fun q4 => ?_) fun q4 => br (fun q5 => ?_) fun q5 => ?_⟩
    · refine k false ⟨fun h => (by cases h), fun hp => ?_⟩
      have := no hp; simp at q1; omega
    · refine k false ⟨fun h => (by cases h), fun hp => ?_⟩
      have := no hp; simp at q2; omega
    · refine k false ⟨fun h => (by cases h), fun hp => ?_⟩
      have := no hp; simp at q3; omega
    · refine k false ⟨fun h => (by cases h), fun hp => ?_⟩
      have := no hp; simp at q4; omega
    · refine k false ⟨fun h => (by cases h), fun hp => ?_⟩
      have := no hp
      cases hb1 : (kk == 0) <;> cases hb2 : (cc == 0) <;> simp_all
    · refine ⟨⟨t + 1, by omega, by omega, fun u hu => ?_, by trivial⟩, by omega⟩
      rcases Nat.lt_or_ge u t with hlt | hge
      · exact f1 u hlt
      · have : u = t := by omega
        subst this
        rw [hkk, hcc]
        simp only [decide_eq_false_iff_not] at q1 q2 q3 q4
        refine ⟨by omega, by omega, by omega, by omega, ?_⟩
        cases hb1 : (kk == 0) <;> cases hb2 : (cc == 0) <;> simp_all
  · simp only [decide_eq_false_iff_not] at q
    have : t = 4 := by omega
    subst this
    exact k true ⟨fun _ => f1, fun _ => rfl⟩
end
end Cr
