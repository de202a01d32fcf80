/- UsageTells. -/
import Derived.Test.YtjlnkihkabljbaaU9
set_option linter.unusedVariables false
set_option linter.unusedSimpArgs false
namespace Go.Proofs.Ytjlnkihkabljbaa.Us
open Go Sx Go.RowKit Go.ChangeShapes Go.WideShapes Lay
open Go.Proofs.Try
set_option maxRecDepth 100000
def h7 : Hints := { eqs := [37], cuts := [(4, ⟨[3, 4, 5, 6], [.f 9 .bool], [.keep 4, .keep 5, .keep 6]⟩)], loops := [(8, ⟨[3, 4, 5, 6, 9, 10, 11], [.row 12 3 1, .f 13 (.int .i64), .f 14 (.int .i64)], [.keep 4, .keep 5, .keep 6, .box 10 37 [.ints .i64 32]]⟩), (17, ⟨[3, 4, 5, 6, 9, 10, 12, 13], [.row 11 3 1, .f 16 (.int .i64)], [.keep 4, .keep 5, .keep 6, .keep 10, .keep 12]⟩)] }
def nf_f7 (s : Int) (z : Int) (a : Int) (b : Int) (c : Int) (g : Int) (m : List Int) (R : Ending → Heap → Prop) (H : Heap) : Prop := Meets prog (19 : Nat) [] H fun (e : Ending) (H' : Nat → Option Obj) ↦ ∃ (b_1 : Bool), e = Ending.returned (Value.bool b_1) ∧ Br (!b_1) (R (Ending.returned (Value.bool false)) H') (CutP (fun (I : (Bool × PUnit) × PUnit × PUnit × PUnit × PUnit → (Nat → Option Obj) → Prop) ↦ Br (decide (s ≥ (6 : Int))) (Br (decide (s ≤ (32 : Int))) (Br (decide (z ≥ (4 : Int))) (g = g ∧ (0 : Nat) = (0 : Nat) ∧ (0 : Nat) = (0 : Nat) ∧ (0 : Nat) = (0 : Nat) ∧ s = s ∧ z = z ∧ m = m ∧ a = a ∧ b = b ∧ c = c ∧ I ((decide (z ≤ (32 : Int)), PUnit.unit), PUnit.unit, PUnit.unit, PUnit.unit, PUnit.unit) H') (g = g ∧ (0 : Nat) = (0 : Nat) ∧ (0 : Nat) = (0 : Nat) ∧ (0 : Nat) = (0 : Nat) ∧ s = s ∧ z = z ∧ m = m ∧ a = a ∧ b = b ∧ c = c ∧ I ((false, PUnit.unit), PUnit.unit, PUnit.unit, PUnit.unit, PUnit.unit) H')) (g = g ∧ (0 : Nat) = (0 : Nat) ∧ (0 : Nat) = (0 : Nat) ∧ (0 : Nat) = (0 : Nat) ∧ s = s ∧ z = z ∧ m = m ∧ a = a ∧ b = b ∧ c = c ∧ I ((false, PUnit.unit), PUnit.unit, PUnit.unit, PUnit.unit, PUnit.unit) H')) (g = g ∧ (0 : Nat) = (0 : Nat) ∧ (0 : Nat) = (0 : Nat) ∧ (0 : Nat) = (0 : Nat) ∧ s = s ∧ z = z ∧ m = m ∧ a = a ∧ b = b ∧ c = c ∧ I ((false, PUnit.unit), PUnit.unit, PUnit.unit, PUnit.unit, PUnit.unit) H')) fun (p : (Bool × PUnit) × PUnit × PUnit × PUnit × PUnit) (H : Nat → Option Obj) ↦ g = g ∧ (0 : Nat) = (0 : Nat) ∧ (0 : Nat) = (0 : Nat) ∧ (0 : Nat) = (0 : Nat) ∧ p.fst.fst = p.fst.fst ∧ (0 : Nat) = (0 : Nat) ∧ (none : Option Addr) = none ∧ (0 : Nat) = (0 : Nat) ∧ (0 : Nat) = (0 : Nat) ∧ s = s ∧ z = z ∧ m = m ∧ a = a ∧ b = b ∧ c = c ∧ LoopP (fun (K : (List (List Value) × Int × Int × PUnit) × PUnit × PUnit × PUnit × (List Int × PUnit) × PUnit → (Nat → Option Obj) → Prop) (p_1 : (List (List Value) × Int × Int × PUnit) × PUnit × PUnit × PUnit × (List Int × PUnit) × PUnit) (H : Nat → Option Obj) ↦ Br (decide (p_1.fst.snd.snd.fst < (256 : Int))) (Br p.fst.fst (((0 : Int) ≤ p_1.fst.snd.snd.fst ∧ p_1.fst.snd.snd.fst < (↑(256 : Nat) : Int)) ∧ Br (decide (List.getD m (Int.toNat p_1.fst.snd.snd.fst) (0 : Int) < (9 : Int))) (g = g ∧ (0 : Nat) = (0 : Nat) ∧ (0 : Nat) = (0 : Nat) ∧ (0 : Nat) = (0 : Nat) ∧ p.fst.fst = p.fst.fst ∧ (0 : Nat) = (0 : Nat) ∧ (none : Option Addr) = none ∧ (0 : Nat) = (0 : Nat) ∧ (0 : Nat) = (0 : Nat) ∧ s = s ∧ z = z ∧ m = m ∧ a = a ∧ b = b ∧ c = c ∧ K ((p_1.fst.fst, p_1.fst.snd.fst, IntKind.wrap IntKind.i64 (p_1.fst.snd.snd.fst + (1 : Int)), PUnit.unit), PUnit.unit, PUnit.unit, PUnit.unit, (p_1.snd.snd.snd.snd.fst.fst, PUnit.unit), PUnit.unit) H) (((0 : Int) ≤ p_1.fst.snd.snd.fst ∧ p_1.fst.snd.snd.fst < (↑(256 : Nat) : Int)) ∧ Br (decide (List.getD m (Int.toNat p_1.fst.snd.snd.fst) (0 : Int) ≥ IntKind.wrap IntKind.i64 ((9 : Int) + IntKind.wrap IntKind.i64 (s * z)))) (g = g ∧ (0 : Nat) = (0 : Nat) ∧ (0 : Nat) = (0 : Nat) ∧ (0 : Nat) = (0 : Nat) ∧ p.fst.fst = p.fst.fst ∧ (0 : Nat) = (0 : Nat) ∧ (none : Option Addr) = none ∧ (0 : Nat) = (0 : Nat) ∧ (0 : Nat) = (0 : Nat) ∧ s = s ∧ z = z ∧ m = m ∧ a = a ∧ b = b ∧ c = c ∧ K ((p_1.fst.fst, p_1.fst.snd.fst, IntKind.wrap IntKind.i64 (p_1.fst.snd.snd.fst + (1 : Int)), PUnit.unit), PUnit.unit, PUnit.unit, PUnit.unit, (p_1.snd.snd.snd.snd.fst.fst, PUnit.unit), PUnit.unit) H) (((0 : Int) ≤ p_1.fst.snd.snd.fst ∧ p_1.fst.snd.snd.fst < (↑(256 : Nat) : Int)) ∧ z ≠ (0 : Int) ∧ ((0 : Int) ≤ IntKind.wrap IntKind.i64 (Int.tdiv (IntKind.wrap IntKind.i64 (List.getD m (Int.toNat p_1.fst.snd.snd.fst) (0 : Int) - (9 : Int))) z) ∧ IntKind.wrap IntKind.i64 (Int.tdiv (IntKind.wrap IntKind.i64 (List.getD m (Int.toNat p_1.fst.snd.snd.fst) (0 : Int) - (9 : Int))) z) < (↑(32 : Nat) : Int)) ∧ ((0 : Int) ≤ IntKind.wrap IntKind.i64 (Int.tdiv (IntKind.wrap IntKind.i64 (List.getD m (Int.toNat p_1.fst.snd.snd.fst) (0 : Int) - (9 : Int))) z) ∧ IntKind.wrap IntKind.i64 (Int.tdiv (IntKind.wrap IntKind.i64 (List.getD m (Int.toNat p_1.fst.snd.snd.fst) (0 : Int) - (9 : Int))) z) < (↑(32 : Nat) : Int)) ∧ Br (IntKind.wrap IntKind.i64 (Int.tdiv (IntKind.wrap IntKind.i64 (List.getD m (Int.toNat p_1.fst.snd.snd.fst) (0 : Int) - (9 : Int))) z) == g) (List.length (List.append p_1.fst.fst [[Value.int IntKind.i64 p_1.fst.snd.snd.fst]]) * (8 : Nat) ≤ (140737488355328 : Nat) ∧ g = g ∧ (0 : Nat) = (0 : Nat) ∧ (0 : Nat) = (0 : Nat) ∧ (0 : Nat) = (0 : Nat) ∧ p.fst.fst = p.fst.fst ∧ (0 : Nat) = (0 : Nat) ∧ (none : Option Addr) = none ∧ (0 : Nat) = (0 : Nat) ∧ (0 : Nat) = (0 : Nat) ∧ s = s ∧ z = z ∧ m = m ∧ a = a ∧ b = b ∧ c = c ∧ K ((List.append p_1.fst.fst [[Value.int IntKind.i64 p_1.fst.snd.snd.fst]], IntKind.wrap IntKind.i64 (p_1.fst.snd.fst + (1 : Int)), IntKind.wrap IntKind.i64 (p_1.fst.snd.snd.fst + (1 : Int)), PUnit.unit), PUnit.unit, PUnit.unit, PUnit.unit, (List.set p_1.snd.snd.snd.snd.fst.fst (Int.toNat (IntKind.wrap IntKind.i64 (Int.tdiv (IntKind.wrap IntKind.i64 (List.getD m (Int.toNat p_1.fst.snd.snd.fst) (0 : Int) - (9 : Int))) z))) (IntKind.wrap IntKind.i64 (List.getD p_1.snd.snd.snd.snd.fst.fst (Int.toNat (IntKind.wrap IntKind.i64 (Int.tdiv (IntKind.wrap IntKind.i64 (List.getD m (Int.toNat p_1.fst.snd.snd.fst) (0 : Int) - (9 : Int))) z))) (0 : Int) + (1 : Int))), PUnit.unit), PUnit.unit) H) (g = g ∧ (0 : Nat) = (0 : Nat) ∧ (0 : Nat) = (0 : Nat) ∧ (0 : Nat) = (0 : Nat) ∧ p.fst.fst = p.fst.fst ∧ (0 : Nat) = (0 : Nat) ∧ (none : Option Addr) = none ∧ (0 : Nat) = (0 : Nat) ∧ (0 : Nat) = (0 : Nat) ∧ s = s ∧ z = z ∧ m = m ∧ a = a ∧ b = b ∧ c = c ∧ K ((p_1.fst.fst, IntKind.wrap IntKind.i64 (p_1.fst.snd.fst + (1 : Int)), IntKind.wrap IntKind.i64 (p_1.fst.snd.snd.fst + (1 : Int)), PUnit.unit), PUnit.unit, PUnit.unit, PUnit.unit, (List.set p_1.snd.snd.snd.snd.fst.fst (Int.toNat (IntKind.wrap IntKind.i64 (Int.tdiv (IntKind.wrap IntKind.i64 (List.getD m (Int.toNat p_1.fst.snd.snd.fst) (0 : Int) - (9 : Int))) z))) (IntKind.wrap IntKind.i64 (List.getD p_1.snd.snd.snd.snd.fst.fst (Int.toNat (IntKind.wrap IntKind.i64 (Int.tdiv (IntKind.wrap IntKind.i64 (List.getD m (Int.toNat p_1.fst.snd.snd.fst) (0 : Int) - (9 : Int))) z))) (0 : Int) + (1 : Int))), PUnit.unit), PUnit.unit) H)))) (g = g ∧ (0 : Nat) = (0 : Nat) ∧ (0 : Nat) = (0 : Nat) ∧ (0 : Nat) = (0 : Nat) ∧ p.fst.fst = p.fst.fst ∧ (0 : Nat) = (0 : Nat) ∧ p_1.fst.snd.fst = p_1.fst.snd.fst ∧ s = s ∧ z = z ∧ m = m ∧ a = a ∧ b = b ∧ c = c ∧ p_1.snd.snd.snd.snd.fst.fst = p_1.snd.snd.snd.snd.fst.fst ∧ p_1.fst.fst = p_1.fst.fst ∧ LoopP (fun (K : (List (List Value) × Int × PUnit) × PUnit × PUnit × PUnit × PUnit × PUnit × PUnit → (Nat → Option Obj) → Prop) (p_2 : (List (List Value) × Int × PUnit) × PUnit × PUnit × PUnit × PUnit × PUnit × PUnit) (H : Nat → Option Obj) ↦ Br (decide (p_2.fst.snd.fst < s)) (Br p.fst.fst (((0 : Int) ≤ p_2.fst.snd.fst ∧ p_2.fst.snd.fst < (↑(32 : Nat) : Int)) ∧ Br (List.getD p_1.snd.snd.snd.snd.fst.fst (Int.toNat p_2.fst.snd.fst) (0 : Int) == (0 : Int)) (Br (p_2.fst.snd.fst != a) (Br (p_2.fst.snd.fst != c) (List.length (List.append p_2.fst.fst [[Value.int IntKind.i64 p_2.fst.snd.fst]]) * (8 : Nat) ≤ (140737488355328 : Nat) ∧ g = g ∧ (0 : Nat) = (0 : Nat) ∧ (0 : Nat) = (0 : Nat) ∧ (0 : Nat) = (0 : Nat) ∧ p.fst.fst = p.fst.fst ∧ (0 : Nat) = (0 : Nat) ∧ p_1.fst.snd.fst = p_1.fst.snd.fst ∧ s = s ∧ z = z ∧ m = m ∧ a = a ∧ b = b ∧ c = c ∧ p_1.snd.snd.snd.snd.fst.fst = p_1.snd.snd.snd.snd.fst.fst ∧ p_1.fst.fst = p_1.fst.fst ∧ K ((List.append p_2.fst.fst [[Value.int IntKind.i64 p_2.fst.snd.fst]], IntKind.wrap IntKind.i64 (p_2.fst.snd.fst + (1 : Int)), PUnit.unit), PUnit.unit, PUnit.unit, PUnit.unit, PUnit.unit, PUnit.unit, PUnit.unit) H) (g = g ∧ (0 : Nat) = (0 : Nat) ∧ (0 : Nat) = (0 : Nat) ∧ (0 : Nat) = (0 : Nat) ∧ p.fst.fst = p.fst.fst ∧ (0 : Nat) = (0 : Nat) ∧ p_1.fst.snd.fst = p_1.fst.snd.fst ∧ s = s ∧ z = z ∧ m = m ∧ a = a ∧ b = b ∧ c = c ∧ p_1.snd.snd.snd.snd.fst.fst = p_1.snd.snd.snd.snd.fst.fst ∧ p_1.fst.fst = p_1.fst.fst ∧ K ((p_2.fst.fst, IntKind.wrap IntKind.i64 (p_2.fst.snd.fst + (1 : Int)), PUnit.unit), PUnit.unit, PUnit.unit, PUnit.unit, PUnit.unit, PUnit.unit, PUnit.unit) H)) (g = g ∧ (0 : Nat) = (0 : Nat) ∧ (0 : Nat) = (0 : Nat) ∧ (0 : Nat) = (0 : Nat) ∧ p.fst.fst = p.fst.fst ∧ (0 : Nat) = (0 : Nat) ∧ p_1.fst.snd.fst = p_1.fst.snd.fst ∧ s = s ∧ z = z ∧ m = m ∧ a = a ∧ b = b ∧ c = c ∧ p_1.snd.snd.snd.snd.fst.fst = p_1.snd.snd.snd.snd.fst.fst ∧ p_1.fst.fst = p_1.fst.fst ∧ K ((p_2.fst.fst, IntKind.wrap IntKind.i64 (p_2.fst.snd.fst + (1 : Int)), PUnit.unit), PUnit.unit, PUnit.unit, PUnit.unit, PUnit.unit, PUnit.unit, PUnit.unit) H)) (g = g ∧ (0 : Nat) = (0 : Nat) ∧ (0 : Nat) = (0 : Nat) ∧ (0 : Nat) = (0 : Nat) ∧ p.fst.fst = p.fst.fst ∧ (0 : Nat) = (0 : Nat) ∧ p_1.fst.snd.fst = p_1.fst.snd.fst ∧ s = s ∧ z = z ∧ m = m ∧ a = a ∧ b = b ∧ c = c ∧ p_1.snd.snd.snd.snd.fst.fst = p_1.snd.snd.snd.snd.fst.fst ∧ p_1.fst.fst = p_1.fst.fst ∧ K ((p_2.fst.fst, IntKind.wrap IntKind.i64 (p_2.fst.snd.fst + (1 : Int)), PUnit.unit), PUnit.unit, PUnit.unit, PUnit.unit, PUnit.unit, PUnit.unit, PUnit.unit) H)) (Meets prog (20 : Nat) [Value.agg { toList := [Value.int IntKind.i64 s, Value.int IntKind.i64 z] }, Value.agg { toList := List.append (List.map (Value.int IntKind.i64) m) [] }] H fun (e : Ending) (H' : Nat → Option Obj) ↦ H ≤ H' ∧ ∃ (xs : List Int), List.length xs = (32 : Nat) ∧ e = Ending.returned (Value.agg { toList := List.append (List.map (Value.int IntKind.i64) xs) (flatD []) }) ∧ Br (andO none (xs == p_1.snd.snd.snd.snd.fst.fst)) (Meets prog (22 : Nat) [Value.agg { toList := [Value.int IntKind.i64 s, Value.int IntKind.i64 z] }, Value.agg { toList := List.append (List.map (Value.int IntKind.i64) m) [] }, Value.agg { toList := [Value.int IntKind.i64 a, Value.int IntKind.i64 b, Value.int IntKind.i64 c] }] (delLs H' []) fun (e : Ending) (H'_1 : Nat → Option Obj) ↦ delLs H' [] ≤ H'_1 ∧ ∃ (a : Option Addr), ∃ (n : Nat), ∃ (c : Nat), e = Ending.returned (Value.slice a n c) ∧ ∀ (v : Value) (H' : Nat → Option Obj), delLs H'_1 [] ≤ H' → (∀ (b : Nat), blockOf v = some b → H'_1 b = none) → (∀ (b : Nat) (o : Obj), H' b = some o → H'_1 b = some o ∨ blockOf v = some b) → RowAt H' v (3 : Nat) (1 : Nat) p_2.fst.fst → Meets prog (21 : Nat) [Value.slice a n c, v] H' fun (e : Ending) (H'_2 : Nat → Option Obj) ↦ H' ≤ H'_2 ∧ ∃ (b : Bool), e = Ending.returned (Value.bool b) ∧ Br b (Meets prog (23 : Nat) [Value.agg { toList := [Value.int IntKind.i64 s, Value.int IntKind.i64 z] }, Value.agg { toList := List.append (List.map (Value.int IntKind.i64) m) [] }, Value.int IntKind.i64 g] (delLs H'_2 [{ site := (11 : Nat), val := v }]) fun (e : Ending) (H' : Nat → Option Obj) ↦ delLs H'_2 [{ site := (11 : Nat), val := v }] ≤ H' ∧ ∃ (a : Option Addr), ∃ (n : Nat), ∃ (c : Nat), e = Ending.returned (Value.slice a n c) ∧ ∀ (v : Value) (H'_3 : Nat → Option Obj), delLs H' [] ≤ H'_3 → (∀ (b : Nat), blockOf v = some b → H' b = none) → (∀ (b : Nat) (o : Obj), H'_3 b = some o → H' b = some o ∨ blockOf v = some b) → RowAt H'_3 v (3 : Nat) (1 : Nat) p_1.fst.fst → Meets prog (21 : Nat) [Value.slice a n c, v] H'_3 fun (e : Ending) (H' : Nat → Option Obj) ↦ H'_3 ≤ H' ∧ ∃ (b : Bool), e = Ending.returned (Value.bool b) ∧ Br b (Meets prog (24 : Nat) [Value.agg { toList := [Value.int IntKind.i64 s, Value.int IntKind.i64 z] }, Value.agg { toList := List.append (List.map (Value.int IntKind.i64) m) [] }] (delLs H' [{ site := (12 : Nat), val := v }]) fun (e : Ending) (H'_4 : Nat → Option Obj) ↦ delLs H' [{ site := (12 : Nat), val := v }] ≤ H'_4 ∧ ∃ (n : Int), e = Ending.returned (Value.int IntKind.i64 n) ∧ R (Ending.returned (Value.bool (n == p_1.fst.snd.fst))) (delLs H'_4 [])) (R (Ending.returned (Value.bool false)) (delLs H' [{ site := (12 : Nat), val := v }]))) (R (Ending.returned (Value.bool false)) (delLs H'_2 [{ site := (11 : Nat), val := v }]))) (R (Ending.returned (Value.bool false)) (delLs H' [])))) (Meets prog (20 : Nat) [Value.agg { toList := [Value.int IntKind.i64 s, Value.int IntKind.i64 z] }, Value.agg { toList := List.append (List.map (Value.int IntKind.i64) m) [] }] H fun (e : Ending) (H' : Nat → Option Obj) ↦ H ≤ H' ∧ ∃ (xs : List Int), List.length xs = (32 : Nat) ∧ e = Ending.returned (Value.agg { toList := List.append (List.map (Value.int IntKind.i64) xs) (flatD []) }) ∧ Br (andO none (xs == p_1.snd.snd.snd.snd.fst.fst)) (Meets prog (22 : Nat) [Value.agg { toList := [Value.int IntKind.i64 s, Value.int IntKind.i64 z] }, Value.agg { toList := List.append (List.map (Value.int IntKind.i64) m) [] }, Value.agg { toList := [Value.int IntKind.i64 a, Value.int IntKind.i64 b, Value.int IntKind.i64 c] }] (delLs H' []) fun (e : Ending) (H'_1 : Nat → Option Obj) ↦ delLs H' [] ≤ H'_1 ∧ ∃ (a : Option Addr), ∃ (n : Nat), ∃ (c : Nat), e = Ending.returned (Value.slice a n c) ∧ ∀ (v : Value) (H' : Nat → Option Obj), delLs H'_1 [] ≤ H' → (∀ (b : Nat), blockOf v = some b → H'_1 b = none) → (∀ (b : Nat) (o : Obj), H' b = some o → H'_1 b = some o ∨ blockOf v = some b) → RowAt H' v (3 : Nat) (1 : Nat) p_2.fst.fst → Meets prog (21 : Nat) [Value.slice a n c, v] H' fun (e : Ending) (H'_2 : Nat → Option Obj) ↦ H' ≤ H'_2 ∧ ∃ (b : Bool), e = Ending.returned (Value.bool b) ∧ Br b (Meets prog (23 : Nat) [Value.agg { toList := [Value.int IntKind.i64 s, Value.int IntKind.i64 z] }, Value.agg { toList := List.append (List.map (Value.int IntKind.i64) m) [] }, Value.int IntKind.i64 g] (delLs H'_2 [{ site := (11 : Nat), val := v }]) fun (e : Ending) (H' : Nat → Option Obj) ↦ delLs H'_2 [{ site := (11 : Nat), val := v }] ≤ H' ∧ ∃ (a : Option Addr), ∃ (n : Nat), ∃ (c : Nat), e = Ending.returned (Value.slice a n c) ∧ ∀ (v : Value) (H'_3 : Nat → Option Obj), delLs H' [] ≤ H'_3 → (∀ (b : Nat), blockOf v = some b → H' b = none) → (∀ (b : Nat) (o : Obj), H'_3 b = some o → H' b = some o ∨ blockOf v = some b) → RowAt H'_3 v (3 : Nat) (1 : Nat) p_1.fst.fst → Meets prog (21 : Nat) [Value.slice a n c, v] H'_3 fun (e : Ending) (H' : Nat → Option Obj) ↦ H'_3 ≤ H' ∧ ∃ (b : Bool), e = Ending.returned (Value.bool b) ∧ Br b (Meets prog (24 : Nat) [Value.agg { toList := [Value.int IntKind.i64 s, Value.int IntKind.i64 z] }, Value.agg { toList := List.append (List.map (Value.int IntKind.i64) m) [] }] (delLs H' [{ site := (12 : Nat), val := v }]) fun (e : Ending) (H'_4 : Nat → Option Obj) ↦ delLs H' [{ site := (12 : Nat), val := v }] ≤ H'_4 ∧ ∃ (n : Int), e = Ending.returned (Value.int IntKind.i64 n) ∧ R (Ending.returned (Value.bool (n == p_1.fst.snd.fst))) (delLs H'_4 [])) (R (Ending.returned (Value.bool false)) (delLs H' [{ site := (12 : Nat), val := v }]))) (R (Ending.returned (Value.bool false)) (delLs H'_2 [{ site := (11 : Nat), val := v }]))) (R (Ending.returned (Value.bool false)) (delLs H' [])))) (([], (0 : Int), PUnit.unit), PUnit.unit, PUnit.unit, PUnit.unit, PUnit.unit, PUnit.unit, PUnit.unit) H)) (g = g ∧ (0 : Nat) = (0 : Nat) ∧ (0 : Nat) = (0 : Nat) ∧ (0 : Nat) = (0 : Nat) ∧ p.fst.fst = p.fst.fst ∧ (0 : Nat) = (0 : Nat) ∧ p_1.fst.snd.fst = p_1.fst.snd.fst ∧ s = s ∧ z = z ∧ m = m ∧ a = a ∧ b = b ∧ c = c ∧ p_1.snd.snd.snd.snd.fst.fst = p_1.snd.snd.snd.snd.fst.fst ∧ p_1.fst.fst = p_1.fst.fst ∧ LoopP (fun (K : (List (List Value) × Int × PUnit) × PUnit × PUnit × PUnit × PUnit × PUnit × PUnit → (Nat → Option Obj) → Prop) (p_2 : (List (List Value) × Int × PUnit) × PUnit × PUnit × PUnit × PUnit × PUnit × PUnit) (H : Nat → Option Obj) ↦ Br (decide (p_2.fst.snd.fst < s)) (Br p.fst.fst (((0 : Int) ≤ p_2.fst.snd.fst ∧ p_2.fst.snd.fst < (↑(32 : Nat) : Int)) ∧ Br (List.getD p_1.snd.snd.snd.snd.fst.fst (Int.toNat p_2.fst.snd.fst) (0 : Int) == (0 : Int)) (Br (p_2.fst.snd.fst != a) (Br (p_2.fst.snd.fst != c) (List.length (List.append p_2.fst.fst [[Value.int IntKind.i64 p_2.fst.snd.fst]]) * (8 : Nat) ≤ (140737488355328 : Nat) ∧ g = g ∧ (0 : Nat) = (0 : Nat) ∧ (0 : Nat) = (0 : Nat) ∧ (0 : Nat) = (0 : Nat) ∧ p.fst.fst = p.fst.fst ∧ (0 : Nat) = (0 : Nat) ∧ p_1.fst.snd.fst = p_1.fst.snd.fst ∧ s = s ∧ z = z ∧ m = m ∧ a = a ∧ b = b ∧ c = c ∧ p_1.snd.snd.snd.snd.fst.fst = p_1.snd.snd.snd.snd.fst.fst ∧ p_1.fst.fst = p_1.fst.fst ∧ K ((List.append p_2.fst.fst [[Value.int IntKind.i64 p_2.fst.snd.fst]], IntKind.wrap IntKind.i64 (p_2.fst.snd.fst + (1 : Int)), PUnit.unit), PUnit.unit, PUnit.unit, PUnit.unit, PUnit.unit, PUnit.unit, PUnit.unit) H) (g = g ∧ (0 : Nat) = (0 : Nat) ∧ (0 : Nat) = (0 : Nat) ∧ (0 : Nat) = (0 : Nat) ∧ p.fst.fst = p.fst.fst ∧ (0 : Nat) = (0 : Nat) ∧ p_1.fst.snd.fst = p_1.fst.snd.fst ∧ s = s ∧ z = z ∧ m = m ∧ a = a ∧ b = b ∧ c = c ∧ p_1.snd.snd.snd.snd.fst.fst = p_1.snd.snd.snd.snd.fst.fst ∧ p_1.fst.fst = p_1.fst.fst ∧ K ((p_2.fst.fst, IntKind.wrap IntKind.i64 (p_2.fst.snd.fst + (1 : Int)), PUnit.unit), PUnit.unit, PUnit.unit, PUnit.unit, PUnit.unit, PUnit.unit, PUnit.unit) H)) (g = g ∧ (0 : Nat) = (0 : Nat) ∧ (0 : Nat) = (0 : Nat) ∧ (0 : Nat) = (0 : Nat) ∧ p.fst.fst = p.fst.fst ∧ (0 : Nat) = (0 : Nat) ∧ p_1.fst.snd.fst = p_1.fst.snd.fst ∧ s = s ∧ z = z ∧ m = m ∧ a = a ∧ b = b ∧ c = c ∧ p_1.snd.snd.snd.snd.fst.fst = p_1.snd.snd.snd.snd.fst.fst ∧ p_1.fst.fst = p_1.fst.fst ∧ K ((p_2.fst.fst, IntKind.wrap IntKind.i64 (p_2.fst.snd.fst + (1 : Int)), PUnit.unit), PUnit.unit, PUnit.unit, PUnit.unit, PUnit.unit, PUnit.unit, PUnit.unit) H)) (g = g ∧ (0 : Nat) = (0 : Nat) ∧ (0 : Nat) = (0 : Nat) ∧ (0 : Nat) = (0 : Nat) ∧ p.fst.fst = p.fst.fst ∧ (0 : Nat) = (0 : Nat) ∧ p_1.fst.snd.fst = p_1.fst.snd.fst ∧ s = s ∧ z = z ∧ m = m ∧ a = a ∧ b = b ∧ c = c ∧ p_1.snd.snd.snd.snd.fst.fst = p_1.snd.snd.snd.snd.fst.fst ∧ p_1.fst.fst = p_1.fst.fst ∧ K ((p_2.fst.fst, IntKind.wrap IntKind.i64 (p_2.fst.snd.fst + (1 : Int)), PUnit.unit), PUnit.unit, PUnit.unit, PUnit.unit, PUnit.unit, PUnit.unit, PUnit.unit) H)) (Meets prog (20 : Nat) [Value.agg { toList := [Value.int IntKind.i64 s, Value.int IntKind.i64 z] }, Value.agg { toList := List.append (List.map (Value.int IntKind.i64) m) [] }] H fun (e : Ending) (H' : Nat → Option Obj) ↦ H ≤ H' ∧ ∃ (xs : List Int), List.length xs = (32 : Nat) ∧ e = Ending.returned (Value.agg { toList := List.append (List.map (Value.int IntKind.i64) xs) (flatD []) }) ∧ Br (andO none (xs == p_1.snd.snd.snd.snd.fst.fst)) (Meets prog (22 : Nat) [Value.agg { toList := [Value.int IntKind.i64 s, Value.int IntKind.i64 z] }, Value.agg { toList := List.append (List.map (Value.int IntKind.i64) m) [] }, Value.agg { toList := [Value.int IntKind.i64 a, Value.int IntKind.i64 b, Value.int IntKind.i64 c] }] (delLs H' []) fun (e : Ending) (H'_1 : Nat → Option Obj) ↦ delLs H' [] ≤ H'_1 ∧ ∃ (a : Option Addr), ∃ (n : Nat), ∃ (c : Nat), e = Ending.returned (Value.slice a n c) ∧ ∀ (v : Value) (H' : Nat → Option Obj), delLs H'_1 [] ≤ H' → (∀ (b : Nat), blockOf v = some b → H'_1 b = none) → (∀ (b : Nat) (o : Obj), H' b = some o → H'_1 b = some o ∨ blockOf v = some b) → RowAt H' v (3 : Nat) (1 : Nat) p_2.fst.fst → Meets prog (21 : Nat) [Value.slice a n c, v] H' fun (e : Ending) (H'_2 : Nat → Option Obj) ↦ H' ≤ H'_2 ∧ ∃ (b : Bool), e = Ending.returned (Value.bool b) ∧ Br b (Meets prog (23 : Nat) [Value.agg { toList := [Value.int IntKind.i64 s, Value.int IntKind.i64 z] }, Value.agg { toList := List.append (List.map (Value.int IntKind.i64) m) [] }, Value.int IntKind.i64 g] (delLs H'_2 [{ site := (11 : Nat), val := v }]) fun (e : Ending) (H' : Nat → Option Obj) ↦ delLs H'_2 [{ site := (11 : Nat), val := v }] ≤ H' ∧ ∃ (a : Option Addr), ∃ (n : Nat), ∃ (c : Nat), e = Ending.returned (Value.slice a n c) ∧ ∀ (v : Value) (H'_3 : Nat → Option Obj), delLs H' [] ≤ H'_3 → (∀ (b : Nat), blockOf v = some b → H' b = none) → (∀ (b : Nat) (o : Obj), H'_3 b = some o → H' b = some o ∨ blockOf v = some b) → RowAt H'_3 v (3 : Nat) (1 : Nat) p_1.fst.fst → Meets prog (21 : Nat) [Value.slice a n c, v] H'_3 fun (e : Ending) (H' : Nat → Option Obj) ↦ H'_3 ≤ H' ∧ ∃ (b : Bool), e = Ending.returned (Value.bool b) ∧ Br b (Meets prog (24 : Nat) [Value.agg { toList := [Value.int IntKind.i64 s, Value.int IntKind.i64 z] }, Value.agg { toList := List.append (List.map (Value.int IntKind.i64) m) [] }] (delLs H' [{ site := (12 : Nat), val := v }]) fun (e : Ending) (H'_4 : Nat → Option Obj) ↦ delLs H' [{ site := (12 : Nat), val := v }] ≤ H'_4 ∧ ∃ (n : Int), e = Ending.returned (Value.int IntKind.i64 n) ∧ R (Ending.returned (Value.bool (n == p_1.fst.snd.fst))) (delLs H'_4 [])) (R (Ending.returned (Value.bool false)) (delLs H' [{ site := (12 : Nat), val := v }]))) (R (Ending.returned (Value.bool false)) (delLs H'_2 [{ site := (11 : Nat), val := v }]))) (R (Ending.returned (Value.bool false)) (delLs H' [])))) (Meets prog (20 : Nat) [Value.agg { toList := [Value.int IntKind.i64 s, Value.int IntKind.i64 z] }, Value.agg { toList := List.append (List.map (Value.int IntKind.i64) m) [] }] H fun (e : Ending) (H' : Nat → Option Obj) ↦ H ≤ H' ∧ ∃ (xs : List Int), List.length xs = (32 : Nat) ∧ e = Ending.returned (Value.agg { toList := List.append (List.map (Value.int IntKind.i64) xs) (flatD []) }) ∧ Br (andO none (xs == p_1.snd.snd.snd.snd.fst.fst)) (Meets prog (22 : Nat) [Value.agg { toList := [Value.int IntKind.i64 s, Value.int IntKind.i64 z] }, Value.agg { toList := List.append (List.map (Value.int IntKind.i64) m) [] }, Value.agg { toList := [Value.int IntKind.i64 a, Value.int IntKind.i64 b, Value.int IntKind.i64 c] }] (delLs H' []) fun (e : Ending) (H'_1 : Nat → Option Obj) ↦ delLs H' [] ≤ H'_1 ∧ ∃ (a : Option Addr), ∃ (n : Nat), ∃ (c : Nat), e = Ending.returned (Value.slice a n c) ∧ ∀ (v : Value) (H' : Nat → Option Obj), delLs H'_1 [] ≤ H' → (∀ (b : Nat), blockOf v = some b → H'_1 b = none) → (∀ (b : Nat) (o : Obj), H' b = some o → H'_1 b = some o ∨ blockOf v = some b) → RowAt H' v (3 : Nat) (1 : Nat) p_2.fst.fst → Meets prog (21 : Nat) [Value.slice a n c, v] H' fun (e : Ending) (H'_2 : Nat → Option Obj) ↦ H' ≤ H'_2 ∧ ∃ (b : Bool), e = Ending.returned (Value.bool b) ∧ Br b (Meets prog (23 : Nat) [Value.agg { toList := [Value.int IntKind.i64 s, Value.int IntKind.i64 z] }, Value.agg { toList := List.append (List.map (Value.int IntKind.i64) m) [] }, Value.int IntKind.i64 g] (delLs H'_2 [{ site := (11 : Nat), val := v }]) fun (e : Ending) (H' : Nat → Option Obj) ↦ delLs H'_2 [{ site := (11 : Nat), val := v }] ≤ H' ∧ ∃ (a : Option Addr), ∃ (n : Nat), ∃ (c : Nat), e = Ending.returned (Value.slice a n c) ∧ ∀ (v : Value) (H'_3 : Nat → Option Obj), delLs H' [] ≤ H'_3 → (∀ (b : Nat), blockOf v = some b → H' b = none) → (∀ (b : Nat) (o : Obj), H'_3 b = some o → H' b = some o ∨ blockOf v = some b) → RowAt H'_3 v (3 : Nat) (1 : Nat) p_1.fst.fst → Meets prog (21 : Nat) [Value.slice a n c, v] H'_3 fun (e : Ending) (H' : Nat → Option Obj) ↦ H'_3 ≤ H' ∧ ∃ (b : Bool), e = Ending.returned (Value.bool b) ∧ Br b (Meets prog (24 : Nat) [Value.agg { toList := [Value.int IntKind.i64 s, Value.int IntKind.i64 z] }, Value.agg { toList := List.append (List.map (Value.int IntKind.i64) m) [] }] (delLs H' [{ site := (12 : Nat), val := v }]) fun (e : Ending) (H'_4 : Nat → Option Obj) ↦ delLs H' [{ site := (12 : Nat), val := v }] ≤ H'_4 ∧ ∃ (n : Int), e = Ending.returned (Value.int IntKind.i64 n) ∧ R (Ending.returned (Value.bool (n == p_1.fst.snd.fst))) (delLs H'_4 [])) (R (Ending.returned (Value.bool false)) (delLs H' [{ site := (12 : Nat), val := v }]))) (R (Ending.returned (Value.bool false)) (delLs H'_2 [{ site := (11 : Nat), val := v }]))) (R (Ending.returned (Value.bool false)) (delLs H' [])))) (([], (0 : Int), PUnit.unit), PUnit.unit, PUnit.unit, PUnit.unit, PUnit.unit, PUnit.unit, PUnit.unit) H)) (([], (0 : Int), (1 : Int), PUnit.unit), PUnit.unit, PUnit.unit, PUnit.unit, ([(0 : Int), (0 : Int), (0 : Int), (0 : Int), (0 : Int), (0 : Int), (0 : Int), (0 : Int), (0 : Int), (0 : Int), (0 : Int), (0 : Int), (0 : Int), (0 : Int), (0 : Int), (0 : Int), (0 : Int), (0 : Int), (0 : Int), (0 : Int), (0 : Int), (0 : Int), (0 : Int), (0 : Int), (0 : Int), (0 : Int), (0 : Int), (0 : Int), (0 : Int), (0 : Int), (0 : Int), (0 : Int)], PUnit.unit), PUnit.unit) H)
theorem vc_f7 (s : Int) (z : Int) (a : Int) (b : Int) (c : Int) (g : Int) (m : List Int) (R : Ending → Heap → Prop) (H : Heap) : vcFun prog h7 f7 [SV.agg [Seg.c (SC.v (Value.int IntKind.i64 s)), Seg.c (SC.v (Value.int IntKind.i64 z))], SV.agg [Seg.ints IntKind.i64 (256 : Nat) m], SV.agg [Seg.c (SC.v (Value.int IntKind.i64 a)), Seg.c (SC.v (Value.int IntKind.i64 b)), Seg.c (SC.v (Value.int IntKind.i64 c))], SV.c (SC.v (Value.int IntKind.i64 g))] R H = nf_f7 s z a b c g m R H := by kernel_rfl


theorem br_and {p q : Bool} {A B : Prop} (h1 : p = true → q = true → A) (h2 : ¬ (p = true ∧ q = true) → B) : Br p (Br q A B) B := by
  cases p <;> cases q <;> simp_all [Br]
theorem whr_no {s z : Int} (h : ¬ Ok s z) (a : Int) : whr s z a = none := by unfold whr; rw [if_neg fun q => h q.1]
theorem nd_no {s z : Int} (h : ¬ Ok s z) (g : Int) (m : List Int) : ∀ k, nd s z g m k = []
  | 0 => rfl
  | k + 1 => by simp [nd, nd_no h g m k, hit, whr_no h]
theorem liv_no {s z : Int} (h : ¬ Ok s z) : ∀ (r l : List Int), liv s z r l = l
  | [], l => rfl
  | a :: r, l => by simp only [liv, whr_no h, bump]; exact liv_no h r l
theorem fr_stop (s a c : Int) (l : List Int) (k : Nat) (h : s ≤ k) : ∀ d, fr s a c l (k + d) = fr s a c l k
  | 0 => rfl
  | d + 1 => by
    have := fr_stop s a c l k h d
    show fr s a c l (k + d) ++ (if ((k + d : Nat) : Int) < s ∧ _ then _ else _) = _
    rw [this, if_neg (by omega), List.append_nil]
theorem del_le {H H1 : Heap} {v : Value} (h : H ≤ H1) (hv : ∀ b, blockOf v = some b → H b = none) (i : Nat) : H ≤ delLs H1 [⟨i, v⟩] := by
  intro b o e
  show (Heap.delO H1 (blockOf v)) b = some o
  cases hb : blockOf v with
  | none => exact h b o e
  | some b' =>
    have : b ≠ b' := by rintro rfl; rw [hv b hb] at e; cases e
    simp only [Heap.delO, Heap.del, if_neg this]
    exact h b o e
theorem cells_len (l : List Int) : (cells l).length = l.length := by simp [cells]
theorem bump_sum (o : Option Nat) (l : List Int) (h : ∀ i, o = some i → i < l.length) : (bump o l).sum = l.sum + (if o.isSome then 1 else 0) := by
  cases o with
  | none => simp [bump]
  | some i =>
    have hi := h i rfl
    simp only [bump, Option.isSome_some, if_true]
    have e : l = l.take i ++ l[i] :: l.drop (i + 1) := by simp
    rw [List.set_eq_take_append_cons_drop, if_pos hi]
    have hg : l.getD i 0 = l[i] := by simp [List.getD, hi]
    rw [hg]
    conv => rhs; rw [e]
    simp only [List.sum_append, List.sum_cons]
    omega
section
variable {R : Ending → Heap → Prop} {H : Heap}
set_option maxHeartbeats 4000000 in
theorem s7 (s z a b c g : Int) (m : List Int) (hm : m.length = 256) (hrg : ∀ x ∈ m, -9223372036854775808 ≤ x ∧ x ≤ 9223372036854775807) (h : ∀ H', H ≤ H' → R (.returned (.bool true)) H') : Meets prog 7 [geo s z, arr m, plc a b c, vi g] H R := by
  refine spec_of func7 (hs := h7) (by kernel_rfl) (fun t h => eqs37 t h) ?_ (vc_f7 s z a b c g m R H) ?_
  · simp [argsR, SV.rep, SC.rep, SegsRep, one, hm]
  unfold nf_f7
  refine s19 fun H0 hle0 => ⟨true, rfl, ?_⟩
  simp only [Bool.not_true, br_false, true_and]
  refine ⟨fun p H' => p.1.1 = decide (Ok s z) ∧ H0 ≤ H', ?_, ?_⟩
  · refine br (fun q1 => br (fun q2 => br (fun q3 => ?_) fun q => ?_) fun q => ?_) fun q => ?_
    all_goals refine ⟨?_, heap_refl _⟩
    all_goals simp only [decide_eq_true_eq, decide_eq_false_iff_not] at *
    · rw [decide_eq_decide]; unfold Ok; omega
    all_goals symm; rw [decide_eq_false_iff_not]; unfold Ok; omega
  rintro ⟨⟨ok, _⟩, _⟩ H1 ⟨hok, hle1⟩
  simp only at hok ⊢
  refine ⟨fun p H' => (1 ≤ p.1.2.2.1 ∧ p.1.2.2.1 ≤ 256) ∧ p.1.1 = cells (nd s z g m p.1.2.2.1.toNat) ∧ p.2.2.2.2.1.1 = liv s z ((m.drop 1).take (p.1.2.2.1 - 1).toNat) zeros ∧ p.1.2.1 = p.2.2.2.2.1.1.sum ∧ H' = H1, fun p _ => (256 - p.1.2.2.1).toNat, ⟨by simp, ?_, rfl, rfl, rfl⟩, ?_⟩
  · simp [nd, cells]
  rintro ⟨⟨es, al, k, _⟩, _, _, _, ⟨l, _⟩, _⟩ H' ⟨hk, hes, hl, hal, rfl⟩
  simp only at hk hes hl hal ⊢
  subst hes hal
  have hlen : l.length = 32 := by rw [hl, liv_len]; rfl
  have hw : IntKind.i64.wrap (k + 1) = k + 1 := IntWalk.i64_in _ (by omega)
  refine br_and (fun q1 q2 => ?_) fun q => ?_
  · simp only [decide_eq_true_eq] at q1
    rw [q2] at hok
    have hOk : Ok s z := by simpa using hok.symm
    have hOk' := hOk
    unfold Ok at hOk'
    have hsz : 24 ≤ s * z ∧ s * z ≤ 1024 := by
      refine ⟨?_, ?_⟩
      · have := Int.mul_le_mul (a := 6) (b := 4) (c := s) (d := z) (by omega) (by omega) (by omega) (by omega); omega
      · have := Int.mul_le_mul (a := s) (b := z) (c := 32) (d := 32) (by omega) (by omega) (by omega) (by omega); omega
    have hmem : m.getD k.toNat 0 ∈ m := by
      have : k.toNat < m.length := by omega
      simp [this]
    have hr := hrg _ hmem
    have hnd : nd s z g m (k + 1).toNat = nd s z g m k.toNat ++ (if hit s z g (m.getD k.toNat 0) = true then [k] else []) := by
      have e1 : (k + 1).toNat = k.toNat + 1 := by omega
      rw [e1]
      have e2 : ((k.toNat : Nat) : Int) = k := by omega
      have e3 : 0 < k.toNat := by omega
      simp only [nd, e2, e3, and_true]
    have hlv : liv s z ((m.drop 1).take (k + 1 - 1).toNat) zeros = bump (whr s z (m.getD k.toNat 0)) l := by
      have e1 : (k + 1 - 1).toNat = (k - 1).toNat + 1 := by omega
      rw [e1, List.take_add_one, hl]
      have e2 : (m.drop 1)[(k - 1).toNat]? = some (m.getD k.toNat 0) := by
        rw [List.getElem?_drop]
        have e3 : 1 + (k - 1).toNat = k.toNat := by omega
        rw [e3]
        have : k.toNat < m.length := by omega
        simp [this]
      rw [e2]
      exact liv_snoc s z _ _ _
    have hrange : ∀ x ∈ l, 0 ≤ x ∧ x ≤ 0 + ((m.drop 1).take (k - 1).toNat).length := by
      rw [hl]; exact liv_le s z _ _ 0 (by omega) (by intro x hx; rw [List.eq_of_mem_replicate hx]; omega)
    have hlt : ((m.drop 1).take (k - 1).toNat).length ≤ 255 := by simp; omega
    generalize m.getD k.toNat 0 = at' at *
    have hnone : whr s z at' = none → (1 ≤ IntKind.i64.wrap (k + 1) ∧ IntKind.i64.wrap (k + 1) ≤ 256) ∧ cells (nd s z g m k.toNat) = cells (nd s z g m (IntKind.i64.wrap (k + 1)).toNat) ∧ l = liv s z ((m.drop 1).take (IntKind.i64.wrap (k + 1) - 1).toNat) zeros ∧ True ∧ True := by
      intro hq
      rw [hw, hnd, hlv, hq]
      simp only [hit, hq, bump]
      exact ⟨by omega, by simp, by trivial, trivial, trivial⟩
    have hin : 0 ≤ k ∧ k < ((256 : Nat) : Int) := by omega
    have hms : (256 - IntKind.i64.wrap (k + 1)).toNat < (256 - k).toNat := by rw [hw]; omega
    refine ⟨hin, br (fun a1 => ?_) fun a1 => ⟨hin, br (fun a2 => ?_) fun a2 => ?_⟩⟩
    · have hq : whr s z at' = none := by
        unfold whr; rw [if_neg]; simp only [decide_eq_true_eq] at a1; omega
      obtain ⟨x1, x2, x3, _, _⟩ := hnone hq
      exact ⟨⟨x1, x2, x3, by trivial, by trivial⟩, hms⟩
    · have e1 : IntKind.i64.wrap (9 + IntKind.i64.wrap (s * z)) = 9 + s * z := by
        rw [IntWalk.i64_in (s * z) (by omega)]; exact IntWalk.i64_in _ (by omega)
      rw [e1] at a2
      have hq : whr s z at' = none := by
        unfold whr; rw [if_neg]; simp only [decide_eq_true_eq] at a2; omega
      obtain ⟨x1, x2, x3, _, _⟩ := hnone hq
      exact ⟨⟨x1, x2, x3, by trivial, by trivial⟩, hms⟩
    · have e1 : IntKind.i64.wrap (9 + IntKind.i64.wrap (s * z)) = 9 + s * z := by
        rw [IntWalk.i64_in (s * z) (by omega)]; exact IntWalk.i64_in _ (by omega)
      rw [e1] at a2
      simp only [decide_eq_false_iff_not] at a1 a2
      have e2 : IntKind.i64.wrap (at' - 9) = at' - 9 := IntWalk.i64_in _ (by omega)
      have e3 : Int.tdiv (at' - 9) z = (at' - 9) / z := Int.tdiv_eq_ediv_of_nonneg (by omega)
      have hw1 : whr s z at' = some ((at' - 9) / z).toNat := by unfold whr; rw [if_pos ⟨hOk, by omega, by omega⟩]
      obtain ⟨_, _, c3, c4, c5⟩ := whr_lt hw1
      generalize (at' - 9) / z = j at *
      have e4 : IntKind.i64.wrap (Int.tdiv (IntKind.i64.wrap (at' - 9)) z) = j := by
        rw [e2, e3]; exact IntWalk.i64_in _ (by omega)
      rw [e4]
      have hj : 0 ≤ j ∧ j < ((32 : Nat) : Int) := by omega
      have hjl : j.toNat < l.length := by omega
      have hv : IntKind.i64.wrap (l.getD j.toNat 0 + 1) = l.getD j.toNat 0 + 1 := by
        apply IntWalk.i64_in
        have : l.getD j.toNat 0 = l[j.toNat] := by simp [hjl]
        rw [this]
        have := hrange _ (List.getElem_mem hjl)
        omega
      rw [hv]
      have hset : l.set j.toNat (l.getD j.toNat 0 + 1) = liv s z ((m.drop 1).take (IntKind.i64.wrap (k + 1) - 1).toNat) zeros := by rw [hw, hlv, hw1]; rfl
      have hsum : IntKind.i64.wrap (l.sum + 1) = (l.set j.toNat (l.getD j.toNat 0 + 1)).sum := by
        have e5 : l.set j.toNat (l.getD j.toNat 0 + 1) = bump (some j.toNat) l := rfl
        rw [e5, bump_sum _ _ (by intro i hi; cases hi; exact hjl)]
        have := sum_le (b := 255) (by omega) l fun x hx => by have := hrange x hx; omega
        simp only [Option.isSome_some, if_true]
        exact IntWalk.i64_in _ (by omega)
      have hhit : hit s z g at' = (j == g) := by
        unfold hit; rw [hw1]; simp only; rw [show ((j.toNat : Nat) : Int) = j by omega]
      have hwk : 1 ≤ IntKind.i64.wrap (k + 1) ∧ IntKind.i64.wrap (k + 1) ≤ 256 := by rw [hw]; omega
      refine ⟨hin, by omega, hj, hj, br (fun a3 => ⟨?_, ⟨hwk, ?_, hset, hsum, by trivial⟩, hms⟩) fun a3 => ⟨⟨hwk, ?_, hset, hsum, by trivial⟩, hms⟩⟩
      · have := nd_len s z g m k.toNat
        simp only [List.append_eq, List.length_append, cells_len, List.length_cons, List.length_nil]; omega
      · rw [cells_snoc, hw, hnd, if_pos (by rw [hhit]; exact a3)]
      · rw [hw, hnd, if_neg (by rw [hhit, a3]; simp), List.append_nil]
  have hend : l = live s z m ∧ nd s z g m k.toNat = nd s z g m 256 := by
    by_cases hOk : Ok s z
    · rw [decide_eq_true hOk] at hok
      have : k = 256 := by simp only [decide_eq_true_eq, hok, and_true] at q; omega
      subst this
      refine ⟨?_, rfl⟩
      rw [hl, List.take_of_length_le (by simp; omega)]
      rfl
    · rw [nd_no hOk, nd_no hOk]
      refine ⟨?_, rfl⟩
      rw [hl, live, liv_no hOk, liv_no hOk]
  obtain ⟨rfl, hnd⟩ := hend
  rw [hnd]
  have hL := live_len s z m
  refine ⟨fun p H' => (0 ≤ p.1.2.1 ∧ p.1.2.1 ≤ 32) ∧ (Ok s z → p.1.2.1 ≤ s) ∧ p.1.1 = cells (if Ok s z then fr s a c (live s z m) p.1.2.1.toNat else []) ∧ H0 ≤ H', fun p _ => (32 - p.1.2.1).toNat, ⟨by simp, by unfold Ok; simp; omega, by simp [fr, cells], hle1⟩, ?_⟩
  rintro ⟨⟨es, k2, _⟩, _, _, _, _, _, _⟩ H2 ⟨hk2, hks, hes, hle2⟩
  simp only at hk2 hks hes ⊢
  subst hes
  have hw2 : IntKind.i64.wrap (k2 + 1) = k2 + 1 := IntWalk.i64_in _ (by omega)
  refine br_and (fun q1 q2 => ?_) fun q' => ?_
  · simp only [decide_eq_true_eq] at q1
    rw [q2] at hok
    have hOk : Ok s z := by simpa using hok.symm
    simp only [if_pos hOk]
    have hk32 : k2 < 32 := by unfold Ok at hOk; omega
    have e1 : (k2 + 1).toNat = k2.toNat + 1 := by omega
    have e2 : ((k2.toNat : Nat) : Int) = k2 := by omega
    have hms : (32 - IntKind.i64.wrap (k2 + 1)).toNat < (32 - k2).toNat := by rw [hw2]; omega
    have hb1 : 0 ≤ IntKind.i64.wrap (k2 + 1) ∧ IntKind.i64.wrap (k2 + 1) ≤ 32 := by rw [hw2]; omega
    have hb2 : Ok s z → IntKind.i64.wrap (k2 + 1) ≤ s := by rw [hw2]; omega
    have hfr : fr s a c (live s z m) (IntKind.i64.wrap (k2 + 1)).toNat = fr s a c (live s z m) k2.toNat ++ (if (live s z m).getD k2.toNat 0 = 0 ∧ k2 ≠ a ∧ k2 ≠ c then [k2] else []) := by
      rw [hw2, e1]
      simp only [fr, e2, q1, true_and]
    have hno : ¬ ((live s z m).getD k2.toNat 0 = 0 ∧ k2 ≠ a ∧ k2 ≠ c) → cells (fr s a c (live s z m) k2.toNat) = cells (fr s a c (live s z m) (IntKind.i64.wrap (k2 + 1)).toNat) := by
      intro hn; rw [hfr, if_neg hn, List.append_nil]
    refine ⟨by omega, br (fun a1 => br (fun a2 => br (fun a3 => ⟨?_, ⟨hb1, hb2, ?_, hle2⟩, hms⟩) fun a3 => ⟨⟨hb1, hb2, hno ?_, hle2⟩, hms⟩) fun a2 => ⟨⟨hb1, hb2, hno ?_, hle2⟩, hms⟩) fun a1 => ⟨⟨hb1, hb2, hno ?_, hle2⟩, hms⟩⟩
    · have := fr_len s a c (live s z m) k2.toNat
      simp only [List.append_eq, List.length_append, cells_len, List.length_cons, List.length_nil]; omega
    · simp at a1 a2 a3
      rw [cells_snoc, hfr, if_pos ⟨by simpa using a1, a2, a3⟩]
    · simp at a3; simp [a3]
    · simp at a2; simp [a2]
    · simp at a1; simp [a1]
  have hfin : (if Ok s z then fr s a c (live s z m) k2.toNat else []) = if Ok s z then fr s a c (live s z m) 32 else [] := by
    by_cases hOk : Ok s z
    · rw [if_pos hOk, if_pos hOk]
      rw [decide_eq_true hOk] at hok
      have : k2 = s := by
        have := hks hOk
        simp only [decide_eq_true_eq, hok, and_true] at q'; omega
      subst this
      have e := fr_stop k2 a c (live k2 z m) k2.toNat (by omega) (32 - k2.toNat)
      rw [← e]; congr 1; omega
    · rw [if_neg hOk, if_neg hOk]
  rw [hfin]
  clear hfin q'
  refine s20 s z m hm ⟨heap_refl _, live s z m, hL, rfl, ?_⟩
  have e1 : andO none (live s z m == live s z m) = true := by simp [andO]
  rw [e1]
  simp only [br_true]
  -- both lists of free ones
  have hfl := fr_len s a c (live s z m) 32
  have hnl := nd_len s z g m 256
  have last : ∀ (v : Value) (H3 : Heap), H0 ≤ H3 → SliceAt H3 v 1 (cells (if Ok s z then fr s a c (live s z m) 32 else [])) → ∀ (va : Value) (H4 : Heap), H3 ≤ H4 → (∀ b, blockOf va = some b → H3 b = none) →
      RowAt H4 va 3 1 (cells (if Ok s z then fr s a c (live s z m) 32 else [])) → Meets prog 21 [v, va] H4 fun e H'_2 => H4 ≤ H'_2 ∧ ∃ b, e = .returned (.bool b) ∧ (b = true → H0 ≤ delLs H'_2 [⟨11, va⟩]) ∧ b = true := by
    intro v H3 h3 hv va H4 h4 hva hrow
    refine s21 (slice_le hv h4) (row_slice hrow) ?_ ⟨heap_refl _, _, rfl, fun _ => ?_, by simp⟩
    · split
      · omega
      · simp
    · exact del_le (heap_trans h3 h4) (fun b hb => by
        cases hx : H0 b with
        | none => rfl
        | some o => have := h3 b o hx; rw [hva b hb] at this; cases this) _
  have tail : ∀ H5, H0 ≤ H5 → Meets prog 23 [geo s z, arr m, vi g] H5 fun e H' => H5 ≤ H' ∧ ∃ a n c, e = .returned (.slice a n c) ∧ ∀ (v : Value) (H'_3 : Heap), delLs H' [] ≤ H'_3 → (∀ b, blockOf v = some b → H' b = none) → (∀ b (o : Obj), H'_3 b = some o → H' b = some o ∨ blockOf v = some b) → RowAt H'_3 v 3 1 (cells (nd s z g m 256)) →
      Meets prog 21 [.slice a n c, v] H'_3 fun e H' => H'_3 ≤ H' ∧ ∃ b, e = .returned (.bool b) ∧ Br b (Meets prog 24 [geo s z, arr m] (delLs H' [⟨12, v⟩]) fun e H'_4 => delLs H' [⟨12, v⟩] ≤ H'_4 ∧ ∃ n, e = .returned (vi n) ∧ R (.returned (.bool (n == (live s z m).sum))) (delLs H'_4 [])) (R (.returned (.bool false)) (delLs H' [⟨12, v⟩])) := by
    intro H5 h5
    refine s23 s z g m hm fun v6 H6 h6 hrow6 => ⟨h6, ?_⟩
    have hs6 := row_slice hrow6
    obtain ⟨a6, n6, rfl⟩ := row_len hrow6
    refine ⟨_, _, _, rfl, fun v7 H7 h7 hv7 _ hrow7 => ?_⟩
    refine s21 (slice_le hs6 h7) (row_slice hrow7) (by omega) ⟨heap_refl _, nd s z g m 256 == nd s z g m 256, rfl, ?_⟩
    rw [show (nd s z g m 256 == nd s z g m 256) = true by simp, br_true]
    have h8 : H0 ≤ delLs H7 [⟨12, v7⟩] := del_le (heap_trans (heap_trans h5 h6) h7) (fun b hb => by
        cases hx : H0 b with
        | none => rfl
        | some o => have := heap_trans h5 h6 b o hx; rw [hv7 b hb] at this; cases this) _
    refine s24 s z m hm ⟨heap_refl _, _, rfl, ?_⟩
    rw [show ((live s z m).sum == (live s z m).sum) = true by simp]
    exact h _ (heap_trans hle0 h8)
  have comb : ∀ (v : Value) (a' : Option Addr) (n' c' : Nat) (H3 : Heap), v = .slice a' n' c' → H2 ≤ H3 → SliceAt H3 v 1 (cells (if Ok s z then fr s a c (live s z m) 32 else [])) → True := fun _ _ _ _ _ _ _ _ => trivial
  have mono : ∀ {f : Nat} {args : List Value} {Hx : Heap} {R1 R2 : Ending → Heap → Prop}, (∀ e H', R1 e H' → R2 e H') → Meets prog f args Hx R1 → Meets prog f args Hx R2 := by
    intro f args Hx R1 R2 hR hM
    exact ⟨hM.1, fun w hw => (hM.2 w hw).mono fun e w' ⟨H', st, r⟩ => ⟨H', st, hR _ _ r⟩⟩
  refine s22 s z a b c m hm (fun hOk => ?_) fun hOk v H3 h3 hrow3 => ?_
  · refine ⟨heap_refl _, none, 0, 0, rfl, fun va H4 h4 hva _ hrow4 => ?_⟩
    refine mono ?_ (last (.slice none 0 0) H2 hle2 (by rw [if_neg hOk]; exact ⟨none, 0, 0, rfl, rfl, Nat.le_refl _, by simp [cells], by simp [cells], by simp [cells]⟩) va H4 h4 hva hrow4)
    rintro e H5 ⟨h5, bb, rfl, h6, rfl⟩
    exact ⟨h5, true, rfl, by rw [br_true]; exact tail _ (h6 rfl)⟩
  · have hs3 := row_slice hrow3
    obtain ⟨a3, n3, rfl⟩ := row_len hrow3
    refine ⟨h3, _, _, _, rfl, fun va H4 h4 hva _ hrow4 => ?_⟩
    refine mono ?_ (last _ H3 (heap_trans hle2 h3) (by rw [if_pos hOk]; exact hs3) va H4 h4 hva hrow4)
    rintro e H5 ⟨h5, bb, rfl, h6, rfl⟩
    exact ⟨h5, true, rfl, by rw [br_true]; exact tail _ (h6 rfl)⟩
end
end Go.Proofs.Ytjlnkihkabljbaa.Us
