/- Own texts, one behind the other: Q7, Q8, Q9. -/
import Derived.Deep.Strs
import Derived.Test.YtpaijacgdjldeaaZ3
set_option linter.unusedVariables false
set_option linter.unusedSimpArgs false
namespace Po
open Go Sx
open Go.Proofs.Try
set_option maxRecDepth 100000
def h_lpruns : Hints := { cuts := [(27, ⟨[0, 1], [.f 5 .ptr, .row 6 3 1, .f 7 (.int .i64)], []⟩)], loops := [(6, ⟨[0, 1], [.f 5 .ptr, .row 6 3 1, .f 7 (.int .i64)], []⟩)] }
def nf_lpruns (a : Option Addr) (n : Nat) (c : Nat) (a' : Option Addr) (n' : Nat) (c' : Nat) (R : Ending → Heap → Prop) (H : Heap) : Prop := Meets prog (6 : Nat) [] H fun (e : Ending) (H' : Nat → Option Obj) ↦ ∃ (b : Bool), e = Ending.returned (Value.bool b) ∧ Br (!b) (R (Ending.returned (Value.bool false)) H') (Meets prog (7 : Nat) [Value.slice a n c] H' fun (e : Ending) (H' : Nat → Option Obj) ↦ ∃ (a_1 : Option Addr), e = Ending.returned (Value.pointer a_1) ∧ ((0 : Int) ≤ minI (↑n : Int) (32 : Int) ∧ minI (↑n : Int) (32 : Int) ≤ (↑c : Int)) ∧ ∃ (es2 : List (List Value)), SliceAt H' (Value.slice (subAddr a c (0 : Nat) (1 : Nat)) (Int.toNat (minI (↑n : Int) (32 : Int)) - (0 : Nat)) (c - (0 : Nat))) (1 : Nat) es2 ∧ List.length es2 * (8 : Nat) ≤ (140737488355328 : Nat) ∧ a = a ∧ n = n ∧ c = c ∧ a' = a' ∧ n' = n' ∧ c' = c' ∧ LoopP (fun (K : (Option Addr × List (List Value) × Int × PUnit) × PUnit → (Nat → Option Obj) → Prop) (p : (Option Addr × List (List Value) × Int × PUnit) × PUnit) (H : Nat → Option Obj) ↦ Br (decide (p.fst.snd.snd.fst < (↑n' : Int))) (Br (decide (p.fst.snd.snd.fst < (60 : Int))) (CutP (fun (I : (Option Addr × List (List Value) × Int × PUnit) × PUnit → (Nat → Option Obj) → Prop) ↦ ((0 : Int) ≤ p.fst.snd.snd.fst ∧ p.fst.snd.snd.fst < (↑n' : Int)) ∧ PtrK a' fun (A : Addr) ↦ PtrK (some (Addr.add A (Int.toNat p.fst.snd.snd.fst * (2 : Nat)))) fun (a_2 : Addr) ↦ PtrK (some (Addr.add a_2 (0 : Nat))) fun (a_3 : Addr) ↦ ∃ (n_1 : Int), Heap.has H a_3 [Value.int IntKind.i64 n_1] ∧ (4 : Int) ≠ (0 : Int) ∧ (4 : Int) ≠ (0 : Int) ∧ Br (Int.tmod (IntKind.wrap IntKind.i64 (Int.tmod n_1 (4 : Int) + (4 : Int))) (4 : Int) == (0 : Int)) (((0 : Int) ≤ p.fst.snd.snd.fst ∧ p.fst.snd.snd.fst < (↑n' : Int)) ∧ PtrK a' fun (A : Addr) ↦ PtrK (some (Addr.add A (Int.toNat p.fst.snd.snd.fst * (2 : Nat)))) fun (a_4 : Addr) ↦ PtrK (some (Addr.add a_4 (1 : Nat))) fun (a_5 : Addr) ↦ ∃ (n_2 : Int), Heap.has H a_5 [Value.int IntKind.i64 n_2] ∧ Meets prog (8 : Nat) [Value.pointer p.fst.fst, Value.int IntKind.i64 n_2] H fun (e : Ending) (H' : Nat → Option Obj) ↦ ∃ (b : Bool), e = Ending.returned (Value.bool b) ∧ Br (!b == decide ((↑(List.length p.fst.snd.fst) : Int) < (32 : Int))) (R (Ending.returned (Value.bool false)) H') (Br (decide ((↑(List.length p.fst.snd.fst) : Int) < (32 : Int))) (((0 : Int) ≤ p.fst.snd.snd.fst ∧ p.fst.snd.snd.fst < (↑n' : Int)) ∧ PtrK a' fun (A : Addr) ↦ PtrK (some (Addr.add A (Int.toNat p.fst.snd.snd.fst * (2 : Nat)))) fun (a_6 : Addr) ↦ PtrK (some (Addr.add a_6 (1 : Nat))) fun (a_7 : Addr) ↦ ∃ (n_3 : Int), Heap.has H' a_7 [Value.int IntKind.i64 n_3] ∧ List.length (List.append p.fst.snd.fst [[Value.int IntKind.i64 n_3]]) * (8 : Nat) ≤ (140737488355328 : Nat) ∧ a = a ∧ n = n ∧ c = c ∧ a' = a' ∧ n' = n' ∧ c' = c' ∧ I ((p.fst.fst, List.append p.fst.snd.fst [[Value.int IntKind.i64 n_3]], p.fst.snd.snd.fst, PUnit.unit), PUnit.unit) H') (a = a ∧ n = n ∧ c = c ∧ a' = a' ∧ n' = n' ∧ c' = c' ∧ I ((p.fst.fst, p.fst.snd.fst, p.fst.snd.snd.fst, PUnit.unit), PUnit.unit) H'))) (Br (Int.tmod (IntKind.wrap IntKind.i64 (Int.tmod n_1 (4 : Int) + (4 : Int))) (4 : Int) == (1 : Int)) (Meets prog (9 : Nat) [Value.pointer p.fst.fst] H fun (e : Ending) (H' : Nat → Option Obj) ↦ ∃ (n_2 : Int), ∃ (b : Bool), e = Ending.returned (Value.tuple { toList := [Value.int IntKind.i64 n_2, Value.bool b] }) ∧ Br (!b == decide ((↑(List.length p.fst.snd.fst) : Int) > (0 : Int))) (R (Ending.returned (Value.bool false)) H') (Br b (((0 : Int) ≤ (0 : Int) ∧ (0 : Int) < (↑(List.length p.fst.snd.fst) : Int)) ∧ ∃ (n_3 : Int), (∃ (e : List Value), List.get?Internal p.fst.snd.fst (0 : Nat) = some e ∧ List.take (1 : Nat) (List.drop (0 : Nat) e) = [Value.int IntKind.i64 n_3]) ∧ Br (n_2 != n_3) (R (Ending.returned (Value.bool false)) H') (Br (!b) (Br (n_2 != (0 : Int)) (R (Ending.returned (Value.bool false)) H') (Br b (((0 : Int) ≤ (1 : Int) ∧ (1 : Int) ≤ (↑(List.length p.fst.snd.fst) : Int)) ∧ a = a ∧ n = n ∧ c = c ∧ a' = a' ∧ n' = n' ∧ c' = c' ∧ I ((p.fst.fst, List.take (List.length p.fst.snd.fst - (1 : Nat)) (List.drop (1 : Nat) p.fst.snd.fst), p.fst.snd.snd.fst, PUnit.unit), PUnit.unit) H') (a = a ∧ n = n ∧ c = c ∧ a' = a' ∧ n' = n' ∧ c' = c' ∧ I ((p.fst.fst, p.fst.snd.fst, p.fst.snd.snd.fst, PUnit.unit), PUnit.unit) H'))) (Br b (((0 : Int) ≤ (1 : Int) ∧ (1 : Int) ≤ (↑(List.length p.fst.snd.fst) : Int)) ∧ a = a ∧ n = n ∧ c = c ∧ a' = a' ∧ n' = n' ∧ c' = c' ∧ I ((p.fst.fst, List.take (List.length p.fst.snd.fst - (1 : Nat)) (List.drop (1 : Nat) p.fst.snd.fst), p.fst.snd.snd.fst, PUnit.unit), PUnit.unit) H') (a = a ∧ n = n ∧ c = c ∧ a' = a' ∧ n' = n' ∧ c' = c' ∧ I ((p.fst.fst, p.fst.snd.fst, p.fst.snd.snd.fst, PUnit.unit), PUnit.unit) H')))) (Br (!b) (Br (n_2 != (0 : Int)) (R (Ending.returned (Value.bool false)) H') (Br b (((0 : Int) ≤ (1 : Int) ∧ (1 : Int) ≤ (↑(List.length p.fst.snd.fst) : Int)) ∧ a = a ∧ n = n ∧ c = c ∧ a' = a' ∧ n' = n' ∧ c' = c' ∧ I ((p.fst.fst, List.take (List.length p.fst.snd.fst - (1 : Nat)) (List.drop (1 : Nat) p.fst.snd.fst), p.fst.snd.snd.fst, PUnit.unit), PUnit.unit) H') (a = a ∧ n = n ∧ c = c ∧ a' = a' ∧ n' = n' ∧ c' = c' ∧ I ((p.fst.fst, p.fst.snd.fst, p.fst.snd.snd.fst, PUnit.unit), PUnit.unit) H'))) (Br b (((0 : Int) ≤ (1 : Int) ∧ (1 : Int) ≤ (↑(List.length p.fst.snd.fst) : Int)) ∧ a = a ∧ n = n ∧ c = c ∧ a' = a' ∧ n' = n' ∧ c' = c' ∧ I ((p.fst.fst, List.take (List.length p.fst.snd.fst - (1 : Nat)) (List.drop (1 : Nat) p.fst.snd.fst), p.fst.snd.snd.fst, PUnit.unit), PUnit.unit) H') (a = a ∧ n = n ∧ c = c ∧ a' = a' ∧ n' = n' ∧ c' = c' ∧ I ((p.fst.fst, p.fst.snd.fst, p.fst.snd.snd.fst, PUnit.unit), PUnit.unit) H'))))) (Br (Int.tmod (IntKind.wrap IntKind.i64 (Int.tmod n_1 (4 : Int) + (4 : Int))) (4 : Int) == (3 : Int)) (Meets prog (10 : Nat) [Value.pointer p.fst.fst] H fun (e : Ending) (H' : Nat → Option Obj) ↦ ∃ (a_4 : Option Addr), e = Ending.returned (Value.pointer a_4) ∧ Meets prog (9 : Nat) [Value.pointer p.fst.fst] H' fun (e : Ending) (H' : Nat → Option Obj) ↦ ∃ (n_2 : Int), ∃ (b : Bool), e = Ending.returned (Value.tuple { toList := [Value.int IntKind.i64 n_2, Value.bool b] }) ∧ a = a ∧ n = n ∧ c = c ∧ a' = a' ∧ n' = n' ∧ c' = c' ∧ I ((a_4, p.fst.snd.fst, p.fst.snd.snd.fst, PUnit.unit), PUnit.unit) H') (Meets prog (12 : Nat) [Value.pointer p.fst.fst] H fun (e : Ending) (H' : Nat → Option Obj) ↦ ∃ (a_4 : Option Addr), ∃ (n_2 : Nat), ∃ (c_1 : Nat), e = Ending.returned (Value.slice a_4 n_2 c_1) ∧ ∀ (v : Value) (H'_1 : Nat → Option Obj), H' ≤ H'_1 → (∀ (b : Nat), blockOf v = some b → H' b = none) → (∀ (b : Nat) (o : Obj), H'_1 b = some o → H' b = some o ∨ blockOf v = some b) → RowAt H'_1 v (3 : Nat) (1 : Nat) p.fst.snd.fst → Meets prog (11 : Nat) [Value.slice a_4 n_2 c_1, v] H'_1 fun (e : Ending) (H' : Nat → Option Obj) ↦ ∃ (b : Bool), e = Ending.returned (Value.bool b) ∧ ∃ (es : List (List Value)), RowAt H' v (3 : Nat) (1 : Nat) es ∧ Br (!b) (R (Ending.returned (Value.bool false)) (Heap.delO H' (blockOf v))) (a = a ∧ n = n ∧ c = c ∧ a' = a' ∧ n' = n' ∧ c' = c' ∧ I ((p.fst.fst, es, p.fst.snd.snd.fst, PUnit.unit), PUnit.unit) (Heap.delO H' (blockOf v))))))) fun (p : (Option Addr × List (List Value) × Int × PUnit) × PUnit) (H : Nat → Option Obj) ↦ Meets prog (13 : Nat) [Value.pointer p.fst.fst] H fun (e : Ending) (H' : Nat → Option Obj) ↦ ∃ (n_1 : Int), e = Ending.returned (Value.int IntKind.i64 n_1) ∧ Br (n_1 != (↑(List.length p.fst.snd.fst) : Int)) (R (Ending.returned (Value.bool false)) H') (Meets prog (12 : Nat) [Value.pointer p.fst.fst] H' fun (e : Ending) (H' : Nat → Option Obj) ↦ ∃ (a_2 : Option Addr), ∃ (n_2 : Nat), ∃ (c_1 : Nat), e = Ending.returned (Value.slice a_2 n_2 c_1) ∧ ∀ (v : Value) (H'_1 : Nat → Option Obj), H' ≤ H'_1 → (∀ (b : Nat), blockOf v = some b → H' b = none) → (∀ (b : Nat) (o : Obj), H'_1 b = some o → H' b = some o ∨ blockOf v = some b) → RowAt H'_1 v (3 : Nat) (1 : Nat) p.fst.snd.fst → Meets prog (11 : Nat) [Value.slice a_2 n_2 c_1, v] H'_1 fun (e : Ending) (H' : Nat → Option Obj) ↦ ∃ (b : Bool), e = Ending.returned (Value.bool b) ∧ ∃ (es : List (List Value)), RowAt H' v (3 : Nat) (1 : Nat) es ∧ Br (!b) (R (Ending.returned (Value.bool false)) (Heap.delO H' (blockOf v))) (a = a ∧ n = n ∧ c = c ∧ a' = a' ∧ n' = n' ∧ c' = c' ∧ K ((p.fst.fst, es, IntKind.wrap IntKind.i64 (p.fst.snd.snd.fst + (1 : Int)), PUnit.unit), PUnit.unit) (Heap.delO H' (blockOf v))))) (R (Ending.returned (Value.bool true)) H)) (R (Ending.returned (Value.bool true)) H)) ((a_1, es2, (0 : Int), PUnit.unit), PUnit.unit) H')
theorem vc_lpruns (a : Option Addr) (n : Nat) (c : Nat) (a' : Option Addr) (n' : Nat) (c' : Nat) (R : Ending → Heap → Prop) (H : Heap) : vcFun prog h_lpruns f3 [SV.c (SC.v (Value.slice a n c)), SV.c (SC.v (Value.slice a' n' c'))] R H = nf_lpruns a n c a' n' c' R H := by kernel_rfl

end Po

set_option linter.unusedVariables false
set_option linter.unusedSimpArgs false
namespace Po
open Go Sx
open Go.Proofs.Try
set_option maxRecDepth 100000
@[reducible] def opC (l : List (Int × Int)) : List (List Value) := l.map fun o => [vi o.1, vi o.2]
section
variable {H : Heap} {R : Ending → Heap → Prop} {p : Addr} {c : Nat} {l : List Int}
theorem op_fld {A : Addr} {x y : Value} (h : H.has A [x, y]) : H.has (A.add 0) [x] ∧ H.has (A.add 1) [y] := by
  constructor
  · intro j z hj
    have hj0 : j = 0 := by have := (List.getElem?_eq_some_iff.1 hj).1; simp at this; omega
    subst hj0
    exact h 0 z hj
  · intro j z hj
    have hj0 : j = 0 := by have := (List.getElem?_eq_some_iff.1 hj).1; simp at this; omega
    subst hj0
    exact h 1 z hj
theorem le_chg {A B : Heap} (hle : H ≤ A) (hc : H c = none) (hg : Chg c A B) : H ≤ B := fun b o e => hg b o (by rintro rfl; rw [hc] at e; cases e) (hle b o e)
theorem all_ints {H1 : Heap} {A : Heap → Prop} {B : List (List Value) → Heap → Prop} (h : PoolAt H1 p c l) (k : ∀ H', Chg c H1 H' → PoolAt H' p c l → B (cells l) H') :
    Meets prog 12 [.pointer (some p)] H1 fun e H' => ∃ (a_2 : Option Addr) (n_2 c_1 : Nat), e = .returned (.slice a_2 n_2 c_1) ∧ ∀ (v : Value) (H'_1 : Heap), H' ≤ H'_1 → (∀ b, blockOf v = some b → H' b = none) → (∀ b o, H'_1 b = some o → H' b = some o ∨ blockOf v = some b) → RowAt H'_1 v 3 1 (cells l) →
      Meets prog 11 [.slice a_2 n_2 c_1, v] H'_1 fun e H' => ∃ b : Bool, e = .returned (.bool b) ∧ ∃ es, RowAt H' v 3 1 es ∧ Br (!b) (A (Heap.delO H' (blockOf v))) (B es (Heap.delO H' (blockOf v))) := by
  refine s_pall h fun v5 H5 hg5 hP5 hrow5 hf5 => ?_
  obtain ⟨a5, c5, rfl, ht5⟩ := row_sl hrow5
  have hlen := h.len
  refine ⟨_, _, _, rfl, fun v7 H7 hle7 hf7 hb7 hrow7 => s_ints (sl_le ht5 hle7) (row_slice hrow7) (by omega) ⟨_, rfl, _, hrow7, ?_⟩⟩
  rw [decide_eq_true rfl]
  refine br (fun q => by cases q) fun _ => k _ (fun b o hb e => ?_) (pool_del (pool_le hP5 hle7) fun q e => pool_known hP5 (hf7 q e))
  have e6 := hg5 b o hb e
  have e7 := hle7 _ _ e6
  cases hv : blockOf v7 with
  | none => exact e7
  | some q => show (if b = q then none else H7 b) = some o; rw [if_neg (by rintro rfl; rw [hf7 b hv] at e6; cases e6)]; exact e7
theorem s_lpruns {v v' : Value} {ops : List (Int × Int)} (h : SliceAt H v 1 (cells l)) (hl : l.length ≤ 20000000000000) (h' : SliceAt H v' 2 (opC ops)) (k : ∀ H', H ≤ H' → R (.returned (.bool true)) H') :
    Meets prog 3 [v, v'] H R := by
  obtain ⟨a, n, cp, e, hm⟩ := h
  subst e
  have h : SliceAt H (.slice a n cp) 1 (cells l) := ⟨a, n, cp, rfl, hm⟩
  have hln : l.length = n := by simpa [cells] using hm.1
  obtain ⟨a', n', cp', e, hm'⟩ := h'
  subst e
  have h' : SliceAt H (.slice a' n' cp') 2 (opC ops) := ⟨a', n', cp', rfl, hm'⟩
  have hln' : ops.length = n' := by simpa [opC] using hm'.1
  refine spec_of func3 (by kernel_rfl) (fun t h => by cases h) ?_ (vc_lpruns a n cp a' n' cp' R H) ?_
  · simp [argsR, SV.rep, SC.rep, one]
  unfold nf_lpruns
  refine s_alive15 fun H0 hk0 => ⟨_, rfl, br (fun q => by cases q) fun _ => s_pnew (sl_le h hk0) hl fun b0 r0 H1 hle1 hb0 hr0 hne hall hP0 => ⟨_, rfl, ?_⟩⟩
  have hcn := (slice_len h).2
  have hmin : minI (n : Int) 32 = ((min n 32 : Nat) : Int) := by unfold minI; split <;> omega
  rw [hmin]
  have hs := sub_all (m := min n 32) (sl_le h (heap_trans hk0 hle1)) (by omega)
  have htk : l.take (min n 32) = l.take 32 := by
    by_cases q : n ≤ 32
    · rw [Nat.min_eq_left q, List.take_of_length_le (by omega), List.take_of_length_le (by omega)]
    · rw [Nat.min_eq_right (by omega)]
  rw [htk] at hs
  have hrn : H r0 = none := by
    cases e : H r0 with
    | none => rfl
    | some o => have := hk0 _ _ e; rw [hr0] at this; cases this
  refine ⟨⟨by omega, by omega⟩, cells (l.take 32), by simpa using hs, by simp [cells]; omega, ?_⟩
  simp only [true_and]
  refine ⟨fun p1 H' => ∃ (t : Nat) (pa : Addr) (c : Nat) (own : List Int), p1.1.1 = some pa ∧ p1.1.2.1 = cells own ∧ p1.1.2.2.1 = (t : Int) ∧ t ≤ n' ∧ PoolAt H' pa c own ∧ H ≤ H' ∧ H c = none, fun p1 _ => (n' - p1.1.2.2.1).toNat, ⟨0, _, r0, _, rfl, rfl, rfl, by omega, hP0, heap_trans hk0 hle1, hrn⟩, ?_⟩
  rintro ⟨⟨pp, rows, i, _⟩, _⟩ H2 ⟨t, pa, c, own, rfl, rfl, hi, ht, hP, hle, hcn0⟩
  simp only at hi ⊢
  subst hi
  refine br (fun q1 => br (fun q2 => ?_) fun _ => k _ hle) fun _ => k _ hle
  simp only [decide_eq_true_eq] at q1 q2
  have hlen := hP.len
  have hrl : (cells own).length = own.length := by simp [cells]
  obtain ⟨o, hd, htk2, hx⟩ := drop_cons (l := ops) (k := t) (by omega)
  obtain ⟨A, e, _, gA⟩ := slice_get (sl_le h' hle) (i := t) (e := [vi o.1, vi o.2]) (by simp [opC, hx])
  subst e
  refine ⟨fun p1 H' => ∃ (pa : Addr) (c : Nat) (own : List Int), p1.1.1 = some pa ∧ p1.1.2.1 = cells own ∧ p1.1.2.2.1 = (t : Int) ∧ PoolAt H' pa c own ∧ H ≤ H' ∧ H c = none, ?_, ?_⟩
  · refine ⟨⟨by omega, by omega⟩, ptr rfl (ptr rfl (ptr rfl ⟨o.1, (op_fld gA).1, by decide, by decide, ?_⟩))⟩
    refine br (fun _ => ?_) fun _ => br (fun _ => ?_) fun _ => br (fun _ => ?_) fun _ => ?_
    · refine ⟨⟨by omega, by omega⟩, ptr rfl (ptr rfl (ptr rfl ⟨o.2, (op_fld gA).2, s_pput hP fun H3 hg hP3 => ⟨_, rfl, ?_⟩⟩))⟩
      have hle3 := le_chg hle hcn0 hg.chg
      rw [hrl]
      by_cases q : own.length < 32
      · have e2 : decide ((own.length : Int) < 32) = true := decide_eq_true (by omega)
        rw [decide_eq_true q, e2]
        unfold putL at hP3
        rw [if_pos q] at hP3
        obtain ⟨A2, e, _, gA2⟩ := slice_get (sl_le h' hle3) (i := t) (e := [vi o.1, vi o.2]) (by simp [opC, hx])
        cases e
        have hap : List.append (cells own) [[vi o.2]] = cells (own ++ [o.2]) := by simp [cells]
        exact br (fun q => by cases q) fun _ => br (fun _ => ⟨⟨by omega, by omega⟩, ptr rfl (ptr rfl (ptr rfl ⟨o.2, (op_fld gA2).2, by rw [hap]; simp [cells]; omega, pa, c, _, rfl, hap, rfl, hP3, hle3, hcn0⟩))⟩) fun q => by cases q
      · have e2 : decide ((own.length : Int) < 32) = false := decide_eq_false (by omega)
        rw [decide_eq_false q, e2]
        unfold putL at hP3
        rw [if_neg q] at hP3
        exact br (fun q => by cases q) fun _ => br (fun q => by cases q) fun _ => ⟨pa, c, own, rfl, rfl, rfl, hP3, hle3, hcn0⟩
    · refine s_ptake hP fun H3 hg hP3 => ⟨_, _, rfl, ?_⟩
      have hle3 := le_chg hle hcn0 hg.chg
      cases own with
      | nil =>
        exact br (fun q => by simp [cells] at q) fun _ => br (fun q => by simp at q) fun _ => br (fun _ => br (fun q => by simp at q) fun _ => br (fun q => by simp at q) fun _ => ⟨pa, c, [], rfl, rfl, rfl, hP3, hle3, hcn0⟩) fun q => by simp at q
      | cons x tl =>
        have hdr : List.take ((cells (x :: tl)).length - 1) (List.drop 1 (cells (x :: tl))) = cells tl := by
          show List.take ((cells tl).length + 1 - 1) (cells tl) = cells tl
          exact List.take_of_length_le (by omega)
        exact br (fun q => by simp [cells] at q) fun _ => br (fun _ => ⟨⟨by omega, by simp [cells] <;> omega⟩, x, ⟨[vi x], rfl, rfl⟩, br (fun q => by simp at q) fun _ => br (fun q => by simp at q) fun _ => br (fun _ => ⟨⟨by omega, by simp [cells] <;> omega⟩, pa, c, tl, rfl, hdr, rfl, hP3, hle3, hcn0⟩) fun q => by simp at q⟩) fun q => by simp at q
    · refine s_pclone hP fun b r H3 hg hP3 hQ3 hrc hbc hb hr => ⟨_, rfl, s_ptake hP3 fun H4 hg4 hP4 => ⟨_, _, rfl, ?_⟩⟩
      refine ⟨⟨b, 0, none⟩, r, own, rfl, rfl, rfl, pool_other hQ3 hP3.ch hrc hg4.chg, le_chg (le_chg hle hcn0 hg) hcn0 hg4.chg, ?_⟩
      cases e : H r with
      | none => rfl
      | some o => have := hle _ _ e; rw [hr] at this; cases this
    · exact all_ints (A := fun H' => R (.returned (.bool false)) H') (B := fun es H' => ∃ (pa' : Addr) (c : Nat) (own : List Int), some pa = some pa' ∧ es = cells own ∧ (t : Int) = (t : Int) ∧ PoolAt H' pa' c own ∧ H ≤ H' ∧ H c = none) hP fun H3 hg hP3 => ⟨pa, c, own, rfl, rfl, rfl, hP3, le_chg hle hcn0 hg, hcn0⟩
  · rintro ⟨⟨pp, rows, i, _⟩, _⟩ H3 ⟨pa, c, own, rfl, rfl, hi, hP, hle, hcn0⟩
    simp only at hi ⊢
    subst hi
    have hrl : (cells own).length = own.length := by simp [cells]
    refine s_plen hP ⟨_, rfl, ?_⟩
    rw [hrl, bne_self_eq_false]
    rw [wi64 (n := (t : Int) + 1) (by omega)]
    exact br (fun q => by cases q) fun _ => all_ints (A := fun H' => R (.returned (.bool false)) H') (B := fun es H' => (∃ (t' : Nat) (pa' : Addr) (c : Nat) (own : List Int), some pa = some pa' ∧ es = cells own ∧ (t : Int) + 1 = (t' : Int) ∧ t' ≤ n' ∧ PoolAt H' pa' c own ∧ H ≤ H' ∧ H c = none) ∧ ((n' : Int) - ((t : Int) + 1)).toNat < ((n' : Int) - (t : Int)).toNat) hP fun H4 hg hP4 =>
      ⟨⟨t + 1, pa, c, own, rfl, rfl, by omega, by omega, hP4, le_chg hle hcn0 hg, hcn0⟩, by omega⟩
end
end Po

set_option linter.unusedVariables false
set_option linter.unusedSimpArgs false
namespace Po
open Go Sx
open Go.Proofs.Try
set_option maxRecDepth 100000
section
variable {H : Type} {enc : TypeId × Value → H} {W : World}
/-- A slice of structs that is handed in. -/
theorem openSl {E : Type} [Inhabited E] {tS tE sz : Nat} {cell : E → List Value} {Q : E → Prop} (hS : prog.underlying tS = some (.slice tE)) (hc : prog.cellsOf tE = sz) (hsz : 0 < sz) (hcl : ∀ e, (cell e).length = sz) (hon : ∀ e, ∀ x ∈ cell e, one x = true)
    (op : ∀ (fuel : Nat) (cs : List Value) (y : DataW H × List MemPlace), DataW.trod enc prog W 0 (fun _ => true) true fuel tE cs = some y → ∃ e, cs = cell e ∧ Q e)
    {v : Value} {d : DataW H} {ps : List MemPlace} {base : Nat} (hv : Value.okWide prog W .any base tS v) (h : DataW.Trod enc prog W 0 (fun _ => true) true tS v d ps) : ∃ l : List E, SliceAt (full W) v sz (l.map cell) ∧ ∀ e ∈ l, Q e := by
  obtain ⟨a, len, cap, rfl⟩ := Go.WideShapes.okWide_slice hS hv
  obtain ⟨fuel, hf⟩ := h
  rcases Go.Deep.open_slice hS hf with ⟨e, e2⟩ | ⟨A, ln, cp, m, n, D, Pl, e, hb, hl, hm, hmm, e2, hx⟩
  · cases e
    exact ⟨[], ⟨none, 0, 0, rfl, by simp, Nat.le_refl _, by simp, by simp, by simp⟩, by simp⟩
  · cases e
    simp only [if_true] at hmm
    subst hmm
    have pick : ∀ i, ∃ p : E, i < len → Q p ∧ (full W).has (A.add (i * sz)) (cell p) ∧ A.spot = none := fun i => by
      by_cases hi : i < len
      · obtain ⟨cs', h1, h2⟩ := hx i (by omega)
        rw [hc] at h1
        obtain ⟨p, rfl, hp⟩ := op _ _ _ h2
        obtain ⟨_, h3, h4⟩ := World.cells?_some h1
        refine ⟨p, fun _ => ⟨hp, ?_, ?_⟩⟩
        · intro j x hj
          have hj4 : j < sz := by have := (List.getElem?_eq_some_iff.1 hj).1; rw [hcl] at this; exact this
          have := h4 j hj4
          rw [hj] at this
          exact this
        · obtain ⟨cs0, k1, k2⟩ := hx 0 (by omega)
          rw [hc] at k1
          obtain ⟨k5, k3, k4⟩ := World.cells?_some k1
          have := k4 0 hsz
          have e0 : ∀ a : Addr, a.add 0 = a := fun _ => rfl
          simp only [Nat.zero_mul, e0] at this
          rw [List.getElem?_eq_getElem (by omega)] at this
          unfold World.cell? at this
          split at this
          · split at this
            · cases this
            · rename_i hs
              simpa using hs
          · cases this
      · exact ⟨default, fun h => absurd h hi⟩
    obtain ⟨f, hf⟩ := Classical.axiomOfChoice pick
    refine ⟨(List.range len).map f, ⟨some A, len, _, rfl, by simp, hl, ?_, ?_, fun i e he => ?_⟩, ?_⟩
    · intro e he
      obtain ⟨p, _, rfl⟩ := List.mem_map.1 he
      exact hcl p
    · intro e he
      obtain ⟨p, _, rfl⟩ := List.mem_map.1 he
      exact hon p
    · simp only [List.getElem?_map] at he
      obtain ⟨p, hp, rfl⟩ := Option.map_eq_some_iff.1 he
      obtain ⟨i', hi', rfl⟩ := Option.map_eq_some_iff.1 hp
      have hlt := (List.getElem?_eq_some_iff.1 hi').1
      have hii : i' = i := by have := (List.getElem?_eq_some_iff.1 hi').2; simp at this; omega
      subst hii
      obtain ⟨_, g1, g2⟩ := hf i' (by simpa using hlt)
      exact ⟨A, rfl, g2, g1⟩
    · intro p hp
      obtain ⟨i, hi, rfl⟩ := List.mem_map.1 hp
      exact (hf i (List.mem_range.1 hi)).1
theorem openOp {fuel : Nat} {cs : List Value} {y : DataW H × List MemPlace} (h : DataW.trod enc prog W 0 (fun _ => true) true fuel 28 cs = some y) : ∃ o : Int × Int, cs = [vi o.1, vi o.2] ∧ True := by
  obtain ⟨y0, y1, n, _, hl, h0, h1⟩ := Go.ChangeShapes.trod_struct2 Go.Proofs.Try.underlying28 h
  obtain ⟨a, e0, _⟩ := DataW.trod_int Go.Proofs.Try.underlying3 h0
  obtain ⟨b, e1, _, _⟩ := DataW.trod_int Go.Proofs.Try.underlying3 h1
  have c6 : prog.cellsOf 28 = 2 := by kernel_rfl
  have c2 : prog.cellsOf 3 = 1 := by kernel_rfl
  rw [c6] at hl
  match cs, hl with
  | [q0, q1], _ =>
    simp only [c2, List.drop_zero, List.drop_succ_cons, List.take_succ_cons, List.take_zero] at e0 e1
    cases e0; cases e1
    exact ⟨⟨a, b⟩, rfl, trivial⟩
theorem openOps {v : Value} {d : DataW H} {ps : List MemPlace} {base : Nat} (hv : Value.okWide prog W .any base 23 v) (h : DataW.Trod enc prog W 0 (fun _ => true) true 23 v d ps) : ∃ l : List (Int × Int), SliceAt (full W) v 2 (opC l) ∧ ∀ o ∈ l, True :=
  openSl (cell := fun o : Int × Int => [vi o.1, vi o.2]) (Q := fun _ => True) Go.Proofs.Try.underlying23 (by kernel_rfl) (by omega) (fun _ => rfl) (fun e x hx => by simp at hx; rcases hx with rfl | rfl <;> rfl) (fun _ _ _ h => openOp h) hv h
end
end Po
