/- Own texts, one behind the other: S11, S12, S13, S4, S5. -/
import Derived.Deep.Slices
import Derived.Test.YtekaopahienmgaaRows
import Derived.Test.YtekaopahienmgaaZ6
/- StatsTells, StatsSums: the laws' walks. -/
set_option linter.unusedVariables false
set_option linter.unusedSimpArgs false
namespace Cr
open Go Sx Stb Bt
open Go.Proofs.Try
set_option maxRecDepth 100000
def h_ltells : Hints := { eqs := [38], loops := [(11, ⟨[0, 3, 5, 6], [.f 7 (.int .i64), .f 8 (.int .i64), .f 9 (.int .i64)], [.box 6 38 [.ints .i64 5]]⟩)] }
def h_lsums : Hints := { loops := [(10, ⟨[0, 3, 6, 7, 8], [.f 5 (.int .i64), .f 9 (.int .i64)], [.keep 8]⟩), (14, ⟨[0, 3, 5, 7, 8], [.f 6 (.int .i64), .f 10 (.int .i64)], [.keep 8]⟩)] }
def nf_ltells (a : Option Addr) (n : Nat) (c : Nat) (R : Ending → Heap → Prop) (H : Heap) : Prop := Meets prog (18 : Nat) [] H fun (e : Ending) (H' : Nat → Option Obj) ↦ ∃ (b : Bool), e = Ending.returned (Value.bool b) ∧ Br (!b) (R (Ending.returned (Value.bool false)) H') (Meets prog (21 : Nat) [Value.slice a n c, Value.int IntKind.i64 (40 : Int)] H' fun (e : Ending) (H' : Nat → Option Obj) ↦ ∃ (a : Option Addr), ∃ (n : Nat), ∃ (c : Nat), e = Ending.returned (Value.slice a n c) ∧ Meets prog (22 : Nat) [Value.slice a n c] H' fun (e : Ending) (H' : Nat → Option Obj) ↦ ∃ (a_1 : Option Addr), ∃ (n_1 : Int), e = Ending.returned (Value.tuple { toList := [Value.pointer a_1, Value.int IntKind.i64 n_1] }) ∧ Br (n_1 != (0 : Int)) (R (Ending.returned (Value.bool true)) H') (Meets prog (23 : Nat) [Value.slice a n c] H' fun (e : Ending) (H' : Nat → Option Obj) ↦ ∃ (a_2 : Option Addr), ∃ (n_2 : Nat), ∃ (c_1 : Nat), e = Ending.returned (Value.slice a_2 n_2 c_1) ∧ a = a ∧ n = n ∧ c = c ∧ a_1 = a_1 ∧ a_2 = a_2 ∧ n_2 = n_2 ∧ c_1 = c_1 ∧ (0 : Nat) = (0 : Nat) ∧ LoopP (fun (K : (Int × Int × Int × PUnit) × (List Int × PUnit) × PUnit → (Nat → Option Obj) → Prop) (p : (Int × Int × Int × PUnit) × (List Int × PUnit) × PUnit) (H : Nat → Option Obj) ↦ Br (decide (p.fst.snd.snd.fst < (↑n_2 : Int))) (((0 : Int) ≤ p.fst.snd.snd.fst ∧ p.fst.snd.snd.fst < (↑n_2 : Int)) ∧ PtrK a_2 fun (A : Addr) ↦ PtrK (some (Addr.add A (Int.toNat p.fst.snd.snd.fst * (1 : Nat)))) fun (a_3 : Addr) ↦ ∃ (n_3 : Int), Heap.has H a_3 [Value.int IntKind.i64 n_3] ∧ Br (decide (n_3 < (0 : Int))) (a = a ∧ n = n ∧ c = c ∧ a_1 = a_1 ∧ a_2 = a_2 ∧ n_2 = n_2 ∧ c_1 = c_1 ∧ (0 : Nat) = (0 : Nat) ∧ K ((p.fst.fst, IntKind.wrap IntKind.i64 (p.fst.snd.fst + (1 : Int)), IntKind.wrap IntKind.i64 (p.fst.snd.snd.fst + (1 : Int)), PUnit.unit), (p.snd.fst.fst, PUnit.unit), PUnit.unit) H) (((0 : Int) ≤ p.fst.snd.snd.fst ∧ p.fst.snd.snd.fst < (↑n_2 : Int)) ∧ PtrK a_2 fun (A : Addr) ↦ PtrK (some (Addr.add A (Int.toNat p.fst.snd.snd.fst * (1 : Nat)))) fun (a_4 : Addr) ↦ ∃ (n_4 : Int), Heap.has H a_4 [Value.int IntKind.i64 n_4] ∧ ((0 : Int) ≤ n_4 ∧ n_4 < (↑(5 : Nat) : Int)) ∧ ((0 : Int) ≤ n_4 ∧ n_4 < (↑(5 : Nat) : Int)) ∧ a = a ∧ n = n ∧ c = c ∧ a_1 = a_1 ∧ a_2 = a_2 ∧ n_2 = n_2 ∧ c_1 = c_1 ∧ (0 : Nat) = (0 : Nat) ∧ K ((IntKind.wrap IntKind.i64 (p.fst.fst + (1 : Int)), p.fst.snd.fst, IntKind.wrap IntKind.i64 (p.fst.snd.snd.fst + (1 : Int)), PUnit.unit), (List.set p.snd.fst.fst (Int.toNat n_4) (IntKind.wrap IntKind.i64 (List.getD p.snd.fst.fst (Int.toNat n_4) (0 : Int) + (1 : Int))), PUnit.unit), PUnit.unit) H)) (Meets prog (24 : Nat) [Value.pointer a_1] H fun (e : Ending) (H' : Nat → Option Obj) ↦ ∃ (n_3 : Int), ∃ (n_4 : Int), e = Ending.returned (Value.tuple { toList := [Value.int IntKind.i64 n_3, Value.int IntKind.i64 n_4] }) ∧ ∃ (G : Nat → Option Obj), G ≤ H' ∧ Meets prog (25 : Nat) [Value.pointer a_1] H' fun (e : Ending) (H'_1 : Nat → Option Obj) ↦ Keep G H' H' H'_1 ∧ ∃ (a_3 : Option Addr), ∃ (n_5 : Nat), ∃ (c_2 : Nat), e = Ending.returned (Value.slice a_3 n_5 c_2) ∧ Meets prog (26 : Nat) [Value.slice a n c] (delLs H'_1 []) fun (e : Ending) (H' : Nat → Option Obj) ↦ Keep G (delLs H'_1 []) (delLs H'_1 []) H' ∧ ∃ (a : Option Addr), ∃ (n : Nat), ∃ (c : Nat), e = Ending.returned (Value.slice a n c) ∧ Meets prog (19 : Nat) [Value.slice a_3 n_5 c_2, Value.slice a n c] (delLs H' []) fun (e : Ending) (H'_2 : Nat → Option Obj) ↦ Keep G (delLs H' []) (delLs H' []) H'_2 ∧ ∃ (b : Bool), e = Ending.returned (Value.bool b) ∧ Br b (Br (n_3 == p.fst.fst) (Br (n_4 == p.fst.snd.fst) (Meets prog (27 : Nat) [Value.pointer a_1] (delLs H'_2 []) fun (e : Ending) (H' : Nat → Option Obj) ↦ Keep G (delLs H'_2 []) (delLs H'_2 []) H' ∧ ∃ (xs : List Int), List.length xs = (5 : Nat) ∧ e = Ending.returned (Value.agg { toList := List.append (List.map (Value.int IntKind.i64) xs) (flatD []) }) ∧ Br (andO none (xs == p.snd.fst.fst)) (Meets prog (25 : Nat) [Value.pointer none] (delLs H' []) fun (e : Ending) (H'_3 : Nat → Option Obj) ↦ Keep G (delLs H' []) (delLs H' []) H'_3 ∧ ∃ (a : Option Addr), ∃ (n : Nat), ∃ (c : Nat), e = Ending.returned (Value.slice a n c) ∧ R (Ending.returned (Value.bool ((↑n : Int) == (0 : Int)))) (delLs H'_3 [])) (R (Ending.returned (Value.bool false)) (delLs H' []))) (R (Ending.returned (Value.bool false)) (delLs H'_2 []))) (R (Ending.returned (Value.bool false)) (delLs H'_2 []))) (R (Ending.returned (Value.bool false)) (delLs H'_2 [])))) (((0 : Int), (0 : Int), (0 : Int), PUnit.unit), ([(0 : Int), (0 : Int), (0 : Int), (0 : Int), (0 : Int)], PUnit.unit), PUnit.unit) H'))
theorem vc_ltells (a : Option Addr) (n : Nat) (c : Nat) (R : Ending → Heap → Prop) (H : Heap) : vcFun prog h_ltells f4 [SV.c (SC.v (Value.slice a n c))] R H = nf_ltells a n c R H := by kernel_rfl

def nf_lsums (a : Option Addr) (n : Nat) (c : Nat) (R : Ending → Heap → Prop) (H : Heap) : Prop := Meets prog (18 : Nat) [] H fun (e : Ending) (H' : Nat → Option Obj) ↦ ∃ (b : Bool), e = Ending.returned (Value.bool b) ∧ Br (!b) (R (Ending.returned (Value.bool false)) H') (Meets prog (21 : Nat) [Value.slice a n c, Value.int IntKind.i64 (40 : Int)] H' fun (e : Ending) (H' : Nat → Option Obj) ↦ ∃ (a : Option Addr), ∃ (n : Nat), ∃ (c : Nat), e = Ending.returned (Value.slice a n c) ∧ Meets prog (22 : Nat) [Value.slice a n c] H' fun (e : Ending) (H' : Nat → Option Obj) ↦ ∃ (a_1 : Option Addr), ∃ (n_1 : Int), e = Ending.returned (Value.tuple { toList := [Value.pointer a_1, Value.int IntKind.i64 n_1] }) ∧ Br (n_1 != (0 : Int)) (R (Ending.returned (Value.bool true)) H') (Meets prog (25 : Nat) [Value.pointer a_1] H' fun (e : Ending) (H' : Nat → Option Obj) ↦ ∃ (a_2 : Option Addr), ∃ (n_2 : Nat), ∃ (c_1 : Nat), e = Ending.returned (Value.slice a_2 n_2 c_1) ∧ Meets prog (27 : Nat) [Value.pointer a_1] H' fun (e : Ending) (H' : Nat → Option Obj) ↦ ∃ (xs : List Int), List.length xs = (5 : Nat) ∧ e = Ending.returned (Value.agg { toList := List.append (List.map (Value.int IntKind.i64) xs) (flatD []) }) ∧ a = a ∧ n = n ∧ c = c ∧ a_1 = a_1 ∧ (0 : Int) = (0 : Int) ∧ a_2 = a_2 ∧ n_2 = n_2 ∧ c_1 = c_1 ∧ (0 : Nat) = (0 : Nat) ∧ xs = xs ∧ LoopP (fun (K : (Int × Int × PUnit) × PUnit × PUnit → (Nat → Option Obj) → Prop) (p : (Int × Int × PUnit) × PUnit × PUnit) (H : Nat → Option Obj) ↦ Br (decide (p.fst.snd.fst < (↑n_2 : Int))) (((0 : Int) ≤ p.fst.snd.fst ∧ p.fst.snd.fst < (↑n_2 : Int)) ∧ PtrK a_2 fun (A : Addr) ↦ PtrK (some (Addr.add A (Int.toNat p.fst.snd.fst * (1 : Nat)))) fun (a_3 : Addr) ↦ ∃ (n_3 : Int), Heap.has H a_3 [Value.int IntKind.i64 n_3] ∧ a = a ∧ n = n ∧ c = c ∧ a_1 = a_1 ∧ (0 : Int) = (0 : Int) ∧ a_2 = a_2 ∧ n_2 = n_2 ∧ c_1 = c_1 ∧ (0 : Nat) = (0 : Nat) ∧ xs = xs ∧ K ((IntKind.wrap IntKind.i64 (p.fst.fst + n_3), IntKind.wrap IntKind.i64 (p.fst.snd.fst + (1 : Int)), PUnit.unit), PUnit.unit, PUnit.unit) H) (a = a ∧ n = n ∧ c = c ∧ a_1 = a_1 ∧ p.fst.fst = p.fst.fst ∧ a_2 = a_2 ∧ n_2 = n_2 ∧ c_1 = c_1 ∧ (0 : Nat) = (0 : Nat) ∧ xs = xs ∧ LoopP (fun (K : (Int × Int × PUnit) × PUnit × PUnit → (Nat → Option Obj) → Prop) (p_1 : (Int × Int × PUnit) × PUnit × PUnit) (H : Nat → Option Obj) ↦ Br (decide (p_1.fst.snd.fst < (5 : Int))) (((0 : Int) ≤ p_1.fst.snd.fst ∧ p_1.fst.snd.fst < (↑(5 : Nat) : Int)) ∧ a = a ∧ n = n ∧ c = c ∧ a_1 = a_1 ∧ p.fst.fst = p.fst.fst ∧ a_2 = a_2 ∧ n_2 = n_2 ∧ c_1 = c_1 ∧ (0 : Nat) = (0 : Nat) ∧ xs = xs ∧ K ((IntKind.wrap IntKind.i64 (p_1.fst.fst + IntKind.wrap IntKind.i64 (p_1.fst.snd.fst * List.getD xs (Int.toNat p_1.fst.snd.fst) (0 : Int))), IntKind.wrap IntKind.i64 (p_1.fst.snd.fst + (1 : Int)), PUnit.unit), PUnit.unit, PUnit.unit) H) (Meets prog (24 : Nat) [Value.pointer a_1] H fun (e : Ending) (H' : Nat → Option Obj) ↦ ∃ (n_3 : Int), ∃ (n_4 : Int), e = Ending.returned (Value.tuple { toList := [Value.int IntKind.i64 n_3, Value.int IntKind.i64 n_4] }) ∧ Meets prog (28 : Nat) [Value.pointer a_1] H' fun (e : Ending) (H' : Nat → Option Obj) ↦ ∃ (a : Option Addr), ∃ (n_5 : Nat), ∃ (c : Nat), e = Ending.returned (Value.slice a n_5 c) ∧ Br (p.fst.fst == (↑n_5 : Int)) (Br (IntKind.wrap IntKind.i64 (n_3 + n_4) == p.fst.fst) (Br (p_1.fst.fst == (↑n : Int)) (Br (decide ((↑n_2 : Int) ≥ (1 : Int))) (((0 : Int) ≤ (0 : Int) ∧ (0 : Int) < (↑n_2 : Int)) ∧ PtrK a_2 fun (A : Addr) ↦ PtrK (some (Addr.add A (0 : Nat))) fun (a : Addr) ↦ ∃ (n : Int), Heap.has H' a [Value.int IntKind.i64 n] ∧ Br (n == (1 : Int)) (R (Ending.returned (Value.bool (decide ((↑n_2 : Int) ≤ (33 : Int))))) H') (R (Ending.returned (Value.bool false)) H')) (R (Ending.returned (Value.bool false)) H')) (R (Ending.returned (Value.bool false)) H')) (R (Ending.returned (Value.bool false)) H')) (R (Ending.returned (Value.bool false)) H'))) (((0 : Int), (0 : Int), PUnit.unit), PUnit.unit, PUnit.unit) H)) (((0 : Int), (0 : Int), PUnit.unit), PUnit.unit, PUnit.unit) H'))
theorem vc_lsums (a : Option Addr) (n : Nat) (c : Nat) (R : Ending → Heap → Prop) (H : Heap) : vcFun prog h_lsums f5 [SV.c (SC.v (Value.slice a n c))] R H = nf_lsums a n c R H := by kernel_rfl

/-! ### Counting, plainly -/
def lvN (V : List (Nat × Int)) (i : Nat) : Nat := (V.filter fun x => x.1 == i).length
theorem lvN_snoc (V : List (Nat × Int)) (x : Nat × Int) (i : Nat) : lvN (V ++ [x]) i = lvN V i + if x.1 = i then 1 else 0 := by
  unfold lvN
  rw [List.filter_append, List.length_append]
  by_cases h : x.1 = i <;> simp [List.filter_cons, h]
theorem lvN_le (V : List (Nat × Int)) (i : Nat) : lvN V i ≤ V.length := List.length_filter_le _ _
theorem padTo_getD (l : List Int) (n i : Nat) : (padTo l n).getD i 0 = l.getD i 0 := by
  unfold padTo
  simp only [List.getD_eq_getElem?_getD]
  rcases Nat.lt_or_ge i l.length with h | h
  · rw [List.getElem?_append_left h]
  · rw [List.getElem?_append_right h, List.getElem?_eq_none (l := l) h, List.getElem?_replicate]
    split <;> rfl
theorem getD_setI {l : List Int} {q k : Nat} {x : Int} (hq : q < l.length) : (l.set q x).getD k 0 = if k = q then x else l.getD k 0 := by
  rw [getD_set hq]
  by_cases h : q = k
  · rw [if_pos h, if_pos h.symm]
  · rw [if_neg h, if_neg (Ne.symm h)]
theorem lvBump_getD (l : List Int) (lv i : Nat) : (lvBump l lv).getD i 0 = if i = lv then IntKind.i64.wrap (l.getD lv 0 + 1) else l.getD i 0 := by
  unfold lvBump
  rw [getD_setI (by rw [padTo_len]; omega), padTo_getD, padTo_getD]
theorem lvBump_length (l : List Int) (lv : Nat) : (lvBump l lv).length = max l.length (lv + 1) := by
  unfold lvBump
  rw [List.length_set, padTo_len]
theorem bumpN_ls (C : Cnt) (x : Nat × Int) : (bumpN C x).ls = lvBump C.ls x.1 := by unfold bumpN; split <;> rfl
theorem after_snoc (C : Cnt) (V : List (Nat × Int)) (x : Nat × Int) : C.after (V ++ [x]) = bumpN (C.after V) x := by rw [after_app]; rfl
theorem snocInd {α : Type} {P : List α → Prop} (h0 : P []) (h1 : ∀ V x, P V → P (V ++ [x])) (V : List α) : P V := by
  have : ∀ W : List α, P W.reverse := fun W => by
    induction W with
    | nil => exact h0
    | cons x W ih => rw [List.reverse_cons]; exact h1 _ _ ih
  have := this V.reverse
  rwa [List.reverse_reverse] at this
theorem ls_inv : ∀ V : List (Nat × Int), (∀ x ∈ V, x.1 ≤ 32) → V.length < 1000000000 → (∀ i, (cnt0.after V).ls.getD i 0 = (lvN V i : Int)) ∧ (cnt0.after V).ls.length ≤ 33 ∧ ((cnt0.after V).ls.length = 0 ∨ 0 < lvN V ((cnt0.after V).ls.length - 1)) := by
  refine snocInd ?_ ?_
  · intro _ _
    exact ⟨fun i => rfl, by decide, .inl rfl⟩
  · intro V x ih hx hl
    simp only [List.length_append, List.length_singleton] at hl
    obtain ⟨h1, h2, h3⟩ := ih (fun y hy => hx y (List.mem_append_left _ hy)) (by omega)
    have hx1 := hx x (List.mem_append_right _ (List.mem_singleton.2 rfl))
    rw [after_snoc, bumpN_ls, lvBump_length]
    refine ⟨fun i => ?_, by omega, .inr ?_⟩
    · have := lvN_le V x.1
      rw [lvBump_getD, lvN_snoc, h1, h1, w64 (by omega)]
      by_cases e : i = x.1
      · subst e; simp
      · rw [if_neg e, if_neg (Ne.symm e)]; simp
    · rw [lvN_snoc]
      by_cases e : x.1 = max (cnt0.after V).ls.length (x.1 + 1) - 1
      · rw [if_pos e]; omega
      · rcases h3 with h3 | h3
        · omega
        · rw [show max (cnt0.after V).ls.length (x.1 + 1) - 1 = (cnt0.after V).ls.length - 1 by omega]; omega
theorem levO_inv : ∀ V : List (Nat × Int), (∀ x ∈ V, x.1 ≤ 32) → V.length < 1000000000 → ∀ i, (levO (List.replicate 33 0) V).getD i 0 = (lvN V i : Int) := by
  refine snocInd ?_ ?_
  · intro _ _ i
    show (List.replicate 33 (0 : Int)).getD i 0 = 0
    rw [List.getD_eq_getElem?_getD, List.getElem?_replicate]
    split <;> rfl
  · intro V x ih hx hl i
    simp only [List.length_append, List.length_singleton] at hl
    have h1 := ih (fun y hy => hx y (List.mem_append_left _ hy)) (by omega)
    have hx1 := hx x (List.mem_append_right _ (List.mem_singleton.2 rfl))
    have := lvN_le V x.1
    rw [levO_app]
    show (List.set _ _ _).getD i 0 = _
    rw [getD_setI (by rw [levO_len]; simp; omega), lvN_snoc, h1, h1, w64 (by omega)]
    by_cases e : i = x.1
    · subst e; simp
    · rw [if_neg e, if_neg (Ne.symm e)]; simp
theorem ls_trim {V : List (Nat × Int)} (hx : ∀ x ∈ V, x.1 ≤ 32) (hl : V.length < 1000000000) {n : Nat} (ht : trimL (levO (List.replicate 33 0) V) n) : (levO (List.replicate 33 0) V).take n = (cnt0.after V).ls := by
  obtain ⟨h1, h2, h3⟩ := ls_inv V hx hl
  have h4 := levO_inv V hx hl
  have h5 : (levO (List.replicate 33 0) V).length = 33 := by rw [levO_len]; rfl
  obtain ⟨t1, t2, t3⟩ := ht
  have hn : n = (cnt0.after V).ls.length := by
    rcases Nat.lt_trichotomy n (cnt0.after V).ls.length with h | h | h
    · have := t2 ((cnt0.after V).ls.length - 1) (by omega)
      rw [h4] at this
      omega
    · exact h
    · have := t3 (by omega)
      rw [h4, ← h1, List.getD_eq_getElem?_getD, List.getElem?_eq_none (by omega)] at this
      exact absurd rfl this
  refine List.ext_getElem? fun i => ?_
  rcases Nat.lt_or_ge i n with h | h
  · rw [List.getElem?_take_of_lt h]
    have e1 := h1 i
    have e2 := h4 i
    rw [← e1, List.getD_eq_getElem?_getD, List.getD_eq_getElem?_getD, List.getElem?_eq_getElem (by omega), List.getElem?_eq_getElem (by omega)] at e2
    rw [List.getElem?_eq_getElem (by omega), List.getElem?_eq_getElem (by omega)]
    simpa using e2
  · rw [List.getElem?_eq_none (by simp; omega), List.getElem?_eq_none (by omega)]
theorem chV_len (n : Nat) : (chV n).length = nch n := by
  induction n using Nat.strongRecOn with
  | _ n ih =>
    unfold chV
    split
    · rename_i h; unfold nch; rw [if_pos h]; rfl
    · rename_i h; rw [List.length_cons, ih _ (by omega), nch_step (n := n) (by omega)]
theorem visN_len : ∀ (h : Nat) (L : List Pt), (visN h L).length = nds h L
  | 0, L => chV_len _
  | h + 1, L => by
    unfold visN nds
    split
    · rfl
    · have sub : ∀ q, ((if quarter h q L = [] then [] else visN h (quarter h q L)) : List (Nat × Int)).length = nq (nds h) (quarter h q L) := fun q => by
        unfold nq
        split
        · rfl
        · exact visN_len h _
      simp only [List.length_cons, List.length_append, sub]
      omega
def sgn (y : Int) : Int := if y < 0 then -1 else y
theorem chV_shp (n : Nat) : ((chV n).map fun x => sgn x.2) = (shpC n).map sgn := by
  induction n using Nat.strongRecOn with
  | _ n ih =>
    unfold chV shpC
    split
    · rfl
    · rename_i h; rw [List.map_cons, ih _ (by omega)]; rfl
theorem vis_shp : ∀ (h : Nat) (L : List Pt), ((visN h L).map fun x => sgn x.2) = (shpN h L).map sgn
  | 0, L => chV_shp _
  | h + 1, L => by
    by_cases hl : L.length ≤ 4
    · unfold visN shpN
      rw [if_pos hl, if_pos hl]; rfl
    · have sub : ∀ q, ((if quarter h q L = [] then [] else visN h (quarter h q L)).map fun x => sgn x.2) = (if quarter h q L = [] then [] else shpN h (quarter h q L)).map sgn := fun q => by
        split
        · rfl
        · exact vis_shp h _
      have hq := (qsum_range h L 4 (by omega)).2
      unfold visN shpN
      rw [if_neg hl, if_neg hl]
      simp only [List.map_cons, List.map_append, sub]
      congr 1
      unfold sgn
      rw [if_pos (by decide), if_pos (by omega)]
/-- What the law counts. -/
def sstep (s : Int × Int × List Int) (y : Int) : Int × Int × List Int := if y < 0 then (s.1, IntKind.i64.wrap (s.2.1 + 1), s.2.2) else (IntKind.i64.wrap (s.1 + 1), s.2.1, s.2.2.set y.toNat (IntKind.i64.wrap (s.2.2.getD y.toNat 0 + 1)))
theorem sstep_sgn (s : Int × Int × List Int) (y : Int) : sstep s (sgn y) = sstep s y := by
  unfold sgn sstep
  by_cases h : y < 0
  · simp [h]
  · simp [h]
theorem sstep_bump (C : Cnt) (x : Nat × Int) : ((bumpN C x).lv, (bumpN C x).ot, (bumpN C x).fl) = sstep (C.lv, C.ot, C.fl) x.2 := by
  unfold bumpN sstep
  split <;> rfl
theorem fold_sgn : ∀ (S : List Int) (s : Int × Int × List Int), (S.map sgn).foldl sstep s = S.foldl sstep s
  | [], s => rfl
  | y :: S, s => by rw [List.map_cons, List.foldl_cons, List.foldl_cons, sstep_sgn, fold_sgn S]
theorem after_sstep : ∀ (V : List (Nat × Int)) (C : Cnt), ((C.after V).lv, (C.after V).ot, (C.after V).fl) = (V.map fun x => x.2).foldl sstep (C.lv, C.ot, C.fl)
  | [], C => rfl
  | x :: V, C => by
    show (((bumpN C x).after V).lv, ((bumpN C x).after V).ot, ((bumpN C x).after V).fl) = _
    rw [after_sstep V, sstep_bump]; rfl
theorem cnt_shp (L : List Pt) : ((cntOf L).lv, (cntOf L).ot, (cntOf L).fl) = (shpN 32 L).foldl sstep (0, 0, [0, 0, 0, 0, 0]) := by
  unfold cntOf
  rw [after_sstep, ← fold_sgn (shpN 32 L), ← vis_shp, ← fold_sgn]
  rw [List.map_map]
  rfl
theorem shpC_le (n : Nat) : ∀ y ∈ shpC n, y ≤ 4 := by
  induction n using Nat.strongRecOn with
  | _ n ih =>
    intro y hy
    unfold shpC at hy
    split at hy
    · simp at hy; omega
    · rcases List.mem_cons.1 hy with rfl | hy
      · exact Int.le_refl _
      · exact ih _ (by omega) y hy
theorem shpN_le : ∀ (h : Nat) (L : List Pt), ∀ y ∈ shpN h L, y ≤ 4
  | 0, L => shpC_le _
  | h + 1, L => fun y hy => by
    have sub : ∀ q, y ∈ (if quarter h q L = [] then [] else shpN h (quarter h q L)) → y ≤ 4 := fun q hq => by
      split at hq
      · cases hq
      · exact shpN_le h _ y hq
    have h4 := (qsum_range h L 4 (by omega)).2
    unfold shpN at hy
    split at hy
    · simp at hy; omega
    · simp only [List.mem_cons, List.mem_append] at hy
      rcases hy with rfl | hy | hy | hy | hy
      · omega
      · exact sub 0 hy
      · exact sub 1 hy
      · exact sub 2 hy
      · exact sub 3 hy
end Cr

/- StatsTells: the law's walk. -/
set_option linter.unusedVariables false
set_option linter.unusedSimpArgs false
namespace Cr
open Go Sx Stb Bt
open Go.Proofs.Try
set_option maxRecDepth 100000
section
variable {R : Ending → Heap → Prop} {H : Heap}
theorem s_slev_nil (k : ∀ H', H ≤ H' → R (.returned (.slice none 0 0)) H') : Meets prog 25 [.pointer none] H R := by
  refine spec_of func25 (by kernel_rfl) (fun t h => by cases h) ?_ (vc_slev none R H) ?_
  · simp [argsR, SV.rep, SC.rep, one]
  unfold nf_slev
  refine spec_of func65 (by kernel_rfl) (fun t h => by cases h) ?_ (vc_sall none _ H) ?_
  · simp [argsR, SV.rep, SC.rep, one]
  unfold nf_sall
  intro r hr b hb
  have hne : b ≠ r := by rintro rfl; rw [upd_same] at hb; cases hb
  have hb0 := hb
  rw [upd_ne _ _ hne] at hb
  refine spec_of func99 (by kernel_rfl) (fun t h => by cases h) ?_ (vc_visit ⟨b, 0, none⟩ 1 0 _ _) ?_
  · simp [argsR, SV.rep, SC.rep, one]
  unfold nf_visit
  have h8 := upd_same (H.upd r (.map #[] 0)) b (.cells #[.pointer none, .map (some r), .slice none 0 0, vi 0, vi 0, vi 0, vi 0, vi 0, vi 0, vi 0] 100 (0, 0))
  have hle0 : H ≤ (H.upd r (.map #[] 0)).upd b (.cells #[.pointer none, .map (some r), .slice none 0 0, vi 0, vi 0, vi 0, vi 0, vi 0, vi 0, vi 0] 100 (0, 0)) := le_upd (le_upd (heap_refl _) hr _) hb _
  refine ptr rfl (ptr rfl (ptr rfl ⟨none, cells_at h8 (k := 0) rfl, s_get_nil fun v H1 hle hv => ?_⟩))
  obtain ⟨a, n, c, rfl, _, hk, hc⟩ := hv
  refine ⟨_, a, n, c, _, _, hk, _, hc, _, rfl, br (fun _ => ⟨rfl, ?_⟩) fun q => by cases q⟩
  refine ⟨none, some r, none, 0, 0, 0, 0, [0, 0, 0, 0, 0], rfl, ⟨b, rfl, hle _ _ h8⟩, fun b1 hb1 => ⟨_, rfl, ptr rfl (ptr rfl (ptr rfl ⟨none, 0, 0, has_one (k := 2) (has_cells (upd_same _ _ _)) rfl rfl, k _ ?_⟩))⟩⟩
  intro x ob e
  have hx : b ≠ x := by rintro rfl; rw [hb] at e; cases e
  have h2 : (H1.delO (blockOf (.pointer (some ⟨b, 0, none⟩)))) x = some ob := delO_keep (fun k e => by cases e; exact hx) (hle _ _ (hle0 _ _ e))
  rw [upd_ne _ _ (fun e' => by subst e'; rw [hb1] at h2; cases h2)]
  exact h2
theorem once_facts {l : List Pt} (hp : ∀ p ∈ l, PtR p) (most : Int) : (∀ p ∈ onceP most l, ptOK p) ∧ ((onceP most l).map Pt.id).Nodup ∧ (0 ≤ most → ((onceP most l).length : Int) ≤ most) ∧ ∀ p ∈ onceP most l, PtR p := by
  obtain ⟨h1, h2, h3, h4⟩ := once_ok most l
  refine ⟨h1, h2, fun h0 => ?_, fun p hm => hp p (h4 p hm)⟩
  rcases h3 with h | h
  · rw [h]; simpa using h0
  · exact h
theorem s_ltells {v : Value} {l : List Pt} (h : SliceAt H v 4 (pts l)) (hl : l.length ≤ 10000000000000) (hp : ∀ p ∈ l, PtR p) (k : ∀ H', H ≤ H' → R (.returned (.bool true)) H') :
    Meets prog 4 [v] H R := by
  obtain ⟨a, m, c, e, hm⟩ := h
  subst e
  have h : SliceAt H (.slice a m c) 4 (pts l) := ⟨a, m, c, rfl, hm⟩
  refine spec_of func4 (by kernel_rfl) ?_ ?_ (vc_ltells a m c R H) ?_
  · intro t ht
    obtain rfl := memN_one (a := 38) ht
    exact eqOK_of (by kernel_rfl) (by kernel_rfl) (by kernel_rfl)
  · simp [argsR, SV.rep, SC.rep, one]
  unfold nf_ltells
  refine s_alive33 fun H0 hle0 => ⟨_, rfl, br (fun q => by cases q) fun _ => ?_⟩
  obtain ⟨o1, o2, o3, o4⟩ := once_facts hp 40
  have o3 := o3 (by decide)
  refine s_once (slice_le h hle0) (by decide) hl fun v1 H1 hle1 hfr1 hrow1 => ?_
  obtain ⟨a1, c1, rfl⟩ := row_val hrow1
  generalize hL : onceP 40 l = L at *
  have hpl : (pts L).length = L.length := by simp [pts]
  rw [hpl] at hrow1 hfr1 ⊢
  have hle : H ≤ H1 := heap_trans hle0 hle1
  refine ⟨_, _, _, rfl, s_build (row_slice hrow1) (by omega) o4 (fun i p hi _ hc => absurd (o1 p (List.mem_of_getElem? hi)) (pcode_bad hc)) (fun _ hc => absurd o2 hc) (fun _ _ _ H2 hle2 => ⟨_, _, rfl, br (fun _ => k _ (heap_trans hle hle2)) fun q => by cases q⟩) fun _ _ h255 b r mm I H2 hb hr hne hle2 hg hT _ => ⟨_, _, rfl, br (fun q => by cases q) fun _ => ?_⟩⟩
  have hs2 := slice_le (row_slice hrow1) hle2
  refine s_rShape hs2 (by omega) o4 fun v3 H3 hle3 hfr3 hrow3 => ?_
  obtain ⟨a3, c3, rfl⟩ := row_val hrow3
  have hcl : (cells (shpN 32 (sortP L))).length = nds 32 (sortP L) := by rw [List.length_map, shpN_len]
  rw [hcl] at hrow3 hfr3 ⊢
  have hcnt := cnt_shp (sortP L)
  have hS4 := shpN_le 32 (sortP L)
  have hSl := shpN_len 32 (sortP L)
  generalize hS : shpN 32 (sortP L) = S at *
  refine ⟨_, _, _, rfl, ?_⟩
  simp only [true_and]
  refine ⟨fun p H' => ∃ t : Nat, (p.1.1, p.1.2.1, p.2.1.1) = (S.take t).foldl sstep (0, 0, [0, 0, 0, 0, 0]) ∧ p.1.2.2.1 = (t : Int) ∧ t ≤ S.length ∧ H' = H3, fun p _ => (S.length - p.1.2.2.1).toNat, ⟨0, rfl, rfl, by omega, rfl⟩, ?_⟩
  rintro ⟨⟨lv, ot, i, _⟩, ⟨fl, _⟩, _⟩ H4 ⟨t, h1, hi, ht, rfl⟩
  simp only at h1 hi ⊢
  subst hi
  refine br (fun q => ?_) fun q => ?_
  · simp only [decide_eq_true_eq] at q
    obtain ⟨y, _, htk, hx⟩ := drop_cons (l := S) (k := t) (by omega)
    obtain ⟨A, e, g⟩ := ir_get (row_slice hrow3) hx
    subst e
    have hy4 := hS4 y (List.mem_of_getElem? hx)
    rw [Int.toNat_natCast, w64 (k := (t : Int) + 1) (by omega)]
    have hst : (S.take (t + 1)).foldl sstep (0, 0, [0, 0, 0, 0, 0]) = sstep (lv, ot, fl) y := by rw [htk, List.foldl_append, ← h1]; rfl
    refine ⟨⟨by omega, by omega⟩, ptr rfl (ptr rfl ⟨_, g, br (fun q1 => ?_) fun q1 => ?_⟩)⟩
    · simp only [decide_eq_true_eq] at q1
      refine ⟨⟨t + 1, ?_, rfl, by omega, trivial⟩, by omega⟩
      rw [hst]; unfold sstep; rw [if_pos q1]
    · simp only [decide_eq_false_iff_not] at q1
      refine ⟨⟨by omega, by omega⟩, ptr rfl (ptr rfl ⟨_, g, ⟨by omega, by omega⟩, ⟨by omega, by omega⟩, ⟨t + 1, ?_, rfl, by omega, trivial⟩, by omega⟩)⟩
      rw [hst]; unfold sstep; rw [if_neg q1]
  · simp only [decide_eq_false_iff_not] at q
    obtain rfl : t = S.length := by omega
    rw [List.take_length, ← hcnt] at h1
    simp only [Prod.mk.injEq] at h1
    obtain ⟨rfl, rfl, rfl⟩ := h1
    refine s_sleaves (hg.le hle3) hT.dom hT.tr hT.nd fun H5 hle5 => ⟨_, _, rfl, _, none_le _, ?_⟩
    have hle6 := heap_trans hle3 hle5
    refine s_slev (hg.le hle6) hT.dom hT.tr hT.nd fun v6 H6 hle7 hs6 => ⟨keep_none _ _, ?_⟩
    obtain ⟨a6, c6, rfl⟩ := slice_val hs6
    have hle8 := heap_trans hle6 hle7
    refine ⟨_, _, _, rfl, s_rLev (slice_le hs2 hle8) (by omega) o4 fun n htr v7 H7 hle9 hfr7 hrow7 => ⟨keep_none _ _, ?_⟩⟩
    obtain ⟨a7, c7, rfl⟩ := row_val hrow7
    have hvl : (visN 32 (sortP L)).length < 1000000000 := by rw [visN_len]; omega
    rw [ls_trim (visN_lv 32 (sortP L)) hvl htr] at hrow7 hfr7 ⊢
    have hls : (cnt0.after (visN 32 (sortP L))).ls.length ≤ 33 := (ls_inv _ (visN_lv 32 (sortP L)) hvl).2.1
    refine ⟨_, _, _, rfl, s_ints (l := (cntOf (sortP L)).ls) (l' := (cntOf (sortP L)).ls) (slice_le hs6 hle9) (row_slice hrow7) (by unfold cntOf; omega) ⟨keep_none _ _, _, rfl, ?_⟩⟩
    rw [decide_eq_true rfl]
    have hle10 := heap_trans hle8 hle9
    refine br (fun _ => br (fun _ => br (fun _ => ?_) fun q => by simp at q) fun q => by simp at q) fun q => by cases q
    refine s_sfill (hg.le hle10) hT.dom hT.tr hT.nd fun H8 hle11 hfl => ⟨keep_none _ _, (cntOf (sortP L)).fl, hfl, by simp [flatD, append_eq], br (fun _ => ?_) fun q => by simp [andO] at q⟩
    refine s_slev_nil fun H9 hle12 => ⟨keep_none _ _, none, 0, 0, rfl, ?_⟩
    exact k _ (heap_trans hle (heap_trans hle2 (heap_trans hle10 (heap_trans hle11 hle12))))
end
end Cr

/- StatsSums: the law's walk. -/
set_option linter.unusedVariables false
set_option linter.unusedSimpArgs false
namespace Cr
open Go Sx Stb Bt
open Go.Proofs.Try
set_option maxRecDepth 100000
theorem sum_set : ∀ {l : List Int} {i : Nat} {x : Int}, i < l.length → (l.set i x).sum = l.sum + (x - l.getD i 0)
  | [], i, x, h => by simp at h
  | y :: l, 0, x, _ => by simp; omega
  | y :: l, i + 1, x, h => by
    have := sum_set (l := l) (i := i) (x := x) (by simpa using h)
    simp only [List.set_cons_succ, List.sum_cons, List.getD_cons_succ]
    omega
theorem sum_pad (l : List Int) (n : Nat) : (padTo l n).sum = l.sum := by
  unfold padTo
  rw [List.sum_append]
  have : ∀ k : Nat, (List.replicate k (0 : Int)).sum = 0 := fun k => by induction k with
    | zero => rfl
    | succ k ih => rw [List.replicate_succ, List.sum_cons, ih]; rfl
  rw [this]; omega
theorem ls_sum : ∀ V : List (Nat × Int), (∀ x ∈ V, x.1 ≤ 32) → V.length < 1000000000 → (cnt0.after V).ls.sum = (V.length : Int) ∧ (cnt0.after V).lv + (cnt0.after V).ot = (V.length : Int) ∧ 0 ≤ (cnt0.after V).lv ∧ 0 ≤ (cnt0.after V).ot := by
  refine snocInd ?_ ?_
  · intro _ _; exact ⟨rfl, rfl, by decide, by decide⟩
  · intro V x ih hx hl
    simp only [List.length_append, List.length_singleton] at hl
    obtain ⟨h1, h2, h3, h4⟩ := ih (fun y hy => hx y (List.mem_append_left _ hy)) (by omega)
    obtain ⟨i1, _, _⟩ := ls_inv V (fun y hy => hx y (List.mem_append_left _ hy)) (by omega)
    have := lvN_le V x.1
    rw [after_snoc, bumpN_ls]
    refine ⟨?_, ?_⟩
    · unfold lvBump
      rw [sum_set (by rw [padTo_len]; omega), sum_pad, padTo_getD, h1, i1, w64 (by omega)]
      simp; omega
    · unfold bumpN
      split
      · rw [w64 (by omega)]; simp; omega
      · rw [w64 (by omega)]; simp; omega
def wsum (l : List Int) : Int := 0 * l.getD 0 0 + 1 * l.getD 1 0 + 2 * l.getD 2 0 + 3 * l.getD 3 0 + 4 * l.getD 4 0
def vsum (V : List (Nat × Int)) : Int := (V.map fun x => if x.2 < 0 then 0 else x.2).sum
theorem fl_inv : ∀ V : List (Nat × Int), (∀ x ∈ V, x.2 ≤ 4) → V.length < 1000000000 → (cnt0.after V).fl.length = 5 ∧ (∀ i, 0 ≤ (cnt0.after V).fl.getD i 0 ∧ (cnt0.after V).fl.getD i 0 ≤ V.length) ∧ wsum (cnt0.after V).fl = vsum V := by
  refine snocInd ?_ ?_
  · intro _ _
    refine ⟨rfl, fun i => ?_, rfl⟩
    have : (cnt0.after []).fl.getD i 0 = 0 := by
      show ([0, 0, 0, 0, 0] : List Int).getD i 0 = 0
      match i with
      | 0 | 1 | 2 | 3 | 4 => rfl
      | i + 5 => rfl
    rw [this]; simp
  · intro V x ih hx hl
    simp only [List.length_append, List.length_singleton] at hl
    obtain ⟨h1, h2, h3⟩ := ih (fun y hy => hx y (List.mem_append_left _ hy)) (by omega)
    have hx4 := hx x (List.mem_append_right _ (List.mem_singleton.2 rfl))
    have hv : vsum (V ++ [x]) = vsum V + if x.2 < 0 then 0 else x.2 := by unfold vsum; simp
    rw [after_snoc, hv]
    unfold bumpN
    split
    · rename_i hneg
      refine ⟨h1, fun i => ⟨(h2 i).1, by have := (h2 i).2; simp only [List.length_append, List.length_singleton]; omega⟩, ?_⟩
      rw [h3]; simp
    · rename_i hneg
      obtain ⟨y, hy, hy4⟩ : ∃ y : Nat, x.2 = (y : Int) ∧ y ≤ 4 := ⟨x.2.toNat, by omega, by omega⟩
      rw [hy, Int.toNat_natCast]
      generalize (cnt0.after V).fl = fl at *
      have hb := h2 y
      rw [w64 (k := fl.getD y 0 + 1) (by omega)]
      refine ⟨by simpa using h1, fun i => ?_, ?_⟩
      · have := h2 i
        show 0 ≤ (fl.set y (fl.getD y 0 + 1)).getD i 0 ∧ (fl.set y (fl.getD y 0 + 1)).getD i 0 ≤ ((V ++ [x]).length : Nat)
        rw [getD_setI (by omega), List.length_append, List.length_singleton]
        split
        · subst_vars; omega
        · omega
      · show wsum (fl.set y (fl.getD y 0 + 1)) = _
        unfold wsum at h3 ⊢
        simp only [getD_setI (show y < fl.length by omega)]
        have : y = 0 ∨ y = 1 ∨ y = 2 ∨ y = 3 ∨ y = 4 := by omega
        rcases this with rfl | rfl | rfl | rfl | rfl <;> simp at h3 ⊢ <;> omega
theorem chV_sum (n : Nat) : vsum (chV n) = (n : Int) ∧ ∀ x ∈ chV n, x.2 ≤ 4 := by
  induction n using Nat.strongRecOn with
  | _ n ih =>
    unfold chV
    split
    · refine ⟨by simp only [vsum, List.map_cons, List.map_nil, List.sum_cons, List.sum_nil]; split <;> omega, fun x hx => by simp at hx; subst hx; simp; omega⟩
    · obtain ⟨h1, h2⟩ := ih (n - 4) (by omega)
      refine ⟨?_, fun x hx => ?_⟩
      · unfold vsum at h1 ⊢
        simp only [List.map_cons, List.sum_cons, h1]
        simp; omega
      · rcases List.mem_cons.1 hx with rfl | hx
        · simp
        · exact h2 x hx
theorem vsum_app (V W : List (Nat × Int)) : vsum (V ++ W) = vsum V + vsum W := by unfold vsum; simp
theorem vis_sum : ∀ (h : Nat) (L : List Pt), (∀ p ∈ L, PtR p) → vsum (visN h L) = (L.length : Int) ∧ ∀ x ∈ visN h L, x.2 ≤ 4
  | 0, L, _ => chV_sum _
  | h + 1, L, hp => by
    unfold visN
    split
    · refine ⟨by simp only [vsum, List.map_cons, List.map_nil, List.sum_cons, List.sum_nil]; split <;> omega, fun x hx => by simp at hx; subst hx; simp; omega⟩
    · have hs := sum_quarters (h := h) hp
      have sub : ∀ q, vsum (if quarter h q L = [] then [] else visN h (quarter h q L)) = ((quarter h q L).length : Int) ∧ ∀ x ∈ (if quarter h q L = [] then [] else visN h (quarter h q L)), x.2 ≤ 4 := fun q => by
        split
        · rename_i e; rw [e]; exact ⟨rfl, by simp⟩
        · exact vis_sum h _ fun p hm => hp p (List.mem_filter.1 hm).1
      refine ⟨?_, fun x hx => ?_⟩
      · have : ∀ V, vsum ((31 - h, -1) :: V) = vsum V := fun V => by unfold vsum; simp
        rw [this, vsum_app, vsum_app, vsum_app, (sub 0).1, (sub 1).1, (sub 2).1, (sub 3).1]
        omega
      · simp only [List.mem_cons, List.mem_append] at hx
        rcases hx with rfl | hx | hx | hx | hx
        · simp
        · exact (sub 0).2 x hx
        · exact (sub 1).2 x hx
        · exact (sub 2).2 x hx
        · exact (sub 3).2 x hx
theorem vis_low : ∀ (h : Nat) (L : List Pt), h ≤ 32 → ∀ x ∈ visN h L, 32 - h ≤ x.1
  | 0, L, _ => by
    show ∀ x ∈ chV L.length, 32 ≤ x.1
    generalize L.length = n
    induction n using Nat.strongRecOn with
    | _ n ih =>
      intro x hx
      rw [chV] at hx
      split at hx
      · simp at hx; subst hx; exact Nat.le_refl 32
      · rcases List.mem_cons.1 hx with rfl | hx
        · exact Nat.le_refl 32
        · exact ih (n - 4) (by omega) x hx
  | h + 1, L, hh => by
    intro x hx
    unfold visN at hx
    split at hx
    · simp at hx; subst hx; show 32 - (h + 1) ≤ 31 - h; omega
    · have key : ∀ q, x ∈ (if quarter h q L = [] then [] else visN h (quarter h q L)) → 32 - (h + 1) ≤ x.1 := fun q hq => by
        split at hq
        · cases hq
        · have := vis_low h _ (by omega) x hq; omega
      simp only [List.mem_cons, List.mem_append] at hx
      rcases hx with rfl | hx | hx | hx | hx
      · show 32 - (h + 1) ≤ 31 - h; omega
      · exact key 0 hx
      · exact key 1 hx
      · exact key 2 hx
      · exact key 3 hx
theorem vis_first (L : List Pt) : lvN (visN 32 L) 0 = 1 := by
  unfold visN
  split
  · rfl
  · have key : ∀ q, ((if quarter 31 q L = [] then [] else visN 31 (quarter 31 q L)).filter fun x => x.1 == 0) = [] := fun q => by
      split
      · rfl
      · rw [List.filter_eq_nil_iff]
        intro x hx
        have := vis_low 31 _ (by omega) x hx
        simp; omega
    unfold lvN
    rw [List.filter_cons_of_pos (by decide), List.filter_append, List.filter_append, List.filter_append, key, key, key, key]
    rfl
theorem take_sum {l : List Int} {t : Nat} {y : Int} (h : l[t]? = some y) : (l.take (t + 1)).sum = (l.take t).sum + y := by
  rw [List.take_add_one, h]; simp
section
variable {R : Ending → Heap → Prop} {H : Heap}
theorem s_lsums {v : Value} {l : List Pt} (h : SliceAt H v 4 (pts l)) (hl : l.length ≤ 10000000000000) (hp : ∀ p ∈ l, PtR p) (k : ∀ H', H ≤ H' → R (.returned (.bool true)) H') :
    Meets prog 5 [v] H R := by
  obtain ⟨a, m, c, e, hm⟩ := h
  subst e
  have h : SliceAt H (.slice a m c) 4 (pts l) := ⟨a, m, c, rfl, hm⟩
  refine spec_of func5 (by kernel_rfl) (fun t h => by cases h) ?_ (vc_lsums a m c R H) ?_
  · simp [argsR, SV.rep, SC.rep, one]
  unfold nf_lsums
  refine s_alive33 fun H0 hle0 => ⟨_, rfl, br (fun q => by cases q) fun _ => ?_⟩
  obtain ⟨o1, o2, o3, o4⟩ := once_facts hp 40
  have o3 := o3 (by decide)
  refine s_once (slice_le h hle0) (by decide) hl fun v1 H1 hle1 hfr1 hrow1 => ?_
  obtain ⟨a1, c1, rfl⟩ := row_val hrow1
  generalize hL : onceP 40 l = L at *
  have hpl : (pts L).length = L.length := by simp [pts]
  rw [hpl] at hrow1 hfr1 ⊢
  have hle : H ≤ H1 := heap_trans hle0 hle1
  refine ⟨_, _, _, rfl, s_build (row_slice hrow1) (by omega) o4 (fun i p hi _ hc => absurd (o1 p (List.mem_of_getElem? hi)) (pcode_bad hc)) (fun _ hc => absurd o2 hc) (fun _ _ _ H2 hle2 => ⟨_, _, rfl, br (fun _ => k _ (heap_trans hle hle2)) fun q => by cases q⟩) fun _ _ h255 b r mm I H2 hb hr hne hle2 hg hT _ => ⟨_, _, rfl, br (fun q => by cases q) fun _ => ?_⟩⟩
  have hvl : (visN 32 (sortP L)).length = nds 32 (sortP L) := visN_len 32 _
  have hV := visN_lv 32 (sortP L)
  obtain ⟨i1, i2, i3⟩ := ls_inv _ hV (by omega)
  obtain ⟨j1, j2, j3, j4⟩ := ls_sum _ hV (by omega)
  have hsr : ∀ p ∈ sortP L, PtR p := fun p hm => o4 p (sortP_mem.1 hm)
  obtain ⟨v1', v2'⟩ := vis_sum 32 (sortP L) hsr
  obtain ⟨f1, f2, f3⟩ := fl_inv _ v2' (by omega)
  have hfst := vis_first (sortP L)
  have hfirst := i1 0
  rw [hfst] at hfirst
  rw [v1', sortP_len] at f3
  have hC : cnt0.after (visN 32 (sortP L)) = cntOf (sortP L) := rfl
  rw [hC] at i1 i2 i3 j1 j2 j3 j4 f1 f2 f3 hfirst
  rw [hvl] at j1 j2 f2
  have hpos : 0 < (cntOf (sortP L)).ls.length := by
    rcases Nat.eq_zero_or_pos (cntOf (sortP L)).ls.length with h0 | h0
    · rw [List.length_eq_zero_iff.1 h0] at hfirst; simp at hfirst
    · exact h0
  have hlve : ∀ i : Nat, lvN (visN 32 (sortP L)) i ≤ 255 := fun i => Nat.le_trans (lvN_le _ i) (by omega)
  refine s_slev hg hT.dom hT.tr hT.nd fun v3 H3 hle3 hs3 => ?_
  obtain ⟨a3, c3, rfl⟩ := slice_val hs3
  have hcl : (cells (cntOf (sortP L)).ls).length = (cntOf (sortP L)).ls.length := by simp [cells]
  rw [hcl] at hs3 ⊢
  refine ⟨_, _, _, rfl, s_sfill (hg.le hle3) hT.dom hT.tr hT.nd fun H4 hle4 hfl => ⟨(cntOf (sortP L)).fl, hfl, by simp [flatD, append_eq], ?_⟩⟩
  have hs4 := slice_le hs3 hle4
  have hle34 := heap_trans hle3 hle4
  have hleH : H ≤ H4 := heap_trans hle (heap_trans hle2 hle34)
  have hlvs := s_sleaves (R := fun e H' => e = .returned (.tuple #[vi (cntOf (sortP L)).lv, vi (cntOf (sortP L)).ot]) ∧ H4 ≤ H') (hg.le hle34) hT.dom hT.tr hT.nd fun H' h => ⟨rfl, h⟩
  generalize cntOf (sortP L) = C at *
  simp only [true_and]
  refine ⟨fun p H' => ∃ t : Nat, p.1.1 = (C.ls.take t).sum ∧ p.1.2.1 = (t : Int) ∧ t ≤ C.ls.length ∧ 0 ≤ p.1.1 ∧ p.1.1 ≤ 255 * (t : Int) ∧ H' = H4, fun p _ => (C.ls.length - p.1.2.1).toNat, ⟨0, by simp, rfl, by omega, by simp, by simp, rfl⟩, ?_⟩
  rintro ⟨⟨s, i, _⟩, _⟩ H5 ⟨t, h1, hi, ht, hs0, hs1, rfl⟩
  simp only at h1 hi hs0 hs1 ⊢
  subst hi
  refine br (fun q => ?_) fun q => ?_
  · simp only [decide_eq_true_eq] at q
    obtain ⟨y, _, htk, hx⟩ := drop_cons (l := C.ls) (k := t) (by omega)
    obtain ⟨A, e, g⟩ := ir_get hs4 hx
    subst e
    have hy := i1 t
    rw [List.getD_eq_getElem?_getD, hx] at hy
    simp only [Option.getD_some] at hy
    have := hlve t
    have hsw := w64 (k := s + y) (by omega)
    rw [Int.toNat_natCast, w64 (k := (t : Int) + 1) (by omega)]
    exact ⟨⟨by omega, by omega⟩, ptr rfl (ptr rfl ⟨_, g, ⟨t + 1, by rw [hsw, take_sum hx, h1], rfl, by omega, by omega, by omega, trivial⟩, by omega⟩)⟩
  simp only [decide_eq_false_iff_not] at q
  obtain rfl : t = C.ls.length := by omega
  rw [List.take_length] at h1
  have hw : ∀ t : Nat, t ≤ 5 → ∃ x : Int, x = ((List.range t).map fun i : Nat => (i : Int) * C.fl.getD i 0).sum := fun t _ => ⟨_, rfl⟩
  refine ⟨fun p H' => ∃ t : Nat, p.1.1 = ((List.range t).map fun i : Nat => (i : Int) * C.fl.getD i 0).sum ∧ p.1.2.1 = (t : Int) ∧ t ≤ 5 ∧ 0 ≤ p.1.1 ∧ p.1.1 ≤ 2000 * (t : Int) ∧ H' = H5, fun p _ => (5 - p.1.2.1).toNat, ⟨0, by simp, rfl, by omega, by simp, by simp, rfl⟩, ?_⟩
  rintro ⟨⟨s2, i2', _⟩, _⟩ H6 ⟨t, g1, gi, gt, gs0, gs1, rfl⟩
  simp only at g1 gi gs0 gs1 ⊢
  subst gi
  refine br (fun q2 => ?_) fun q2 => ?_
  · simp only [decide_eq_true_eq] at q2
    have hb := f2 t
    have hm0 : 0 ≤ (t : Int) * C.fl.getD t 0 := Int.mul_nonneg (by omega) hb.1
    have hm1 : (t : Int) * C.fl.getD t 0 ≤ 4 * 255 := Int.mul_le_mul (by omega) (by omega) hb.1 (by decide)
    rw [Int.toNat_natCast, w64 (k := (t : Int) * C.fl.getD t 0) (by omega), w64 (k := s2 + _) (by omega), w64 (k := (t : Int) + 1) (by omega)]
    refine ⟨⟨by omega, by omega⟩, ⟨t + 1, ?_, rfl, by omega, by omega, by omega, trivial⟩, by omega⟩
    rw [List.range_succ, List.map_append, List.sum_append, g1]; simp
  · simp only [decide_eq_false_iff_not] at q2
    obtain rfl : t = 5 := by omega
    have hpts : s2 = (L.length : Int) := by
      rw [g1, ← f3]
      unfold wsum
      simp [List.range_succ]; omega
    refine hlvs.mono fun e H7 ⟨he, hle7⟩ => ⟨_, _, he, ?_⟩
    refine s_ids (hg.le (heap_trans hle34 hle7)) fun v8 H8 hle8 hfr8 hrow8 => ?_
    obtain ⟨a8, c8, rfl⟩ := row_val hrow8
    have hil : (cells (idsOf mm)).length = nds 32 (sortP L) := by rw [List.length_map, hT.ids.length_eq, TrP_len hT.tr]
    rw [hil]
    obtain ⟨A, e, g⟩ := ir_get (slice_le hs4 (heap_trans hle7 hle8)) (i := 0) (x := 1) (by
      rw [List.getD_eq_getElem?_getD, List.getElem?_eq_getElem hpos] at hfirst
      rw [List.getElem?_eq_getElem hpos]; simpa using hfirst)
    subst e
    rw [w64 (k := C.lv + C.ot) (by omega)]
    refine ⟨_, _, _, rfl, br (fun _ => br (fun _ => br (fun _ => br (fun _ => ?_) fun q => ?_) fun q => ?_) fun q => ?_) fun q => ?_⟩
    · refine ⟨⟨by omega, by omega⟩, ptr rfl (ptr rfl ⟨1, g, br (fun _ => ?_) fun q => by cases q⟩)⟩
      rw [decide_eq_true (show ((C.ls.length : Nat) : Int) ≤ 33 by omega)]
      exact k _ (heap_trans hleH (heap_trans hle7 hle8))
    · simp at q; omega
    · simp at q; omega
    · simp at q; omega
    · simp at q; omega
end
end Cr

/- StatsGrids: the law's walk. -/
set_option linter.unusedVariables false
set_option linter.unusedSimpArgs false
namespace Cr
open Go Sx Stb Bt
open Go.Proofs.Try
set_option maxRecDepth 100000
section
variable {R : Ending → Heap → Prop} {H : Heap}
theorem two_wrap {t n : Nat} (hn : n ≤ 4) (ht : t < n) : IntKind.i64.wrap (2 * 2 ^ t) = 2 ^ (t + 1) := by
  have : t = 0 ∨ t = 1 ∨ t = 2 ∨ t = 3 := by omega
  rcases this with rfl | rfl | rfl | rfl <;> decide
theorem sq_wrap {n : Nat} (hn : n ≤ 4) : IntKind.i64.wrap (2 ^ n * 2 ^ n) = ((4 ^ n : Nat) : Int) := by
  rcases five hn with rfl | rfl | rfl | rfl | rfl <;> decide
theorem s_lgrid {v : Value} {l : List Pt} {lv : Int} (h : SliceAt H v 4 (pts l)) (hl : l.length ≤ 10000000000000) (hp : ∀ p ∈ l, PtR p) (k : ∀ H', H ≤ H' → R (.returned (.bool true)) H') :
    Meets prog 3 [v, vi lv] H R := by
  obtain ⟨a, m, c, e, hm⟩ := h
  subst e
  have h : SliceAt H (.slice a m c) 4 (pts l) := ⟨a, m, c, rfl, hm⟩
  have hlm : l.length = m := by simpa [pts] using hm.1
  refine spec_of func3 (by kernel_rfl) (fun t h => by cases h) ?_ (vc_lgrid a m c lv R H) ?_
  · simp [argsR, SV.rep, SC.rep, one]
  unfold nf_lgrid
  obtain ⟨n, hn, hn4⟩ := lv_nat lv
  obtain ⟨g1, g2, g3⟩ := grid_size hn4
  have p0 : (0 : Int) ≤ ((4 ^ n : Nat) : Int) := Int.natCast_nonneg _
  have p1 : ((4 ^ n : Nat) : Int) ≤ 256 := by exact_mod_cast g2
  rw [hn]
  refine s_alive33 fun H0 hle0 => ⟨_, rfl, br (fun q => by cases q) fun _ => ?_⟩
  simp only [true_and]
  refine ⟨fun p H' => ∃ t : Nat, p.1.1 = 2 ^ t ∧ p.1.2.1 = (t : Int) ∧ t ≤ n ∧ H' = H0, fun p _ => (n - p.1.2.1).toNat, ⟨0, rfl, rfl, by omega, rfl⟩, ?_⟩
  rintro ⟨⟨sd, i, _⟩, _⟩ H1 ⟨t, h1, h2, ht, rfl⟩
  simp only at h1 h2 ⊢
  subst h1; subst h2
  refine br (fun q => ?_) fun q => ?_
  · simp only [decide_eq_true_eq] at q
    rw [two_wrap hn4 (by omega), w64 (by omega)]
    exact ⟨⟨t + 1, rfl, by omega, by omega, by trivial⟩, by omega⟩
  simp only [decide_eq_false_iff_not] at q
  obtain rfl : t = n := by omega
  rw [sq_wrap hn4]
  refine ⟨⟨p0, Int.le_trans (Int.mul_le_mul_of_nonneg_right p1 (by decide)) (by decide)⟩, fun p H' => ∃ u : Nat, p.1.1 = cells (gridP t (l.take u)) ∧ p.1.2.1 = (u : Int) ∧ u ≤ m ∧ H' = H1, fun p _ => (m - p.1.2.1).toNat, ⟨0, ?_, rfl, by omega, rfl⟩, ?_⟩
  · rw [Int.toNat_natCast]; simp [gridP, cells]
  rintro ⟨⟨r, i, _⟩, _⟩ H2 ⟨u, h1, h2, hu, rfl⟩
  simp only at h1 h2 ⊢
  subst h1; subst h2
  have h' := slice_le h hle0
  refine br (fun q => ?_) fun q => ?_
  · simp only [decide_eq_true_eq] at q
    obtain ⟨p, hd, htk, hx⟩ := drop_cons (l := l) (k := u) (by omega)
    obtain ⟨A, e, f0, f1, f2, f3, f4⟩ := pr_fld h' (i := u) hx
    subst e
    have hpr := hp p (List.mem_of_getElem? hx)
    have hlt : gx t p < (gridP t (l.take u)).length := by rw [gridP_len]; exact gx_lt hn4 hpr
    have hln : (cells (gridP t (l.take u))).length = (gridP t (l.take u)).length := by simp [cells]
    rw [Int.toNat_natCast]
    refine ⟨⟨by omega, by omega⟩, ptr rfl (ptr rfl (ptr rfl ⟨_, f2, by decide, ⟨by omega, by omega⟩, ptr rfl (ptr rfl (ptr rfl ⟨_, f3, by decide, ?_⟩))⟩))⟩
    rw [law_ix hn4 hpr, Int.toNat_natCast, hln, w64 (k := (u : Int) + 1) (by omega)]
    refine ⟨⟨by omega, by omega⟩, _, cells_get hlt, ⟨by omega, by omega⟩, hlt, ⟨u + 1, ?_, by omega, by omega, by trivial⟩, by omega⟩
    rw [cells_set, htk, gridP_snoc]
    rfl
  · simp only [decide_eq_false_iff_not] at q
    rw [List.take_of_length_le (by omega)]
    refine s_grid h' hl hp hn hn4 fun v1 H3 e1 e2 e3 => ?_
    obtain ⟨a1, c1, rfl⟩ := row_val e3
    refine ⟨a1, _, c1, rfl, fun v2 H4 f1 f2 f3 f4 => ?_⟩
    refine s_ints (slice_le (row_slice e3) f1) (row_slice f4) (by rw [gridP_len]; omega) ⟨_, rfl, _, f4, ?_⟩
    rw [decide_eq_true rfl]
    exact k _ (le_delO (heap_trans hle0 (heap_trans e1 f1)) (fresh_le (heap_trans hle0 e1) f2))
end
end Cr

/- Points that are handed in. -/
set_option linter.unusedVariables false
set_option linter.unusedSimpArgs false
namespace Cr
open Go Sx Stb Bt
open Go.Proofs.Try
set_option maxRecDepth 100000
theorem own : ownKnob Go.Proofs.Try.prog.godebug = none := by kernel_rfl
theorem laidOut : laidOutB Go.Proofs.Try.prog = true := by kernel_rfl
section
variable {H : Type} {enc : TypeId × Value → H} {W : World}
theorem openPt {fuel : Nat} {cs : List Value} {y : DataW H × List MemPlace} (h : DataW.trod enc prog W 0 (fun _ => true) true fuel 28 cs = some y) : ∃ p : Pt, cs = ptC p ∧ PtR p := by
  obtain ⟨y0, y1, y2, y3, n, _, hl, h0, h1, h2, h3⟩ := Go.Joins.trod_struct4 Go.Proofs.Try.underlying28 h
  obtain ⟨a, e0, _, _⟩ := DataW.trod_int Go.Proofs.Try.underlying3 h0
  obtain ⟨b, e1, _, w1⟩ := DataW.trod_int Go.Proofs.Try.underlying26 h1
  obtain ⟨c, e2, _, w2⟩ := DataW.trod_int Go.Proofs.Try.underlying26 h2
  obtain ⟨s, e3, _, _⟩ := DataW.trod_string Go.Proofs.Try.underlying9 h3
  have c4 : prog.cellsOf 28 = 4 := by kernel_rfl
  have c1 : prog.cellsOf 3 = 1 := by kernel_rfl
  have c2 : prog.cellsOf 26 = 1 := by kernel_rfl
  have c3 : prog.cellsOf 9 = 1 := by kernel_rfl
  rw [c4] at hl
  match cs, hl with
  | [q0, q1, q2, q3], _ =>
    simp only [c1, c2, c3, List.drop_zero, List.drop_succ_cons, List.take_succ_cons, List.take_zero] at e0 e1 e2 e3
    cases e0; cases e1; cases e2; cases e3
    refine ⟨⟨a, b, c, s⟩, rfl, ?_⟩
    have r1 : 0 ≤ b ∧ b < 4294967296 := by simp [Lit.wf, IntKind.min, IntKind.max, IntKind.bits, IntKind.signed] at w1; omega
    have r2 : 0 ≤ c ∧ c < 4294967296 := by simp [Lit.wf, IntKind.min, IntKind.max, IntKind.bits, IntKind.signed] at w2; omega
    exact ⟨r1.1, r1.2, r2.1, r2.2⟩
theorem openI {v : Value} {d : DataW H} {ps : List MemPlace} {base : Nat} (hv : Value.okWide prog W .any base 3 v) (h : DataW.Trod enc prog W 0 (fun _ => true) true 3 v d ps) : ∃ a : Int, v = vi a := by
  obtain ⟨n, rfl, _, _, hw⟩ := Go.ChangeShapes.open_int Go.Proofs.Try.underlying3 hv h
  exact ⟨n, rfl⟩
theorem weigh {t : TypeId} {ts : List TypeId} {d : DataW H} {ds : List (DataW H)} {p : Nat → Bool} (h : (DataW.weightsEach prog (t :: ts) (d :: ds)).all p = true) : (d.weights prog t).all p = true ∧ (DataW.weightsEach prog ts ds).all p = true := by
  simp only [DataW.weightsEach, List.all_append, Bool.and_eq_true] at h
  exact h
theorem openPts {v : Value} {d : DataW H} {ps : List MemPlace} {base : Nat} (hv : Value.okWide prog W .any base 22 v) (h : DataW.Trod enc prog W 0 (fun _ => true) true 22 v d ps) :
    ∃ l : List Pt, SliceAt (full W) v 4 (pts l) ∧ (∀ p ∈ l, PtR p) ∧ ((d.weights prog 22).all (· ≤ reachBytes) = true → l.length ≤ 10000000000000) := by
  obtain ⟨a, len, cap, rfl⟩ := Go.WideShapes.okWide_slice Go.Proofs.Try.underlying22 hv
  obtain ⟨fuel, hf⟩ := h
  rcases Go.Deep.open_slice Go.Proofs.Try.underlying22 hf with ⟨e, e2⟩ | ⟨A, ln, cp, m, n, D, Pl, e, hb, hl, hm, hmm, e2, hx⟩
  · cases e
    exact ⟨[], slice_nil _, by simp, by simp⟩
  · cases e
    obtain ⟨rfl, -⟩ := Prod.mk.inj e2
    simp only [if_true] at hmm
    subst hmm
    have hc : prog.cellsOf 28 = 4 := by kernel_rfl
    have hby : prog.bytesOf 28 = 32 := by kernel_rfl
    have pick : ∀ i, ∃ p : Pt, i < len → PtR p ∧ (full W).has (A.add (i * 4)) (ptC p) ∧ A.spot = none := fun i => by
      by_cases hi : i < len
      · obtain ⟨cs', h1, h2⟩ := hx i (by omega)
        rw [hc] at h1
        obtain ⟨p, rfl, hp⟩ := openPt h2
        obtain ⟨_, h3, h4⟩ := World.cells?_some h1
        refine ⟨p, fun _ => ⟨hp, ?_, ?_⟩⟩
        · intro j x hj
          have hj4 : j < 4 := (List.getElem?_eq_some_iff.1 hj).1
          have := h4 j hj4
          rw [hj] at this
          exact this
        · obtain ⟨cs0, k1, k2⟩ := hx 0 (by omega)
          rw [hc] at k1
          obtain ⟨_, k3, k4⟩ := World.cells?_some k1
          have := k4 0 (by omega)
          simp only [Nat.zero_mul, add0] at this
          rw [List.getElem?_eq_getElem (by omega)] at this
          unfold World.cell? at this
          split at this
          · split at this
            · cases this
            · rename_i hs
              simpa using hs
          · cases this
      · exact ⟨default, fun h => absurd h hi⟩
    obtain ⟨f, hf⟩ := Classical.axiomOfChoice pick
    refine ⟨(List.range len).map f, ⟨some A, len, _, rfl, by simp [pts], hl, ?_, ?_, fun i e he => ?_⟩, ?_, fun hw => ?_⟩
    · intro e he
      simp only [pts, List.mem_map] at he
      obtain ⟨p, _, rfl⟩ := he
      rfl
    · intro e he
      simp only [pts, List.mem_map] at he
      obtain ⟨p, _, rfl⟩ := he
      exact ptC_one p
    · simp only [pts, List.getElem?_map] at he
      obtain ⟨p, hp, rfl⟩ := Option.map_eq_some_iff.1 he
      obtain ⟨i', hi', rfl⟩ := Option.map_eq_some_iff.1 hp
      have hlt := (List.getElem?_eq_some_iff.1 hi').1
      have hii : i' = i := by have := (List.getElem?_eq_some_iff.1 hi').2; simp at this; omega
      subst hii
      obtain ⟨_, g1, g2⟩ := hf i' (by simpa using hlt)
      exact ⟨A, rfl, g2, g1⟩
    · intro p hp
      obtain ⟨i, hi, rfl⟩ := List.mem_map.1 hp
      exact (hf i (List.mem_range.1 hi)).1
    · simp only [DataW.weights, Go.Proofs.Try.underlying22, List.all_cons, Bool.and_eq_true, decide_eq_true_eq, List.length_map, List.length_range, hby] at hw
      simp only [List.length_map, List.length_range]
      have := hw.1
      unfold reachBytes at this
      omega
end
end Cr
