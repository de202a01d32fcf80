/- Points sorted, found, held against each other; the first of each Id. -/
import Derived.Test.YtekaopahienmgaaG4
set_option linter.unusedVariables false
set_option linter.unusedSimpArgs false
namespace Cr
open Go Sx Stb Bt
open Go.Sort (SWO)
open Go.Proofs.Try
set_option maxRecDepth 100000
def h_once : Hints := { loops := [(4, ⟨[0, 1, 4], [.row 5 28 4, .row 6 3 1, .f 7 (.int .i64)], []⟩)] }
def h_rsort : Hints := { loops := [(3, ⟨[0, 2], [.row 3 28 4, .f 4 (.int .i64)], []⟩), (6, ⟨[0, 2, 4], [.row 3 28 4, .f 5 (.int .i64)], []⟩)] }
def nf_once (a : Option Addr) (n : Nat) (c : Nat) (most : Int) (R : Ending → Heap → Prop) (H : Heap) : Prop := a = a ∧ n = n ∧ c = c ∧ most = most ∧ (none : Option Addr) = none ∧ (0 : Nat) = (0 : Nat) ∧ (0 : Nat) = (0 : Nat) ∧ LoopP (fun (K : (List (List Value) × List (List Value) × Int × PUnit) × PUnit → (Nat → Option Obj) → Prop) (p : (List (List Value) × List (List Value) × Int × PUnit) × PUnit) (H : Nat → Option Obj) ↦ Br (decide (p.fst.snd.snd.fst < (↑n : Int))) (Br (decide ((↑(List.length p.fst.fst) : Int) < most)) (((0 : Int) ≤ p.fst.snd.snd.fst ∧ p.fst.snd.snd.fst < (↑n : Int)) ∧ PtrK a fun (A : Addr) ↦ PtrK (some (Addr.add A (Int.toNat p.fst.snd.snd.fst * (4 : Nat)))) fun (a_1 : Addr) ↦ PtrK (some (Addr.add a_1 (0 : Nat))) fun (a_2 : Addr) ↦ ∃ (n_1 : Int), Heap.has H a_2 [Value.int IntKind.i64 n_1] ∧ Br (decide (n_1 ≥ (1 : Int))) (((0 : Int) ≤ p.fst.snd.snd.fst ∧ p.fst.snd.snd.fst < (↑n : Int)) ∧ PtrK a fun (A : Addr) ↦ PtrK (some (Addr.add A (Int.toNat p.fst.snd.snd.fst * (4 : Nat)))) fun (a_3 : Addr) ↦ PtrK (some (Addr.add a_3 (0 : Nat))) fun (a_4 : Addr) ↦ ∃ (n_2 : Int), Heap.has H a_4 [Value.int IntKind.i64 n_2] ∧ Br (decide (n_2 < (2147483648 : Int))) (((0 : Int) ≤ p.fst.snd.snd.fst ∧ p.fst.snd.snd.fst < (↑n : Int)) ∧ PtrK a fun (A : Addr) ↦ PtrK (some (Addr.add A (Int.toNat p.fst.snd.snd.fst * (4 : Nat)))) fun (a_5 : Addr) ↦ PtrK (some (Addr.add a_5 (3 : Nat))) fun (a_6 : Addr) ↦ ∃ (s : ByteArray), Heap.has H a_6 [Value.string s] ∧ Br (decide ((↑(ByteArray.size s) : Int) ≤ (16 : Int))) (((0 : Int) ≤ p.fst.snd.snd.fst ∧ p.fst.snd.snd.fst < (↑n : Int)) ∧ PtrK a fun (A : Addr) ↦ PtrK (some (Addr.add A (Int.toNat p.fst.snd.snd.fst * (4 : Nat)))) fun (a_7 : Addr) ↦ PtrK (some (Addr.add a_7 (0 : Nat))) fun (a_8 : Addr) ↦ ∃ (n_3 : Int), Heap.has H a_8 [Value.int IntKind.i64 n_3] ∧ ∀ (v : Value) (H' : Nat → Option Obj), H ≤ H' → (∀ (b : Nat), blockOf v = some b → H b = none) → (∀ (b : Nat) (o : Obj), H' b = some o → H b = some o ∨ blockOf v = some b) → RowAt H' v (3 : Nat) (1 : Nat) p.fst.snd.fst → Meets prog (57 : Nat) [v, Value.int IntKind.i64 n_3] H' fun (e : Ending) (H' : Nat → Option Obj) ↦ ∃ (b : Bool), e = Ending.returned (Value.bool b) ∧ ∃ (es : List (List Value)), RowAt H' v (3 : Nat) (1 : Nat) es ∧ Br (!b) (((0 : Int) ≤ p.fst.snd.snd.fst ∧ p.fst.snd.snd.fst < (↑n : Int)) ∧ PtrK a fun (A : Addr) ↦ PtrK (some (Addr.add A (Int.toNat p.fst.snd.snd.fst * (4 : Nat)))) fun (a_13 : Addr) ↦ ∃ (n_4 : Int), ∃ (n_5 : Int), ∃ (n_6 : Int), ∃ (s : ByteArray), Heap.has (Heap.delO H' (blockOf v)) a_13 [Value.int IntKind.i64 n_4, Value.int IntKind.u32 n_5, Value.int IntKind.u32 n_6, Value.string s] ∧ ((0 : Int) ≤ p.fst.snd.snd.fst ∧ p.fst.snd.snd.fst < (↑n : Int)) ∧ PtrK a fun (A : Addr) ↦ PtrK (some (Addr.add A (Int.toNat p.fst.snd.snd.fst * (4 : Nat)))) fun (a_14 : Addr) ↦ PtrK (some (Addr.add a_14 (0 : Nat))) fun (a_15 : Addr) ↦ ∃ (n_7 : Int), Heap.has (Heap.delO H' (blockOf v)) a_15 [Value.int IntKind.i64 n_7] ∧ List.length (List.append p.fst.fst [[Value.int IntKind.i64 n_4, Value.int IntKind.u32 n_5, Value.int IntKind.u32 n_6, Value.string s]]) * (32 : Nat) ≤ (140737488355328 : Nat) ∧ List.length (List.append es [[Value.int IntKind.i64 n_7]]) * (8 : Nat) ≤ (140737488355328 : Nat) ∧ a = a ∧ n = n ∧ c = c ∧ most = most ∧ (none : Option Addr) = none ∧ (0 : Nat) = (0 : Nat) ∧ (0 : Nat) = (0 : Nat) ∧ K ((List.append p.fst.fst [[Value.int IntKind.i64 n_4, Value.int IntKind.u32 n_5, Value.int IntKind.u32 n_6, Value.string s]], List.append es [[Value.int IntKind.i64 n_7]], IntKind.wrap IntKind.i64 (p.fst.snd.snd.fst + (1 : Int)), PUnit.unit), PUnit.unit) (Heap.delO H' (blockOf v))) (a = a ∧ n = n ∧ c = c ∧ most = most ∧ (none : Option Addr) = none ∧ (0 : Nat) = (0 : Nat) ∧ (0 : Nat) = (0 : Nat) ∧ K ((p.fst.fst, es, IntKind.wrap IntKind.i64 (p.fst.snd.snd.fst + (1 : Int)), PUnit.unit), PUnit.unit) (Heap.delO H' (blockOf v)))) (a = a ∧ n = n ∧ c = c ∧ most = most ∧ (none : Option Addr) = none ∧ (0 : Nat) = (0 : Nat) ∧ (0 : Nat) = (0 : Nat) ∧ K ((p.fst.fst, p.fst.snd.fst, IntKind.wrap IntKind.i64 (p.fst.snd.snd.fst + (1 : Int)), PUnit.unit), PUnit.unit) H)) (a = a ∧ n = n ∧ c = c ∧ most = most ∧ (none : Option Addr) = none ∧ (0 : Nat) = (0 : Nat) ∧ (0 : Nat) = (0 : Nat) ∧ K ((p.fst.fst, p.fst.snd.fst, IntKind.wrap IntKind.i64 (p.fst.snd.snd.fst + (1 : Int)), PUnit.unit), PUnit.unit) H)) (a = a ∧ n = n ∧ c = c ∧ most = most ∧ (none : Option Addr) = none ∧ (0 : Nat) = (0 : Nat) ∧ (0 : Nat) = (0 : Nat) ∧ K ((p.fst.fst, p.fst.snd.fst, IntKind.wrap IntKind.i64 (p.fst.snd.snd.fst + (1 : Int)), PUnit.unit), PUnit.unit) H)) (∀ (v : Value) (H' : Nat → Option Obj), H ≤ H' → (∀ (b : Nat), blockOf v = some b → H b = none) → (∀ (b : Nat) (o : Obj), H' b = some o → H b = some o ∨ blockOf v = some b) → RowAt H' v (28 : Nat) (4 : Nat) p.fst.fst → R (Ending.returned v) H')) (∀ (v : Value) (H' : Nat → Option Obj), H ≤ H' → (∀ (b : Nat), blockOf v = some b → H b = none) → (∀ (b : Nat) (o : Obj), H' b = some o → H b = some o ∨ blockOf v = some b) → RowAt H' v (28 : Nat) (4 : Nat) p.fst.fst → R (Ending.returned v) H')) (([], [], (0 : Int), PUnit.unit), PUnit.unit) H
theorem vc_once (a : Option Addr) (n : Nat) (c : Nat) (most : Int) (R : Ending → Heap → Prop) (H : Heap) : vcFun prog h_once f21 [SV.c (SC.v (Value.slice a n c)), SV.c (SC.v (Value.int IntKind.i64 most))] R H = nf_once a n c most R H := by kernel_rfl

def nf_rsort (a : Option Addr) (n : Nat) (c : Nat) (R : Ending → Heap → Prop) (H : Heap) : Prop := a = a ∧ n = n ∧ c = c ∧ (none : Option Addr) = none ∧ (0 : Nat) = (0 : Nat) ∧ (0 : Nat) = (0 : Nat) ∧ LoopP (fun (K : (List (List Value) × Int × PUnit) × PUnit → (Nat → Option Obj) → Prop) (p : (List (List Value) × Int × PUnit) × PUnit) (H : Nat → Option Obj) ↦ Br (decide (p.fst.snd.fst < (↑n : Int))) (a = a ∧ n = n ∧ c = c ∧ (none : Option Addr) = none ∧ (0 : Nat) = (0 : Nat) ∧ (0 : Nat) = (0 : Nat) ∧ p.fst.snd.fst = p.fst.snd.fst ∧ LoopP (fun (K_1 : (List (List Value) × Int × PUnit) × PUnit → (Nat → Option Obj) → Prop) (p_1 : (List (List Value) × Int × PUnit) × PUnit) (H : Nat → Option Obj) ↦ Br (decide (p_1.fst.snd.fst > (0 : Int))) (((0 : Int) ≤ IntKind.wrap IntKind.i64 (p_1.fst.snd.fst - (1 : Int)) ∧ IntKind.wrap IntKind.i64 (p_1.fst.snd.fst - (1 : Int)) < (↑(List.length p_1.fst.fst) : Int)) ∧ ∃ (n_1 : Int), (∃ (e : List Value), List.get?Internal p_1.fst.fst (Int.toNat (IntKind.wrap IntKind.i64 (p_1.fst.snd.fst - (1 : Int)))) = some e ∧ List.take (1 : Nat) (List.drop (0 : Nat) e) = [Value.int IntKind.i64 n_1]) ∧ ((0 : Int) ≤ p.fst.snd.fst ∧ p.fst.snd.fst < (↑n : Int)) ∧ PtrK a fun (A : Addr) ↦ PtrK (some (Addr.add A (Int.toNat p.fst.snd.fst * (4 : Nat)))) fun (a_1 : Addr) ↦ PtrK (some (Addr.add a_1 (0 : Nat))) fun (a_2 : Addr) ↦ ∃ (n_2 : Int), Heap.has H a_2 [Value.int IntKind.i64 n_2] ∧ Br (decide (n_1 > n_2)) (a = a ∧ n = n ∧ c = c ∧ (none : Option Addr) = none ∧ (0 : Nat) = (0 : Nat) ∧ (0 : Nat) = (0 : Nat) ∧ p.fst.snd.fst = p.fst.snd.fst ∧ K_1 ((p_1.fst.fst, IntKind.wrap IntKind.i64 (p_1.fst.snd.fst - (1 : Int)), PUnit.unit), PUnit.unit) H) (((0 : Int) ≤ p_1.fst.snd.fst ∧ p_1.fst.snd.fst ≤ (↑(List.length p_1.fst.fst) : Int)) ∧ ((0 : Int) ≤ p.fst.snd.fst ∧ p.fst.snd.fst < (↑n : Int)) ∧ PtrK a fun (A : Addr) ↦ PtrK (some (Addr.add A (Int.toNat p.fst.snd.fst * (4 : Nat)))) fun (a_3 : Addr) ↦ ∃ (n_3 : Int), ∃ (n_4 : Int), ∃ (n_5 : Int), ∃ (s : ByteArray), Heap.has H a_3 [Value.int IntKind.i64 n_3, Value.int IntKind.u32 n_4, Value.int IntKind.u32 n_5, Value.string s] ∧ ((0 : Int) ≤ p_1.fst.snd.fst ∧ p_1.fst.snd.fst ≤ (↑(List.length p_1.fst.fst) : Int)) ∧ List.length (List.take (Int.toNat p_1.fst.snd.fst - (0 : Nat)) (List.drop (0 : Nat) p_1.fst.fst)) * (32 : Nat) ≤ (140737488355328 : Nat) ∧ List.length (List.append (List.take (Int.toNat p_1.fst.snd.fst - (0 : Nat)) (List.drop (0 : Nat) p_1.fst.fst)) [[Value.int IntKind.i64 n_3, Value.int IntKind.u32 n_4, Value.int IntKind.u32 n_5, Value.string s]]) * (32 : Nat) ≤ (140737488355328 : Nat) ∧ List.length (List.append (List.append (List.take (Int.toNat p_1.fst.snd.fst - (0 : Nat)) (List.drop (0 : Nat) p_1.fst.fst)) [[Value.int IntKind.i64 n_3, Value.int IntKind.u32 n_4, Value.int IntKind.u32 n_5, Value.string s]]) (List.take (List.length p_1.fst.fst - Int.toNat p_1.fst.snd.fst) (List.drop (Int.toNat p_1.fst.snd.fst) p_1.fst.fst))) * (32 : Nat) ≤ (140737488355328 : Nat) ∧ a = a ∧ n = n ∧ c = c ∧ (none : Option Addr) = none ∧ (0 : Nat) = (0 : Nat) ∧ (0 : Nat) = (0 : Nat) ∧ K ((List.append (List.append (List.take (Int.toNat p_1.fst.snd.fst - (0 : Nat)) (List.drop (0 : Nat) p_1.fst.fst)) [[Value.int IntKind.i64 n_3, Value.int IntKind.u32 n_4, Value.int IntKind.u32 n_5, Value.string s]]) (List.take (List.length p_1.fst.fst - Int.toNat p_1.fst.snd.fst) (List.drop (Int.toNat p_1.fst.snd.fst) p_1.fst.fst)), IntKind.wrap IntKind.i64 (p.fst.snd.fst + (1 : Int)), PUnit.unit), PUnit.unit) H)) (((0 : Int) ≤ p_1.fst.snd.fst ∧ p_1.fst.snd.fst ≤ (↑(List.length p_1.fst.fst) : Int)) ∧ ((0 : Int) ≤ p.fst.snd.fst ∧ p.fst.snd.fst < (↑n : Int)) ∧ PtrK a fun (A : Addr) ↦ PtrK (some (Addr.add A (Int.toNat p.fst.snd.fst * (4 : Nat)))) fun (a_1 : Addr) ↦ ∃ (n_1 : Int), ∃ (n_2 : Int), ∃ (n_3 : Int), ∃ (s : ByteArray), Heap.has H a_1 [Value.int IntKind.i64 n_1, Value.int IntKind.u32 n_2, Value.int IntKind.u32 n_3, Value.string s] ∧ ((0 : Int) ≤ p_1.fst.snd.fst ∧ p_1.fst.snd.fst ≤ (↑(List.length p_1.fst.fst) : Int)) ∧ List.length (List.take (Int.toNat p_1.fst.snd.fst - (0 : Nat)) (List.drop (0 : Nat) p_1.fst.fst)) * (32 : Nat) ≤ (140737488355328 : Nat) ∧ List.length (List.append (List.take (Int.toNat p_1.fst.snd.fst - (0 : Nat)) (List.drop (0 : Nat) p_1.fst.fst)) [[Value.int IntKind.i64 n_1, Value.int IntKind.u32 n_2, Value.int IntKind.u32 n_3, Value.string s]]) * (32 : Nat) ≤ (140737488355328 : Nat) ∧ List.length (List.append (List.append (List.take (Int.toNat p_1.fst.snd.fst - (0 : Nat)) (List.drop (0 : Nat) p_1.fst.fst)) [[Value.int IntKind.i64 n_1, Value.int IntKind.u32 n_2, Value.int IntKind.u32 n_3, Value.string s]]) (List.take (List.length p_1.fst.fst - Int.toNat p_1.fst.snd.fst) (List.drop (Int.toNat p_1.fst.snd.fst) p_1.fst.fst))) * (32 : Nat) ≤ (140737488355328 : Nat) ∧ a = a ∧ n = n ∧ c = c ∧ (none : Option Addr) = none ∧ (0 : Nat) = (0 : Nat) ∧ (0 : Nat) = (0 : Nat) ∧ K ((List.append (List.append (List.take (Int.toNat p_1.fst.snd.fst - (0 : Nat)) (List.drop (0 : Nat) p_1.fst.fst)) [[Value.int IntKind.i64 n_1, Value.int IntKind.u32 n_2, Value.int IntKind.u32 n_3, Value.string s]]) (List.take (List.length p_1.fst.fst - Int.toNat p_1.fst.snd.fst) (List.drop (Int.toNat p_1.fst.snd.fst) p_1.fst.fst)), IntKind.wrap IntKind.i64 (p.fst.snd.fst + (1 : Int)), PUnit.unit), PUnit.unit) H)) ((p.fst.fst, (↑(List.length p.fst.fst) : Int), PUnit.unit), PUnit.unit) H) (∀ (v : Value) (H' : Nat → Option Obj), H ≤ H' → (∀ (b : Nat), blockOf v = some b → H b = none) → (∀ (b : Nat) (o : Obj), H' b = some o → H b = some o ∨ blockOf v = some b) → RowAt H' v (28 : Nat) (4 : Nat) p.fst.fst → R (Ending.returned v) H')) (([], (0 : Int), PUnit.unit), PUnit.unit) H
theorem vc_rsort (a : Option Addr) (n : Nat) (c : Nat) (R : Ending → Heap → Prop) (H : Heap) : vcFun prog h_rsort f30 [SV.c (SC.v (Value.slice a n c))] R H = nf_rsort a n c R H := by kernel_rfl


theorem le_delO {H H' : Heap} {v : Value} (h : H ≤ H') (hn : ∀ b, blockOf v = some b → H b = none) : H ≤ H'.delO (blockOf v) := fun b o e => by
  cases hb : blockOf v with
  | none => exact h b o e
  | some b' =>
    show (if b = b' then none else H' b) = some o
    rw [if_neg (by rintro rfl; rw [hn b hb] at e; cases e)]
    exact h b o e
theorem fresh_le {H H' : Heap} {v : Value} (h : H ≤ H') (hn : ∀ b, blockOf v = some b → H' b = none) : ∀ b, blockOf v = some b → H b = none := fun b hb => by
  cases e : H b with
  | none => rfl
  | some o => have := h b o e; rw [hn b hb] at this; cases this
instance (p : Pt) : Decidable (ptOK p) := by unfold ptOK; infer_instance
/-- Points that may be, the first of each Id, at most so many. -/
def onceStep (most : Int) (acc : List Pt) (p : Pt) : List Pt := if (acc.length : Int) < most ∧ ptOK p ∧ p.id ∉ acc.map Pt.id then acc ++ [p] else acc
def onceP (most : Int) (l : List Pt) : List Pt := l.foldl (onceStep most) []
structure OnceOK (most : Int) (l acc : List Pt) : Prop where
  ok : ∀ p ∈ acc, ptOK p
  dist : (acc.map Pt.id).Nodup
  few : acc = [] ∨ (acc.length : Int) ≤ most
  mem : ∀ p ∈ acc, p ∈ l
theorem onceP_snoc (most : Int) (l : List Pt) (p : Pt) : onceP most (l ++ [p]) = onceStep most (onceP most l) p := by simp [onceP, List.foldl_append]
theorem once_step {most : Int} {l acc : List Pt} (h : OnceOK most l acc) (p : Pt) : OnceOK most (l ++ [p]) (onceStep most acc p) := by
  unfold onceStep
  split
  · rename_i hc
    refine ⟨fun q hq => ?_, ?_, .inr (by simp; omega), fun q hq => ?_⟩
    · rcases List.mem_append.1 hq with hq | hq
      · exact h.ok q hq
      · simp at hq; subst hq; exact hc.2.1
    · rw [List.map_append, List.nodup_append]
      exact ⟨h.dist, by simp, fun a ha b hb => by simp at hb; subst hb; rintro rfl; exact hc.2.2 ha⟩
    · rcases List.mem_append.1 hq with hq | hq
      · exact List.mem_append_left _ (h.mem q hq)
      · exact List.mem_append_right _ hq
  · exact ⟨h.ok, h.dist, h.few, fun q hq => List.mem_append_left _ (h.mem q hq)⟩
theorem once_ok (most : Int) (l : List Pt) : OnceOK most l (onceP most l) := by
  suffices H : ∀ (r l acc : List Pt), OnceOK most l acc → OnceOK most (l ++ r) (r.foldl (onceStep most) acc) by
    have := H l [] [] ⟨by simp, by simp, .inl rfl, by simp⟩
    simpa [onceP] using this
  intro r
  induction r with
  | nil => intro l acc h; simpa using h
  | cons p r ih =>
    intro l acc h
    have := ih (l ++ [p]) _ (once_step h p)
    simpa using this
theorem onceP_len (most : Int) (l : List Pt) : (onceP most l).length ≤ l.length := by
  suffices H : ∀ (r acc : List Pt), (r.foldl (onceStep most) acc).length ≤ acc.length + r.length by simpa [onceP] using H l []
  intro r
  induction r with
  | nil => simp
  | cons p r ih =>
    intro acc
    have h1 := ih (onceStep most acc p)
    have h2 : (onceStep most acc p).length ≤ acc.length + 1 := by unfold onceStep; split <;> simp
    simp only [List.foldl_cons, List.length_cons]
    omega
theorem once_full {most : Int} {acc : List Pt} (h : most ≤ acc.length) (r : List Pt) : r.foldl (onceStep most) acc = acc := by
  induction r with
  | nil => rfl
  | cons p r ih => rw [List.foldl_cons]; unfold onceStep; rw [if_neg (by omega)]; exact ih
theorem has_first {H : Heap} {A : Addr} {x : Value} {l : List Value} (g : H.has A (x :: l)) : H.has A [x] := fun j y hj => g j y (by
  cases j with
  | zero => simpa using hj
  | succ j => simp at hj)
theorem has_one {H : Heap} {A : Addr} {l : List Value} {k : Nat} {x : Value} (g : H.has A l) (h : l[k]? = some x) (hs : A.spot = none) : H.has (A.add k) [x] := fun j y hj => by
  cases j with
  | zero => simp at hj; subst hj; rw [add0]; exact g k _ h
  | succ j => simp at hj
section
variable {R : Ending → Heap → Prop} {H : Heap}
theorem pr_fld {a : Option Addr} {n c : Nat} {l : List Pt} (h : SliceAt H (.slice a n c) 4 (pts l)) {i : Nat} {p : Pt} (he : l[i]? = some p) :
    ∃ A, a = some A ∧ H.has (A.add (i * 4)) (ptC p) ∧ H.has ((A.add (i * 4)).add 0) [vi p.id] ∧ H.has ((A.add (i * 4)).add 1) [.int .u32 p.x] ∧ H.has ((A.add (i * 4)).add 2) [.int .u32 p.y] ∧ H.has ((A.add (i * 4)).add 3) [.string p.data] := by
  obtain ⟨A, h1, h0, h2⟩ := slice_get h (i := i) (e := ptC p) (by simp [pts, he])
  have hs : (A.add (i * 4)).spot = none := by rw [add_spot h0]
  exact ⟨A, h1, h2, has_one h2 rfl hs, has_one h2 rfl hs, has_one h2 rfl hs, has_one h2 rfl hs⟩
theorem s_once {v : Value} {l : List Pt} {most : Int} (h : SliceAt H v 4 (pts l)) (hm : most ≤ 1000000) (hl : l.length ≤ 10000000000000) (k : ∀ v H', H ≤ H' → (∀ b, blockOf v = some b → H b = none) → RowAt H' v tPt 4 (pts (onceP most l)) → R (.returned v) H') :
    Meets prog 21 [v, vi most] H R := by
  obtain ⟨a, n, c, e, hn⟩ := h
  subst e
  have h : SliceAt H (.slice a n c) 4 (pts l) := ⟨a, n, c, rfl, hn⟩
  have hln : l.length = n := by simpa [pts] using hn.1
  refine spec_of func21 (by kernel_rfl) (fun t h => by cases h) ?_ (vc_once a n c most R H) ?_
  · simp [argsR, SV.rep, SC.rep, one]
  unfold nf_once
  simp only [true_and]
  refine ⟨fun p H' => ∃ t : Nat, p.1.1 = pts (onceP most (l.take t)) ∧ p.1.2.1 = cells ((onceP most (l.take t)).map Pt.id) ∧ p.1.2.2.1 = (t : Int) ∧ t ≤ n ∧ H ≤ H', fun p _ => (n - p.1.2.2.1).toNat, ⟨0, by simp [onceP], by simp [onceP], rfl, by omega, heap_refl _⟩, ?_⟩
  rintro ⟨⟨e1, e2, i, _⟩, _⟩ H1 ⟨t, h1, h2, hi, ht, hle⟩
  simp only at h1 h2 hi ⊢
  subst h1; subst h2; subst hi
  have hok := once_ok most (l.take t)
  generalize hacc : onceP most (l.take t) = acc at *
  have hpl : (pts acc).length = acc.length := by simp [pts]
  have hfew : acc.length ≤ 1000000 := by rcases hok.few with h | h; simp [h]; omega
  have h' := slice_le h hle
  have fin : onceP most l = acc → ∀ (v : Value) (H' : Heap), H1 ≤ H' → (∀ b, blockOf v = some b → H1 b = none) → (∀ (b : Nat) (o : Obj), H' b = some o → H1 b = some o ∨ blockOf v = some b) → RowAt H' v tPt 4 (pts acc) → R (.returned v) H' := fun e v H' a b _ d => by
    rw [e] at k
    exact k v H' (heap_trans hle a) (fresh_le hle b) d
  refine br (fun q => br (fun q1 => ?_) fun q1 => ?_) fun q => ?_
  · simp only [decide_eq_true_eq] at q q1
    obtain ⟨x, hd, htk, hx⟩ := drop_cons (l := l) (k := t) (by omega)
    obtain ⟨A, e, g, g0, g1, g2, g3⟩ := pr_fld h' (i := t) hx
    subst e
    have hs : onceP most (l.take (t + 1)) = onceStep most acc x := by rw [htk, onceP_snoc, hacc]
    rw [w64 (k := (t : Int) + 1) (by omega), Int.toNat_natCast]
    have skip : ¬ ((acc.length : Int) < most ∧ ptOK x ∧ x.id ∉ acc.map Pt.id) → onceP most (l.take (t + 1)) = acc := fun h => by
      rw [hs]; unfold onceStep; rw [if_neg h]
    refine ⟨⟨by omega, by omega⟩, ptr rfl (ptr rfl (ptr rfl ⟨_, g0, br (fun q2 => ?_) fun q2 => ?_⟩))⟩
    · refine ⟨⟨by omega, by omega⟩, ptr rfl (ptr rfl (ptr rfl ⟨_, g0, br (fun q3 => ?_) fun q3 => ?_⟩))⟩
      · refine ⟨⟨by omega, by omega⟩, ptr rfl (ptr rfl (ptr rfl ⟨_, g3, br (fun q4 => ?_) fun q4 => ?_⟩))⟩
        · refine ⟨⟨by omega, by omega⟩, ptr rfl (ptr rfl (ptr rfl ⟨_, g0, fun v H2 f1 f2 f3 f4 => ?_⟩))⟩
          refine s_in (row_slice f4) (by simpa using hfew) ⟨_, rfl, _, f4, ?_⟩
          have hle2 := le_delO (heap_trans hle f1) (fresh_le hle f2)
          have h2 := slice_le h hle2
          obtain ⟨A', e, g', g0', _⟩ := pr_fld h2 (i := t) hx
          cases e
          simp only [decide_eq_true_eq] at q2 q3 q4
          refine br (fun q5 => ?_) fun q5 => ?_
          · have e : onceP most (l.take (t + 1)) = acc ++ [x] := by
              rw [hs]; unfold onceStep
              rw [if_pos ⟨by simpa [pts] using q1, ⟨by omega, by omega, by omega⟩, by simpa using q5⟩]
            refine ⟨⟨by omega, by omega⟩, ptr rfl (ptr rfl ⟨_, _, _, _, g', ⟨by omega, by omega⟩, ptr rfl (ptr rfl (ptr rfl ⟨_, g0', ?_, ?_, ⟨t + 1, ?_, ?_, by omega, by omega, hle2⟩, by omega⟩))⟩)⟩
            · simp [pts]; omega
            · simp [cells]; omega
            · rw [e]; simp [pts]
            · rw [e]; simp [cells]
          · have e := skip (by simp at q5 ⊢; intros; exact q5)
            exact ⟨⟨t + 1, by rw [e], by rw [e], by omega, by omega, hle2⟩, by omega⟩
        · have e := skip (by simp [ptOK] at q4 ⊢; intros; omega)
          exact ⟨⟨t + 1, by rw [e], by rw [e], by omega, by omega, hle⟩, by omega⟩
      · have e := skip (by simp [ptOK] at q3 ⊢; intros; omega)
        exact ⟨⟨t + 1, by rw [e], by rw [e], by omega, by omega, hle⟩, by omega⟩
    · have e := skip (by simp [ptOK] at q2 ⊢; intros; omega)
      exact ⟨⟨t + 1, by rw [e], by rw [e], by omega, by omega, hle⟩, by omega⟩
  · simp only [decide_eq_false_iff_not] at q1
    refine fin ?_
    have : onceP most l = (l.drop t).foldl (onceStep most) acc := by
      rw [← hacc]; unfold onceP; rw [← List.foldl_append, List.take_append_drop]
    rw [this, once_full (by simpa [pts] using q1)]
  · simp only [decide_eq_false_iff_not] at q
    refine fin ?_
    rw [← hacc, List.take_of_length_le (by omega)]
theorem s_rsort {v : Value} {l : List Pt} (h : SliceAt H v 4 (pts l)) (hl : l.length ≤ 1000000) (k : ∀ v H', H ≤ H' → (∀ b, blockOf v = some b → H b = none) → RowAt H' v tPt 4 (pts (sortP l)) → R (.returned v) H') :
    Meets prog 30 [v] H R := by
  obtain ⟨a, n, c, e, hn⟩ := h
  subst e
  have h : SliceAt H (.slice a n c) 4 (pts l) := ⟨a, n, c, rfl, hn⟩
  have hln : l.length = n := by simpa [pts] using hn.1
  refine spec_of func30 (by kernel_rfl) (fun t h => by cases h) ?_ (vc_rsort a n c R H) ?_
  · simp [argsR, SV.rep, SC.rep, one]
  unfold nf_rsort
  simp only [true_and]
  refine ⟨fun p H' => ∃ t : Nat, p.1.1 = pts (sortP (l.take t)) ∧ p.1.2.1 = (t : Int) ∧ t ≤ n ∧ H' = H, fun p _ => (n - p.1.2.1).toNat, ⟨0, by simp [sortP, isort], rfl, by omega, rfl⟩, ?_⟩
  rintro ⟨⟨e1, i, _⟩, _⟩ H1 ⟨t, h1, hi, ht, rfl⟩
  simp only at h1 hi ⊢
  subst h1; subst hi
  refine br (fun q => ?_) fun q => ?_
  · simp only [decide_eq_true_eq] at q
    obtain ⟨x, hd, htk, hx⟩ := drop_cons (l := l) (k := t) (by omega)
    obtain ⟨A, e, g, g0, g1, g2, g3⟩ := pr_fld h (i := t) hx
    subst e
    have hs : sortP (l.take (t + 1)) = insR ltI x (sortP (l.take t)) := by rw [htk]; exact isort_snoc _ _
    have hsl : (sortP (l.take t)).length = t := by rw [sortP_len, List.length_take]; omega
    have hsr : Srtd ltI (sortP (l.take t)) := isort_srtd swo_I _
    generalize sortP (l.take t) = S at *
    refine ⟨fun p H' => ∃ j : Nat, p.1.1 = pts S ∧ p.1.2.1 = (j : Int) ∧ j ≤ t ∧ (∀ y ∈ S.drop j, ltI x y = true) ∧ H' = H1, fun p _ => p.1.2.1.toNat, ⟨t, rfl, by simp [pts, hsl], by omega, by rw [List.drop_of_length_le (by omega)]; simp, rfl⟩, ?_⟩
    rintro ⟨⟨e1, j, _⟩, _⟩ H2 ⟨j, h1, hj, hjt, hgt, rfl⟩
    simp only at h1 hj ⊢
    subst h1; subst hj
    have fin : (∀ y ∈ S.take j, ltI x y = false) → List.append (List.append (List.take ((j : Int).toNat - 0) (List.drop 0 (pts S))) [[.int .i64 x.id, .int .u32 x.x, .int .u32 x.y, .string x.data]]) (List.take ((pts S).length - (j : Int).toNat) (List.drop (j : Int).toNat (pts S))) = pts (sortP (l.take (t + 1))) := fun hlo => by
      have := insR_at x (S.take j) (S.drop j) hlo hgt
      rw [List.take_append_drop] at this
      rw [hs, this]
      have e : (pts S).length - j = (List.drop j (pts S)).length := by simp
      simp only [Int.toNat_natCast, Nat.sub_zero, List.drop_zero]
      rw [e, List.take_length]
      simp [pts]
    have lens : ((pts S).length : Int) = t := by simp [pts, hsl]
    have l1 : (List.take ((j : Int).toNat - 0) (List.drop 0 (pts S))).length = j := by simp [pts, hsl]; omega
    have l2 : (List.append (List.take ((j : Int).toNat - 0) (List.drop 0 (pts S))) [[.int .i64 x.id, .int .u32 x.x, .int .u32 x.y, .string x.data]]).length = j + 1 := by
      rw [show ∀ a b : List (List Value), List.append a b = a ++ b from fun _ _ => rfl, List.length_append, l1]; rfl
    have last : (∀ y ∈ S.take j, ltI x y = false) → (0 ≤ (t : Int) ∧ (t : Int) < n) → (List.take ((j : Int).toNat - 0) (List.drop 0 (pts S))).length * 32 ≤ 140737488355328 ∧
        (List.append (List.take ((j : Int).toNat - 0) (List.drop 0 (pts S))) [[.int .i64 x.id, .int .u32 x.x, .int .u32 x.y, .string x.data]]).length * 32 ≤ 140737488355328 ∧
        (List.append (List.append (List.take ((j : Int).toNat - 0) (List.drop 0 (pts S))) [[.int .i64 x.id, .int .u32 x.x, .int .u32 x.y, .string x.data]]) (List.take ((pts S).length - (j : Int).toNat) (List.drop (j : Int).toNat (pts S)))).length * 32 ≤ 140737488355328 := fun hlo _ => by
      rw [l1, l2, fin hlo]
      have : (pts (sortP (l.take (t + 1)))).length = t + 1 := by simp [pts, sortP_len]; omega
      rw [this]; omega
    have step : (∀ y ∈ S.take j, ltI x y = false) → ∃ t', List.append (List.append (List.take ((j : Int).toNat - 0) (List.drop 0 (pts S))) [[.int .i64 x.id, .int .u32 x.x, .int .u32 x.y, .string x.data]]) (List.take ((pts S).length - (j : Int).toNat) (List.drop (j : Int).toNat (pts S))) = pts (sortP (l.take t')) ∧ IntKind.i64.wrap ((t : Int) + 1) = (t' : Int) ∧ t' ≤ n ∧ True := fun hlo => ⟨t + 1, fin hlo, by rw [w64 (by omega)]; omega, by omega, trivial⟩
    have meas : ((n : Int) - IntKind.i64.wrap ((t : Int) + 1)).toNat < ((n : Int) - t).toNat := by rw [w64 (by omega)]; omega
    refine br (fun q1 => ?_) fun q1 => ?_
    · simp only [decide_eq_true_eq] at q1
      obtain ⟨u, rfl⟩ : ∃ u, j = u + 1 := ⟨j - 1, by omega⟩
      have hy : S[u]? = some S[u] := List.getElem?_eq_getElem (by omega)
      have hw : IntKind.i64.wrap (((u + 1 : Nat) : Int) - 1) = u := by rw [w64 (by omega)]; omega
      rw [hw]
      refine ⟨⟨by omega, by omega⟩, S[u].id, ⟨ptC S[u], ?_, rfl⟩, ⟨by omega, by omega⟩, ptr rfl (ptr rfl (ptr rfl ⟨_, g0, br (fun q2 => ?_) fun q2 => ?_⟩))⟩
      · show (pts S)[(u : Int).toNat]? = _
        simp [pts, hy]
      · simp only [decide_eq_true_eq] at q2
        refine ⟨⟨u, rfl, by omega, by omega, fun y hy' => ?_, by trivial⟩, by omega⟩
        rw [List.drop_eq_getElem_cons (by omega)] at hy'
        rcases List.mem_cons.1 hy' with rfl | hy'
        · simpa using q2
        · exact hgt y hy'
      · simp only [decide_eq_false_iff_not] at q2
        have hlo : ∀ y ∈ S.take (u + 1), ltI x y = false := fun y hy' => by
          obtain ⟨i, hi, rfl⟩ := List.mem_take_iff_getElem.1 hy'
          simp only [decide_eq_false_iff_not]
          rcases Nat.lt_or_ge i u with hlt | hge
          · have := List.pairwise_iff_getElem.1 hsr i u (by omega) (by omega) hlt
            simp at this
            omega
          · have : i = u := by omega
            subst this; omega
        refine ⟨⟨by omega, by omega⟩, ⟨by omega, by omega⟩, ptr rfl (ptr rfl ⟨_, _, _, _, g, ⟨by omega, by omega⟩, (last hlo ⟨by omega, by omega⟩).1, (last hlo ⟨by omega, by omega⟩).2.1, (last hlo ⟨by omega, by omega⟩).2.2, step hlo, meas⟩)⟩
    · simp only [decide_eq_false_iff_not] at q1
      have hj0 : j = 0 := by omega
      have hlo : ∀ y ∈ S.take j, ltI x y = false := by subst hj0; simp
      exact ⟨⟨by omega, by omega⟩, ⟨by omega, by omega⟩, ptr rfl (ptr rfl ⟨_, _, _, _, g, ⟨by omega, by omega⟩, (last hlo ⟨by omega, by omega⟩).1, (last hlo ⟨by omega, by omega⟩).2.1, (last hlo ⟨by omega, by omega⟩).2.2, step hlo, meas⟩)⟩
  · simp only [decide_eq_false_iff_not] at q
    rw [List.take_of_length_le (by omega)]
    exact fun v H' a b _ d => k v H' a b d
end
end Cr
