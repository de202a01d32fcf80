/- Own texts, one behind the other: K2, K3, K4, G1, G2, P2, G3, G4. -/
import Derived.IntWalk
import Derived.Test.YtdlkimfkapkjpaaZ4
set_option linter.unusedVariables false
set_option linter.unusedSimpArgs false
namespace Cr
open Go Sx Stb
open Go.Sort (SWO)
open Go.Proofs.Try
set_option linter.unusedSectionVars false
variable [Dr]
set_option maxRecDepth 100000
def h_ins : Hints := { loops := [(1, ⟨[0, 1, 2, 3], [.f 8 (.int .i64)], []⟩), (4, ⟨[0, 1, 2, 3, 8], [.f 9 (.int .i64)], []⟩)] }
def h_swr : Hints := { loops := [(1, ⟨[0, 1, 2, 3, 4], [.f 10 (.int .i64)], []⟩)] }
def h_rot : Hints := { loops := [(2, ⟨[0, 1, 2, 3, 4], [.f 10 (.int .i64), .f 11 (.int .i64)], []⟩)] }
def nf_ins (A : Addr) (n : Nat) (c : Nat) (g : Nat) (a : Int) (b : Int) (R : Ending → Heap → Prop) (H : Heap) : Prop := some A = some A ∧ n = n ∧ c = c ∧ a = a ∧ b = b ∧ Value.func (Fn.func g) { toList := [] } { toList := [] } = Value.func (Fn.func g) { toList := [] } { toList := [] } ∧ LoopP (fun (K : (Int × PUnit) × PUnit → (Nat → Option Obj) → Prop) (p : (Int × PUnit) × PUnit) (H : Nat → Option Obj) ↦ Br (decide (p.fst.fst < b)) (some A = some A ∧ n = n ∧ c = c ∧ a = a ∧ b = b ∧ Value.func (Fn.func g) { toList := [] } { toList := [] } = Value.func (Fn.func g) { toList := [] } { toList := [] } ∧ p.fst.fst = p.fst.fst ∧ LoopP (fun (K_1 : (Int × PUnit) × PUnit → (Nat → Option Obj) → Prop) (p_1 : (Int × PUnit) × PUnit) (H : Nat → Option Obj) ↦ ∃ (G : Nat → Option Obj), G ≤ H ∧ Br (decide (p_1.fst.fst > a)) (((0 : Int) ≤ p_1.fst.fst ∧ p_1.fst.fst < (↑n : Int)) ∧ PtrK (some A) fun (A_1 : Addr) ↦ PtrK (some (Addr.add A_1 (Int.toNat p_1.fst.fst * (4 : Nat)))) fun (a_1 : Addr) ↦ ∃ (n_1 : Int), ∃ (n_2 : Int), ∃ (n_3 : Int), ∃ (s : ByteArray), Heap.has G a_1 [Value.int IntKind.i64 n_1, Value.int IntKind.u32 n_2, Value.int IntKind.u32 n_3, Value.string s] ∧ ((0 : Int) ≤ IntKind.wrap IntKind.i64 (p_1.fst.fst - (1 : Int)) ∧ IntKind.wrap IntKind.i64 (p_1.fst.fst - (1 : Int)) < (↑n : Int)) ∧ PtrK (some A) fun (A_2 : Addr) ↦ PtrK (some (Addr.add A_2 (Int.toNat (IntKind.wrap IntKind.i64 (p_1.fst.fst - (1 : Int))) * (4 : Nat)))) fun (a_2 : Addr) ↦ ∃ (n_4 : Int), ∃ (n_5 : Int), ∃ (n_6 : Int), ∃ (s_1 : ByteArray), Heap.has G a_2 [Value.int IntKind.i64 n_4, Value.int IntKind.u32 n_5, Value.int IntKind.u32 n_6, Value.string s_1] ∧ Meets prog g [Value.agg { toList := [Value.int IntKind.i64 n_1, Value.int IntKind.u32 n_2, Value.int IntKind.u32 n_3, Value.string s] }, Value.agg { toList := [Value.int IntKind.i64 n_4, Value.int IntKind.u32 n_5, Value.int IntKind.u32 n_6, Value.string s_1] }] H fun (e : Ending) (H' : Nat → Option Obj) ↦ Keep G H H H' ∧ ∃ (n_7 : Int), e = Ending.returned (Value.int IntKind.i64 n_7) ∧ Br (decide (n_7 < (0 : Int))) (((0 : Int) ≤ IntKind.wrap IntKind.i64 (p_1.fst.fst - (1 : Int)) ∧ IntKind.wrap IntKind.i64 (p_1.fst.fst - (1 : Int)) < (↑n : Int)) ∧ PtrK (some A) fun (A_3 : Addr) ↦ PtrK (some (Addr.add A_3 (Int.toNat (IntKind.wrap IntKind.i64 (p_1.fst.fst - (1 : Int))) * (4 : Nat)))) fun (a_3 : Addr) ↦ ∃ (n_8 : Int), ∃ (n_9 : Int), ∃ (n_10 : Int), ∃ (s : ByteArray), Heap.has (delLs H' []) a_3 [Value.int IntKind.i64 n_8, Value.int IntKind.u32 n_9, Value.int IntKind.u32 n_10, Value.string s] ∧ ((0 : Int) ≤ p_1.fst.fst ∧ p_1.fst.fst < (↑n : Int)) ∧ PtrK (some A) fun (A_4 : Addr) ↦ PtrK (some (Addr.add A_4 (Int.toNat p_1.fst.fst * (4 : Nat)))) fun (a_4 : Addr) ↦ ∃ (n_11 : Int), ∃ (n_12 : Int), ∃ (n_13 : Int), ∃ (s_2 : ByteArray), Heap.has (delLs H' []) a_4 [Value.int IntKind.i64 n_11, Value.int IntKind.u32 n_12, Value.int IntKind.u32 n_13, Value.string s_2] ∧ ((0 : Int) ≤ p_1.fst.fst ∧ p_1.fst.fst < (↑n : Int)) ∧ PtrK (some A) fun (A_5 : Addr) ↦ PtrK (some (Addr.add A_5 (Int.toNat p_1.fst.fst * (4 : Nat)))) fun (A_6 : Addr) ↦ ∃ (c_1 : Array Value), ∃ (ty : Nat), (delLs H' [] A_6.block = some (Obj.cells c_1 ty) ∧ A_6.spot = none ∧ A_6.off + (4 : Nat) ≤ Array.size c_1) ∧ ((0 : Int) ≤ IntKind.wrap IntKind.i64 (p_1.fst.fst - (1 : Int)) ∧ IntKind.wrap IntKind.i64 (p_1.fst.fst - (1 : Int)) < (↑n : Int)) ∧ PtrK (some A) fun (A_7 : Addr) ↦ PtrK (some (Addr.add A_7 (Int.toNat (IntKind.wrap IntKind.i64 (p_1.fst.fst - (1 : Int))) * (4 : Nat)))) fun (A_8 : Addr) ↦ ∃ (c_2 : Array Value), ∃ (ty_1 : Nat), (Heap.upd (delLs H' ([] ++ ([] ++ ([] ++ ([] ++ ([] ++ []))) ++ ([] ++ ([] ++ ([] ++ ([] ++ []))) ++ [])))) A_6.block (Obj.cells (writeCells c_1 A_6.off [Value.int IntKind.i64 n_8, Value.int IntKind.u32 n_9, Value.int IntKind.u32 n_10, Value.string s]) ty) A_8.block = some (Obj.cells c_2 ty_1) ∧ A_8.spot = none ∧ A_8.off + (4 : Nat) ≤ Array.size c_2) ∧ some A = some A ∧ n = n ∧ c = c ∧ a = a ∧ b = b ∧ Value.func (Fn.func g) { toList := [] } { toList := [] } = Value.func (Fn.func g) { toList := [] } { toList := [] } ∧ p.fst.fst = p.fst.fst ∧ K_1 ((IntKind.wrap IntKind.i64 (p_1.fst.fst - (1 : Int)), PUnit.unit), PUnit.unit) (Heap.upd (Heap.upd (delLs H' []) A_6.block (Obj.cells (writeCells c_1 A_6.off [Value.int IntKind.i64 n_8, Value.int IntKind.u32 n_9, Value.int IntKind.u32 n_10, Value.string s]) ty)) A_8.block (Obj.cells (writeCells c_2 A_8.off [Value.int IntKind.i64 n_11, Value.int IntKind.u32 n_12, Value.int IntKind.u32 n_13, Value.string s_2]) ty_1))) (some A = some A ∧ n = n ∧ c = c ∧ a = a ∧ b = b ∧ Value.func (Fn.func g) { toList := [] } { toList := [] } = Value.func (Fn.func g) { toList := [] } { toList := [] } ∧ K ((IntKind.wrap IntKind.i64 (p.fst.fst + (1 : Int)), PUnit.unit), PUnit.unit) (delLs H' []))) (some A = some A ∧ n = n ∧ c = c ∧ a = a ∧ b = b ∧ Value.func (Fn.func g) { toList := [] } { toList := [] } = Value.func (Fn.func g) { toList := [] } { toList := [] } ∧ K ((IntKind.wrap IntKind.i64 (p.fst.fst + (1 : Int)), PUnit.unit), PUnit.unit) H)) ((p.fst.fst, PUnit.unit), PUnit.unit) H) (R (Ending.returned (Value.tuple { toList := [] })) H)) ((IntKind.wrap IntKind.i64 (a + (1 : Int)), PUnit.unit), PUnit.unit) H
theorem vc_ins (A : Addr) (n : Nat) (c : Nat) (g : Nat) (a : Int) (b : Int) (R : Ending → Heap → Prop) (H : Heap) : vcFun prog h_ins f69 [SV.c (SC.v (Value.slice (some A) n c)), SV.c (SC.v (Value.int IntKind.i64 a)), SV.c (SC.v (Value.int IntKind.i64 b)), SV.c (SC.v (Value.func (Fn.func g) #[] #[]))] R H = nf_ins A n c g a b R H := by kernel_rfl

def nf_swr (A : Addr) (n : Nat) (c : Nat) (g : Nat) (a : Int) (b : Int) (m : Int) (R : Ending → Heap → Prop) (H : Heap) : Prop := some A = some A ∧ n = n ∧ c = c ∧ a = a ∧ b = b ∧ m = m ∧ Value.func (Fn.func g) { toList := [] } { toList := [] } = Value.func (Fn.func g) { toList := [] } { toList := [] } ∧ LoopP (fun (K : (Int × PUnit) × PUnit → (Nat → Option Obj) → Prop) (p : (Int × PUnit) × PUnit) (H : Nat → Option Obj) ↦ Br (decide (p.fst.fst < m)) (((0 : Int) ≤ IntKind.wrap IntKind.i64 (b + p.fst.fst) ∧ IntKind.wrap IntKind.i64 (b + p.fst.fst) < (↑n : Int)) ∧ PtrK (some A) fun (A_1 : Addr) ↦ PtrK (some (Addr.add A_1 (Int.toNat (IntKind.wrap IntKind.i64 (b + p.fst.fst)) * (4 : Nat)))) fun (a_1 : Addr) ↦ ∃ (n_1 : Int), ∃ (n_2 : Int), ∃ (n_3 : Int), ∃ (s : ByteArray), Heap.has H a_1 [Value.int IntKind.i64 n_1, Value.int IntKind.u32 n_2, Value.int IntKind.u32 n_3, Value.string s] ∧ ((0 : Int) ≤ IntKind.wrap IntKind.i64 (a + p.fst.fst) ∧ IntKind.wrap IntKind.i64 (a + p.fst.fst) < (↑n : Int)) ∧ PtrK (some A) fun (A_2 : Addr) ↦ PtrK (some (Addr.add A_2 (Int.toNat (IntKind.wrap IntKind.i64 (a + p.fst.fst)) * (4 : Nat)))) fun (a_2 : Addr) ↦ ∃ (n_4 : Int), ∃ (n_5 : Int), ∃ (n_6 : Int), ∃ (s_1 : ByteArray), Heap.has H a_2 [Value.int IntKind.i64 n_4, Value.int IntKind.u32 n_5, Value.int IntKind.u32 n_6, Value.string s_1] ∧ ((0 : Int) ≤ IntKind.wrap IntKind.i64 (a + p.fst.fst) ∧ IntKind.wrap IntKind.i64 (a + p.fst.fst) < (↑n : Int)) ∧ PtrK (some A) fun (A_3 : Addr) ↦ PtrK (some (Addr.add A_3 (Int.toNat (IntKind.wrap IntKind.i64 (a + p.fst.fst)) * (4 : Nat)))) fun (A_4 : Addr) ↦ ∃ (c_1 : Array Value), ∃ (ty : Nat), (H A_4.block = some (Obj.cells c_1 ty) ∧ A_4.spot = none ∧ A_4.off + (4 : Nat) ≤ Array.size c_1) ∧ ((0 : Int) ≤ IntKind.wrap IntKind.i64 (b + p.fst.fst) ∧ IntKind.wrap IntKind.i64 (b + p.fst.fst) < (↑n : Int)) ∧ PtrK (some A) fun (A_5 : Addr) ↦ PtrK (some (Addr.add A_5 (Int.toNat (IntKind.wrap IntKind.i64 (b + p.fst.fst)) * (4 : Nat)))) fun (A_6 : Addr) ↦ ∃ (c_2 : Array Value), ∃ (ty_1 : Nat), (Heap.upd H A_4.block (Obj.cells (writeCells c_1 A_4.off [Value.int IntKind.i64 n_1, Value.int IntKind.u32 n_2, Value.int IntKind.u32 n_3, Value.string s]) ty) A_6.block = some (Obj.cells c_2 ty_1) ∧ A_6.spot = none ∧ A_6.off + (4 : Nat) ≤ Array.size c_2) ∧ some A = some A ∧ n = n ∧ c = c ∧ a = a ∧ b = b ∧ m = m ∧ Value.func (Fn.func g) { toList := [] } { toList := [] } = Value.func (Fn.func g) { toList := [] } { toList := [] } ∧ K ((IntKind.wrap IntKind.i64 (p.fst.fst + (1 : Int)), PUnit.unit), PUnit.unit) (Heap.upd (Heap.upd H A_4.block (Obj.cells (writeCells c_1 A_4.off [Value.int IntKind.i64 n_1, Value.int IntKind.u32 n_2, Value.int IntKind.u32 n_3, Value.string s]) ty)) A_6.block (Obj.cells (writeCells c_2 A_6.off [Value.int IntKind.i64 n_4, Value.int IntKind.u32 n_5, Value.int IntKind.u32 n_6, Value.string s_1]) ty_1))) (R (Ending.returned (Value.tuple { toList := [] })) H)) (((0 : Int), PUnit.unit), PUnit.unit) H
theorem vc_swr (A : Addr) (n : Nat) (c : Nat) (g : Nat) (a : Int) (b : Int) (m : Int) (R : Ending → Heap → Prop) (H : Heap) : vcFun prog h_swr f90 [SV.c (SC.v (Value.slice (some A) n c)), SV.c (SC.v (Value.int IntKind.i64 a)), SV.c (SC.v (Value.int IntKind.i64 b)), SV.c (SC.v (Value.int IntKind.i64 m)), SV.c (SC.v (Value.func (Fn.func g) #[] #[]))] R H = nf_swr A n c g a b m R H := by kernel_rfl

def nf_rot (A : Addr) (n : Nat) (c : Nat) (g : Nat) (a : Int) (m : Int) (b : Int) (R : Ending → Heap → Prop) (H : Heap) : Prop := some A = some A ∧ n = n ∧ c = c ∧ a = a ∧ m = m ∧ b = b ∧ Value.func (Fn.func g) { toList := [] } { toList := [] } = Value.func (Fn.func g) { toList := [] } { toList := [] } ∧ LoopP (fun (K : (Int × Int × PUnit) × PUnit → (Nat → Option Obj) → Prop) (p : (Int × Int × PUnit) × PUnit) (H : Nat → Option Obj) ↦ Br (p.fst.fst != p.fst.snd.fst) (Br (decide (p.fst.fst > p.fst.snd.fst)) (Meets prog (90 : Nat) [Value.slice (some A) n c, Value.int IntKind.i64 (IntKind.wrap IntKind.i64 (m - p.fst.fst)), Value.int IntKind.i64 m, Value.int IntKind.i64 p.fst.snd.fst, Value.func (Fn.func g) { toList := [] } { toList := [] }] H fun (e : Ending) (H' : Nat → Option Obj) ↦ e = Ending.returned (Value.tuple { toList := [] }) ∧ some A = some A ∧ n = n ∧ c = c ∧ a = a ∧ m = m ∧ b = b ∧ Value.func (Fn.func g) { toList := [] } { toList := [] } = Value.func (Fn.func g) { toList := [] } { toList := [] } ∧ K ((IntKind.wrap IntKind.i64 (p.fst.fst - p.fst.snd.fst), p.fst.snd.fst, PUnit.unit), PUnit.unit) H') (Meets prog (90 : Nat) [Value.slice (some A) n c, Value.int IntKind.i64 (IntKind.wrap IntKind.i64 (m - p.fst.fst)), Value.int IntKind.i64 (IntKind.wrap IntKind.i64 (IntKind.wrap IntKind.i64 (m + p.fst.snd.fst) - p.fst.fst)), Value.int IntKind.i64 p.fst.fst, Value.func (Fn.func g) { toList := [] } { toList := [] }] H fun (e : Ending) (H' : Nat → Option Obj) ↦ e = Ending.returned (Value.tuple { toList := [] }) ∧ some A = some A ∧ n = n ∧ c = c ∧ a = a ∧ m = m ∧ b = b ∧ Value.func (Fn.func g) { toList := [] } { toList := [] } = Value.func (Fn.func g) { toList := [] } { toList := [] } ∧ K ((p.fst.fst, IntKind.wrap IntKind.i64 (p.fst.snd.fst - p.fst.fst), PUnit.unit), PUnit.unit) H')) (Meets prog (90 : Nat) [Value.slice (some A) n c, Value.int IntKind.i64 (IntKind.wrap IntKind.i64 (m - p.fst.fst)), Value.int IntKind.i64 m, Value.int IntKind.i64 p.fst.fst, Value.func (Fn.func g) { toList := [] } { toList := [] }] H fun (e : Ending) (H' : Nat → Option Obj) ↦ e = Ending.returned (Value.tuple { toList := [] }) ∧ R (Ending.returned (Value.tuple { toList := [] })) H')) ((IntKind.wrap IntKind.i64 (m - a), IntKind.wrap IntKind.i64 (b - m), PUnit.unit), PUnit.unit) H
theorem vc_rot (A : Addr) (n : Nat) (c : Nat) (g : Nat) (a : Int) (m : Int) (b : Int) (R : Ending → Heap → Prop) (H : Heap) : vcFun prog h_rot f83 [SV.c (SC.v (Value.slice (some A) n c)), SV.c (SC.v (Value.int IntKind.i64 a)), SV.c (SC.v (Value.int IntKind.i64 m)), SV.c (SC.v (Value.int IntKind.i64 b)), SV.c (SC.v (Value.func (Fn.func g) #[] #[]))] R H = nf_rot A n c g a m b R H := by kernel_rfl

section
variable {R : Ending → Heap → Prop} {H : Heap} {ty : Nat}
theorem w64 {k : Int} (h : -9223372036854775808 ≤ k ∧ k ≤ 9223372036854775807) : IntKind.i64.wrap k = k := IntWalk.i64_in _ (by omega)
theorem s_ins {g : Nat} {cf : Pt → Pt → Int} (hc : CmpOK g cf) (hs : SWO (ltc cf)) {Ad : Addr} {n c : Nat} {A X B : List Pt} {a b : Int} (ha : (A.length : Int) = a) (hb : a + X.length = b)
    (hrow : RowAt H (.slice (some Ad) n c) ty 4 (pts (A ++ X ++ B))) (hn : n ≤ 1000000) (h : ∀ H', RowAt H' (.slice (some Ad) n c) ty 4 (pts (A ++ isort (ltc cf) X ++ B)) → Mod (.slice (some Ad) n c) H H' → R (.returned (.tuple #[])) H') :
    Meets prog 69 [.slice (some Ad) n c, vi a, vi b, .func (.func g) #[] #[]] H R := by
  refine spec_of func69 (by kernel_rfl) (fun t h => by cases h) ?_ (vc_ins Ad n c g a b R H) ?_
  · simp [argsR, SV.rep, SC.rep, one]
  unfold nf_ins
  simp only [true_and, delLs_nil, List.nil_append, List.append_nil]
  have hlen0 := (row_len hrow).1
  simp only [pts, List.length_map, List.length_append] at hlen0
  have hw1 : IntKind.i64.wrap (a + 1) = a + 1 := w64 (by omega)
  rw [hw1]
  refine ⟨fun p H' => ∃ t : Nat, p.1.1 = a + t ∧ 1 ≤ t ∧ (t ≤ X.length ∨ (t = 1 ∧ X = [])) ∧ RowAt H' (.slice (some Ad) n c) ty 4 (pts (A ++ isort (ltc cf) (X.take t) ++ X.drop t ++ B)) ∧ Mod (.slice (some Ad) n c) H H', fun p _ => (b + 2 - p.1.1).toNat, ⟨1, by simp, by omega, ?_, ?_, Mod.refl _ _⟩, ?_⟩
  · cases X <;> simp
  · have : isort (ltc cf) (X.take 1) = X.take 1 := by cases X <;> simp [isort, insR]
    rw [this, List.append_assoc A, List.take_append_drop]
    exact hrow
  rintro ⟨⟨i, _⟩, _⟩ H1 ⟨t, hi, ht1, ht2, hrow1, hmod1⟩
  simp only at hi ⊢
  subst hi
  refine br (fun q => ?_) fun q => ?_
  · simp only [decide_eq_true_eq] at q
    have htl : t < X.length := by omega
    obtain ⟨x, hx⟩ : ∃ x, X[t]? = some x := ⟨X[t], by simp [htl]⟩
    have htake : X.take (t + 1) = X.take t ++ [x] := by rw [List.take_add_one, hx]; rfl
    have hdrop : X.drop t = x :: X.drop (t + 1) := by
      rw [List.drop_eq_getElem_cons htl]
      congr 1
      rw [List.getElem?_eq_getElem htl] at hx
      exact Option.some.inj hx
    have hSl : (isort (ltc cf) (X.take t)).length = t := by rw [isort_len, List.length_take]; omega
    have hSs := isort_srtd hs (X.take t)
    have hstep : isort (ltc cf) (X.take (t + 1)) = insR (ltc cf) x (isort (ltc cf) (X.take t)) := by rw [htake, isort_snoc]
    have hw2 : IntKind.i64.wrap (a + t + 1) = a + ((t + 1 : Nat) : Int) := by rw [w64 (by omega)]; omega
    rw [hw2]
    have hms : (b + 2 - (a + ((t + 1 : Nat) : Int))).toNat < (b + 2 - (a + t)).toNat := by omega
    generalize isort (ltc cf) (X.take t) = S at hSl hSs hstep hrow1
    -- the inner loop
    have done : ∀ (P Q : List Pt) (H2 : Heap), S = P ++ Q → RowAt H2 (.slice (some Ad) n c) ty 4 (pts (A ++ P ++ x :: Q ++ (X.drop (t + 1) ++ B))) → Mod (.slice (some Ad) n c) H H2 → (∀ y ∈ P, ltc cf x y = false) → (∀ y ∈ Q, ltc cf x y = true) →
        (∃ t' : Nat, a + ((t + 1 : Nat) : Int) = a + t' ∧ 1 ≤ t' ∧ (t' ≤ X.length ∨ (t' = 1 ∧ X = [])) ∧ RowAt H2 (.slice (some Ad) n c) ty 4 (pts (A ++ isort (ltc cf) (X.take t') ++ X.drop t' ++ B)) ∧ Mod (.slice (some Ad) n c) H H2) ∧ (b + 2 - (a + ((t + 1 : Nat) : Int))).toNat < (b + 2 - (a + t)).toNat := by
      intro P Q H2 e hr hm h1 h2
      refine ⟨⟨t + 1, rfl, by omega, .inl (by omega), ?_, hm⟩, hms⟩
      rw [hstep, e, insR_at x P Q h1 h2]
      simpa using hr
    refine ⟨fun p H' => ∃ P Q : List Pt, S = P ++ Q ∧ p.1.1 = a + P.length ∧ RowAt H' (.slice (some Ad) n c) ty 4 (pts (A ++ P ++ x :: Q ++ (X.drop (t + 1) ++ B))) ∧ Mod (.slice (some Ad) n c) H H' ∧ (∀ y ∈ Q, ltc cf x y = true), fun p _ => (p.1.1).toNat, ⟨S, [], by simp, by simp [hSl], ?_, hmod1, by simp⟩, ?_⟩
    · rw [hdrop] at hrow1
      simpa using hrow1
    rintro ⟨⟨j, _⟩, _⟩ H2 ⟨P, Q, hPQ, hj, hrow2, hmod2, hQ⟩
    simp only at hj ⊢
    subst hj
    have hPQl : P.length + Q.length = t := by rw [← hSl, hPQ, List.length_append]
    refine ⟨H2, heap_refl _, br (fun q1 => ?_) fun q1 => ?_⟩
    · simp only [decide_eq_true_eq] at q1
      obtain ⟨P', y, rfl⟩ : ∃ P' y, P = P' ++ [y] := by
        cases List.eq_nil_or_concat P with
        | inl h => subst h; simp at q1
        | inr h => obtain ⟨A, z, h⟩ := h; exact ⟨A, z, by simpa using h⟩
      have hl2 : (P' ++ [y]).length = P'.length + 1 := by simp
      rw [hl2] at q1 hPQl ⊢
      have hw3 : IntKind.i64.wrap (a + ((P'.length + 1 : Nat) : Int) - 1) = a + P'.length := by rw [w64 (by omega)]; omega
      rw [hw3]
      have hk1 : (a + ((P'.length + 1 : Nat) : Int)).toNat = (A ++ P').length + 1 := by simp; omega
      have hk0 : (a + (P'.length : Int)).toNat = (A ++ P').length := by simp; omega
      rw [hk1, hk0]
      have hb0 : 0 ≤ a + (P'.length : Int) ∧ a + (P'.length : Int) < n := by omega
      have hb1 : 0 ≤ a + ((P'.length + 1 : Nat) : Int) ∧ a + ((P'.length + 1 : Nat) : Int) < n := by omega
      have hL : A ++ (P' ++ [y]) ++ x :: Q ++ (X.drop (t + 1) ++ B) = (A ++ P') ++ y :: x :: (Q ++ (X.drop (t + 1) ++ B)) := by simp
      rw [hL] at hrow2
      have hsl := row_slice hrow2
      obtain ⟨A1, e1, g1⟩ := pr_get hsl (i := (A ++ P').length + 1) (p := x) (by rw [List.getElem?_append_right (by omega)]; simp)
      obtain ⟨A0, e0, g0⟩ := pr_get hsl (i := (A ++ P').length) (p := y) (get_at rfl)
      cases e1; cases e0
      refine ⟨hb1, ptr rfl (ptr rfl ⟨_, _, _, _, g1, hb0, ptr rfl (ptr rfl ⟨_, _, _, _, g0, ?_⟩)⟩)⟩
      refine hc x y _ _ ⟨keep_same _ _ _, _, rfl, br (fun q2 => ?_) fun q2 => ?_⟩
      · have hlt : (A ++ P').length + 1 < n := by
          have := (row_len hrow2).1
          simp at this ⊢; omega
        obtain ⟨c1, m1, r1, d1⟩ := pr_put hrow2 (i := (A ++ P').length + 1) hlt y
        obtain ⟨c2, m2, r2, d2⟩ := pr_put r1 (i := (A ++ P').length) (by omega) x
        refine ⟨hb0, ptr rfl (ptr rfl ⟨_, _, _, _, g0, hb1, ptr rfl (ptr rfl ⟨_, _, _, _, g1, hb1, ptr rfl (ptr rfl ⟨_, _, m1, hb0, ptr rfl (ptr rfl ⟨_, _, m2, ?_⟩)⟩)⟩)⟩)⟩
        refine ⟨⟨P', y :: Q, by rw [hPQ]; simp, rfl, ?_, (hmod2.trans d1).trans d2, ?_⟩, by omega⟩
        · rw [set_two rfl] at r2
          simpa using r2
        · intro z hz
          rcases List.mem_cons.1 hz with rfl | hz
          · exact q2
          · exact hQ z hz
      · refine done (P' ++ [y]) Q H2 hPQ (by rw [hL]; exact hrow2) hmod2 ?_ hQ
        intro z hz
        rcases List.mem_append.1 hz with hz | hz
        · have h5 : ltc cf y z = false := by
            rw [hPQ] at hSs
            have := (List.pairwise_append.1 (List.pairwise_append.1 hSs).1).2.2 z hz y (by simp)
            exact this
          exact hs.ntrans _ _ _ q2 h5
        · simp at hz; subst hz; exact q2
    · simp only [decide_eq_false_iff_not] at q1
      have : P = [] := List.length_eq_zero_iff.1 (by omega)
      subst this
      exact done [] Q H2 hPQ hrow2 hmod2 (by simp) hQ
  · simp only [decide_eq_false_iff_not] at q
    have e1 : X.take t = X := List.take_of_length_le (by omega)
    have e2 : X.drop t = [] := List.drop_of_length_le (by omega)
    rw [e1, e2, List.append_nil] at hrow1
    exact h _ hrow1 hmod1
theorem split_at {α : Type} {X : List α} {k : Nat} (h : k < X.length) : ∃ x, X = X.take k ++ x :: X.drop (k + 1) ∧ (X.take k).length = k := by
  refine ⟨X[k], ?_, by rw [List.length_take]; omega⟩
  rw [← List.drop_eq_getElem_cons h, List.take_append_drop]
theorem s_swr {g : Nat} {Ad : Addr} {n c : Nat} {A U M V B : List Pt} {a b m : Int} (ha : (A.length : Int) = a) (hu : (U.length : Int) = m) (hv : (V.length : Int) = m) (hb : a + m + M.length = b)
    (hrow : RowAt H (.slice (some Ad) n c) ty 4 (pts (A ++ U ++ M ++ V ++ B))) (hn : n ≤ 1000000) (h : ∀ H', RowAt H' (.slice (some Ad) n c) ty 4 (pts (A ++ V ++ M ++ U ++ B)) → Mod (.slice (some Ad) n c) H H' → R (.returned (.tuple #[])) H') :
    Meets prog 90 [.slice (some Ad) n c, vi a, vi b, vi m, .func (.func g) #[] #[]] H R := by
  refine spec_of func90 (by kernel_rfl) (fun t h => by cases h) ?_ (vc_swr Ad n c g a b m R H) ?_
  · simp [argsR, SV.rep, SC.rep, one]
  unfold nf_swr
  simp only [true_and, delLs_nil, List.nil_append, List.append_nil]
  have hlen0 := (row_len hrow).1
  simp only [pts, List.length_map, List.length_append] at hlen0
  refine ⟨fun p H' => ∃ k : Nat, p.1.1 = k ∧ k ≤ U.length ∧ RowAt H' (.slice (some Ad) n c) ty 4 (pts (A ++ (V.take k ++ U.drop k) ++ M ++ (U.take k ++ V.drop k) ++ B)) ∧ Mod (.slice (some Ad) n c) H H', fun p _ => (m - p.1.1).toNat, ⟨0, rfl, by omega, by simpa using hrow, Mod.refl _ _⟩, ?_⟩
  rintro ⟨⟨i, _⟩, _⟩ H1 ⟨k, hi, hk, hrow1, hmod1⟩
  simp only at hi ⊢
  subst hi
  refine br (fun q => ?_) fun q => ?_
  · simp only [decide_eq_true_eq] at q
    obtain ⟨u, hU, hUl⟩ := split_at (X := U) (k := k) (by omega)
    obtain ⟨v, hV, hVl⟩ := split_at (X := V) (k := k) (by omega)
    have hUd : U.drop k = u :: U.drop (k + 1) := by
      conv => lhs; rw [hU]
      rw [List.drop_append_of_le_length (by omega), List.drop_of_length_le (by omega)]; rfl
    have hVd : V.drop k = v :: V.drop (k + 1) := by
      conv => lhs; rw [hV]
      rw [List.drop_append_of_le_length (by omega), List.drop_of_length_le (by omega)]; rfl
    have hUt : U.take (k + 1) = U.take k ++ [u] := by
      conv => lhs; rw [hU]
      rw [List.take_append, hUl, List.take_of_length_le (by omega)]; simp
    have hVt : V.take (k + 1) = V.take k ++ [v] := by
      conv => lhs; rw [hV]
      rw [List.take_append, hVl, List.take_of_length_le (by omega)]; simp
    have hL : A ++ (V.take k ++ U.drop k) ++ M ++ (U.take k ++ V.drop k) ++ B = (A ++ V.take k) ++ u :: ((U.drop (k + 1) ++ M ++ U.take k) ++ v :: (V.drop (k + 1) ++ B)) := by rw [hUd, hVd]; simp
    have hi1 : (A ++ V.take k).length = (a + k).toNat := by simp only [List.length_append, hVl]; omega
    have hj1 : (a + k).toNat + 1 + (U.drop (k + 1) ++ M ++ U.take k).length = (b + k).toNat := by
      simp only [List.length_append, hUl, List.length_drop]; omega
    rw [hL] at hrow1
    have hb1 : 0 ≤ a + (k : Int) ∧ a + (k : Int) < n := by omega
    have hb2 : 0 ≤ b + (k : Int) ∧ b + (k : Int) < n := by omega
    rw [w64 (k := b + (k : Int)) (by omega), w64 (k := a + (k : Int)) (by omega), w64 (k := (k : Int) + 1) (by omega)]
    have hsl := row_slice hrow1
    obtain ⟨A1, e1, g1⟩ := pr_get hsl (i := (a + k).toNat) (p := u) (get_at hi1)
    obtain ⟨A2, e2, g2⟩ := pr_get hsl (i := (b + k).toNat) (p := v) (by
      have := get_at (P := (A ++ V.take k) ++ u :: (U.drop (k + 1) ++ M ++ U.take k)) (Q := V.drop (k + 1) ++ B) (x := v) (k := (b + k).toNat) (by rw [List.length_append, List.length_cons, hi1]; omega)
      simpa using this)
    cases e1; cases e2
    obtain ⟨c1, m1, r1, d1⟩ := pr_put hrow1 (i := (a + k).toNat) (by omega) v
    obtain ⟨c2, m2, r2, d2⟩ := pr_put r1 (i := (b + k).toNat) (by omega) u
    refine ⟨hb2, ptr rfl (ptr rfl ⟨_, _, _, _, g2, hb1, ptr rfl (ptr rfl ⟨_, _, _, _, g1, hb1, ptr rfl (ptr rfl ⟨_, _, m1, hb2, ptr rfl (ptr rfl ⟨_, _, m2, ⟨k + 1, by omega, by omega, ?_, (hmod1.trans d1).trans d2⟩, by omega⟩)⟩)⟩)⟩)⟩
    rw [set_far hi1 hj1] at r2
    rw [hUt, hVt]
    simpa using r2
  · simp only [decide_eq_false_iff_not] at q
    have : k = U.length := by omega
    subst this
    have hl : U.length = V.length := by omega
    rw [List.drop_length, List.take_length, hl, List.take_length, List.drop_length, List.append_nil, List.append_nil] at hrow1
    exact h _ hrow1 hmod1
theorem s_rot {g : Nat} {Ad : Addr} {n c : Nat} {A X Y B : List Pt} {a m b : Int} (ha : (A.length : Int) = a) (hm : a + X.length = m) (hb : m + Y.length = b)
    (hrow : RowAt H (.slice (some Ad) n c) ty 4 (pts (A ++ X ++ Y ++ B))) (hx : 0 < X.length) (hy : 0 < Y.length) (hn : n ≤ 1000000) (h : ∀ H', RowAt H' (.slice (some Ad) n c) ty 4 (pts (A ++ Y ++ X ++ B)) → Mod (.slice (some Ad) n c) H H' → R (.returned (.tuple #[])) H') :
    Meets prog 83 [.slice (some Ad) n c, vi a, vi m, vi b, .func (.func g) #[] #[]] H R := by
  refine spec_of func83 (by kernel_rfl) (fun t h => by cases h) ?_ (vc_rot Ad n c g a m b R H) ?_
  · simp [argsR, SV.rep, SC.rep, one]
  unfold nf_rot
  simp only [true_and, delLs_nil, List.nil_append, List.append_nil]
  have hlen0 := (row_len hrow).1
  simp only [pts, List.length_map, List.length_append] at hlen0
  refine ⟨fun p H' => ∃ P X' Y' S : List Pt, p.1.1 = X'.length ∧ p.1.2.1 = Y'.length ∧ 0 < X'.length ∧ 0 < Y'.length ∧ a + P.length + X'.length = m ∧ m + Y'.length + S.length = b ∧ P ++ (Y' ++ X') ++ S = Y ++ X ∧
      RowAt H' (.slice (some Ad) n c) ty 4 (pts (A ++ P ++ X' ++ Y' ++ S ++ B)) ∧ Mod (.slice (some Ad) n c) H H', fun p _ => (p.1.1 + p.1.2.1).toNat, ⟨[], X, Y, [], ?_, ?_, hx, hy, by simp; omega, by simp; omega, by simp, by simpa using hrow, Mod.refl _ _⟩, ?_⟩
  · simp only; rw [w64 (by omega)]; omega
  · simp only; rw [w64 (by omega)]; omega
  rintro ⟨⟨i, j, _⟩, _⟩ H1 ⟨P, X', Y', S, hi, hj, hx', hy', h1, h2, h3, hrow1, hmod1⟩
  simp only at hi hj ⊢
  subst hi; subst hj
  rw [w64 (k := m - (X'.length : Int)) (by omega)]
  refine br (fun q => ?_) fun q => ?_
  · simp only [bne_iff_ne, ne_eq] at q
    refine br (fun q1 => ?_) fun q1 => ?_
    · simp only [decide_eq_true_eq] at q1
      have e : X' = X'.take Y'.length ++ X'.drop Y'.length := (List.take_append_drop _ _).symm
      have hl1 : (X'.take Y'.length).length = Y'.length := by rw [List.length_take]; omega
      have hl2 : (X'.drop Y'.length).length = X'.length - Y'.length := by simp
      refine s_swr (ty := ty) (A := A ++ P) (U := X'.take Y'.length) (M := X'.drop Y'.length) (V := Y') (B := S ++ B) (by simp; omega) (by omega) rfl (by omega) ?_ hn fun H2 hr hmd => ?_
      · rw [e] at hrow1; simpa using hrow1
      · refine ⟨rfl, ⟨P ++ Y', X'.drop Y'.length, X'.take Y'.length, S, ?_, by rw [hl1], by omega, by omega, by simp; omega, by omega, ?_, ?_, hmod1.trans hmd⟩, ?_⟩
        · rw [w64 (by omega)]; omega
        · rw [List.take_append_drop]; simpa using h3
        · simpa using hr
        · rw [w64 (by omega)]; omega
    · simp only [decide_eq_false_iff_not] at q1
      rw [w64 (k := m + (Y'.length : Int)) (by omega), w64 (k := m + (Y'.length : Int) - (X'.length : Int)) (by omega)]
      have e : Y' = Y'.take (Y'.length - X'.length) ++ Y'.drop (Y'.length - X'.length) := (List.take_append_drop _ _).symm
      have hl1 : (Y'.take (Y'.length - X'.length)).length = Y'.length - X'.length := by rw [List.length_take]; omega
      have hl2 : (Y'.drop (Y'.length - X'.length)).length = X'.length := by simp; omega
      refine s_swr (ty := ty) (A := A ++ P) (U := X') (M := Y'.take (Y'.length - X'.length)) (V := Y'.drop (Y'.length - X'.length)) (B := S ++ B) (by simp; omega) rfl (by omega) (by omega) ?_ hn fun H2 hr hmd => ?_
      · rw [e] at hrow1; simpa using hrow1
      · refine ⟨rfl, ⟨P, Y'.drop (Y'.length - X'.length), Y'.take (Y'.length - X'.length), X' ++ S, by rw [hl2], ?_, by omega, by omega, by omega, by simp; omega, ?_, ?_, hmod1.trans hmd⟩, ?_⟩
        · rw [w64 (by omega)]; omega
        · rw [List.take_append_drop]; simpa using h3
        · simpa using hr
        · rw [w64 (by omega)]; omega
  · have q : X'.length = Y'.length := by simp at q; omega
    refine s_swr (ty := ty) (A := A ++ P) (U := X') (M := []) (V := Y') (B := S ++ B) (by simp; omega) rfl (by omega) (by simp only [List.length_nil]; omega) (by simpa using hrow1) hn fun H2 hr hmd => ?_
    refine ⟨rfl, h _ ?_ (hmod1.trans hmd)⟩
    have : A ++ Y ++ X ++ B = A ++ P ++ Y' ++ [] ++ X' ++ (S ++ B) := by
      rw [List.append_assoc A Y X, ← h3]; simp
    rw [this]
    exact hr
end
end Cr

set_option linter.unusedVariables false
set_option linter.unusedSimpArgs false
namespace Cr
open Go Sx Stb
open Go.Sort (SWO)
open Go.Proofs.Try
set_option linter.unusedSectionVars false
variable [Dr]
set_option maxRecDepth 100000
def h_sym : Hints := { loops := [(3, ⟨[0, 1, 2, 3, 4], [.f 10 (.int .i64), .f 11 (.int .i64)], []⟩), (9, ⟨[0, 1, 2, 3, 4, 10], [.f 13 (.int .i64)], []⟩), (15, ⟨[0, 1, 2, 3, 4], [.f 14 (.int .i64), .f 15 (.int .i64)], []⟩), (21, ⟨[0, 1, 2, 3, 4, 14], [.f 17 (.int .i64)], []⟩), (33, ⟨[0, 1, 2, 3, 4, 18, 19, 22], [.f 20 (.int .i64), .f 21 (.int .i64)], []⟩)], cuts := [(32, ⟨[0, 1, 2, 3, 4, 18, 19], [.f 20 (.int .i64), .f 21 (.int .i64)], []⟩), (41, ⟨[0, 1, 3, 4, 18, 20, 24], [], []⟩), (43, ⟨[0, 3, 4, 18, 24], [], []⟩)] }
def h_stb : Hints := { loops := [(2, ⟨[0, 1, 2, 6], [.f 7 (.int .i64), .f 8 (.int .i64)], []⟩), (7, ⟨[0, 1, 2], [.f 6 (.int .i64)], []⟩), (9, ⟨[0, 1, 2, 6], [.f 7 (.int .i64), .f 8 (.int .i64)], []⟩)] }
def nf_sym (A : Addr) (n : Nat) (c : Nat) (g : Nat) (a : Int) (m : Int) (b : Int) (R : Ending → Heap → Prop) (H : Heap) : Prop := Br (IntKind.wrap IntKind.i64 (m - a) == (1 : Int)) (some A = some A ∧ n = n ∧ c = c ∧ a = a ∧ m = m ∧ b = b ∧ Value.func (Fn.func g) { toList := [] } { toList := [] } = Value.func (Fn.func g) { toList := [] } { toList := [] } ∧ LoopP (fun (K : (Int × Int × PUnit) × PUnit → (Nat → Option Obj) → Prop) (p : (Int × Int × PUnit) × PUnit) (H : Nat → Option Obj) ↦ Br (decide (p.fst.fst < p.fst.snd.fst)) ((0 : Int) ≤ (1 : Int) ∧ ∃ (G : Nat → Option Obj), G ≤ H ∧ ((0 : Int) ≤ IntKind.wrap IntKind.i64 (shrI IntKind.u64 (IntKind.wrap IntKind.u64 (IntKind.wrap IntKind.i64 (p.fst.fst + p.fst.snd.fst))) (1 : Int)) ∧ IntKind.wrap IntKind.i64 (shrI IntKind.u64 (IntKind.wrap IntKind.u64 (IntKind.wrap IntKind.i64 (p.fst.fst + p.fst.snd.fst))) (1 : Int)) < (↑n : Int)) ∧ PtrK (some A) fun (A_1 : Addr) ↦ PtrK (some (Addr.add A_1 (Int.toNat (IntKind.wrap IntKind.i64 (shrI IntKind.u64 (IntKind.wrap IntKind.u64 (IntKind.wrap IntKind.i64 (p.fst.fst + p.fst.snd.fst))) (1 : Int))) * (4 : Nat)))) fun (a_1 : Addr) ↦ ∃ (n_1 : Int), ∃ (n_2 : Int), ∃ (n_3 : Int), ∃ (s : ByteArray), Heap.has G a_1 [Value.int IntKind.i64 n_1, Value.int IntKind.u32 n_2, Value.int IntKind.u32 n_3, Value.string s] ∧ ((0 : Int) ≤ a ∧ a < (↑n : Int)) ∧ PtrK (some A) fun (A_2 : Addr) ↦ PtrK (some (Addr.add A_2 (Int.toNat a * (4 : Nat)))) fun (a_2 : Addr) ↦ ∃ (n_4 : Int), ∃ (n_5 : Int), ∃ (n_6 : Int), ∃ (s_1 : ByteArray), Heap.has G a_2 [Value.int IntKind.i64 n_4, Value.int IntKind.u32 n_5, Value.int IntKind.u32 n_6, Value.string s_1] ∧ Meets prog g [Value.agg { toList := [Value.int IntKind.i64 n_1, Value.int IntKind.u32 n_2, Value.int IntKind.u32 n_3, Value.string s] }, Value.agg { toList := [Value.int IntKind.i64 n_4, Value.int IntKind.u32 n_5, Value.int IntKind.u32 n_6, Value.string s_1] }] H fun (e : Ending) (H' : Nat → Option Obj) ↦ Keep G H H H' ∧ ∃ (n_7 : Int), e = Ending.returned (Value.int IntKind.i64 n_7) ∧ Br (decide (n_7 < (0 : Int))) (some A = some A ∧ n = n ∧ c = c ∧ a = a ∧ m = m ∧ b = b ∧ Value.func (Fn.func g) { toList := [] } { toList := [] } = Value.func (Fn.func g) { toList := [] } { toList := [] } ∧ K ((IntKind.wrap IntKind.i64 (IntKind.wrap IntKind.i64 (shrI IntKind.u64 (IntKind.wrap IntKind.u64 (IntKind.wrap IntKind.i64 (p.fst.fst + p.fst.snd.fst))) (1 : Int)) + (1 : Int)), p.fst.snd.fst, PUnit.unit), PUnit.unit) (delLs H' [])) (some A = some A ∧ n = n ∧ c = c ∧ a = a ∧ m = m ∧ b = b ∧ Value.func (Fn.func g) { toList := [] } { toList := [] } = Value.func (Fn.func g) { toList := [] } { toList := [] } ∧ K ((p.fst.fst, IntKind.wrap IntKind.i64 (shrI IntKind.u64 (IntKind.wrap IntKind.u64 (IntKind.wrap IntKind.i64 (p.fst.fst + p.fst.snd.fst))) (1 : Int)), PUnit.unit), PUnit.unit) (delLs H' []))) (some A = some A ∧ n = n ∧ c = c ∧ a = a ∧ m = m ∧ b = b ∧ Value.func (Fn.func g) { toList := [] } { toList := [] } = Value.func (Fn.func g) { toList := [] } { toList := [] } ∧ p.fst.fst = p.fst.fst ∧ LoopP (fun (K : (Int × PUnit) × PUnit → (Nat → Option Obj) → Prop) (p_1 : (Int × PUnit) × PUnit) (H : Nat → Option Obj) ↦ Br (decide (p_1.fst.fst < IntKind.wrap IntKind.i64 (p.fst.fst - (1 : Int)))) (((0 : Int) ≤ IntKind.wrap IntKind.i64 (p_1.fst.fst + (1 : Int)) ∧ IntKind.wrap IntKind.i64 (p_1.fst.fst + (1 : Int)) < (↑n : Int)) ∧ PtrK (some A) fun (A_1 : Addr) ↦ PtrK (some (Addr.add A_1 (Int.toNat (IntKind.wrap IntKind.i64 (p_1.fst.fst + (1 : Int))) * (4 : Nat)))) fun (a_1 : Addr) ↦ ∃ (n_1 : Int), ∃ (n_2 : Int), ∃ (n_3 : Int), ∃ (s : ByteArray), Heap.has H a_1 [Value.int IntKind.i64 n_1, Value.int IntKind.u32 n_2, Value.int IntKind.u32 n_3, Value.string s] ∧ ((0 : Int) ≤ p_1.fst.fst ∧ p_1.fst.fst < (↑n : Int)) ∧ PtrK (some A) fun (A_2 : Addr) ↦ PtrK (some (Addr.add A_2 (Int.toNat p_1.fst.fst * (4 : Nat)))) fun (a_2 : Addr) ↦ ∃ (n_4 : Int), ∃ (n_5 : Int), ∃ (n_6 : Int), ∃ (s_1 : ByteArray), Heap.has H a_2 [Value.int IntKind.i64 n_4, Value.int IntKind.u32 n_5, Value.int IntKind.u32 n_6, Value.string s_1] ∧ ((0 : Int) ≤ p_1.fst.fst ∧ p_1.fst.fst < (↑n : Int)) ∧ PtrK (some A) fun (A_3 : Addr) ↦ PtrK (some (Addr.add A_3 (Int.toNat p_1.fst.fst * (4 : Nat)))) fun (A_4 : Addr) ↦ ∃ (c_1 : Array Value), ∃ (ty : Nat), (H A_4.block = some (Obj.cells c_1 ty) ∧ A_4.spot = none ∧ A_4.off + (4 : Nat) ≤ Array.size c_1) ∧ ((0 : Int) ≤ IntKind.wrap IntKind.i64 (p_1.fst.fst + (1 : Int)) ∧ IntKind.wrap IntKind.i64 (p_1.fst.fst + (1 : Int)) < (↑n : Int)) ∧ PtrK (some A) fun (A_5 : Addr) ↦ PtrK (some (Addr.add A_5 (Int.toNat (IntKind.wrap IntKind.i64 (p_1.fst.fst + (1 : Int))) * (4 : Nat)))) fun (A_6 : Addr) ↦ ∃ (c_2 : Array Value), ∃ (ty_1 : Nat), (Heap.upd H A_4.block (Obj.cells (writeCells c_1 A_4.off [Value.int IntKind.i64 n_1, Value.int IntKind.u32 n_2, Value.int IntKind.u32 n_3, Value.string s]) ty) A_6.block = some (Obj.cells c_2 ty_1) ∧ A_6.spot = none ∧ A_6.off + (4 : Nat) ≤ Array.size c_2) ∧ some A = some A ∧ n = n ∧ c = c ∧ a = a ∧ m = m ∧ b = b ∧ Value.func (Fn.func g) { toList := [] } { toList := [] } = Value.func (Fn.func g) { toList := [] } { toList := [] } ∧ p.fst.fst = p.fst.fst ∧ K ((IntKind.wrap IntKind.i64 (p_1.fst.fst + (1 : Int)), PUnit.unit), PUnit.unit) (Heap.upd (Heap.upd H A_4.block (Obj.cells (writeCells c_1 A_4.off [Value.int IntKind.i64 n_1, Value.int IntKind.u32 n_2, Value.int IntKind.u32 n_3, Value.string s]) ty)) A_6.block (Obj.cells (writeCells c_2 A_6.off [Value.int IntKind.i64 n_4, Value.int IntKind.u32 n_5, Value.int IntKind.u32 n_6, Value.string s_1]) ty_1))) (R (Ending.returned (Value.tuple { toList := [] })) H)) ((a, PUnit.unit), PUnit.unit) H)) ((m, b, PUnit.unit), PUnit.unit) H) (Br (IntKind.wrap IntKind.i64 (b - m) == (1 : Int)) (some A = some A ∧ n = n ∧ c = c ∧ a = a ∧ m = m ∧ b = b ∧ Value.func (Fn.func g) { toList := [] } { toList := [] } = Value.func (Fn.func g) { toList := [] } { toList := [] } ∧ LoopP (fun (K : (Int × Int × PUnit) × PUnit → (Nat → Option Obj) → Prop) (p : (Int × Int × PUnit) × PUnit) (H : Nat → Option Obj) ↦ Br (decide (p.fst.fst < p.fst.snd.fst)) ((0 : Int) ≤ (1 : Int) ∧ ∃ (G : Nat → Option Obj), G ≤ H ∧ ((0 : Int) ≤ m ∧ m < (↑n : Int)) ∧ PtrK (some A) fun (A_1 : Addr) ↦ PtrK (some (Addr.add A_1 (Int.toNat m * (4 : Nat)))) fun (a_1 : Addr) ↦ ∃ (n_1 : Int), ∃ (n_2 : Int), ∃ (n_3 : Int), ∃ (s : ByteArray), Heap.has G a_1 [Value.int IntKind.i64 n_1, Value.int IntKind.u32 n_2, Value.int IntKind.u32 n_3, Value.string s] ∧ ((0 : Int) ≤ IntKind.wrap IntKind.i64 (shrI IntKind.u64 (IntKind.wrap IntKind.u64 (IntKind.wrap IntKind.i64 (p.fst.fst + p.fst.snd.fst))) (1 : Int)) ∧ IntKind.wrap IntKind.i64 (shrI IntKind.u64 (IntKind.wrap IntKind.u64 (IntKind.wrap IntKind.i64 (p.fst.fst + p.fst.snd.fst))) (1 : Int)) < (↑n : Int)) ∧ PtrK (some A) fun (A_2 : Addr) ↦ PtrK (some (Addr.add A_2 (Int.toNat (IntKind.wrap IntKind.i64 (shrI IntKind.u64 (IntKind.wrap IntKind.u64 (IntKind.wrap IntKind.i64 (p.fst.fst + p.fst.snd.fst))) (1 : Int))) * (4 : Nat)))) fun (a_2 : Addr) ↦ ∃ (n_4 : Int), ∃ (n_5 : Int), ∃ (n_6 : Int), ∃ (s_1 : ByteArray), Heap.has G a_2 [Value.int IntKind.i64 n_4, Value.int IntKind.u32 n_5, Value.int IntKind.u32 n_6, Value.string s_1] ∧ Meets prog g [Value.agg { toList := [Value.int IntKind.i64 n_1, Value.int IntKind.u32 n_2, Value.int IntKind.u32 n_3, Value.string s] }, Value.agg { toList := [Value.int IntKind.i64 n_4, Value.int IntKind.u32 n_5, Value.int IntKind.u32 n_6, Value.string s_1] }] H fun (e : Ending) (H' : Nat → Option Obj) ↦ Keep G H H H' ∧ ∃ (n_7 : Int), e = Ending.returned (Value.int IntKind.i64 n_7) ∧ Br (!decide (n_7 < (0 : Int))) (some A = some A ∧ n = n ∧ c = c ∧ a = a ∧ m = m ∧ b = b ∧ Value.func (Fn.func g) { toList := [] } { toList := [] } = Value.func (Fn.func g) { toList := [] } { toList := [] } ∧ K ((IntKind.wrap IntKind.i64 (IntKind.wrap IntKind.i64 (shrI IntKind.u64 (IntKind.wrap IntKind.u64 (IntKind.wrap IntKind.i64 (p.fst.fst + p.fst.snd.fst))) (1 : Int)) + (1 : Int)), p.fst.snd.fst, PUnit.unit), PUnit.unit) (delLs H' [])) (some A = some A ∧ n = n ∧ c = c ∧ a = a ∧ m = m ∧ b = b ∧ Value.func (Fn.func g) { toList := [] } { toList := [] } = Value.func (Fn.func g) { toList := [] } { toList := [] } ∧ K ((p.fst.fst, IntKind.wrap IntKind.i64 (shrI IntKind.u64 (IntKind.wrap IntKind.u64 (IntKind.wrap IntKind.i64 (p.fst.fst + p.fst.snd.fst))) (1 : Int)), PUnit.unit), PUnit.unit) (delLs H' []))) (some A = some A ∧ n = n ∧ c = c ∧ a = a ∧ m = m ∧ b = b ∧ Value.func (Fn.func g) { toList := [] } { toList := [] } = Value.func (Fn.func g) { toList := [] } { toList := [] } ∧ p.fst.fst = p.fst.fst ∧ LoopP (fun (K : (Int × PUnit) × PUnit → (Nat → Option Obj) → Prop) (p_1 : (Int × PUnit) × PUnit) (H : Nat → Option Obj) ↦ Br (decide (p_1.fst.fst > p.fst.fst)) (((0 : Int) ≤ IntKind.wrap IntKind.i64 (p_1.fst.fst - (1 : Int)) ∧ IntKind.wrap IntKind.i64 (p_1.fst.fst - (1 : Int)) < (↑n : Int)) ∧ PtrK (some A) fun (A_1 : Addr) ↦ PtrK (some (Addr.add A_1 (Int.toNat (IntKind.wrap IntKind.i64 (p_1.fst.fst - (1 : Int))) * (4 : Nat)))) fun (a_1 : Addr) ↦ ∃ (n_1 : Int), ∃ (n_2 : Int), ∃ (n_3 : Int), ∃ (s : ByteArray), Heap.has H a_1 [Value.int IntKind.i64 n_1, Value.int IntKind.u32 n_2, Value.int IntKind.u32 n_3, Value.string s] ∧ ((0 : Int) ≤ p_1.fst.fst ∧ p_1.fst.fst < (↑n : Int)) ∧ PtrK (some A) fun (A_2 : Addr) ↦ PtrK (some (Addr.add A_2 (Int.toNat p_1.fst.fst * (4 : Nat)))) fun (a_2 : Addr) ↦ ∃ (n_4 : Int), ∃ (n_5 : Int), ∃ (n_6 : Int), ∃ (s_1 : ByteArray), Heap.has H a_2 [Value.int IntKind.i64 n_4, Value.int IntKind.u32 n_5, Value.int IntKind.u32 n_6, Value.string s_1] ∧ ((0 : Int) ≤ p_1.fst.fst ∧ p_1.fst.fst < (↑n : Int)) ∧ PtrK (some A) fun (A_3 : Addr) ↦ PtrK (some (Addr.add A_3 (Int.toNat p_1.fst.fst * (4 : Nat)))) fun (A_4 : Addr) ↦ ∃ (c_1 : Array Value), ∃ (ty : Nat), (H A_4.block = some (Obj.cells c_1 ty) ∧ A_4.spot = none ∧ A_4.off + (4 : Nat) ≤ Array.size c_1) ∧ ((0 : Int) ≤ IntKind.wrap IntKind.i64 (p_1.fst.fst - (1 : Int)) ∧ IntKind.wrap IntKind.i64 (p_1.fst.fst - (1 : Int)) < (↑n : Int)) ∧ PtrK (some A) fun (A_5 : Addr) ↦ PtrK (some (Addr.add A_5 (Int.toNat (IntKind.wrap IntKind.i64 (p_1.fst.fst - (1 : Int))) * (4 : Nat)))) fun (A_6 : Addr) ↦ ∃ (c_2 : Array Value), ∃ (ty_1 : Nat), (Heap.upd H A_4.block (Obj.cells (writeCells c_1 A_4.off [Value.int IntKind.i64 n_1, Value.int IntKind.u32 n_2, Value.int IntKind.u32 n_3, Value.string s]) ty) A_6.block = some (Obj.cells c_2 ty_1) ∧ A_6.spot = none ∧ A_6.off + (4 : Nat) ≤ Array.size c_2) ∧ some A = some A ∧ n = n ∧ c = c ∧ a = a ∧ m = m ∧ b = b ∧ Value.func (Fn.func g) { toList := [] } { toList := [] } = Value.func (Fn.func g) { toList := [] } { toList := [] } ∧ p.fst.fst = p.fst.fst ∧ K ((IntKind.wrap IntKind.i64 (p_1.fst.fst - (1 : Int)), PUnit.unit), PUnit.unit) (Heap.upd (Heap.upd H A_4.block (Obj.cells (writeCells c_1 A_4.off [Value.int IntKind.i64 n_1, Value.int IntKind.u32 n_2, Value.int IntKind.u32 n_3, Value.string s]) ty)) A_6.block (Obj.cells (writeCells c_2 A_6.off [Value.int IntKind.i64 n_4, Value.int IntKind.u32 n_5, Value.int IntKind.u32 n_6, Value.string s_1]) ty_1))) (R (Ending.returned (Value.tuple { toList := [] })) H)) ((m, PUnit.unit), PUnit.unit) H)) ((a, m, PUnit.unit), PUnit.unit) H) ((0 : Int) ≤ (1 : Int) ∧ CutP (fun (I : (Int × Int × PUnit) × PUnit → (Nat → Option Obj) → Prop) ↦ Br (decide (m > IntKind.wrap IntKind.i64 (shrI IntKind.u64 (IntKind.wrap IntKind.u64 (IntKind.wrap IntKind.i64 (a + b))) (1 : Int)))) (some A = some A ∧ n = n ∧ c = c ∧ a = a ∧ m = m ∧ b = b ∧ Value.func (Fn.func g) { toList := [] } { toList := [] } = Value.func (Fn.func g) { toList := [] } { toList := [] } ∧ IntKind.wrap IntKind.i64 (shrI IntKind.u64 (IntKind.wrap IntKind.u64 (IntKind.wrap IntKind.i64 (a + b))) (1 : Int)) = IntKind.wrap IntKind.i64 (shrI IntKind.u64 (IntKind.wrap IntKind.u64 (IntKind.wrap IntKind.i64 (a + b))) (1 : Int)) ∧ IntKind.wrap IntKind.i64 (IntKind.wrap IntKind.i64 (shrI IntKind.u64 (IntKind.wrap IntKind.u64 (IntKind.wrap IntKind.i64 (a + b))) (1 : Int)) + m) = IntKind.wrap IntKind.i64 (IntKind.wrap IntKind.i64 (shrI IntKind.u64 (IntKind.wrap IntKind.u64 (IntKind.wrap IntKind.i64 (a + b))) (1 : Int)) + m) ∧ I ((IntKind.wrap IntKind.i64 (IntKind.wrap IntKind.i64 (IntKind.wrap IntKind.i64 (shrI IntKind.u64 (IntKind.wrap IntKind.u64 (IntKind.wrap IntKind.i64 (a + b))) (1 : Int)) + m) - b), IntKind.wrap IntKind.i64 (shrI IntKind.u64 (IntKind.wrap IntKind.u64 (IntKind.wrap IntKind.i64 (a + b))) (1 : Int)), PUnit.unit), PUnit.unit) H) (some A = some A ∧ n = n ∧ c = c ∧ a = a ∧ m = m ∧ b = b ∧ Value.func (Fn.func g) { toList := [] } { toList := [] } = Value.func (Fn.func g) { toList := [] } { toList := [] } ∧ IntKind.wrap IntKind.i64 (shrI IntKind.u64 (IntKind.wrap IntKind.u64 (IntKind.wrap IntKind.i64 (a + b))) (1 : Int)) = IntKind.wrap IntKind.i64 (shrI IntKind.u64 (IntKind.wrap IntKind.u64 (IntKind.wrap IntKind.i64 (a + b))) (1 : Int)) ∧ IntKind.wrap IntKind.i64 (IntKind.wrap IntKind.i64 (shrI IntKind.u64 (IntKind.wrap IntKind.u64 (IntKind.wrap IntKind.i64 (a + b))) (1 : Int)) + m) = IntKind.wrap IntKind.i64 (IntKind.wrap IntKind.i64 (shrI IntKind.u64 (IntKind.wrap IntKind.u64 (IntKind.wrap IntKind.i64 (a + b))) (1 : Int)) + m) ∧ I ((a, m, PUnit.unit), PUnit.unit) H)) fun (p : (Int × Int × PUnit) × PUnit) (H : Nat → Option Obj) ↦ some A = some A ∧ n = n ∧ c = c ∧ a = a ∧ m = m ∧ b = b ∧ Value.func (Fn.func g) { toList := [] } { toList := [] } = Value.func (Fn.func g) { toList := [] } { toList := [] } ∧ IntKind.wrap IntKind.i64 (shrI IntKind.u64 (IntKind.wrap IntKind.u64 (IntKind.wrap IntKind.i64 (a + b))) (1 : Int)) = IntKind.wrap IntKind.i64 (shrI IntKind.u64 (IntKind.wrap IntKind.u64 (IntKind.wrap IntKind.i64 (a + b))) (1 : Int)) ∧ IntKind.wrap IntKind.i64 (IntKind.wrap IntKind.i64 (shrI IntKind.u64 (IntKind.wrap IntKind.u64 (IntKind.wrap IntKind.i64 (a + b))) (1 : Int)) + m) = IntKind.wrap IntKind.i64 (IntKind.wrap IntKind.i64 (shrI IntKind.u64 (IntKind.wrap IntKind.u64 (IntKind.wrap IntKind.i64 (a + b))) (1 : Int)) + m) ∧ IntKind.wrap IntKind.i64 (IntKind.wrap IntKind.i64 (IntKind.wrap IntKind.i64 (shrI IntKind.u64 (IntKind.wrap IntKind.u64 (IntKind.wrap IntKind.i64 (a + b))) (1 : Int)) + m) - (1 : Int)) = IntKind.wrap IntKind.i64 (IntKind.wrap IntKind.i64 (IntKind.wrap IntKind.i64 (shrI IntKind.u64 (IntKind.wrap IntKind.u64 (IntKind.wrap IntKind.i64 (a + b))) (1 : Int)) + m) - (1 : Int)) ∧ LoopP (fun (K : (Int × Int × PUnit) × PUnit → (Nat → Option Obj) → Prop) (p : (Int × Int × PUnit) × PUnit) (H : Nat → Option Obj) ↦ Br (decide (p.fst.fst < p.fst.snd.fst)) ((0 : Int) ≤ (1 : Int) ∧ ∃ (G : Nat → Option Obj), G ≤ H ∧ ((0 : Int) ≤ IntKind.wrap IntKind.i64 (IntKind.wrap IntKind.i64 (IntKind.wrap IntKind.i64 (IntKind.wrap IntKind.i64 (shrI IntKind.u64 (IntKind.wrap IntKind.u64 (IntKind.wrap IntKind.i64 (a + b))) (1 : Int)) + m) - (1 : Int)) - IntKind.wrap IntKind.i64 (shrI IntKind.u64 (IntKind.wrap IntKind.u64 (IntKind.wrap IntKind.i64 (p.fst.fst + p.fst.snd.fst))) (1 : Int))) ∧ IntKind.wrap IntKind.i64 (IntKind.wrap IntKind.i64 (IntKind.wrap IntKind.i64 (IntKind.wrap IntKind.i64 (shrI IntKind.u64 (IntKind.wrap IntKind.u64 (IntKind.wrap IntKind.i64 (a + b))) (1 : Int)) + m) - (1 : Int)) - IntKind.wrap IntKind.i64 (shrI IntKind.u64 (IntKind.wrap IntKind.u64 (IntKind.wrap IntKind.i64 (p.fst.fst + p.fst.snd.fst))) (1 : Int))) < (↑n : Int)) ∧ PtrK (some A) fun (A_1 : Addr) ↦ PtrK (some (Addr.add A_1 (Int.toNat (IntKind.wrap IntKind.i64 (IntKind.wrap IntKind.i64 (IntKind.wrap IntKind.i64 (IntKind.wrap IntKind.i64 (shrI IntKind.u64 (IntKind.wrap IntKind.u64 (IntKind.wrap IntKind.i64 (a + b))) (1 : Int)) + m) - (1 : Int)) - IntKind.wrap IntKind.i64 (shrI IntKind.u64 (IntKind.wrap IntKind.u64 (IntKind.wrap IntKind.i64 (p.fst.fst + p.fst.snd.fst))) (1 : Int)))) * (4 : Nat)))) fun (a_1 : Addr) ↦ ∃ (n_1 : Int), ∃ (n_2 : Int), ∃ (n_3 : Int), ∃ (s : ByteArray), Heap.has G a_1 [Value.int IntKind.i64 n_1, Value.int IntKind.u32 n_2, Value.int IntKind.u32 n_3, Value.string s] ∧ ((0 : Int) ≤ IntKind.wrap IntKind.i64 (shrI IntKind.u64 (IntKind.wrap IntKind.u64 (IntKind.wrap IntKind.i64 (p.fst.fst + p.fst.snd.fst))) (1 : Int)) ∧ IntKind.wrap IntKind.i64 (shrI IntKind.u64 (IntKind.wrap IntKind.u64 (IntKind.wrap IntKind.i64 (p.fst.fst + p.fst.snd.fst))) (1 : Int)) < (↑n : Int)) ∧ PtrK (some A) fun (A_2 : Addr) ↦ PtrK (some (Addr.add A_2 (Int.toNat (IntKind.wrap IntKind.i64 (shrI IntKind.u64 (IntKind.wrap IntKind.u64 (IntKind.wrap IntKind.i64 (p.fst.fst + p.fst.snd.fst))) (1 : Int))) * (4 : Nat)))) fun (a_2 : Addr) ↦ ∃ (n_4 : Int), ∃ (n_5 : Int), ∃ (n_6 : Int), ∃ (s_1 : ByteArray), Heap.has G a_2 [Value.int IntKind.i64 n_4, Value.int IntKind.u32 n_5, Value.int IntKind.u32 n_6, Value.string s_1] ∧ Meets prog g [Value.agg { toList := [Value.int IntKind.i64 n_1, Value.int IntKind.u32 n_2, Value.int IntKind.u32 n_3, Value.string s] }, Value.agg { toList := [Value.int IntKind.i64 n_4, Value.int IntKind.u32 n_5, Value.int IntKind.u32 n_6, Value.string s_1] }] H fun (e : Ending) (H' : Nat → Option Obj) ↦ Keep G H H H' ∧ ∃ (n_7 : Int), e = Ending.returned (Value.int IntKind.i64 n_7) ∧ Br (!decide (n_7 < (0 : Int))) (some A = some A ∧ n = n ∧ c = c ∧ a = a ∧ m = m ∧ b = b ∧ Value.func (Fn.func g) { toList := [] } { toList := [] } = Value.func (Fn.func g) { toList := [] } { toList := [] } ∧ IntKind.wrap IntKind.i64 (shrI IntKind.u64 (IntKind.wrap IntKind.u64 (IntKind.wrap IntKind.i64 (a + b))) (1 : Int)) = IntKind.wrap IntKind.i64 (shrI IntKind.u64 (IntKind.wrap IntKind.u64 (IntKind.wrap IntKind.i64 (a + b))) (1 : Int)) ∧ IntKind.wrap IntKind.i64 (IntKind.wrap IntKind.i64 (shrI IntKind.u64 (IntKind.wrap IntKind.u64 (IntKind.wrap IntKind.i64 (a + b))) (1 : Int)) + m) = IntKind.wrap IntKind.i64 (IntKind.wrap IntKind.i64 (shrI IntKind.u64 (IntKind.wrap IntKind.u64 (IntKind.wrap IntKind.i64 (a + b))) (1 : Int)) + m) ∧ IntKind.wrap IntKind.i64 (IntKind.wrap IntKind.i64 (IntKind.wrap IntKind.i64 (shrI IntKind.u64 (IntKind.wrap IntKind.u64 (IntKind.wrap IntKind.i64 (a + b))) (1 : Int)) + m) - (1 : Int)) = IntKind.wrap IntKind.i64 (IntKind.wrap IntKind.i64 (IntKind.wrap IntKind.i64 (shrI IntKind.u64 (IntKind.wrap IntKind.u64 (IntKind.wrap IntKind.i64 (a + b))) (1 : Int)) + m) - (1 : Int)) ∧ K ((IntKind.wrap IntKind.i64 (IntKind.wrap IntKind.i64 (shrI IntKind.u64 (IntKind.wrap IntKind.u64 (IntKind.wrap IntKind.i64 (p.fst.fst + p.fst.snd.fst))) (1 : Int)) + (1 : Int)), p.fst.snd.fst, PUnit.unit), PUnit.unit) (delLs H' [])) (some A = some A ∧ n = n ∧ c = c ∧ a = a ∧ m = m ∧ b = b ∧ Value.func (Fn.func g) { toList := [] } { toList := [] } = Value.func (Fn.func g) { toList := [] } { toList := [] } ∧ IntKind.wrap IntKind.i64 (shrI IntKind.u64 (IntKind.wrap IntKind.u64 (IntKind.wrap IntKind.i64 (a + b))) (1 : Int)) = IntKind.wrap IntKind.i64 (shrI IntKind.u64 (IntKind.wrap IntKind.u64 (IntKind.wrap IntKind.i64 (a + b))) (1 : Int)) ∧ IntKind.wrap IntKind.i64 (IntKind.wrap IntKind.i64 (shrI IntKind.u64 (IntKind.wrap IntKind.u64 (IntKind.wrap IntKind.i64 (a + b))) (1 : Int)) + m) = IntKind.wrap IntKind.i64 (IntKind.wrap IntKind.i64 (shrI IntKind.u64 (IntKind.wrap IntKind.u64 (IntKind.wrap IntKind.i64 (a + b))) (1 : Int)) + m) ∧ IntKind.wrap IntKind.i64 (IntKind.wrap IntKind.i64 (IntKind.wrap IntKind.i64 (shrI IntKind.u64 (IntKind.wrap IntKind.u64 (IntKind.wrap IntKind.i64 (a + b))) (1 : Int)) + m) - (1 : Int)) = IntKind.wrap IntKind.i64 (IntKind.wrap IntKind.i64 (IntKind.wrap IntKind.i64 (shrI IntKind.u64 (IntKind.wrap IntKind.u64 (IntKind.wrap IntKind.i64 (a + b))) (1 : Int)) + m) - (1 : Int)) ∧ K ((p.fst.fst, IntKind.wrap IntKind.i64 (shrI IntKind.u64 (IntKind.wrap IntKind.u64 (IntKind.wrap IntKind.i64 (p.fst.fst + p.fst.snd.fst))) (1 : Int)), PUnit.unit), PUnit.unit) (delLs H' []))) (CutP (fun (I : PUnit × PUnit → (Nat → Option Obj) → Prop) ↦ Br (decide (p.fst.fst < m)) (Br (decide (m < IntKind.wrap IntKind.i64 (IntKind.wrap IntKind.i64 (IntKind.wrap IntKind.i64 (shrI IntKind.u64 (IntKind.wrap IntKind.u64 (IntKind.wrap IntKind.i64 (a + b))) (1 : Int)) + m) - p.fst.fst))) (Meets prog (83 : Nat) [Value.slice (some A) n c, Value.int IntKind.i64 p.fst.fst, Value.int IntKind.i64 m, Value.int IntKind.i64 (IntKind.wrap IntKind.i64 (IntKind.wrap IntKind.i64 (IntKind.wrap IntKind.i64 (shrI IntKind.u64 (IntKind.wrap IntKind.u64 (IntKind.wrap IntKind.i64 (a + b))) (1 : Int)) + m) - p.fst.fst)), Value.func (Fn.func g) { toList := [] } { toList := [] }] H fun (e : Ending) (H' : Nat → Option Obj) ↦ e = Ending.returned (Value.tuple { toList := [] }) ∧ some A = some A ∧ n = n ∧ c = c ∧ a = a ∧ b = b ∧ Value.func (Fn.func g) { toList := [] } { toList := [] } = Value.func (Fn.func g) { toList := [] } { toList := [] } ∧ IntKind.wrap IntKind.i64 (shrI IntKind.u64 (IntKind.wrap IntKind.u64 (IntKind.wrap IntKind.i64 (a + b))) (1 : Int)) = IntKind.wrap IntKind.i64 (shrI IntKind.u64 (IntKind.wrap IntKind.u64 (IntKind.wrap IntKind.i64 (a + b))) (1 : Int)) ∧ p.fst.fst = p.fst.fst ∧ IntKind.wrap IntKind.i64 (IntKind.wrap IntKind.i64 (IntKind.wrap IntKind.i64 (shrI IntKind.u64 (IntKind.wrap IntKind.u64 (IntKind.wrap IntKind.i64 (a + b))) (1 : Int)) + m) - p.fst.fst) = IntKind.wrap IntKind.i64 (IntKind.wrap IntKind.i64 (IntKind.wrap IntKind.i64 (shrI IntKind.u64 (IntKind.wrap IntKind.u64 (IntKind.wrap IntKind.i64 (a + b))) (1 : Int)) + m) - p.fst.fst) ∧ I (PUnit.unit, PUnit.unit) H') (some A = some A ∧ n = n ∧ c = c ∧ a = a ∧ b = b ∧ Value.func (Fn.func g) { toList := [] } { toList := [] } = Value.func (Fn.func g) { toList := [] } { toList := [] } ∧ IntKind.wrap IntKind.i64 (shrI IntKind.u64 (IntKind.wrap IntKind.u64 (IntKind.wrap IntKind.i64 (a + b))) (1 : Int)) = IntKind.wrap IntKind.i64 (shrI IntKind.u64 (IntKind.wrap IntKind.u64 (IntKind.wrap IntKind.i64 (a + b))) (1 : Int)) ∧ p.fst.fst = p.fst.fst ∧ IntKind.wrap IntKind.i64 (IntKind.wrap IntKind.i64 (IntKind.wrap IntKind.i64 (shrI IntKind.u64 (IntKind.wrap IntKind.u64 (IntKind.wrap IntKind.i64 (a + b))) (1 : Int)) + m) - p.fst.fst) = IntKind.wrap IntKind.i64 (IntKind.wrap IntKind.i64 (IntKind.wrap IntKind.i64 (shrI IntKind.u64 (IntKind.wrap IntKind.u64 (IntKind.wrap IntKind.i64 (a + b))) (1 : Int)) + m) - p.fst.fst) ∧ I (PUnit.unit, PUnit.unit) H)) (some A = some A ∧ n = n ∧ c = c ∧ a = a ∧ b = b ∧ Value.func (Fn.func g) { toList := [] } { toList := [] } = Value.func (Fn.func g) { toList := [] } { toList := [] } ∧ IntKind.wrap IntKind.i64 (shrI IntKind.u64 (IntKind.wrap IntKind.u64 (IntKind.wrap IntKind.i64 (a + b))) (1 : Int)) = IntKind.wrap IntKind.i64 (shrI IntKind.u64 (IntKind.wrap IntKind.u64 (IntKind.wrap IntKind.i64 (a + b))) (1 : Int)) ∧ p.fst.fst = p.fst.fst ∧ IntKind.wrap IntKind.i64 (IntKind.wrap IntKind.i64 (IntKind.wrap IntKind.i64 (shrI IntKind.u64 (IntKind.wrap IntKind.u64 (IntKind.wrap IntKind.i64 (a + b))) (1 : Int)) + m) - p.fst.fst) = IntKind.wrap IntKind.i64 (IntKind.wrap IntKind.i64 (IntKind.wrap IntKind.i64 (shrI IntKind.u64 (IntKind.wrap IntKind.u64 (IntKind.wrap IntKind.i64 (a + b))) (1 : Int)) + m) - p.fst.fst) ∧ I (PUnit.unit, PUnit.unit) H)) fun (p_1 : PUnit × PUnit) (H : Nat → Option Obj) ↦ CutP (fun (I : PUnit × PUnit → (Nat → Option Obj) → Prop) ↦ Br (decide (a < p.fst.fst)) (Br (decide (p.fst.fst < IntKind.wrap IntKind.i64 (shrI IntKind.u64 (IntKind.wrap IntKind.u64 (IntKind.wrap IntKind.i64 (a + b))) (1 : Int)))) (Meets prog (70 : Nat) [Value.slice (some A) n c, Value.int IntKind.i64 a, Value.int IntKind.i64 p.fst.fst, Value.int IntKind.i64 (IntKind.wrap IntKind.i64 (shrI IntKind.u64 (IntKind.wrap IntKind.u64 (IntKind.wrap IntKind.i64 (a + b))) (1 : Int))), Value.func (Fn.func g) { toList := [] } { toList := [] }] H fun (e : Ending) (H' : Nat → Option Obj) ↦ e = Ending.returned (Value.tuple { toList := [] }) ∧ some A = some A ∧ n = n ∧ c = c ∧ b = b ∧ Value.func (Fn.func g) { toList := [] } { toList := [] } = Value.func (Fn.func g) { toList := [] } { toList := [] } ∧ IntKind.wrap IntKind.i64 (shrI IntKind.u64 (IntKind.wrap IntKind.u64 (IntKind.wrap IntKind.i64 (a + b))) (1 : Int)) = IntKind.wrap IntKind.i64 (shrI IntKind.u64 (IntKind.wrap IntKind.u64 (IntKind.wrap IntKind.i64 (a + b))) (1 : Int)) ∧ IntKind.wrap IntKind.i64 (IntKind.wrap IntKind.i64 (IntKind.wrap IntKind.i64 (shrI IntKind.u64 (IntKind.wrap IntKind.u64 (IntKind.wrap IntKind.i64 (a + b))) (1 : Int)) + m) - p.fst.fst) = IntKind.wrap IntKind.i64 (IntKind.wrap IntKind.i64 (IntKind.wrap IntKind.i64 (shrI IntKind.u64 (IntKind.wrap IntKind.u64 (IntKind.wrap IntKind.i64 (a + b))) (1 : Int)) + m) - p.fst.fst) ∧ I (PUnit.unit, PUnit.unit) H') (some A = some A ∧ n = n ∧ c = c ∧ b = b ∧ Value.func (Fn.func g) { toList := [] } { toList := [] } = Value.func (Fn.func g) { toList := [] } { toList := [] } ∧ IntKind.wrap IntKind.i64 (shrI IntKind.u64 (IntKind.wrap IntKind.u64 (IntKind.wrap IntKind.i64 (a + b))) (1 : Int)) = IntKind.wrap IntKind.i64 (shrI IntKind.u64 (IntKind.wrap IntKind.u64 (IntKind.wrap IntKind.i64 (a + b))) (1 : Int)) ∧ IntKind.wrap IntKind.i64 (IntKind.wrap IntKind.i64 (IntKind.wrap IntKind.i64 (shrI IntKind.u64 (IntKind.wrap IntKind.u64 (IntKind.wrap IntKind.i64 (a + b))) (1 : Int)) + m) - p.fst.fst) = IntKind.wrap IntKind.i64 (IntKind.wrap IntKind.i64 (IntKind.wrap IntKind.i64 (shrI IntKind.u64 (IntKind.wrap IntKind.u64 (IntKind.wrap IntKind.i64 (a + b))) (1 : Int)) + m) - p.fst.fst) ∧ I (PUnit.unit, PUnit.unit) H)) (some A = some A ∧ n = n ∧ c = c ∧ b = b ∧ Value.func (Fn.func g) { toList := [] } { toList := [] } = Value.func (Fn.func g) { toList := [] } { toList := [] } ∧ IntKind.wrap IntKind.i64 (shrI IntKind.u64 (IntKind.wrap IntKind.u64 (IntKind.wrap IntKind.i64 (a + b))) (1 : Int)) = IntKind.wrap IntKind.i64 (shrI IntKind.u64 (IntKind.wrap IntKind.u64 (IntKind.wrap IntKind.i64 (a + b))) (1 : Int)) ∧ IntKind.wrap IntKind.i64 (IntKind.wrap IntKind.i64 (IntKind.wrap IntKind.i64 (shrI IntKind.u64 (IntKind.wrap IntKind.u64 (IntKind.wrap IntKind.i64 (a + b))) (1 : Int)) + m) - p.fst.fst) = IntKind.wrap IntKind.i64 (IntKind.wrap IntKind.i64 (IntKind.wrap IntKind.i64 (shrI IntKind.u64 (IntKind.wrap IntKind.u64 (IntKind.wrap IntKind.i64 (a + b))) (1 : Int)) + m) - p.fst.fst) ∧ I (PUnit.unit, PUnit.unit) H)) fun (p_2 : PUnit × PUnit) (H : Nat → Option Obj) ↦ Br (decide (IntKind.wrap IntKind.i64 (shrI IntKind.u64 (IntKind.wrap IntKind.u64 (IntKind.wrap IntKind.i64 (a + b))) (1 : Int)) < IntKind.wrap IntKind.i64 (IntKind.wrap IntKind.i64 (IntKind.wrap IntKind.i64 (shrI IntKind.u64 (IntKind.wrap IntKind.u64 (IntKind.wrap IntKind.i64 (a + b))) (1 : Int)) + m) - p.fst.fst))) (Br (decide (IntKind.wrap IntKind.i64 (IntKind.wrap IntKind.i64 (IntKind.wrap IntKind.i64 (shrI IntKind.u64 (IntKind.wrap IntKind.u64 (IntKind.wrap IntKind.i64 (a + b))) (1 : Int)) + m) - p.fst.fst) < b)) (Meets prog (70 : Nat) [Value.slice (some A) n c, Value.int IntKind.i64 (IntKind.wrap IntKind.i64 (shrI IntKind.u64 (IntKind.wrap IntKind.u64 (IntKind.wrap IntKind.i64 (a + b))) (1 : Int))), Value.int IntKind.i64 (IntKind.wrap IntKind.i64 (IntKind.wrap IntKind.i64 (IntKind.wrap IntKind.i64 (shrI IntKind.u64 (IntKind.wrap IntKind.u64 (IntKind.wrap IntKind.i64 (a + b))) (1 : Int)) + m) - p.fst.fst)), Value.int IntKind.i64 b, Value.func (Fn.func g) { toList := [] } { toList := [] }] H fun (e : Ending) (H' : Nat → Option Obj) ↦ e = Ending.returned (Value.tuple { toList := [] }) ∧ R (Ending.returned (Value.tuple { toList := [] })) H') (R (Ending.returned (Value.tuple { toList := [] })) H)) (R (Ending.returned (Value.tuple { toList := [] })) H))) ((p.fst.fst, p.fst.snd.fst, PUnit.unit), PUnit.unit) H))
theorem vc_sym (A : Addr) (n : Nat) (c : Nat) (g : Nat) (a : Int) (m : Int) (b : Int) (R : Ending → Heap → Prop) (H : Heap) : vcFun prog h_sym f70 [SV.c (SC.v (Value.slice (some A) n c)), SV.c (SC.v (Value.int IntKind.i64 a)), SV.c (SC.v (Value.int IntKind.i64 m)), SV.c (SC.v (Value.int IntKind.i64 b)), SV.c (SC.v (Value.func (Fn.func g) #[] #[]))] R H = nf_sym A n c g a m b R H := by kernel_rfl

def nf_stb (A : Addr) (n : Nat) (c : Nat) (g : Nat) (m : Int) (R : Ending → Heap → Prop) (H : Heap) : Prop := some A = some A ∧ n = n ∧ c = c ∧ m = m ∧ Value.func (Fn.func g) { toList := [] } { toList := [] } = Value.func (Fn.func g) { toList := [] } { toList := [] } ∧ (20 : Int) = (20 : Int) ∧ LoopP (fun (K : (Int × Int × PUnit) × PUnit → (Nat → Option Obj) → Prop) (p : (Int × Int × PUnit) × PUnit) (H : Nat → Option Obj) ↦ Br (decide (p.fst.snd.fst ≤ m)) (Meets prog (69 : Nat) [Value.slice (some A) n c, Value.int IntKind.i64 p.fst.fst, Value.int IntKind.i64 p.fst.snd.fst, Value.func (Fn.func g) { toList := [] } { toList := [] }] H fun (e : Ending) (H' : Nat → Option Obj) ↦ e = Ending.returned (Value.tuple { toList := [] }) ∧ some A = some A ∧ n = n ∧ c = c ∧ m = m ∧ Value.func (Fn.func g) { toList := [] } { toList := [] } = Value.func (Fn.func g) { toList := [] } { toList := [] } ∧ (20 : Int) = (20 : Int) ∧ K ((p.fst.snd.fst, IntKind.wrap IntKind.i64 (p.fst.snd.fst + (20 : Int)), PUnit.unit), PUnit.unit) H') (Meets prog (69 : Nat) [Value.slice (some A) n c, Value.int IntKind.i64 p.fst.fst, Value.int IntKind.i64 m, Value.func (Fn.func g) { toList := [] } { toList := [] }] H fun (e : Ending) (H' : Nat → Option Obj) ↦ e = Ending.returned (Value.tuple { toList := [] }) ∧ some A = some A ∧ n = n ∧ c = c ∧ m = m ∧ Value.func (Fn.func g) { toList := [] } { toList := [] } = Value.func (Fn.func g) { toList := [] } { toList := [] } ∧ LoopP (fun (K : (Int × PUnit) × PUnit → (Nat → Option Obj) → Prop) (p : (Int × PUnit) × PUnit) (H : Nat → Option Obj) ↦ Br (decide (p.fst.fst < m)) (some A = some A ∧ n = n ∧ c = c ∧ m = m ∧ Value.func (Fn.func g) { toList := [] } { toList := [] } = Value.func (Fn.func g) { toList := [] } { toList := [] } ∧ p.fst.fst = p.fst.fst ∧ LoopP (fun (K_1 : (Int × Int × PUnit) × PUnit → (Nat → Option Obj) → Prop) (p_1 : (Int × Int × PUnit) × PUnit) (H : Nat → Option Obj) ↦ Br (decide (p_1.fst.snd.fst ≤ m)) (Meets prog (70 : Nat) [Value.slice (some A) n c, Value.int IntKind.i64 p_1.fst.fst, Value.int IntKind.i64 (IntKind.wrap IntKind.i64 (p_1.fst.fst + p.fst.fst)), Value.int IntKind.i64 p_1.fst.snd.fst, Value.func (Fn.func g) { toList := [] } { toList := [] }] H fun (e : Ending) (H' : Nat → Option Obj) ↦ e = Ending.returned (Value.tuple { toList := [] }) ∧ some A = some A ∧ n = n ∧ c = c ∧ m = m ∧ Value.func (Fn.func g) { toList := [] } { toList := [] } = Value.func (Fn.func g) { toList := [] } { toList := [] } ∧ p.fst.fst = p.fst.fst ∧ K_1 ((p_1.fst.snd.fst, IntKind.wrap IntKind.i64 (p_1.fst.snd.fst + IntKind.wrap IntKind.i64 ((2 : Int) * p.fst.fst)), PUnit.unit), PUnit.unit) H') (Br (decide (IntKind.wrap IntKind.i64 (p_1.fst.fst + p.fst.fst) < m)) (Meets prog (70 : Nat) [Value.slice (some A) n c, Value.int IntKind.i64 p_1.fst.fst, Value.int IntKind.i64 (IntKind.wrap IntKind.i64 (p_1.fst.fst + p.fst.fst)), Value.int IntKind.i64 m, Value.func (Fn.func g) { toList := [] } { toList := [] }] H fun (e : Ending) (H' : Nat → Option Obj) ↦ e = Ending.returned (Value.tuple { toList := [] }) ∧ some A = some A ∧ n = n ∧ c = c ∧ m = m ∧ Value.func (Fn.func g) { toList := [] } { toList := [] } = Value.func (Fn.func g) { toList := [] } { toList := [] } ∧ K ((IntKind.wrap IntKind.i64 (p.fst.fst * (2 : Int)), PUnit.unit), PUnit.unit) H') (some A = some A ∧ n = n ∧ c = c ∧ m = m ∧ Value.func (Fn.func g) { toList := [] } { toList := [] } = Value.func (Fn.func g) { toList := [] } { toList := [] } ∧ K ((IntKind.wrap IntKind.i64 (p.fst.fst * (2 : Int)), PUnit.unit), PUnit.unit) H))) (((0 : Int), IntKind.wrap IntKind.i64 ((2 : Int) * p.fst.fst), PUnit.unit), PUnit.unit) H) (R (Ending.returned (Value.tuple { toList := [] })) H)) (((20 : Int), PUnit.unit), PUnit.unit) H')) (((0 : Int), (20 : Int), PUnit.unit), PUnit.unit) H
theorem vc_stb (A : Addr) (n : Nat) (c : Nat) (g : Nat) (m : Int) (R : Ending → Heap → Prop) (H : Heap) : vcFun prog h_stb f57 [SV.c (SC.v (Value.slice (some A) n c)), SV.c (SC.v (Value.int IntKind.i64 m)), SV.c (SC.v (Value.func (Fn.func g) #[] #[]))] R H = nf_stb A n c g m R H := by kernel_rfl

end Cr

set_option linter.unusedVariables false
set_option linter.unusedSimpArgs false
namespace Cr
open Go Sx Stb
open Go.Sort (SWO)
open Go.Proofs.Try
set_option linter.unusedSectionVars false
variable [Dr]
set_option maxRecDepth 100000
section
variable {R : Ending → Heap → Prop} {H : Heap} {ty : Nat}
theorem half64 {u : Int} (h : 0 ≤ u ∧ u ≤ 4611686018427387904) : IntKind.i64.wrap (shrI .u64 (IntKind.u64.wrap (IntKind.i64.wrap u)) 1) = u / 2 := by
  rw [w64 (k := u) (by omega), IntWalk.u64_in u (by omega)]
  have : shrI .u64 u 1 = u / 2 := by
    unfold shrI
    rw [show min (Int.toNat 1) (IntKind.u64).bits = 1 by decide, show ((2 : Int) ^ 1) = 2 by decide, Int.fdiv_eq_ediv_of_nonneg _ (by decide)]
  rw [this, w64 (by omega)]
theorem get_X {A X Y B : List Pt} {k j : Nat} (hk : k < X.length) (hj : A.length + k = j) : (A ++ X ++ Y ++ B)[j]? = some X[k] := by
  subst hj
  rw [List.append_assoc, List.append_assoc, List.getElem?_append_right (by omega), Nat.add_sub_cancel_left, List.getElem?_append_left hk, List.getElem?_eq_getElem hk]
theorem get_Y {A X Y B : List Pt} {k j : Nat} (hk : k < Y.length) (hj : A.length + X.length + k = j) : (A ++ X ++ Y ++ B)[j]? = some Y[k] := by
  subst hj
  rw [List.append_assoc, List.getElem?_append_right (by simp only [List.length_append]; omega), List.length_append, Nat.add_sub_cancel_left, List.getElem?_append_left hk, List.getElem?_eq_getElem hk]
theorem drop_cons {α : Type} {l : List α} {k : Nat} (h : k < l.length) : ∃ y, l.drop k = y :: l.drop (k + 1) ∧ l.take (k + 1) = l.take k ++ [y] ∧ l[k]? = some y :=
  ⟨l[k], List.drop_eq_getElem_cons h, by rw [List.take_add_one, List.getElem?_eq_getElem h]; rfl, List.getElem?_eq_getElem h⟩
theorem s_sym {g : Nat} {cf : Pt → Pt → Int} (hc : CmpOK g cf) (hs : SWO (ltc cf)) {Ad : Addr} {n c : Nat} (hn : n ≤ 1000000) : ∀ (N : Nat) {A X Y B : List Pt} {a m b : Int} (hN : X.length + Y.length = N) (ha : (A.length : Int) = a) (hm : a + X.length = m) (hb : m + Y.length = b) (hx : 0 < X.length) (hy : 0 < Y.length)
    (sX : Srtd (ltc cf) X) (sY : Srtd (ltc cf) Y) {R : Ending → Heap → Prop} {H : Heap}
    (hrow : RowAt H (.slice (some Ad) n c) ty 4 (pts (A ++ X ++ Y ++ B))) (h : ∀ H', RowAt H' (.slice (some Ad) n c) ty 4 (pts (A ++ isort (ltc cf) (X ++ Y) ++ B)) → Mod (.slice (some Ad) n c) H H' → R (.returned (.tuple #[])) H'),
    Meets prog 70 [.slice (some Ad) n c, vi a, vi m, vi b, .func (.func g) #[] #[]] H R := by
  intro N
  induction N using Nat.strongRecOn with
  | _ N ih =>
  intro A X Y B a m b hN ha hm hb hx hy sX sY R H hrow h
  refine spec_of func70 (by kernel_rfl) (fun t h => by cases h) ?_ (vc_sym Ad n c g a m b R H) ?_
  · simp [argsR, SV.rep, SC.rep, one]
  unfold nf_sym
  simp only [true_and, delLs_nil, List.nil_append, List.append_nil]
  have hlen0 := (row_len hrow).1
  simp only [pts, List.length_map, List.length_append] at hlen0
  have hsl := row_slice hrow
  rw [w64 (k := m - a) (by omega), w64 (k := b - m) (by omega)]
  refine br (fun q => ?_) fun q => br (fun q1 => ?_) fun q1 => ?_
  · -- one on the left
    have hx1 : X.length = 1 := by simp at q; omega
    obtain ⟨x, rfl⟩ := List.length_eq_one_iff.1 hx1
    simp only [List.length_singleton] at hm hlen0 hN
    refine ⟨fun p H' => ∃ s t : Nat, p.1.1 = m + s ∧ p.1.2.1 = m + t ∧ s ≤ t ∧ t ≤ Y.length ∧ (∀ y, 0 < s → Y[s - 1]? = some y → ltc cf y x = true) ∧ (∀ y, t < Y.length → Y[t]? = some y → ltc cf y x = false) ∧ H' = H, fun p _ => (p.1.2.1 - p.1.1).toNat, ⟨0, Y.length, by simp, by simp only; omega, by omega, by omega, by omega, by omega, rfl⟩, ?_⟩
    rintro ⟨⟨i, j, _⟩, _⟩ H1 ⟨s, t, hi, hj, hst, htl, f1, f2, rfl⟩
    simp only at hi hj ⊢
    subst hi; subst hj
    refine br (fun q2 => ?_) fun q2 => ?_
    · simp only [decide_eq_true_eq] at q2
      rw [half64 (by omega)]
      obtain ⟨k, hk⟩ : ∃ k : Nat, (m + (s : Int) + (m + (t : Int))) / 2 = m + k ∧ s ≤ k ∧ k < t := ⟨(s + t) / 2, by omega, by omega, by omega⟩
      rw [hk.1, w64 (k := m + k + 1) (by omega)]
      obtain ⟨A1, e1, g1⟩ := pr_get hsl (i := (m + k).toNat) (p := Y[k]) (get_Y (by omega) (by simp only [List.length_singleton]; omega))
      obtain ⟨A2, e2, g2⟩ := pr_get hsl (i := a.toNat) (p := x) (get_X (X := [x]) (k := 0) (by simp) (by omega))
      cases e1; cases e2
      refine ⟨by decide, _, heap_refl _, ⟨by omega, by omega⟩, ptr rfl (ptr rfl ⟨_, _, _, _, g1, ⟨by omega, by omega⟩, ptr rfl (ptr rfl ⟨_, _, _, _, g2, ?_⟩)⟩)⟩
      refine hc _ _ _ _ ⟨keep_same _ _ _, _, rfl, br (fun q3 => ?_) fun q3 => ?_⟩
      · refine ⟨⟨k + 1, t, by omega, rfl, by omega, htl, fun y _ hy => ?_, f2, rfl⟩, by omega⟩
        rw [Nat.add_sub_cancel, List.getElem?_eq_getElem (by omega)] at hy
        cases hy
        exact q3
      · refine ⟨⟨s, k, rfl, rfl, by omega, by omega, f1, fun y _ hy => ?_, rfl⟩, by omega⟩
        rw [List.getElem?_eq_getElem (by omega)] at hy
        cases hy
        exact q3
    · simp only [decide_eq_false_iff_not] at q2
      have hst' : t = s := by omega
      subst hst'
      have hins : isort (ltc cf) ([x] ++ Y) = Y.take t ++ x :: Y.drop t := by
        have := ins_left hs (x := x) (Y1 := Y.take t) (Y2 := Y.drop t) (by rw [List.take_append_drop]; exact sY) (fun y hy => ?_) (fun y hy => ?_)
        · rwa [List.take_append_drop] at this
        · rcases Nat.eq_zero_or_pos t with h0 | h0
          · subst h0; simp at hy
          · rw [last_take h0 htl] at hy
            exact f1 y h0 hy
        · rw [head_drop] at hy
          have : t < Y.length := by
            rcases Nat.lt_or_ge t Y.length with h | h
            · exact h
            · rw [List.getElem?_eq_none h] at hy; cases hy
          exact f2 y this hy
      rw [w64 (k := m + t - 1) (by omega)]
      refine ⟨fun p H' => ∃ u : Nat, p.1.1 = a + u ∧ u ≤ t ∧ RowAt H' (.slice (some Ad) n c) ty 4 (pts (A ++ Y.take u ++ x :: Y.drop u ++ B)) ∧ Mod (.slice (some Ad) n c) H1 H', fun p _ => (m + t - p.1.1).toNat, ⟨0, by simp, by omega, by simpa using hrow, Mod.refl _ _⟩, ?_⟩
      rintro ⟨⟨i, _⟩, _⟩ H2 ⟨u, hi, hut, hrow2, hmod2⟩
      simp only at hi ⊢
      subst hi
      refine br (fun q3 => ?_) fun q3 => ?_
      · simp only [decide_eq_true_eq] at q3
        obtain ⟨y, hd, ht, _⟩ := drop_cons (l := Y) (k := u) (by omega)
        rw [w64 (k := a + u + 1) (by omega)]
        have hL : A ++ Y.take u ++ x :: Y.drop u ++ B = (A ++ Y.take u) ++ x :: ([] ++ y :: (Y.drop (u + 1) ++ B)) := by rw [hd]; simp
        rw [hL] at hrow2
        have hl1 : (A ++ Y.take u).length = (a + u).toNat := by rw [List.length_append, List.length_take]; omega
        have hl2 : (a + u).toNat + 1 + ([] : List Pt).length = (a + u + 1).toNat := by simp only [List.length_nil]; omega
        have hsl2 := row_slice hrow2
        obtain ⟨A1, e1, g1⟩ := pr_get hsl2 (i := (a + u).toNat) (p := x) (get_at hl1)
        obtain ⟨A2, e2, g2⟩ := pr_get hsl2 (i := (a + u + 1).toNat) (p := y) (by
          have := get_at (P := (A ++ Y.take u) ++ [x]) (Q := Y.drop (u + 1) ++ B) (x := y) (k := (a + u + 1).toNat) (by rw [List.length_append, hl1]; simp only [List.length_singleton]; omega)
          simpa using this)
        cases e1; cases e2
        obtain ⟨c1, m1, r1, d1⟩ := pr_put hrow2 (i := (a + u).toNat) (by omega) y
        obtain ⟨c2, m2, r2, d2⟩ := pr_put r1 (i := (a + u + 1).toNat) (by omega) x
        rw [set_far hl1 hl2] at r2
        refine ⟨⟨by omega, by omega⟩, ptr rfl (ptr rfl ⟨_, _, _, _, g2, ⟨by omega, by omega⟩, ptr rfl (ptr rfl ⟨_, _, _, _, g1, ⟨by omega, by omega⟩, ptr rfl (ptr rfl ⟨_, _, m1, ⟨by omega, by omega⟩, ptr rfl (ptr rfl ⟨_, _, m2, ⟨u + 1, by omega, by omega, ?_, (hmod2.trans d1).trans d2⟩, by omega⟩)⟩)⟩)⟩)⟩
        rw [ht]
        simpa using r2
      · simp only [decide_eq_false_iff_not] at q3
        have : u = t := by omega
        subst this
        refine h _ ?_ hmod2
        rw [hins]
        simpa using hrow2
  · -- one on the right
    have hy1 : Y.length = 1 := by simp at q1; omega
    obtain ⟨y, rfl⟩ := List.length_eq_one_iff.1 hy1
    simp only [List.length_singleton] at hb hlen0 hN
    refine ⟨fun p H' => ∃ s t : Nat, p.1.1 = a + s ∧ p.1.2.1 = a + t ∧ s ≤ t ∧ t ≤ X.length ∧ (∀ x, 0 < s → X[s - 1]? = some x → ltc cf y x = false) ∧ (∀ x, t < X.length → X[t]? = some x → ltc cf y x = true) ∧ H' = H, fun p _ => (p.1.2.1 - p.1.1).toNat, ⟨0, X.length, by simp, by simp only; omega, by omega, by omega, by omega, by omega, rfl⟩, ?_⟩
    rintro ⟨⟨i, j, _⟩, _⟩ H1 ⟨s, t, hi, hj, hst, htl, f1, f2, rfl⟩
    simp only at hi hj ⊢
    subst hi; subst hj
    refine br (fun q2 => ?_) fun q2 => ?_
    · simp only [decide_eq_true_eq] at q2
      rw [half64 (by omega)]
      obtain ⟨k, hk⟩ : ∃ k : Nat, (a + (s : Int) + (a + (t : Int))) / 2 = a + k ∧ s ≤ k ∧ k < t := ⟨(s + t) / 2, by omega, by omega, by omega⟩
      rw [hk.1, w64 (k := a + k + 1) (by omega)]
      obtain ⟨A1, e1, g1⟩ := pr_get hsl (i := (a + k).toNat) (p := X[k]) (get_X (by omega) (by omega))
      obtain ⟨A2, e2, g2⟩ := pr_get hsl (i := m.toNat) (p := y) (get_Y (Y := [y]) (k := 0) (by simp) (by omega))
      cases e1; cases e2
      refine ⟨by decide, _, heap_refl _, ⟨by omega, by omega⟩, ptr rfl (ptr rfl ⟨_, _, _, _, g2, ⟨by omega, by omega⟩, ptr rfl (ptr rfl ⟨_, _, _, _, g1, ?_⟩)⟩)⟩
      refine hc _ _ _ _ ⟨keep_same _ _ _, _, rfl, br (fun q3 => ?_) fun q3 => ?_⟩
      · refine ⟨⟨k + 1, t, by omega, rfl, by omega, htl, fun x _ hx => ?_, f2, rfl⟩, by omega⟩
        rw [Nat.add_sub_cancel, List.getElem?_eq_getElem (by omega)] at hx
        cases hx
        simpa [ltc] using q3
      · refine ⟨⟨s, k, rfl, rfl, by omega, by omega, f1, fun x _ hx => ?_, rfl⟩, by omega⟩
        rw [List.getElem?_eq_getElem (by omega)] at hx
        cases hx
        simpa [ltc] using q3
    · simp only [decide_eq_false_iff_not] at q2
      have hst' : t = s := by omega
      subst hst'
      have hins : isort (ltc cf) (X ++ [y]) = X.take t ++ y :: X.drop t := by
        have := ins_right hs (y := y) (X1 := X.take t) (X2 := X.drop t) (by rw [List.take_append_drop]; exact sX) (fun x hx => ?_) (fun x hx => ?_)
        · rwa [List.take_append_drop] at this
        · rcases Nat.eq_zero_or_pos t with h0 | h0
          · subst h0; simp at hx
          · rw [last_take h0 htl] at hx
            exact f1 x h0 hx
        · rw [head_drop] at hx
          have : t < X.length := by
            rcases Nat.lt_or_ge t X.length with h | h
            · exact h
            · rw [List.getElem?_eq_none h] at hx; cases hx
          exact f2 x this hx
      refine ⟨fun p H' => ∃ u : Nat, p.1.1 = a + u ∧ t ≤ u ∧ u ≤ X.length ∧ RowAt H' (.slice (some Ad) n c) ty 4 (pts (A ++ X.take u ++ y :: X.drop u ++ B)) ∧ Mod (.slice (some Ad) n c) H1 H', fun p _ => (p.1.1).toNat, ⟨X.length, by simp only; omega, by omega, by omega, by simpa using hrow, Mod.refl _ _⟩, ?_⟩
      rintro ⟨⟨i, _⟩, _⟩ H2 ⟨u, hi, hut, hul, hrow2, hmod2⟩
      simp only at hi ⊢
      subst hi
      refine br (fun q3 => ?_) fun q3 => ?_
      · simp only [decide_eq_true_eq] at q3
        obtain ⟨v, rfl⟩ : ∃ v, u = v + 1 := ⟨u - 1, by omega⟩
        obtain ⟨x, hd, ht, _⟩ := drop_cons (l := X) (k := v) (by omega)
        rw [w64 (k := a + ((v + 1 : Nat) : Int) - 1) (by omega)]
        have hL : A ++ X.take (v + 1) ++ y :: X.drop (v + 1) ++ B = (A ++ X.take v) ++ x :: y :: (X.drop (v + 1) ++ B) := by rw [ht]; simp
        rw [hL] at hrow2
        have hl1 : (A ++ X.take v).length = (a + ((v + 1 : Nat) : Int) - 1).toNat := by rw [List.length_append, List.length_take]; omega
        have hk : (a + ((v + 1 : Nat) : Int)).toNat = (a + ((v + 1 : Nat) : Int) - 1).toNat + 1 := by omega
        rw [hk]
        have hsl2 := row_slice hrow2
        obtain ⟨A1, e1, g1⟩ := pr_get hsl2 (i := (a + ((v + 1 : Nat) : Int) - 1).toNat) (p := x) (get_at hl1)
        obtain ⟨A2, e2, g2⟩ := pr_get hsl2 (i := (a + ((v + 1 : Nat) : Int) - 1).toNat + 1) (p := y) (by
          have := get_at (P := (A ++ X.take v) ++ [x]) (Q := X.drop (v + 1) ++ B) (x := y) (k := (a + ((v + 1 : Nat) : Int) - 1).toNat + 1) (by rw [List.length_append, hl1]; simp only [List.length_singleton])
          simpa using this)
        cases e1; cases e2
        obtain ⟨c1, m1, r1, d1⟩ := pr_put hrow2 (i := (a + ((v + 1 : Nat) : Int) - 1).toNat + 1) (by omega) x
        obtain ⟨c2, m2, r2, d2⟩ := pr_put r1 (i := (a + ((v + 1 : Nat) : Int) - 1).toNat) (by omega) y
        rw [set_two hl1] at r2
        refine ⟨⟨by omega, by omega⟩, ptr rfl (ptr rfl ⟨_, _, _, _, g1, ⟨by omega, by omega⟩, ptr rfl (ptr rfl ⟨_, _, _, _, g2, ⟨by omega, by omega⟩, ptr rfl (ptr rfl ⟨_, _, m1, ⟨by omega, by omega⟩, ptr rfl (ptr rfl ⟨_, _, m2, ⟨v, by omega, by omega, by omega, ?_, (hmod2.trans d1).trans d2⟩, by omega⟩)⟩)⟩)⟩)⟩
        rw [hd]
        simpa using r2
      · simp only [decide_eq_false_iff_not] at q3
        have : u = t := by omega
        subst this
        refine h _ ?_ hmod2
        rw [hins]
        simpa using hrow2
  · -- both longer
    have hx2 : 2 ≤ X.length := by simp at q; omega
    have hy2 : 2 ≤ Y.length := by simp at q1; omega
    rw [half64 (u := a + b) (by omega)]
    generalize hmid : (a + b) / 2 = mid
    have hmb : a + 2 ≤ mid ∧ mid + 2 ≤ b := by omega
    rw [w64 (k := mid + m) (by omega), w64 (k := mid + m - b) (by omega), w64 (k := mid + m - 1) (by omega)]
    refine ⟨by decide, fun p H' => H' = H ∧ ((m > mid ∧ p.1.1 = mid + m - b ∧ p.1.2.1 = mid) ∨ (m ≤ mid ∧ p.1.1 = a ∧ p.1.2.1 = m)), br (fun q2 => ?_) fun q2 => ?_, ?_⟩
    · simp only [decide_eq_true_eq] at q2
      exact ⟨rfl, .inl ⟨q2, rfl, rfl⟩⟩
    · simp only [decide_eq_false_iff_not] at q2
      exact ⟨rfl, .inr ⟨by omega, rfl, rfl⟩⟩
    rintro ⟨⟨st0, r0, _⟩, _⟩ H1 ⟨rfl, hsr⟩
    simp only at hsr ⊢
    have hsr' : a ≤ st0 ∧ st0 ≤ r0 ∧ r0 ≤ m ∧ r0 ≤ mid ∧ mid + m - st0 ≤ b ∧ (a < st0 → mid + m - st0 = b) ∧ (r0 < m → r0 = mid) := by omega
    refine ⟨fun p H' => ∃ s t : Nat, p.1.1 = a + s ∧ p.1.2.1 = a + t ∧ s ≤ t ∧ st0 ≤ a + s ∧ a + t ≤ r0 ∧ (∀ x y, st0 < a + s → X[s - 1]? = some x → Y[(mid - a - s).toNat]? = some y → ltc cf y x = false) ∧ (∀ x y, a + t < r0 → X[t]? = some x → Y[(mid - a - t - 1).toNat]? = some y → ltc cf y x = true) ∧ H' = H1, fun p _ => (p.1.2.1 - p.1.1).toNat, ⟨(st0 - a).toNat, (r0 - a).toNat, by simp only; omega, by simp only; omega, by omega, by omega, by omega, by omega, by omega, rfl⟩, ?_⟩
    rintro ⟨⟨i, j, _⟩, _⟩ H2 ⟨s, t, hi, hj, hst, hs0, ht0, f1, f2, rfl⟩
    simp only at hi hj ⊢
    subst hi; subst hj
    refine br (fun q2 => ?_) fun q2 => ?_
    · simp only [decide_eq_true_eq] at q2
      rw [half64 (by omega)]
      obtain ⟨k, hk⟩ : ∃ k : Nat, (a + (s : Int) + (a + (t : Int))) / 2 = a + k ∧ s ≤ k ∧ k < t := ⟨(s + t) / 2, by omega, by omega, by omega⟩
      rw [hk.1, w64 (k := a + k + 1) (by omega), w64 (k := mid + m - 1 - (a + k)) (by omega)]
      have hkx : k < X.length := by omega
      have hky : (mid - a - k - 1).toNat < Y.length := by omega
      obtain ⟨A1, e1, g1⟩ := pr_get hsl (i := (a + k).toNat) (p := X[k]) (get_X hkx (by omega))
      obtain ⟨A2, e2, g2⟩ := pr_get hsl (i := (mid + m - 1 - (a + k)).toNat) (p := Y[(mid - a - k - 1).toNat]) (get_Y hky (by omega))
      cases e1; cases e2
      refine ⟨by decide, _, heap_refl _, ⟨by omega, by omega⟩, ptr rfl (ptr rfl ⟨_, _, _, _, g2, ⟨by omega, by omega⟩, ptr rfl (ptr rfl ⟨_, _, _, _, g1, ?_⟩)⟩)⟩
      refine hc _ _ _ _ ⟨keep_same _ _ _, _, rfl, br (fun q3 => ?_) fun q3 => ?_⟩
      · refine ⟨⟨k + 1, t, by omega, rfl, by omega, by omega, ht0, fun x y _ hx hy => ?_, f2, rfl⟩, by omega⟩
        rw [Nat.add_sub_cancel, List.getElem?_eq_getElem hkx] at hx
        rw [show (mid - a - ((k + 1 : Nat) : Int)).toNat = (mid - a - k - 1).toNat by omega, List.getElem?_eq_getElem hky] at hy
        cases hx; cases hy
        simpa [ltc] using q3
      · refine ⟨⟨s, k, rfl, rfl, by omega, hs0, by omega, f1, fun x y _ hx hy => ?_, rfl⟩, by omega⟩
        rw [List.getElem?_eq_getElem hkx] at hx
        rw [List.getElem?_eq_getElem hky] at hy
        cases hx; cases hy
        simpa [ltc] using q3
    · simp only [decide_eq_false_iff_not] at q2
      have hst' : t = s := by omega
      subst hst'
      -- the four parts
      obtain ⟨d, hd⟩ : ∃ d : Nat, mid = a + t + d := ⟨(mid - a - t).toNat, by omega⟩
      have hXs : X.take t ++ X.drop t = X := List.take_append_drop ..
      have hYs : Y.take d ++ Y.drop d = Y := List.take_append_drop ..
      have lX1 : (X.take t).length = t := by rw [List.length_take]; omega
      have lX2 : (X.drop t).length = X.length - t := by simp
      have lY1 : (Y.take d).length = d := by rw [List.length_take]; omega
      have lY2 : (Y.drop d).length = Y.length - d := by simp
      have hfin : isort (ltc cf) (X.take t ++ Y.take d) ++ isort (ltc cf) (X.drop t ++ Y.drop d) = isort (ltc cf) (X ++ Y) := by
        have hb1 := borders hs (X1 := X.take t) (X2 := X.drop t) (Y1 := Y.take d) (Y2 := Y.drop d) (by rw [hXs]; exact sX) (by rw [hYs]; exact sY) (fun x y hx hy => ?_) (fun x y hx hy => ?_)
        · have := merge_halves hs (X1 := X.take t) (X2 := X.drop t) (Y1 := Y.take d) (Y2 := Y.drop d) (by rw [hXs]; exact sX) (by rw [hYs]; exact sY) hb1.1 hb1.2
          rwa [hXs, hYs] at this
        · rw [head_drop] at hy
          have h3 : d < Y.length := by
            rcases Nat.lt_or_ge d Y.length with h | h
            · exact h
            · rw [List.getElem?_eq_none h] at hy; cases hy
          have h4 : 0 < t := by
            rcases Nat.eq_zero_or_pos t with h0 | h0
            · subst h0; simp at hx
            · exact h0
          rw [last_take h4 (by omega)] at hx
          refine f1 x y (by omega) hx ?_
          rw [show (mid - a - (t : Int)).toNat = d by omega]; exact hy
        · rw [head_drop] at hx
          have h3 : t < X.length := by
            rcases Nat.lt_or_ge t X.length with h | h
            · exact h
            · rw [List.getElem?_eq_none h] at hx; cases hx
          have h4 : 0 < d := by
            rcases Nat.eq_zero_or_pos d with h0 | h0
            · subst h0; simp at hy
            · exact h0
          rw [last_take h4 (by omega)] at hy
          refine f2 x y (by omega) hx ?_
          rw [show (mid - a - (t : Int) - 1).toNat = d - 1 by omega]; exact hy
      rw [← hXs] at sX
      rw [← hYs] at sY
      have pX := List.pairwise_append.1 sX
      have pY := List.pairwise_append.1 sY
      rw [← hXs, ← hYs] at hrow
      rw [hfin.symm] at h
      generalize X.take t = X1 at *
      generalize X.drop t = X2 at *
      generalize Y.take d = Y1 at *
      generalize Y.drop d = Y2 at *
      rw [w64 (k := mid + m - (a + t)) (by omega)]
      have hend : mid + m - (a + (t : Int)) = m + d := by omega
      rw [hend]
      refine ⟨fun _ H' => RowAt H' (.slice (some Ad) n c) ty 4 (pts (A ++ (X1 ++ Y1) ++ (X2 ++ Y2) ++ B)) ∧ Mod (.slice (some Ad) n c) H2 H', ?_, ?_⟩
      · refine br (fun q3 => br (fun q4 => ?_) fun q4 => ?_) fun q3 => ?_
        · simp only [decide_eq_true_eq] at q3 q4
          refine s_rot (ty := ty) (A := A ++ X1) (X := X2) (Y := Y1) (B := Y2 ++ B) (by simp; omega) (by omega) (by omega) (by simpa using hrow) (by omega) (by omega) hn fun H3 hr hmd => ⟨rfl, by simpa using hr, hmd⟩
        · simp only [decide_eq_false_iff_not] at q4
          have : Y1 = [] := List.length_eq_zero_iff.1 (by omega)
          subst this
          exact ⟨by simpa using hrow, Mod.refl _ _⟩
        · simp only [decide_eq_false_iff_not] at q3
          have : X2 = [] := List.length_eq_zero_iff.1 (by omega)
          subst this
          exact ⟨by simpa using hrow, Mod.refl _ _⟩
      rintro _ H3 ⟨hrow3, hmod3⟩
      refine ⟨fun _ H' => RowAt H' (.slice (some Ad) n c) ty 4 (pts (A ++ isort (ltc cf) (X1 ++ Y1) ++ (X2 ++ Y2) ++ B)) ∧ Mod (.slice (some Ad) n c) H2 H', ?_, ?_⟩
      · refine br (fun q3 => br (fun q4 => ?_) fun q4 => ?_) fun q3 => ?_
        · simp only [decide_eq_true_eq] at q3 q4
          refine ih (X1.length + Y1.length) (by omega) (A := A) (X := X1) (Y := Y1) (B := X2 ++ Y2 ++ B) rfl ha (by omega) (by omega) (by omega) (by omega) pX.1 pY.1 (by simpa using hrow3) fun H4 hr hmd => ⟨rfl, by simpa using hr, hmod3.trans hmd⟩
        · simp only [decide_eq_false_iff_not] at q4
          have : Y1 = [] := List.length_eq_zero_iff.1 (by omega)
          subst this
          rw [List.append_nil, isort_id hs pX.1]
          exact ⟨by simpa using hrow3, hmod3⟩
        · simp only [decide_eq_false_iff_not] at q3
          have : X1 = [] := List.length_eq_zero_iff.1 (by omega)
          subst this
          rw [List.nil_append, isort_id hs pY.1]
          exact ⟨by simpa using hrow3, hmod3⟩
      rintro _ H4 ⟨hrow4, hmod4⟩
      have hl4 : (isort (ltc cf) (X1 ++ Y1)).length = X1.length + Y1.length := by rw [isort_len, List.length_append]
      refine br (fun q3 => br (fun q4 => ?_) fun q4 => ?_) fun q3 => ?_
      · simp only [decide_eq_true_eq] at q3 q4
        refine ih (X2.length + Y2.length) (by omega) (A := A ++ isort (ltc cf) (X1 ++ Y1)) (X := X2) (Y := Y2) (B := B) rfl (by rw [List.length_append, hl4]; omega) (by omega) (by omega) (by omega) (by omega) pX.2.1 pY.2.1 (by simpa using hrow4) fun H5 hr hmd => ⟨rfl, h _ (by simpa using hr) (hmod4.trans hmd)⟩
      · simp only [decide_eq_false_iff_not] at q4
        have : Y2 = [] := List.length_eq_zero_iff.1 (by omega)
        subst this
        rw [List.append_nil] at hrow4 h
        rw [isort_id hs pX.2.1] at h
        exact h _ (by simpa using hrow4) hmod4
      · simp only [decide_eq_false_iff_not] at q3
        have : X2 = [] := List.length_eq_zero_iff.1 (by omega)
        subst this
        rw [List.nil_append] at hrow4 h
        rw [isort_id hs pY.2.1] at h
        exact h _ (by simpa using hrow4) hmod4
theorem flat_len {α : Type} {k : Nat} : ∀ {Ls : List (List α)}, (∀ l ∈ Ls, l.length = k) → Ls.flatten.length = Ls.length * k
  | [], _ => by simp
  | l :: Ls, h => by
    rw [List.flatten_cons, List.length_append, flat_len (fun l hl => h l (List.mem_cons_of_mem _ hl)), h l (List.mem_cons_self ..), List.length_cons, Nat.add_mul, Nat.one_mul, Nat.add_comm]
/-- Sorted blocks of one length, and a shorter rest. -/
structure Blk (lt : Pt → Pt → Bool) (k : Nat) (Ls : List (List Pt)) : Prop where
  len : ∀ l ∈ Ls, l.length = k
  srt : ∀ l ∈ Ls, Srtd lt l
theorem Blk.nil (lt : Pt → Pt → Bool) (k : Nat) : Blk lt k [] := ⟨by simp, by simp⟩
theorem Blk.snoc {lt : Pt → Pt → Bool} {k : Nat} {Ls : List (List Pt)} (h : Blk lt k Ls) {l : List Pt} (h1 : l.length = k) (h2 : Srtd lt l) : Blk lt k (Ls ++ [l]) :=
  ⟨fun x hx => (List.mem_append.1 hx).elim (h.len x) fun hx => by simp at hx; subst hx; exact h1, fun x hx => (List.mem_append.1 hx).elim (h.srt x) fun hx => by simp at hx; subst hx; exact h2⟩
theorem Blk.tail {lt : Pt → Pt → Bool} {k : Nat} {l : List Pt} {Ls : List (List Pt)} (h : Blk lt k (l :: Ls)) : l.length = k ∧ Srtd lt l ∧ Blk lt k Ls :=
  ⟨h.len l (List.mem_cons_self ..), h.srt l (List.mem_cons_self ..), fun x hx => h.len x (List.mem_cons_of_mem _ hx), fun x hx => h.srt x (List.mem_cons_of_mem _ hx)⟩
theorem stab_mid {lt : Pt → Pt → Bool} (hs : SWO lt) {L A X B : List Pt} (h : Stab lt L (A ++ X ++ B)) : Stab lt L (A ++ isort lt X ++ B) :=
  h.trans (Stab.app (Stab.app (Stab.refl A) (isort_stab hs X)) (Stab.refl B))
theorem s_stb {g : Nat} {cf : Pt → Pt → Int} (hc : CmpOK g cf) (hs : SWO (ltc cf)) {Ad : Addr} {n c : Nat} (hn : n ≤ 1000000) {L : List Pt} {m : Int} (hm : (L.length : Int) = m) {R : Ending → Heap → Prop} {H : Heap}
    (hrow : RowAt H (.slice (some Ad) n c) ty 4 (pts L)) (h : ∀ H', RowAt H' (.slice (some Ad) n c) ty 4 (pts (isort (ltc cf) L)) → Mod (.slice (some Ad) n c) H H' → R (.returned (.tuple #[])) H') :
    Meets prog 57 [.slice (some Ad) n c, vi m, .func (.func g) #[] #[]] H R := by
  refine spec_of func57 (by kernel_rfl) (fun t h => by cases h) ?_ (vc_stb Ad n c g m R H) ?_
  · simp [argsR, SV.rep, SC.rep, one]
  unfold nf_stb
  simp only [true_and, delLs_nil, List.nil_append, List.append_nil]
  have hlen0 := (row_len hrow).1
  simp only [pts, List.length_map] at hlen0
  refine ⟨fun p H' => ∃ (Ls : List (List Pt)) (T : List Pt), p.1.1 = Ls.flatten.length ∧ p.1.2.1 = Ls.flatten.length + 20 ∧ Blk (ltc cf) 20 Ls ∧ Stab (ltc cf) L (Ls.flatten ++ T) ∧ RowAt H' (.slice (some Ad) n c) ty 4 (pts (Ls.flatten ++ T)) ∧ Mod (.slice (some Ad) n c) H H', fun p _ => (m + 40 - p.1.2.1).toNat, ⟨[], L, by simp, by simp, Blk.nil .., Stab.refl _, hrow, Mod.refl _ _⟩, ?_⟩
  rintro ⟨⟨i, j, _⟩, _⟩ H1 ⟨Ls, T, hi, hj, hB, hS, hrow1, hmod1⟩
  simp only at hi hj ⊢
  subst hi; subst hj
  have hl1 := hS.len hs
  rw [List.length_append] at hl1
  refine br (fun q => ?_) fun q => ?_
  · simp only [decide_eq_true_eq] at q
    have e : T.take 20 ++ T.drop 20 = T := List.take_append_drop ..
    have l1 : (T.take 20).length = 20 := by rw [List.length_take]; omega
    have e2 : Ls.flatten ++ T = Ls.flatten ++ T.take 20 ++ T.drop 20 := by rw [List.append_assoc, e]
    rw [e2] at hS hrow1
    refine s_ins hc hs (A := Ls.flatten) (X := T.take 20) (B := T.drop 20) rfl (by omega) hrow1 hn fun H2 hr hmd => ⟨rfl, ⟨Ls ++ [isort (ltc cf) (T.take 20)], T.drop 20, ?_, ?_, hB.snoc (by rw [isort_len, l1]) (isort_srtd hs _), ?_, ?_, hmod1.trans hmd⟩, ?_⟩
    · simp only [List.flatten_append, List.flatten_cons, List.flatten_nil, List.append_nil, List.length_append, isort_len, l1]; omega
    · simp only [List.flatten_append, List.flatten_cons, List.flatten_nil, List.append_nil, List.length_append, isort_len, l1]; rw [w64 (by omega)]; omega
    · have := stab_mid hs hS; simpa using this
    · simpa using hr
    · rw [w64 (by omega)]; omega
  · simp only [decide_eq_false_iff_not] at q
    have e2 : Ls.flatten ++ T = Ls.flatten ++ T ++ [] := by simp
    rw [e2] at hrow1
    refine s_ins hc hs (A := Ls.flatten) (X := T) (B := []) rfl (by omega) hrow1 hn fun H2 hr hmd => ⟨rfl, ?_⟩
    refine ⟨fun p H' => ∃ (k : Nat) (Ls : List (List Pt)) (T : List Pt), p.1.1 = k ∧ 20 ≤ k ∧ k ≤ 2000000 ∧ Blk (ltc cf) k Ls ∧ T.length < k ∧ Srtd (ltc cf) T ∧ Stab (ltc cf) L (Ls.flatten ++ T) ∧ RowAt H' (.slice (some Ad) n c) ty 4 (pts (Ls.flatten ++ T)) ∧ Mod (.slice (some Ad) n c) H H', fun p _ => (4000000 - p.1.1).toNat, ⟨20, Ls, isort (ltc cf) T, rfl, by omega, by omega, hB, by rw [isort_len]; omega, isort_srtd hs _, ?_, by simpa using hr, hmod1.trans hmd⟩, ?_⟩
    · have := stab_mid hs (A := Ls.flatten) (X := T) (B := []) (by simpa using hS); simpa using this
    clear hr hmd hmod1 hrow1 e2 q hl1 hS hB
    rintro ⟨⟨i, _⟩, _⟩ H3 ⟨k, Ls, T, hi, hk, hk2, hB, hT, sT, hS, hrow1, hmod1⟩
    simp only at hi ⊢
    subst hi
    have hl1 := hS.len hs
    rw [List.length_append] at hl1
    have hfl := flat_len hB.len
    refine br (fun q => ?_) fun q => ?_
    · simp only [decide_eq_true_eq] at q
      rw [w64 (k := 2 * (k : Int)) (by omega), w64 (k := (k : Int) * 2) (by omega)]
      refine ⟨fun p H' => ∃ (Ms Ls : List (List Pt)), p.1.1 = Ms.flatten.length ∧ p.1.2.1 = Ms.flatten.length + 2 * k ∧ Blk (ltc cf) (k * 2) Ms ∧ Blk (ltc cf) k Ls ∧ Stab (ltc cf) L (Ms.flatten ++ Ls.flatten ++ T) ∧ RowAt H' (.slice (some Ad) n c) ty 4 (pts (Ms.flatten ++ Ls.flatten ++ T)) ∧ Mod (.slice (some Ad) n c) H H', fun p _ => (m + 2 * k + 2 * k - p.1.2.1).toNat, ⟨[], Ls, by simp, by simp, Blk.nil .., hB, by simpa using hS, by simpa using hrow1, hmod1⟩, ?_⟩
      clear hB hS hrow1 hmod1 hl1 hfl
      rintro ⟨⟨i, j, _⟩, _⟩ H4 ⟨Ms, Ls, hi, hj, hM, hB, hS, hrow1, hmod1⟩
      simp only at hi hj ⊢
      subst hi; subst hj
      have hl1 := hS.len hs
      rw [List.length_append, List.length_append] at hl1
      have hfl := flat_len hB.len
      rw [w64 (k := (Ms.flatten.length : Int) + k) (by omega)]
      refine br (fun q1 => ?_) fun q1 => br (fun q2 => ?_) fun q2 => ?_
      · simp only [decide_eq_true_eq] at q1
        match Ls, hB, hS, hrow1, hl1, hfl with
        | [], _, _, _, hl1, _ => rw [List.flatten_nil, List.length_nil] at hl1; omega
        | [X], _, _, _, hl1, hfl => rw [hfl] at hl1; simp only [List.length_singleton] at hl1; omega
        | X :: Y :: Ls, hB, hS, hrow1, hl1, hfl =>
          obtain ⟨lX, sX, hB⟩ := hB.tail
          obtain ⟨lY, sY, hB⟩ := hB.tail
          have e : Ms.flatten ++ (X :: Y :: Ls).flatten ++ T = Ms.flatten ++ (X ++ Y) ++ (Ls.flatten ++ T) := by simp
          rw [e] at hS hrow1
          refine s_sym hc hs hn _ (A := Ms.flatten) (X := X) (Y := Y) (B := Ls.flatten ++ T) rfl rfl (by omega) (by omega) (by omega) (by omega) sX sY (by simpa using hrow1) fun H5 hr hmd => ⟨rfl, ⟨Ms ++ [isort (ltc cf) (X ++ Y)], Ls, ?_, ?_, hM.snoc (by rw [isort_len, List.length_append]; omega) (isort_srtd hs _), hB, ?_, ?_, hmod1.trans hmd⟩, ?_⟩
          · simp only [List.flatten_append, List.flatten_cons, List.flatten_nil, List.append_nil, List.length_append, isort_len, lX, lY]; omega
          · simp only [List.flatten_append, List.flatten_cons, List.flatten_nil, List.append_nil, List.length_append, isort_len, lX, lY]; rw [w64 (by omega)]; omega
          · have := stab_mid hs hS; simpa using this
          · simpa using hr
          · rw [w64 (by omega)]; omega
      · simp only [decide_eq_false_iff_not, decide_eq_true_eq] at q1 q2
        match Ls, hB, hS, hrow1, hl1, hfl with
        | [], _, _, _, hl1, _ => rw [List.flatten_nil, List.length_nil] at hl1; omega
        | X :: Y :: Ls, _, _, _, hl1, hfl =>
          rw [hfl, List.length_cons, List.length_cons, Nat.add_mul, Nat.add_mul] at hl1; omega
        | [X], hB, hS, hrow1, hl1, hfl =>
          obtain ⟨lX, sX, hB⟩ := hB.tail
          have e : Ms.flatten ++ [X].flatten ++ T = Ms.flatten ++ (X ++ T) ++ [] := by simp
          rw [e] at hS hrow1
          rw [hfl] at hl1
          simp only [List.length_singleton] at hl1
          refine s_sym hc hs hn _ (A := Ms.flatten) (X := X) (Y := T) (B := []) rfl rfl (by omega) (by omega) (by omega) (by omega) sX sT (by simpa using hrow1) fun H5 hr hmd => ⟨rfl, ⟨k * 2, Ms, isort (ltc cf) (X ++ T), by omega, by omega, by omega, hM, by rw [isort_len, List.length_append]; omega, isort_srtd hs _, ?_, by simpa using hr, hmod1.trans hmd⟩, by omega⟩
          have := stab_mid hs hS; simpa using this
      · simp only [decide_eq_false_iff_not] at q1 q2
        match Ls, hB, hS, hrow1, hl1, hfl with
        | [], hB, hS, hrow1, _, _ =>
          exact ⟨⟨k * 2, Ms, T, by omega, by omega, by omega, hM, by omega, sT, by simpa using hS, by simpa using hrow1, hmod1⟩, by omega⟩
        | X :: Y :: Ls, _, _, _, hl1, hfl =>
          rw [hfl, List.length_cons, List.length_cons, Nat.add_mul, Nat.add_mul] at hl1; omega
        | [X], hB, hS, hrow1, hl1, hfl =>
          obtain ⟨lX, sX, hB⟩ := hB.tail
          rw [hfl] at hl1
          simp only [List.length_singleton] at hl1
          have : T = [] := List.length_eq_zero_iff.1 (by omega)
          subst this
          exact ⟨⟨k * 2, Ms, X, by omega, by omega, by omega, hM, by omega, sX, by simpa using hS, by simpa using hrow1, hmod1⟩, by omega⟩
    · simp only [decide_eq_false_iff_not] at q
      have hfin : Ls.flatten ++ T = isort (ltc cf) L := by
        refine isort_eq hs ?_ hS
        match Ls, hB, hl1, hfl with
        | [], _, _, _ => simpa using sT
        | X :: Y :: Ls, _, hl1, hfl => rw [hfl, List.length_cons, List.length_cons, Nat.add_mul, Nat.add_mul] at hl1; omega
        | [X], hB, hl1, hfl =>
          obtain ⟨lX, sX, hB⟩ := hB.tail
          rw [hfl] at hl1
          simp only [List.length_singleton] at hl1
          have : T = [] := List.length_eq_zero_iff.1 (by omega)
          subst this
          simpa using sX
      rw [hfin] at hrow1
      exact h _ hrow1 hmod1
end
end Cr

set_option linter.unusedVariables false
set_option linter.unusedSimpArgs false
namespace Cr
open Go Sx Stb
open Go.Proofs.Try
set_option linter.unusedSectionVars false
variable [Dr]
set_option maxRecDepth 100000
abbrev ndA (lf : Bool) (a : Option Addr) (n c : Nat) (nx : Int) (ks cs : List Int) : SV := .agg [.c (.v (.bool lf)), .c (.v (.slice a n c)), .c (.v (.int .i64 nx)), .ints .i64 4 ks, .ints .i64 4 cs]
abbrev ptA (i x y : Int) (d : ByteArray) : SV := .agg [.c (.v (.int .i64 i)), .c (.v (.int .u32 x)), .c (.v (.int .u32 y)), .c (.v (.string d))]
def h_np : Hints := { loops := [(2, ⟨[0, 2, 5, 6], [.f 7 (.int .i64)], []⟩)] }
def h_nq : Hints := { loops := [(2, ⟨[1, 2, 7], [.f 8 (.int .i64)], [.keep 1]⟩)] }
def h_may : Hints := { eqs := [35] }
def nf_clone (a : Option Addr) (n : Nat) (c : Nat) (R : Ending → Heap → Prop) (H : Heap) : Prop := Br (Option.isNone a) (R (Ending.returned (Value.slice none (0 : Nat) (0 : Nat))) H) (∃ (es2 : List (List Value)), SliceAt H (Value.slice a n c) (4 : Nat) es2 ∧ List.length es2 * (32 : Nat) ≤ (140737488355328 : Nat) ∧ ∀ (v : Value) (H' : Nat → Option Obj), H ≤ H' → (∀ (b : Nat), blockOf v = some b → H b = none) → (∀ (b : Nat) (o : Obj), H' b = some o → H b = some o ∨ blockOf v = some b) → RowAt H' v (51 : Nat) (4 : Nat) es2 → R (Ending.returned v) H')
theorem vc_clone (a : Option Addr) (n : Nat) (c : Nat) (R : Ending → Heap → Prop) (H : Heap) : vcFun prog { } f38 [SV.c (SC.v (Value.slice a n c))] R H = nf_clone a n c R H := by kernel_rfl

def nf_new (R : Ending → Heap → Prop) (H : Heap) : Prop := ∀ (r : Nat), H r = none → ∀ (b : Nat), Heap.upd H r (Obj.map #[] (0 : Nat)) b = none → R (Ending.returned (Value.pointer (some { block := b, off := (0 : Nat) }))) (Heap.upd (Heap.upd H r (Obj.map #[] (0 : Nat))) b (Obj.cells { toList := [Value.map (some r)] } (76 : Nat)))
theorem vc_new (R : Ending → Heap → Prop) (H : Heap) : vcFun prog { } f21 [] R H = nf_new R H := by kernel_rfl

def nf_is (g : Option Addr) (R : Ending → Heap → Prop) (H : Heap) : Prop := Br (!Option.isNone g) (PtrK g fun (a : Addr) ↦ PtrK (some a) fun (a : Addr) ↦ PtrK (some (Addr.add a (0 : Nat))) fun (a : Addr) ↦ ∃ (r : Option Nat), Heap.has H a [Value.map r] ∧ R (Ending.returned (Value.bool !Option.isNone r)) H) (R (Ending.returned (Value.bool false)) H)
theorem vc_is (g : Option Addr) (R : Ending → Heap → Prop) (H : Heap) : vcFun prog { } f34 [SV.c (SC.v (Value.pointer g))] R H = nf_is g R H := by kernel_rfl

def nf_own (lf : Bool) (a : Option Addr) (n : Nat) (c : Nat) (nx : Int) (ks : List Int) (cs : List Int) (R : Ending → Heap → Prop) (H : Heap) : Prop := Meets prog (38 : Nat) [Value.slice a n c] H fun (e : Ending) (H' : Nat → Option Obj) ↦ ∃ (a : Option Addr), ∃ (n : Nat), ∃ (c : Nat), e = Ending.returned (Value.slice a n c) ∧ R (Ending.returned (Value.agg { toList := Value.bool lf :: Value.slice a n c :: Value.int IntKind.i64 nx :: List.append (List.map (Value.int IntKind.i64) ks) (List.map (Value.int IntKind.i64) cs ++ []) })) H'
theorem vc_own (lf : Bool) (a : Option Addr) (n : Nat) (c : Nat) (nx : Int) (ks : List Int) (cs : List Int) (R : Ending → Heap → Prop) (H : Heap) : vcFun prog { } f35 [ndA lf a n c nx ks cs] R H = nf_own lf a n c nx ks cs R H := by kernel_rfl

def nf_get (g : Option Addr) (id : Int) (R : Ending → Heap → Prop) (H : Heap) : Prop := Meets prog (34 : Nat) [Value.pointer g] H fun (e : Ending) (H' : Nat → Option Obj) ↦ ∃ (b : Bool), e = Ending.returned (Value.bool b) ∧ Br (!b) (R (Ending.returned (Value.tuple { toList := [Value.agg { toList := [Value.bool false, Value.slice none (0 : Nat) (0 : Nat), Value.int IntKind.i64 (0 : Int), Value.int IntKind.i64 (0 : Int), Value.int IntKind.i64 (0 : Int), Value.int IntKind.i64 (0 : Int), Value.int IntKind.i64 (0 : Int), Value.int IntKind.i64 (0 : Int), Value.int IntKind.i64 (0 : Int), Value.int IntKind.i64 (0 : Int), Value.int IntKind.i64 (0 : Int)] }, Value.bool false] })) H') (PtrK g fun (a : Addr) ↦ PtrK (some a) fun (a : Addr) ↦ PtrK (some (Addr.add a (0 : Nat))) fun (a : Addr) ↦ ∃ (r : Option Nat), Heap.has H' a [Value.map r] ∧ ∃ (b : Bool), ∃ (a : Option Addr), ∃ (n : Nat), ∃ (c : Nat), ∃ (n_1 : Int), ∃ (xs : List Int), List.length xs = (4 : Nat) ∧ ∃ (xs_1 : List Int), List.length xs_1 = (4 : Nat) ∧ ∃ (b_1 : Bool), LookAt H' r IntKind.i64 id (Value.agg { toList := [Value.bool false, Value.slice none (0 : Nat) (0 : Nat), Value.int IntKind.i64 (0 : Int), Value.int IntKind.i64 (0 : Int), Value.int IntKind.i64 (0 : Int), Value.int IntKind.i64 (0 : Int), Value.int IntKind.i64 (0 : Int), Value.int IntKind.i64 (0 : Int), Value.int IntKind.i64 (0 : Int), Value.int IntKind.i64 (0 : Int), Value.int IntKind.i64 (0 : Int)] }) (Value.agg { toList := Value.bool b :: Value.slice a n c :: Value.int IntKind.i64 n_1 :: List.append (List.map (Value.int IntKind.i64) xs) (flatD [Seg.ints IntKind.i64 (4 : Nat) xs_1]) }) b_1 ∧ Meets prog (35 : Nat) [Value.agg { toList := Value.bool b :: Value.slice a n c :: Value.int IntKind.i64 n_1 :: List.append (List.map (Value.int IntKind.i64) xs) (List.map (Value.int IntKind.i64) xs_1 ++ []) }] H' fun (e : Ending) (H' : Nat → Option Obj) ↦ ∃ (b : Bool), ∃ (a : Option Addr), ∃ (n : Nat), ∃ (c : Nat), ∃ (n_2 : Int), ∃ (xs : List Int), List.length xs = (4 : Nat) ∧ ∃ (xs_2 : List Int), List.length xs_2 = (4 : Nat) ∧ e = Ending.returned (Value.agg { toList := Value.bool b :: Value.slice a n c :: Value.int IntKind.i64 n_2 :: List.append (List.map (Value.int IntKind.i64) xs) (flatD [Seg.ints IntKind.i64 (4 : Nat) xs_2]) }) ∧ R (Ending.returned (Value.tuple { toList := [Value.agg { toList := Value.bool b :: Value.slice a n c :: Value.int IntKind.i64 n_2 :: List.append (List.map (Value.int IntKind.i64) xs) (List.map (Value.int IntKind.i64) xs_2 ++ []) }, Value.bool b_1] })) H')
theorem vc_get (g : Option Addr) (id : Int) (R : Ending → Heap → Prop) (H : Heap) : vcFun prog { } f13 [SV.c (SC.v (Value.pointer g)), SV.c (SC.v (Value.int IntKind.i64 id))] R H = nf_get g id R H := by kernel_rfl

def nf_put (g : Option Addr) (id : Int) (lf : Bool) (a : Option Addr) (n : Nat) (c : Nat) (nx : Int) (ks : List Int) (cs : List Int) (R : Ending → Heap → Prop) (H : Heap) : Prop := Meets prog (34 : Nat) [Value.pointer g] H fun (e : Ending) (H' : Nat → Option Obj) ↦ ∃ (b : Bool), e = Ending.returned (Value.bool b) ∧ Br (!b) (R (Ending.returned (Value.int IntKind.i64 (9 : Int))) H') (Meets prog (36 : Nat) [Value.agg { toList := Value.bool lf :: Value.slice a n c :: Value.int IntKind.i64 nx :: List.append (List.map (Value.int IntKind.i64) ks) (List.map (Value.int IntKind.i64) cs ++ []) }] H' fun (e : Ending) (H' : Nat → Option Obj) ↦ ∃ (n_1 : Int), e = Ending.returned (Value.int IntKind.i64 n_1) ∧ Br (n_1 != (0 : Int)) (R (Ending.returned (Value.int IntKind.i64 (9 : Int))) H') (Br (decide (id < (1 : Int))) (R (Ending.returned (Value.int IntKind.i64 (4 : Int))) H') (Br (decide (id ≥ (256 : Int))) (R (Ending.returned (Value.int IntKind.i64 (4 : Int))) H') (∃ (G : Nat → Option Obj), G ≤ H' ∧ PtrK g fun (a_1 : Addr) ↦ PtrK (some a_1) fun (a_2 : Addr) ↦ PtrK (some (Addr.add a_2 (0 : Nat))) fun (a_3 : Addr) ↦ ∃ (r : Option Nat), Heap.has G a_3 [Value.map r] ∧ Meets prog (35 : Nat) [Value.agg { toList := Value.bool lf :: Value.slice a n c :: Value.int IntKind.i64 nx :: List.append (List.map (Value.int IntKind.i64) ks) (List.map (Value.int IntKind.i64) cs ++ []) }] H' fun (e : Ending) (H'_1 : Nat → Option Obj) ↦ Keep G H' H' H'_1 ∧ ∃ (b : Bool), ∃ (a : Option Addr), ∃ (n : Nat), ∃ (c : Nat), ∃ (n_2 : Int), ∃ (xs : List Int), List.length xs = (4 : Nat) ∧ ∃ (xs_1 : List Int), List.length xs_1 = (4 : Nat) ∧ e = Ending.returned (Value.agg { toList := Value.bool b :: Value.slice a n c :: Value.int IntKind.i64 n_2 :: List.append (List.map (Value.int IntKind.i64) xs) (flatD [Seg.ints IntKind.i64 (4 : Nat) xs_1]) }) ∧ MapK r fun (r : Nat) ↦ ∃ (es : Array MapEntry), ∃ (clk : Nat), (delLs H'_1 [] r = some (Obj.map es clk) ∧ IntKeys IntKind.i64 es.toList) ∧ R (Ending.returned (Value.int IntKind.i64 (0 : Int))) (Heap.upd (delLs H'_1 []) r (mapPut es clk IntKind.i64 id (Value.agg { toList := Value.bool b :: Value.slice a n c :: Value.int IntKind.i64 n_2 :: List.append (List.map (Value.int IntKind.i64) xs) (List.map (Value.int IntKind.i64) xs_1 ++ []) })))))))
theorem vc_put (g : Option Addr) (id : Int) (lf : Bool) (a : Option Addr) (n : Nat) (c : Nat) (nx : Int) (ks : List Int) (cs : List Int) (R : Ending → Heap → Prop) (H : Heap) : vcFun prog { } f16 [SV.c (SC.v (Value.pointer g)), SV.c (SC.v (Value.int IntKind.i64 id)), ndA lf a n c nx ks cs] R H = nf_put g id lf a n c nx ks cs R H := by kernel_rfl

def nf_pchk (i : Int) (x : Int) (y : Int) (d : ByteArray) (R : Ending → Heap → Prop) (H : Heap) : Prop := Br (decide (i < (1 : Int))) (R (Ending.returned (Value.int IntKind.i64 (4 : Int))) H) (Br (decide (i > (2147483647 : Int))) (R (Ending.returned (Value.int IntKind.i64 (4 : Int))) H) (Br (decide ((↑(ByteArray.size d) : Int) > (16 : Int))) (R (Ending.returned (Value.int IntKind.i64 (5 : Int))) H) (R (Ending.returned (Value.int IntKind.i64 (0 : Int))) H)))
theorem vc_pchk (i : Int) (x : Int) (y : Int) (d : ByteArray) (R : Ending → Heap → Prop) (H : Heap) : vcFun prog { } f23 [ptA i x y d] R H = nf_pchk i x y d R H := by kernel_rfl

def nf_npts (a : Option Addr) (n : Nat) (c : Nat) (R : Ending → Heap → Prop) (H : Heap) : Prop := a = a ∧ n = n ∧ c = c ∧ false = false ∧ a = a ∧ n = n ∧ c = c ∧ (↑n : Int) = (↑n : Int) ∧ LoopP (fun (K : (Int × PUnit) × PUnit → (Nat → Option Obj) → Prop) (p : (Int × PUnit) × PUnit) (H : Nat → Option Obj) ↦ Br (decide (p.fst.fst < (↑n : Int))) (((0 : Int) ≤ p.fst.fst ∧ p.fst.fst < (↑n : Int)) ∧ PtrK a fun (A : Addr) ↦ PtrK (some (Addr.add A (Int.toNat p.fst.fst * (4 : Nat)))) fun (a_1 : Addr) ↦ ∃ (n_1 : Int), ∃ (n_2 : Int), ∃ (n_3 : Int), ∃ (s : ByteArray), Heap.has H a_1 [Value.int IntKind.i64 n_1, Value.int IntKind.u32 n_2, Value.int IntKind.u32 n_3, Value.string s] ∧ ∃ (G : Nat → Option Obj), G ≤ H ∧ Meets prog (23 : Nat) [Value.agg { toList := [Value.int IntKind.i64 n_1, Value.int IntKind.u32 n_2, Value.int IntKind.u32 n_3, Value.string s] }] H fun (e : Ending) (H' : Nat → Option Obj) ↦ Keep G H H H' ∧ ∃ (n_4 : Int), e = Ending.returned (Value.int IntKind.i64 n_4) ∧ Br (n_4 != (0 : Int)) (R (Ending.returned (Value.bool false)) (delLs H' [])) (Br (decide (p.fst.fst > (0 : Int))) (((0 : Int) ≤ IntKind.wrap IntKind.i64 (p.fst.fst - (1 : Int)) ∧ IntKind.wrap IntKind.i64 (p.fst.fst - (1 : Int)) < (↑n : Int)) ∧ PtrK a fun (A : Addr) ↦ PtrK (some (Addr.add A (Int.toNat (IntKind.wrap IntKind.i64 (p.fst.fst - (1 : Int))) * (4 : Nat)))) fun (a_2 : Addr) ↦ PtrK (some (Addr.add a_2 (0 : Nat))) fun (a_3 : Addr) ↦ ∃ (n_5 : Int), Heap.has G a_3 [Value.int IntKind.i64 n_5] ∧ Br (decide (n_1 ≤ n_5)) (R (Ending.returned (Value.bool false)) (delLs H' [])) (a = a ∧ n = n ∧ c = c ∧ false = false ∧ a = a ∧ n = n ∧ c = c ∧ (↑n : Int) = (↑n : Int) ∧ K ((IntKind.wrap IntKind.i64 (p.fst.fst + (1 : Int)), PUnit.unit), PUnit.unit) (delLs H' []))) (a = a ∧ n = n ∧ c = c ∧ false = false ∧ a = a ∧ n = n ∧ c = c ∧ (↑n : Int) = (↑n : Int) ∧ K ((IntKind.wrap IntKind.i64 (p.fst.fst + (1 : Int)), PUnit.unit), PUnit.unit) (delLs H' [])))) (R (Ending.returned (Value.bool (decide ((↑n : Int) ≤ (4 : Int))))) H)) (((0 : Int), PUnit.unit), PUnit.unit) H
theorem vc_npts (a : Option Addr) (n : Nat) (c : Nat) (R : Ending → Heap → Prop) (H : Heap) : vcFun prog h_np f67 [SV.c (SC.v (Value.slice a n c))] R H = nf_npts a n c R H := by kernel_rfl

def nf_nqua (lf : Bool) (a : Option Addr) (n : Nat) (c : Nat) (nx : Int) (ks : List Int) (cs : List Int) (R : Ending → Heap → Prop) (H : Heap) : Prop := (0 : Nat) = (0 : Nat) ∧ false = false ∧ ks = ks ∧ lf = lf ∧ a = a ∧ n = n ∧ c = c ∧ nx = nx ∧ ks = ks ∧ cs = cs ∧ LoopP (fun (K : (Int × PUnit) × PUnit × PUnit → (Nat → Option Obj) → Prop) (p : (Int × PUnit) × PUnit × PUnit) (H : Nat → Option Obj) ↦ Br (decide (p.fst.fst < (4 : Int))) (((0 : Int) ≤ p.fst.fst ∧ p.fst.fst < (↑(4 : Nat) : Int)) ∧ ((0 : Int) ≤ p.fst.fst ∧ p.fst.fst < (↑(4 : Nat) : Int)) ∧ Br (decide (List.getD ks (Int.toNat p.fst.fst) (0 : Int) < (0 : Int))) (R (Ending.returned (Value.bool false)) H) (Br (decide (List.getD ks (Int.toNat p.fst.fst) (0 : Int) > (255 : Int))) (R (Ending.returned (Value.bool false)) H) (Br (decide (List.getD cs (Int.toNat p.fst.fst) (0 : Int) < (0 : Int))) (R (Ending.returned (Value.bool false)) H) (Br (decide (List.getD cs (Int.toNat p.fst.fst) (0 : Int) > (65535 : Int))) (R (Ending.returned (Value.bool false)) H) (Br (!(List.getD ks (Int.toNat p.fst.fst) (0 : Int) == (0 : Int)) == (List.getD cs (Int.toNat p.fst.fst) (0 : Int) == (0 : Int))) (R (Ending.returned (Value.bool false)) H) ((0 : Nat) = (0 : Nat) ∧ false = false ∧ ks = ks ∧ lf = lf ∧ a = a ∧ n = n ∧ c = c ∧ nx = nx ∧ ks = ks ∧ cs = cs ∧ K ((IntKind.wrap IntKind.i64 (p.fst.fst + (1 : Int)), PUnit.unit), PUnit.unit, PUnit.unit) H)))))) (R (Ending.returned (Value.bool true)) H)) (((0 : Int), PUnit.unit), PUnit.unit, PUnit.unit) H
theorem vc_nqua (lf : Bool) (a : Option Addr) (n : Nat) (c : Nat) (nx : Int) (ks : List Int) (cs : List Int) (R : Ending → Heap → Prop) (H : Heap) : vcFun prog h_nq f68 [ndA lf a n c nx ks cs] R H = nf_nqua lf a n c nx ks cs R H := by kernel_rfl

def nf_may (lf : Bool) (a : Option Addr) (n : Nat) (c : Nat) (nx : Int) (ks : List Int) (cs : List Int) (R : Ending → Heap → Prop) (H : Heap) : Prop := Br lf (Meets prog (67 : Nat) [Value.slice a n c] H fun (e : Ending) (H' : Nat → Option Obj) ↦ ∃ (b : Bool), e = Ending.returned (Value.bool b) ∧ Br b (Br (decide (nx ≥ (0 : Int))) (Br (decide (nx ≤ (255 : Int))) (Br (andO none (ks == [(0 : Int), (0 : Int), (0 : Int), (0 : Int)])) (R (Ending.returned (Value.bool (andO none (cs == [(0 : Int), (0 : Int), (0 : Int), (0 : Int)])))) H') (R (Ending.returned (Value.bool false)) H')) (R (Ending.returned (Value.bool false)) H')) (R (Ending.returned (Value.bool false)) H')) (R (Ending.returned (Value.bool false)) H')) (Br ((↑n : Int) == (0 : Int)) (Br (nx == (0 : Int)) (Meets prog (68 : Nat) [Value.agg { toList := Value.bool lf :: Value.slice a n c :: Value.int IntKind.i64 nx :: List.append (List.map (Value.int IntKind.i64) ks) (List.map (Value.int IntKind.i64) cs ++ []) }] H fun (e : Ending) (H' : Nat → Option Obj) ↦ ∃ (b : Bool), e = Ending.returned (Value.bool b) ∧ R (Ending.returned (Value.bool b)) H') (R (Ending.returned (Value.bool false)) H)) (R (Ending.returned (Value.bool false)) H))
theorem vc_may (lf : Bool) (a : Option Addr) (n : Nat) (c : Nat) (nx : Int) (ks : List Int) (cs : List Int) (R : Ending → Heap → Prop) (H : Heap) : vcFun prog h_may f56 [ndA lf a n c nx ks cs] R H = nf_may lf a n c nx ks cs R H := by kernel_rfl

def nf_nchk (lf : Bool) (a : Option Addr) (n : Nat) (c : Nat) (nx : Int) (ks : List Int) (cs : List Int) (R : Ending → Heap → Prop) (H : Heap) : Prop := Meets prog (56 : Nat) [Value.agg { toList := Value.bool lf :: Value.slice a n c :: Value.int IntKind.i64 nx :: List.append (List.map (Value.int IntKind.i64) ks) (List.map (Value.int IntKind.i64) cs ++ []) }] H fun (e : Ending) (H' : Nat → Option Obj) ↦ ∃ (b : Bool), e = Ending.returned (Value.bool b) ∧ Br (!b) (R (Ending.returned (Value.int IntKind.i64 (9 : Int))) H') (R (Ending.returned (Value.int IntKind.i64 (0 : Int))) H')
theorem vc_nchk (lf : Bool) (a : Option Addr) (n : Nat) (c : Nat) (nx : Int) (ks : List Int) (cs : List Int) (R : Ending → Heap → Prop) (H : Heap) : vcFun prog { } f36 [ndA lf a n c nx ks cs] R H = nf_nchk lf a n c nx ks cs R H := by kernel_rfl

def nf_total (lf : Bool) (a : Option Addr) (n : Nat) (c : Nat) (nx : Int) (ks : List Int) (cs : List Int) (R : Ending → Heap → Prop) (H : Heap) : Prop := Br lf (R (Ending.returned (Value.int IntKind.i64 (↑n : Int))) H) (((0 : Int) ≤ (0 : Int) ∧ (0 : Int) < (↑(4 : Nat) : Int)) ∧ ((0 : Int) ≤ (1 : Int) ∧ (1 : Int) < (↑(4 : Nat) : Int)) ∧ ((0 : Int) ≤ (2 : Int) ∧ (2 : Int) < (↑(4 : Nat) : Int)) ∧ ((0 : Int) ≤ (3 : Int) ∧ (3 : Int) < (↑(4 : Nat) : Int)) ∧ R (Ending.returned (Value.int IntKind.i64 (IntKind.wrap IntKind.i64 (IntKind.wrap IntKind.i64 (IntKind.wrap IntKind.i64 (List.getD cs (0 : Nat) (0 : Int) + List.getD cs (1 : Nat) (0 : Int)) + List.getD cs (2 : Nat) (0 : Int)) + List.getD cs (3 : Nat) (0 : Int))))) H)
theorem vc_total (lf : Bool) (a : Option Addr) (n : Nat) (c : Nat) (nx : Int) (ks : List Int) (cs : List Int) (R : Ending → Heap → Prop) (H : Heap) : vcFun prog { } f52 [ndA lf a n c nx ks cs] R H = nf_total lf a n c nx ks cs R H := by kernel_rfl

@[simp] theorem add0 (a : Addr) : Addr.add a 0 = a := rfl
structure Nd where
  leaf : Bool
  pts : List Pt
  next : Int
  kids : List Int
  counts : List Int
  deriving Inhabited, DecidableEq
@[reducible] def ndL (lf : Bool) (a : Option Addr) (n c : Nat) (nx : Int) (ks cs : List Int) : List Value := .bool lf :: .slice a n c :: vi nx :: List.append (ks.map vi) (cs.map vi ++ [])
abbrev ndV (lf : Bool) (a : Option Addr) (n c : Nat) (nx : Int) (ks cs : List Int) : Value := .agg { toList := ndL lf a n c nx ks cs }
@[reducible] def z4 : List Int := [0, 0, 0, 0]
@[reducible] def nd0 : Nd := ⟨false, [], 0, z4, z4⟩
/-- A node that is a value. -/
def NdAt (H : Heap) (v : Value) (d : Nd) : Prop := ∃ a n c, v = ndV d.leaf a n c d.next d.kids d.counts ∧ SliceAt H (.slice a n c) 4 (pts d.pts) ∧ d.kids.length = 4 ∧ d.counts.length = 4
theorem NdAt.le {H H' : Heap} {v : Value} {d : Nd} (h : NdAt H v d) (hle : H ≤ H') : NdAt H' v d := by
  obtain ⟨a, n, c, h1, h2, h3⟩ := h
  exact ⟨a, n, c, h1, slice_le h2 hle, h3⟩
theorem NdAt.map {H : Heap} {v : Value} {d : Nd} (h : NdAt H v d) {r : Nat} {es : Array MapEntry} {clk : Nat} (hr : H r = some (.map es clk)) {o : Obj} : NdAt (H.upd r o) v d := by
  obtain ⟨a, n, c, h1, h2, h3⟩ := h
  exact ⟨a, n, c, h1, slice_map hr h2, h3⟩
theorem slice_nil (H : Heap) {sz : Nat} : SliceAt H (.slice none 0 0) sz [] := ⟨none, 0, 0, rfl, rfl, Nat.le_refl _, by simp, by simp, by simp⟩
theorem NdAt.zero (H : Heap) : NdAt H (ndV false none 0 0 0 z4 z4) nd0 := ⟨none, 0, 0, rfl, slice_nil H, rfl, rfl⟩
/-- A grove: its map stands at r. -/
def GroveAt (H : Heap) (g : Addr) (r : Nat) (m : Int → Option Nd) : Prop :=
  H.has g [.map (some r)] ∧ ∃ l, MapAt H r .i64 l ∧ ∀ id, (getL l id = none ∧ m id = none) ∨ ∃ v d, getL l id = some v ∧ m id = some d ∧ NdAt H v d
/-- All but one block is as it was. -/
def GMod (r : Nat) (H H' : Heap) : Prop := ∀ b o, b ≠ r → H b = some o → H' b = some o
theorem GMod.refl (r : Nat) (H : Heap) : GMod r H H := fun _ _ _ h => h
theorem GMod.of_le {r : Nat} {H H' : Heap} (h : H ≤ H') : GMod r H H' := fun b o _ e => h b o e
theorem GMod.trans {r : Nat} {A B C : Heap} (h : GMod r A B) (h' : GMod r B C) : GMod r A C := fun b o n e => h' b o n (h b o n e)
theorem GMod.upd {r : Nat} {H : Heap} {o : Obj} : GMod r H (H.upd r o) := fun b o' n e => by rw [upd_ne _ _ n]; exact e
theorem GroveAt.le {H H' : Heap} {g : Addr} {r : Nat} {m : Int → Option Nd} (h : GroveAt H g r m) (hle : H ≤ H') : GroveAt H' g r m := by
  obtain ⟨h1, l, h2, h3⟩ := h
  refine ⟨has_le h1 hle, l, map_same h2 (fun o e => hle _ _ e), fun id => ?_⟩
  rcases h3 id with h | ⟨v, d, e1, e2, e3⟩
  · exact .inl h
  · exact .inr ⟨v, d, e1, e2, e3.le hle⟩
def setM {β : Type} (m : Int → Option β) (id : Int) (d : β) : Int → Option β := fun j => if j = id then some d else m j
def delM {β : Type} (m : Int → Option β) (id : Int) : Int → Option β := fun j => if j = id then none else m j
/-- What a node must be. -/
def ptOK (p : Pt) : Prop := 1 ≤ p.id ∧ p.id ≤ 2147483647 ∧ p.data.size ≤ 16
def pcode (p : Pt) : Int := if p.id < 1 ∨ p.id > 2147483647 then 4 else if p.data.size > 16 then 5 else 0
theorem pcode_ok {p : Pt} : pcode p = 0 ↔ ptOK p := by
  unfold pcode ptOK
  split
  · constructor
    · intro h; cases h
    · intro h; omega
  · split
    · constructor
      · intro h; cases h
      · intro h; omega
    · constructor
      · intro _; omega
      · intro _; rfl
structure PtsOK (l : List Pt) : Prop where
  each : ∀ (i : Nat) (p : Pt), l[i]? = some p → ptOK p
  rise : ∀ (i : Nat) (p q : Pt), l[i]? = some p → l[i + 1]? = some q → p.id < q.id
  few : l.length ≤ 4
def QuaOK (ks cs : List Int) : Prop := ∀ q : Nat, q < 4 → 0 ≤ ks.getD q 0 ∧ ks.getD q 0 ≤ 255 ∧ 0 ≤ cs.getD q 0 ∧ cs.getD q 0 ≤ 65535 ∧ (ks.getD q 0 = 0 ↔ cs.getD q 0 = 0)
def NdOK (d : Nd) : Prop := if d.leaf then PtsOK d.pts ∧ 0 ≤ d.next ∧ d.next ≤ 255 ∧ d.kids = z4 ∧ d.counts = z4 else d.pts = [] ∧ d.next = 0 ∧ QuaOK d.kids d.counts
section
variable {R : Ending → Heap → Prop} {H : Heap}
theorem s_clone {v : Value} {l : List Pt} (h : SliceAt H v 4 (pts l)) (hl : l.length ≤ 1000000) (k : ∀ v H', H ≤ H' → (∀ b, blockOf v = some b → H b = none) → RowAt H' v tPt 4 (pts l) → R (.returned v) H') :
    Meets prog 38 [v] H R := by
  obtain ⟨a, n, c, e, hn⟩ := h
  subst e
  have h : SliceAt H (.slice a n c) 4 (pts l) := ⟨a, n, c, rfl, hn⟩
  refine spec_of func38 (by kernel_rfl) (fun t h => by cases h) ?_ (vc_clone a n c R H) ?_
  · simp [argsR, SV.rep, SC.rep, one]
  unfold nf_clone
  refine br (fun q => ?_) fun q => ?_
  · have : l = [] := by
      cases l with
      | nil => rfl
      | cons p l =>
        obtain ⟨A, e, _⟩ := pr_get h (i := 0) (p := p) rfl
        subst e
        simp at q
    subst this
    exact k _ _ (fun _ _ h => h) (by simp [blockOf]) (.inl ⟨rfl, rfl⟩)
  · refine ⟨_, h, ?_, fun v H' h1 h2 h3 h4 => k v H' h1 h2 h4⟩
    simp [pts]; omega
theorem s_own {v : Value} {d : Nd} (h : NdAt H v d) (hl : d.pts.length ≤ 1000000) (k : ∀ v H', H ≤ H' → NdAt H' v d → R (.returned v) H') :
    Meets prog 35 [v] H R := by
  obtain ⟨a, n, c, rfl, h1, h2, h3⟩ := h
  refine spec_of func35 (by kernel_rfl) (fun t h => by cases h) ?_ (vc_own d.leaf a n c d.next d.kids d.counts R H) ?_
  · simp [argsR, SV.rep, SegsRep, SC.rep, one, h2, h3]
  unfold nf_own
  refine s_clone h1 hl fun v H' hle _ hr => ?_
  obtain ⟨a', c', rfl⟩ := row_val hr
  exact ⟨_, _, _, rfl, k _ _ hle ⟨_, _, _, rfl, row_slice hr, h2, h3⟩⟩
theorem s_is {g : Addr} {r : Option Nat} (h : H.has g [.map r]) (k : R (.returned (.bool !r.isNone)) H) : Meets prog 34 [.pointer (some g)] H R := by
  refine spec_of func34 (by kernel_rfl) (fun t h => by cases h) ?_ (vc_is (some g) R H) ?_
  · simp [argsR, SV.rep, SC.rep, one]
  unfold nf_is
  refine br (fun q => ?_) fun q => ?_
  · exact ptr rfl (ptr rfl (ptr rfl ⟨r, h, k⟩))
  · simp at q
theorem s_get {g : Addr} {r : Nat} {m : Int → Option Nd} {id : Int} (h : GroveAt H g r m) (hs : ∀ d, m id = some d → d.pts.length ≤ 1000000) (k : ∀ v H', H ≤ H' → NdAt H' v ((m id).getD nd0) → R (.returned (.tuple #[v, .bool (m id).isSome])) H') :
    Meets prog 13 [.pointer (some g), vi id] H R := by
  refine spec_of func13 (by kernel_rfl) (fun t h => by cases h) ?_ (vc_get (some g) id R H) ?_
  · simp [argsR, SV.rep, SC.rep, one]
  unfold nf_get
  obtain ⟨h1, l, h2, h3⟩ := h
  refine s_is h1 ⟨_, rfl, br (fun q => by simp at q) fun _ => ptr rfl (ptr rfl (ptr rfl ⟨_, h1, ?_⟩))⟩
  have hlk := map_look h2 id (ndV false none 0 0 0 z4 z4)
  obtain ⟨v, hv, hvd, hb⟩ : ∃ v, ((getL l id).getD (ndV false none 0 0 0 z4 z4)) = v ∧ NdAt H v ((m id).getD nd0) ∧ (getL l id).isSome = (m id).isSome := by
    rcases h3 id with ⟨e1, e2⟩ | ⟨v, d, e1, e2, e3⟩
    · rw [e1, e2]; exact ⟨_, rfl, NdAt.zero H, rfl⟩
    · rw [e1, e2]; exact ⟨_, rfl, e3, rfl⟩
  rw [hv, hb] at hlk
  obtain ⟨a, n, c, rfl, hs1, hk, hc⟩ := hvd
  refine ⟨_, a, n, c, _, _, hk, _, hc, _, hlk, ?_⟩
  refine s_own (d := (m id).getD nd0) ⟨a, n, c, rfl, hs1, hk, hc⟩ ?_ fun v H' hle hv => ?_
  · cases e : m id with
    | none => simp
    | some d => exact hs d e
  · have hv2 := hv
    obtain ⟨a', n', c', rfl, hs2, _, _⟩ := hv2
    exact ⟨_, a', n', c', _, _, hk, _, hc, rfl, k _ _ hle hv⟩
theorem s_pchk {p : Pt} (k : R (.returned (vi (pcode p))) H) : Meets prog 23 [ptV p] H R := by
  refine spec_of func23 (by kernel_rfl) (fun t h => by cases h) ?_ (vc_pchk p.id p.x p.y p.data R H) ?_
  · simp [argsR, SV.rep, SegsRep, SC.rep, one]
  unfold nf_pchk
  unfold pcode at k
  refine br (fun q => ?_) fun q => br (fun q1 => ?_) fun q1 => br (fun q2 => ?_) fun q2 => ?_
  all_goals simp only [decide_eq_true_eq, decide_eq_false_iff_not] at *
  · rwa [if_pos (by omega)] at k
  · rwa [if_pos (by omega)] at k
  · rwa [if_neg (by omega), if_pos (by omega)] at k
  · rwa [if_neg (by omega), if_neg (by omega)] at k
theorem s_npts {v : Value} {l : List Pt} (h : SliceAt H v 4 (pts l)) (hl : l.length ≤ 1000000) (k : ∀ b : Bool, (b = true ↔ PtsOK l) → R (.returned (.bool b)) H) : Meets prog 67 [v] H R := by
  obtain ⟨a, n, c, e, hn⟩ := h
  subst e
  have h : SliceAt H (.slice a n c) 4 (pts l) := ⟨a, n, c, rfl, hn⟩
  have hln : l.length = n := by simpa [pts] using hn.1
  refine spec_of func67 (by kernel_rfl) (fun t h => by cases h) ?_ (vc_npts a n c R H) ?_
  · simp [argsR, SV.rep, SC.rep, one]
  unfold nf_npts
  simp only [true_and, delLs_nil]
  refine ⟨fun p H' => ∃ t : Nat, p.1.1 = t ∧ t ≤ n ∧ (∀ (i : Nat) (p : Pt), i < t → l[i]? = some p → ptOK p) ∧ (∀ (i : Nat) (p q : Pt), i + 1 < t → l[i]? = some p → l[i + 1]? = some q → p.id < q.id) ∧ H' = H, fun p _ => (n - p.1.1).toNat, ⟨0, rfl, by omega, by omega, by omega, rfl⟩, ?_⟩
  rintro ⟨⟨i, _⟩, _⟩ H1 ⟨t, hi, ht, f1, f2, rfl⟩
  simp only at hi ⊢
  subst hi
  refine br (fun q => ?_) fun q => ?_
  · simp only [decide_eq_true_eq] at q
    have hx : l[t]? = some l[t] := List.getElem?_eq_getElem (by omega)
    obtain ⟨A, e, g⟩ := pr_get h (i := t) hx
    subst e
    refine ⟨⟨by omega, by omega⟩, ptr rfl (ptr rfl ⟨_, _, _, _, g, H1, heap_refl _, s_pchk ⟨keep_same _ _ _, _, rfl, br (fun q1 => ?_) fun q1 => br (fun q2 => ?_) fun q2 => ?_⟩⟩)⟩
    · refine k false ⟨fun h => (by cases h), fun hp => ?_⟩
      have := pcode_ok.2 (hp.each t _ hx)
      simp [this] at q1
    · simp only [decide_eq_true_eq] at q2
      obtain ⟨u, rfl⟩ : ∃ u, t = u + 1 := ⟨t - 1, by omega⟩
      have hy : l[u]? = some l[u] := List.getElem?_eq_getElem (by omega)
      obtain ⟨A', e, g'⟩ := pr_get h (i := u) hy
      cases e
      rw [w64 (by omega), w64 (by omega), show ((u + 1 : Nat) : Int) - 1 = u by omega]
      refine ⟨⟨by omega, by omega⟩, ptr rfl (ptr rfl (ptr rfl ⟨l[u].id, fun j x hj => g' j x (by
        cases j with
        | zero => simpa using hj
        | succ j => simp at hj), br (fun q3 => ?_) fun q3 => ?_⟩))⟩
      · refine k false ⟨fun h => (by cases h), fun hp => ?_⟩
        have := hp.rise u _ _ hy hx
        simp at q3; omega
      · refine ⟨⟨u + 1 + 1, by omega, by omega, fun i p hi hp => ?_, fun i p q hi hp hq => ?_, rfl⟩, by omega⟩
        · rcases Nat.lt_or_ge i (u + 1) with hlt | hge
          · exact f1 i p hlt hp
          · have : i = u + 1 := by omega
            subst this
            rw [hx] at hp; cases hp
            exact pcode_ok.1 (by simpa using q1)
        · rcases Nat.lt_or_ge (i + 1) (u + 1) with hlt | hge
          · exact f2 i p q hlt hp hq
          · have : i = u := by omega
            subst this
            rw [hx] at hq; rw [hy] at hp; cases hp; cases hq
            simp at q3; omega
    · simp only [decide_eq_false_iff_not] at q2
      have : t = 0 := by omega
      subst this
      rw [w64 (by omega)]
      refine ⟨⟨1, rfl, by omega, fun i p hi hp => ?_, by omega, rfl⟩, by omega⟩
      have : i = 0 := by omega
      subst this
      rw [hx] at hp; cases hp
      exact pcode_ok.1 (by simpa using q1)
  · simp only [decide_eq_false_iff_not] at q
    refine k _ ⟨fun h => ?_, fun hp => ?_⟩
    · simp only [decide_eq_true_eq] at h
      refine ⟨fun i p hp => f1 i p ?_ hp, fun i p q hp hq => f2 i p q ?_ hp hq, by omega⟩
      · have := (List.getElem?_eq_some_iff.1 hp).1; omega
      · have := (List.getElem?_eq_some_iff.1 hq).1; omega
    · have := hp.few
      simp; omega
theorem s_nqua {v : Value} {d : Nd} (h : NdAt H v d) (k : ∀ b : Bool, (b = true ↔ QuaOK d.kids d.counts) → R (.returned (.bool b)) H) : Meets prog 68 [v] H R := by
  obtain ⟨a, n, c, rfl, h1, h2, h3⟩ := h
  refine spec_of func68 (by kernel_rfl) (fun t h => by cases h) ?_ (vc_nqua d.leaf a n c d.next d.kids d.counts R H) ?_
  · simp [argsR, SV.rep, SegsRep, SC.rep, one, h2, h3]
  unfold nf_nqua
  simp only [true_and]
  refine ⟨fun p H' => ∃ t : Nat, p.1.1 = t ∧ t ≤ 4 ∧ (∀ q : Nat, q < t → 0 ≤ d.kids.getD q 0 ∧ d.kids.getD q 0 ≤ 255 ∧ 0 ≤ d.counts.getD q 0 ∧ d.counts.getD q 0 ≤ 65535 ∧ (d.kids.getD q 0 = 0 ↔ d.counts.getD q 0 = 0)) ∧ H' = H, fun p _ => (4 - p.1.1).toNat, ⟨0, rfl, by omega, by omega, rfl⟩, ?_⟩
  rintro ⟨⟨i, _⟩, _⟩ H1 ⟨t, hi, ht, f1, rfl⟩
  simp only at hi ⊢
  subst hi
  refine br (fun q => ?_) fun q => ?_
  · simp only [decide_eq_true_eq] at q
    rw [Int.toNat_natCast, w64 (by omega)]
    generalize hkk : d.kids.getD t 0 = kk
    generalize hcc : d.counts.getD t 0 = cc
    have no : QuaOK d.kids d.counts → 0 ≤ kk ∧ kk ≤ 255 ∧ 0 ≤ cc ∧ cc ≤ 65535 ∧ (kk = 0 ↔ cc = 0) := fun hp => by rw [← hkk, ← hcc]; exact hp t (by omega)
    refine ⟨⟨by omega, by omega⟩, ⟨by omega, by omega⟩, br (fun q1 => ?_) fun q1 => br (fun q2 => ?_) fun q2 => br (fun q3 => ?_) fun q3 => br (fun q4 => ?_) fun q4 => br (fun q5 => ?_) fun q5 => ?_⟩
    · refine k false ⟨fun h => (by cases h), fun hp => ?_⟩
      have := no hp; simp at q1; omega
    · refine k false ⟨fun h => (by cases h), fun hp => ?_⟩
      have := no hp; simp at q2; omega
    · refine k false ⟨fun h => (by cases h), fun hp => ?_⟩
      have := no hp; simp at q3; omega
    · refine k false ⟨fun h => (by cases h), fun hp => ?_⟩
      have := no hp; simp at q4; omega
    · refine k false ⟨fun h => (by cases h), fun hp => ?_⟩
      have := no hp
      cases hb1 : (kk == 0) <;> cases hb2 : (cc == 0) <;> simp_all
    · refine ⟨⟨t + 1, by omega, by omega, fun u hu => ?_, by trivial⟩, by omega⟩
      rcases Nat.lt_or_ge u t with hlt | hge
      · exact f1 u hlt
      · have : u = t := by omega
        subst this
        rw [hkk, hcc]
        simp only [decide_eq_false_iff_not] at q1 q2 q3 q4
        refine ⟨by omega, by omega, by omega, by omega, ?_⟩
        cases hb1 : (kk == 0) <;> cases hb2 : (cc == 0) <;> simp_all
  · simp only [decide_eq_false_iff_not] at q
    have : t = 4 := by omega
    subst this
    exact k true ⟨fun _ => f1, fun _ => rfl⟩
end
end Cr

set_option linter.unusedVariables false
set_option linter.unusedSimpArgs false
namespace Cr
open Go Sx Stb
open Go.Proofs.Try
set_option linter.unusedSectionVars false
variable [Dr]
set_option maxRecDepth 100000
def h_fresh : Hints := { loops := [(4, ⟨[0, 2, 3], [.f 4 (.int .i64)], []⟩)] }
def h_ids : Hints := { loops := [(5, ⟨[0, 2], [.row 3 3 1, .f 4 (.int .i64)], []⟩)] }
def h_gcl : Hints := { loops := [(5, ⟨[0, 2, 3, 11, 12], [.f 13 (.int .i64)], []⟩)] }
def nf_fresh (g : Option Addr) (R : Ending → Heap → Prop) (H : Heap) : Prop := Meets prog (34 : Nat) [Value.pointer g] H fun (e : Ending) (H' : Nat → Option Obj) ↦ ∃ (b : Bool), e = Ending.returned (Value.bool b) ∧ Br (!b) (R (Ending.returned (Value.tuple { toList := [Value.int IntKind.i64 (0 : Int), Value.int IntKind.i64 (9 : Int)] })) H') (g = g ∧ (0 : Int) = (0 : Int) ∧ (0 : Int) = (0 : Int) ∧ LoopP (fun (K : (Int × PUnit) × PUnit → (Nat → Option Obj) → Prop) (p : (Int × PUnit) × PUnit) (H : Nat → Option Obj) ↦ Br (decide (p.fst.fst < (256 : Int))) (PtrK g fun (a : Addr) ↦ PtrK (some a) fun (a : Addr) ↦ PtrK (some (Addr.add a (0 : Nat))) fun (a : Addr) ↦ ∃ (r : Option Nat), Heap.has H a [Value.map r] ∧ ∃ (b : Bool), ∃ (a : Option Addr), ∃ (n : Nat), ∃ (c : Nat), ∃ (n_1 : Int), ∃ (xs : List Int), List.length xs = (4 : Nat) ∧ ∃ (xs_1 : List Int), List.length xs_1 = (4 : Nat) ∧ ∃ (b_1 : Bool), LookAt H r IntKind.i64 p.fst.fst (Value.agg { toList := [Value.bool false, Value.slice none (0 : Nat) (0 : Nat), Value.int IntKind.i64 (0 : Int), Value.int IntKind.i64 (0 : Int), Value.int IntKind.i64 (0 : Int), Value.int IntKind.i64 (0 : Int), Value.int IntKind.i64 (0 : Int), Value.int IntKind.i64 (0 : Int), Value.int IntKind.i64 (0 : Int), Value.int IntKind.i64 (0 : Int), Value.int IntKind.i64 (0 : Int)] }) (Value.agg { toList := Value.bool b :: Value.slice a n c :: Value.int IntKind.i64 n_1 :: List.append (List.map (Value.int IntKind.i64) xs) (flatD [Seg.ints IntKind.i64 (4 : Nat) xs_1]) }) b_1 ∧ Br (!b_1) (R (Ending.returned (Value.tuple { toList := [Value.int IntKind.i64 p.fst.fst, Value.int IntKind.i64 (0 : Int)] })) H) (g = g ∧ (0 : Int) = (0 : Int) ∧ (0 : Int) = (0 : Int) ∧ K ((IntKind.wrap IntKind.i64 (p.fst.fst + (1 : Int)), PUnit.unit), PUnit.unit) H)) (R (Ending.returned (Value.tuple { toList := [Value.int IntKind.i64 (0 : Int), Value.int IntKind.i64 (10 : Int)] })) H)) (((1 : Int), PUnit.unit), PUnit.unit) H')
theorem vc_fresh (g : Option Addr) (R : Ending → Heap → Prop) (H : Heap) : vcFun prog h_fresh f14 [SV.c (SC.v (Value.pointer g))] R H = nf_fresh g R H := by kernel_rfl

def nf_ids (g : Option Addr) (R : Ending → Heap → Prop) (H : Heap) : Prop := Meets prog (34 : Nat) [Value.pointer g] H fun (e : Ending) (H' : Nat → Option Obj) ↦ ∃ (b : Bool), e = Ending.returned (Value.bool b) ∧ Br (!b) (R (Ending.returned (Value.slice none (0 : Nat) (0 : Nat))) H') (g = g ∧ (none : Option Addr) = none ∧ (0 : Nat) = (0 : Nat) ∧ (0 : Nat) = (0 : Nat) ∧ LoopP (fun (K : (List (List Value) × Int × PUnit) × PUnit → (Nat → Option Obj) → Prop) (p : (List (List Value) × Int × PUnit) × PUnit) (H : Nat → Option Obj) ↦ Br (decide (p.fst.snd.fst < (256 : Int))) (PtrK g fun (a : Addr) ↦ PtrK (some a) fun (a : Addr) ↦ PtrK (some (Addr.add a (0 : Nat))) fun (a : Addr) ↦ ∃ (r : Option Nat), Heap.has H a [Value.map r] ∧ ∃ (b : Bool), ∃ (a : Option Addr), ∃ (n : Nat), ∃ (c : Nat), ∃ (n_1 : Int), ∃ (xs : List Int), List.length xs = (4 : Nat) ∧ ∃ (xs_1 : List Int), List.length xs_1 = (4 : Nat) ∧ ∃ (b_1 : Bool), LookAt H r IntKind.i64 p.fst.snd.fst (Value.agg { toList := [Value.bool false, Value.slice none (0 : Nat) (0 : Nat), Value.int IntKind.i64 (0 : Int), Value.int IntKind.i64 (0 : Int), Value.int IntKind.i64 (0 : Int), Value.int IntKind.i64 (0 : Int), Value.int IntKind.i64 (0 : Int), Value.int IntKind.i64 (0 : Int), Value.int IntKind.i64 (0 : Int), Value.int IntKind.i64 (0 : Int), Value.int IntKind.i64 (0 : Int)] }) (Value.agg { toList := Value.bool b :: Value.slice a n c :: Value.int IntKind.i64 n_1 :: List.append (List.map (Value.int IntKind.i64) xs) (flatD [Seg.ints IntKind.i64 (4 : Nat) xs_1]) }) b_1 ∧ Br b_1 (List.length (List.append p.fst.fst [[Value.int IntKind.i64 p.fst.snd.fst]]) * (8 : Nat) ≤ (140737488355328 : Nat) ∧ g = g ∧ (none : Option Addr) = none ∧ (0 : Nat) = (0 : Nat) ∧ (0 : Nat) = (0 : Nat) ∧ K ((List.append p.fst.fst [[Value.int IntKind.i64 p.fst.snd.fst]], IntKind.wrap IntKind.i64 (p.fst.snd.fst + (1 : Int)), PUnit.unit), PUnit.unit) H) (g = g ∧ (none : Option Addr) = none ∧ (0 : Nat) = (0 : Nat) ∧ (0 : Nat) = (0 : Nat) ∧ K ((p.fst.fst, IntKind.wrap IntKind.i64 (p.fst.snd.fst + (1 : Int)), PUnit.unit), PUnit.unit) H)) (∀ (v : Value) (H' : Nat → Option Obj), H ≤ H' → (∀ (b : Nat), blockOf v = some b → H b = none) → (∀ (b : Nat) (o : Obj), H' b = some o → H b = some o ∨ blockOf v = some b) → RowAt H' v (3 : Nat) (1 : Nat) p.fst.fst → R (Ending.returned v) H')) (([], (1 : Int), PUnit.unit), PUnit.unit) H')
theorem vc_ids (g : Option Addr) (R : Ending → Heap → Prop) (H : Heap) : vcFun prog h_ids f12 [SV.c (SC.v (Value.pointer g))] R H = nf_ids g R H := by kernel_rfl

def nf_gcl (g : Option Addr) (R : Ending → Heap → Prop) (H : Heap) : Prop := Meets prog (34 : Nat) [Value.pointer g] H fun (e : Ending) (H' : Nat → Option Obj) ↦ ∃ (b : Bool), e = Ending.returned (Value.bool b) ∧ Br (!b) (R (Ending.returned (Value.pointer none)) H') (Meets prog (21 : Nat) [] H' fun (e : Ending) (H' : Nat → Option Obj) ↦ ∃ (a : Option Addr), e = Ending.returned (Value.pointer a) ∧ Meets prog (12 : Nat) [Value.pointer g] H' fun (e : Ending) (H' : Nat → Option Obj) ↦ ∃ (a_1 : Option Addr), ∃ (n : Nat), ∃ (c : Nat), e = Ending.returned (Value.slice a_1 n c) ∧ g = g ∧ (none : Option Addr) = none ∧ a = a ∧ a_1 = a_1 ∧ n = n ∧ c = c ∧ (↑n : Int) = (↑n : Int) ∧ LoopP (fun (K : (Int × PUnit) × PUnit → (Nat → Option Obj) → Prop) (p : (Int × PUnit) × PUnit) (H : Nat → Option Obj) ↦ Br (decide (p.fst.fst < (↑n : Int))) (((0 : Int) ≤ p.fst.fst ∧ p.fst.fst < (↑n : Int)) ∧ PtrK a_1 fun (A : Addr) ↦ PtrK (some (Addr.add A (Int.toNat p.fst.fst * (1 : Nat)))) fun (a_2 : Addr) ↦ ∃ (n_1 : Int), Heap.has H a_2 [Value.int IntKind.i64 n_1] ∧ ∃ (G : Nat → Option Obj), G ≤ H ∧ PtrK a fun (a_3 : Addr) ↦ PtrK (some a_3) fun (a_4 : Addr) ↦ PtrK (some (Addr.add a_4 (0 : Nat))) fun (a_5 : Addr) ↦ ∃ (r : Option Nat), Heap.has G a_5 [Value.map r] ∧ PtrK g fun (a_6 : Addr) ↦ PtrK (some a_6) fun (a_7 : Addr) ↦ PtrK (some (Addr.add a_7 (0 : Nat))) fun (a_8 : Addr) ↦ ∃ (r_1 : Option Nat), Heap.has G a_8 [Value.map r_1] ∧ ∃ (b : Bool), ∃ (a_9 : Option Addr), ∃ (n_2 : Nat), ∃ (c_1 : Nat), ∃ (n_3 : Int), ∃ (xs : List Int), List.length xs = (4 : Nat) ∧ ∃ (xs_1 : List Int), List.length xs_1 = (4 : Nat) ∧ (∃ (b_1 : Bool), LookAt G r_1 IntKind.i64 n_1 (Value.agg { toList := [Value.bool false, Value.slice none (0 : Nat) (0 : Nat), Value.int IntKind.i64 (0 : Int), Value.int IntKind.i64 (0 : Int), Value.int IntKind.i64 (0 : Int), Value.int IntKind.i64 (0 : Int), Value.int IntKind.i64 (0 : Int), Value.int IntKind.i64 (0 : Int), Value.int IntKind.i64 (0 : Int), Value.int IntKind.i64 (0 : Int), Value.int IntKind.i64 (0 : Int)] }) (Value.agg { toList := Value.bool b :: Value.slice a_9 n_2 c_1 :: Value.int IntKind.i64 n_3 :: List.append (List.map (Value.int IntKind.i64) xs) (flatD [Seg.ints IntKind.i64 (4 : Nat) xs_1]) }) b_1) ∧ Meets prog (35 : Nat) [Value.agg { toList := Value.bool b :: Value.slice a_9 n_2 c_1 :: Value.int IntKind.i64 n_3 :: List.append (List.map (Value.int IntKind.i64) xs) (List.map (Value.int IntKind.i64) xs_1 ++ []) }] H fun (e : Ending) (H' : Nat → Option Obj) ↦ Keep G H H H' ∧ ∃ (b : Bool), ∃ (a_10 : Option Addr), ∃ (n_4 : Nat), ∃ (c_2 : Nat), ∃ (n_5 : Int), ∃ (xs : List Int), List.length xs = (4 : Nat) ∧ ∃ (xs_2 : List Int), List.length xs_2 = (4 : Nat) ∧ e = Ending.returned (Value.agg { toList := Value.bool b :: Value.slice a_10 n_4 c_2 :: Value.int IntKind.i64 n_5 :: List.append (List.map (Value.int IntKind.i64) xs) (flatD [Seg.ints IntKind.i64 (4 : Nat) xs_2]) }) ∧ MapK r fun (r : Nat) ↦ ∃ (es : Array MapEntry), ∃ (clk : Nat), (delLs H' [] r = some (Obj.map es clk) ∧ IntKeys IntKind.i64 es.toList) ∧ g = g ∧ (none : Option Addr) = none ∧ a = a ∧ a_1 = a_1 ∧ n = n ∧ c = c ∧ (↑n : Int) = (↑n : Int) ∧ K ((IntKind.wrap IntKind.i64 (p.fst.fst + (1 : Int)), PUnit.unit), PUnit.unit) (Heap.upd (delLs H' []) r (mapPut es clk IntKind.i64 n_1 (Value.agg { toList := Value.bool b :: Value.slice a_10 n_4 c_2 :: Value.int IntKind.i64 n_5 :: List.append (List.map (Value.int IntKind.i64) xs) (List.map (Value.int IntKind.i64) xs_2 ++ []) })))) (R (Ending.returned (Value.pointer a)) H)) (((0 : Int), PUnit.unit), PUnit.unit) H')
theorem vc_gcl (g : Option Addr) (R : Ending → Heap → Prop) (H : Heap) : vcFun prog h_gcl f15 [SV.c (SC.v (Value.pointer g))] R H = nf_gcl g R H := by kernel_rfl

def nf_empty (R : Ending → Heap → Prop) (H : Heap) : Prop := Meets prog (21 : Nat) [] H fun (e : Ending) (H' : Nat → Option Obj) ↦ ∃ (a : Option Addr), e = Ending.returned (Value.pointer a) ∧ Meets prog (16 : Nat) [Value.pointer a, Value.int IntKind.i64 (1 : Int), Value.agg { toList := [Value.bool true, Value.slice none (0 : Nat) (0 : Nat), Value.int IntKind.i64 (0 : Int), Value.int IntKind.i64 (0 : Int), Value.int IntKind.i64 (0 : Int), Value.int IntKind.i64 (0 : Int), Value.int IntKind.i64 (0 : Int), Value.int IntKind.i64 (0 : Int), Value.int IntKind.i64 (0 : Int), Value.int IntKind.i64 (0 : Int), Value.int IntKind.i64 (0 : Int)] }] H' fun (e : Ending) (H' : Nat → Option Obj) ↦ ∃ (n : Int), e = Ending.returned (Value.int IntKind.i64 n) ∧ R (Ending.returned (Value.pointer a)) H'
theorem vc_empty (R : Ending → Heap → Prop) (H : Heap) : vcFun prog { } f22 [] R H = nf_empty R H := by kernel_rfl

abbrev cells (l : List Int) : List (List Value) := l.map fun x => [vi x]
theorem g_look {H : Heap} {g : Addr} {r : Nat} {m : Int → Option Nd} (h : GroveAt H g r m) (id : Int) : ∃ a n c, LookAt H (some r) .i64 id (ndV false none 0 0 0 z4 z4) (ndV ((m id).getD nd0).leaf a n c ((m id).getD nd0).next ((m id).getD nd0).kids ((m id).getD nd0).counts) (m id).isSome ∧
    SliceAt H (.slice a n c) 4 (pts ((m id).getD nd0).pts) ∧ ((m id).getD nd0).kids.length = 4 ∧ ((m id).getD nd0).counts.length = 4 := by
  obtain ⟨h1, l, h2, h3⟩ := h
  have hlk := map_look h2 id (ndV false none 0 0 0 z4 z4)
  obtain ⟨v, hv, hvd, hb⟩ : ∃ v, ((getL l id).getD (ndV false none 0 0 0 z4 z4)) = v ∧ NdAt H v ((m id).getD nd0) ∧ (getL l id).isSome = (m id).isSome := by
    rcases h3 id with ⟨e1, e2⟩ | ⟨v, d, e1, e2, e3⟩
    · rw [e1, e2]; exact ⟨_, rfl, NdAt.zero H, rfl⟩
    · rw [e1, e2]; exact ⟨_, rfl, e3, rfl⟩
  rw [hv, hb] at hlk
  obtain ⟨a, n, c, rfl, hs⟩ := hvd
  exact ⟨a, n, c, hlk, hs⟩
/-- The numbers of the nodes that are there. -/
def idsBelow (m : Int → Option Nd) (t : Nat) : List Int := ((List.range t).map fun i : Nat => ((i : Int) + 1)).filter fun i => (m i).isSome
abbrev idsOf (m : Int → Option Nd) : List Int := idsBelow m 255
theorem idsBelow_succ (m : Int → Option Nd) (t : Nat) : idsBelow m (t + 1) = idsBelow m t ++ if (m ((t : Int) + 1)).isSome then [(t : Int) + 1] else [] := by
  unfold idsBelow
  rw [List.range_succ, List.map_append, List.filter_append]
  congr 1
  simp only [List.map_cons, List.map_nil, List.filter_cons, List.filter_nil]
theorem mem_idsBelow {m : Int → Option Nd} {t : Nat} {id : Int} : id ∈ idsBelow m t ↔ 1 ≤ id ∧ id ≤ t ∧ (m id).isSome := by
  unfold idsBelow
  rw [List.mem_filter, List.mem_map]
  constructor
  · rintro ⟨⟨i, h1, rfl⟩, h2⟩
    have := List.mem_range.1 h1
    exact ⟨by omega, by omega, h2⟩
  · rintro ⟨h1, h2, h3⟩
    exact ⟨⟨(id - 1).toNat, List.mem_range.2 (by omega), by omega⟩, h3⟩
theorem idsBelow_len (m : Int → Option Nd) (t : Nat) : (idsBelow m t).length ≤ t := by
  unfold idsBelow
  exact Nat.le_trans (List.length_filter_le _ _) (by simp)
def Dom (m : Int → Option Nd) : Prop := ∀ id d, m id = some d → 1 ≤ id ∧ id ≤ 255 ∧ NdOK d
theorem Dom.few {m : Int → Option Nd} (h : Dom m) {id : Int} {d : Nd} (e : m id = some d) : d.pts.length ≤ 4 := by
  have := (h id d e).2.2
  unfold NdOK at this
  split at this
  · exact this.1.few
  · rw [this.1]; simp
theorem Dom.set {m : Int → Option Nd} (h : Dom m) {id : Int} {d : Nd} (h1 : 1 ≤ id ∧ id ≤ 255) (h2 : NdOK d) : Dom (setM m id d) := fun j e he => by
  unfold setM at he
  split at he
  · cases he; subst_vars; exact ⟨h1.1, h1.2, h2⟩
  · exact h j e he
theorem Dom.del {m : Int → Option Nd} (h : Dom m) {id : Int} : Dom (delM m id) := fun j e he => by
  unfold delM at he
  split at he
  · cases he
  · exact h j e he
theorem Dom.none : Dom fun _ => none := fun j e he => by cases he
theorem GroveAt.put {H : Heap} {g : Addr} {r : Nat} {m : Int → Option Nd} (h : GroveAt H g r m) {id : Int} {v : Value} {d : Nd} (hv : NdAt H v d) :
    ∃ es clk, (H r = some (.map es clk) ∧ IntKeys .i64 es.toList) ∧ GroveAt (H.upd r (mapPut es clk .i64 id v)) g r (setM m id d) := by
  obtain ⟨h1, l, h2, h3⟩ := h
  obtain ⟨es, clk, e1, e2⟩ := map_put h2 id v
  refine ⟨es, clk, e1, has_map e1.1 h1, _, e2, fun j => ?_⟩
  rw [getL_putL]
  unfold setM
  split
  · exact .inr ⟨v, d, rfl, rfl, hv.map e1.1⟩
  · rcases h3 j with h | ⟨v', d', q1, q2, q3⟩
    · exact .inl h
    · exact .inr ⟨v', d', q1, q2, q3.map e1.1⟩
theorem GroveAt.drop {H : Heap} {g : Addr} {r : Nat} {m : Int → Option Nd} (h : GroveAt H g r m) (id : Int) :
    ∃ es clk, (H r = some (.map es clk) ∧ IntKeys .i64 es.toList) ∧ GroveAt (H.upd r (mapDel es clk id)) g r (delM m id) := by
  obtain ⟨h1, l, h2, h3⟩ := h
  obtain ⟨es, clk, e1, e2⟩ := map_del h2 id
  refine ⟨es, clk, e1, has_map e1.1 h1, _, e2, fun j => ?_⟩
  obtain ⟨_, _, _, _, _, hnd⟩ := h2
  rw [getL_delL hnd]
  unfold delM
  split
  · exact .inl ⟨rfl, rfl⟩
  · rcases h3 j with h | ⟨v', d', q1, q2, q3⟩
    · exact .inl h
    · exact .inr ⟨v', d', q1, q2, q3.map e1.1⟩
theorem memN_one {a t : Nat} (h : memN [a] t = true) : t = a := by
  simp only [memN] at h
  split at h
  · rename_i e; exact (Nat.eq_of_beq_eq_true e).symm
  · cases h
section
variable {R : Ending → Heap → Prop} {H : Heap}
theorem s_may {v : Value} {d : Nd} (h : NdAt H v d) (hl : d.pts.length ≤ 1000000) (k : ∀ b : Bool, (b = true ↔ NdOK d) → R (.returned (.bool b)) H) : Meets prog 56 [v] H R := by
  have h0 := h
  obtain ⟨a, n, c, rfl, h1, h2, h3⟩ := h
  refine spec_of func56 (by kernel_rfl) (fun t h => ?_) ?_ (vc_may d.leaf a n c d.next d.kids d.counts R H) ?_
  · have : t = 35 := memN_one h
    subst this
    exact eqOK_of (by kernel_rfl) (by kernel_rfl) (by kernel_rfl)
  · simp [argsR, SV.rep, SegsRep, SC.rep, one, h2, h3]
  unfold nf_may
  refine br (fun q => ?_) fun q => ?_
  · have hq : NdOK d ↔ PtsOK d.pts ∧ 0 ≤ d.next ∧ d.next ≤ 255 ∧ d.kids = z4 ∧ d.counts = z4 := by unfold NdOK; rw [if_pos q]
    refine s_npts h1 hl fun b hb => ⟨_, rfl, br (fun q1 => br (fun q2 => br (fun q3 => br (fun q4 => ?_) fun q4 => ?_) fun q3 => ?_) fun q2 => ?_) fun q1 => ?_⟩
    · refine k _ ?_
      rw [hq]
      simp only [andO, decide_eq_true_eq, beq_iff_eq] at *
      constructor
      · intro h; exact ⟨hb.1 q1, by omega, by omega, q4, h⟩
      · intro h; exact h.2.2.2.2
    · refine k _ ⟨fun h => (by cases h), fun h => ?_⟩
      rw [hq] at h
      simp [andO] at q4
      exact (q4 h.2.2.2.1).elim
    · refine k _ ⟨fun h => (by cases h), fun h => ?_⟩
      rw [hq] at h
      simp at q3; omega
    · refine k _ ⟨fun h => (by cases h), fun h => ?_⟩
      rw [hq] at h
      simp at q2; omega
    · refine k _ ⟨fun h => (by cases h), fun h => ?_⟩
      rw [hq] at h
      have := hb.2 h.1
      rw [this] at q1; cases q1
  · have hq : NdOK d ↔ d.pts = [] ∧ d.next = 0 ∧ QuaOK d.kids d.counts := by unfold NdOK; rw [if_neg (by simp [q])]
    have hn : d.pts.length = n := by simpa [pts] using (slice_len h1).1
    refine br (fun q1 => br (fun q2 => ?_) fun q2 => ?_) fun q1 => ?_
    · refine s_nqua h0 fun b hb => ⟨_, rfl, k b ?_⟩
      rw [hq]
      simp only [beq_iff_eq] at q1 q2
      rw [hb]
      constructor
      · intro h; exact ⟨List.length_eq_zero_iff.1 (by omega), q2, h⟩
      · intro h; exact h.2.2
    · refine k _ ⟨fun h => (by cases h), fun h => ?_⟩
      rw [hq] at h
      simp at q2; exact (q2 h.2.1).elim
    · refine k _ ⟨fun h => (by cases h), fun h => ?_⟩
      rw [hq] at h
      have := h.1
      rw [this] at hn
      simp at q1 hn; omega
theorem s_nchk {v : Value} {d : Nd} (h : NdAt H v d) (hl : d.pts.length ≤ 1000000) (k1 : NdOK d → R (.returned (vi 0)) H) (k2 : ¬ NdOK d → R (.returned (vi 9)) H) : Meets prog 36 [v] H R := by
  have h0 := h
  obtain ⟨a, n, c, rfl, h1, h2, h3⟩ := h
  refine spec_of func36 (by kernel_rfl) (fun t h => by cases h) ?_ (vc_nchk d.leaf a n c d.next d.kids d.counts R H) ?_
  · simp [argsR, SV.rep, SegsRep, SC.rep, one, h2, h3]
  unfold nf_nchk
  refine s_may h0 hl fun b hb => ⟨_, rfl, br (fun q => ?_) fun q => ?_⟩
  · exact k2 fun h => by rw [hb.2 h] at q; cases q
  · exact k1 (hb.1 (by simpa using q))
theorem s_put {g : Addr} {r : Nat} {m : Int → Option Nd} {id : Int} {v : Value} {d : Nd} (h : GroveAt H g r m) (hv : NdAt H v d) (hl : d.pts.length ≤ 1000000)
    (k1 : ¬ NdOK d → R (.returned (vi 9)) H) (k2 : NdOK d → ¬ (1 ≤ id ∧ id ≤ 255) → R (.returned (vi 4)) H) (k3 : NdOK d → 1 ≤ id ∧ id ≤ 255 → ∀ H', GroveAt H' g r (setM m id d) → GMod r H H' → R (.returned (vi 0)) H') :
    Meets prog 16 [.pointer (some g), vi id, v] H R := by
  have hv0 := hv
  obtain ⟨a, n, c, rfl, hs1, hk, hc⟩ := hv
  refine spec_of func16 (by kernel_rfl) (fun t h => by cases h) ?_ (vc_put (some g) id d.leaf a n c d.next d.kids d.counts R H) ?_
  · simp [argsR, SV.rep, SegsRep, SC.rep, one, hk, hc]
  unfold nf_put
  refine s_is h.1 ⟨_, rfl, br (fun q => by simp at q) fun _ => ?_⟩
  refine s_nchk hv0 hl (fun ok => ⟨_, rfl, br (fun q => by simp at q) fun _ => ?_⟩) fun no => ⟨_, rfl, br (fun q => k1 no) fun q => by simp at q⟩
  refine br (fun q => k2 ok (by simp at q; omega)) fun q => br (fun q1 => k2 ok (by simp at q1; omega)) fun q1 => ?_
  refine ⟨H, heap_refl _, ptr rfl (ptr rfl (ptr rfl ⟨_, h.1, ?_⟩))⟩
  refine s_own hv0 hl fun v H' hle hv1 => ?_
  have hv2 := hv1
  obtain ⟨a', n', c', rfl, _, _, _⟩ := hv1
  obtain ⟨es, clk, e1, e2⟩ := (h.le hle).put (id := id) hv2
  refine ⟨fun b o hb _ => hle b o hb, _, a', n', c', _, _, hk, _, hc, rfl, mapk rfl ⟨es, clk, e1, ?_⟩⟩
  simp only [decide_eq_false_iff_not] at q q1
  exact k3 ok (by omega) _ e2 ((GMod.of_le hle).trans GMod.upd)
theorem s_fresh {g : Addr} {r : Nat} {m : Int → Option Nd} (h : GroveAt H g r m) (k1 : ∀ id, 1 ≤ id → id ≤ 255 → m id = none → (∀ j, 1 ≤ j → j < id → (m j).isSome) → R (.returned (.tuple #[vi id, vi 0])) H) (k2 : (∀ id, 1 ≤ id → id ≤ 255 → (m id).isSome) → R (.returned (.tuple #[vi 0, vi 10])) H) :
    Meets prog 14 [.pointer (some g)] H R := by
  refine spec_of func14 (by kernel_rfl) (fun t h => by cases h) ?_ (vc_fresh (some g) R H) ?_
  · simp [argsR, SV.rep, SC.rep, one]
  unfold nf_fresh
  refine s_is h.1 ⟨_, rfl, br (fun q => by simp at q) fun _ => ?_⟩
  simp only [true_and]
  refine ⟨fun p H' => 1 ≤ p.1.1 ∧ p.1.1 ≤ 256 ∧ (∀ id, 1 ≤ id → id < p.1.1 → (m id).isSome) ∧ H' = H, fun p _ => (256 - p.1.1).toNat, ⟨by simp, by simp, fun id h1 h2 => by simp at h2; omega, rfl⟩, ?_⟩
  rintro ⟨⟨i, _⟩, _⟩ H1 ⟨h1, h2, h3, rfl⟩
  simp only at h1 h2 h3 ⊢
  refine br (fun q => ?_) fun q => ?_
  · simp only [decide_eq_true_eq] at q
    obtain ⟨a, n, c, hlk, _, hk, hc⟩ := g_look h i
    refine ptr rfl (ptr rfl (ptr rfl ⟨_, h.1, _, a, n, c, _, _, hk, _, hc, _, hlk, br (fun q1 => ?_) fun q1 => ?_⟩))
    · exact k1 i (by omega) (by omega) (by simpa using q1) h3
    · rw [w64 (by omega)]
      refine ⟨⟨by omega, by omega, fun id a b => ?_, by trivial⟩, by omega⟩
      rcases Int.lt_or_le id i with hlt | hge
      · exact h3 id a hlt
      · have : id = i := by omega
        subst this
        simpa using q1
  · simp only [decide_eq_false_iff_not] at q
    exact k2 fun id a b => h3 id a (by omega)
theorem s_ids {g : Addr} {r : Nat} {m : Int → Option Nd} (h : GroveAt H g r m) (k : ∀ v H', H ≤ H' → (∀ b, blockOf v = some b → H b = none) → RowAt H' v 3 1 (cells (idsOf m)) → R (.returned v) H') :
    Meets prog 12 [.pointer (some g)] H R := by
  refine spec_of func12 (by kernel_rfl) (fun t h => by cases h) ?_ (vc_ids (some g) R H) ?_
  · simp [argsR, SV.rep, SC.rep, one]
  unfold nf_ids
  refine s_is h.1 ⟨_, rfl, br (fun q => by simp at q) fun _ => ?_⟩
  simp only [true_and]
  refine ⟨fun p H' => ∃ t : Nat, p.1.1 = cells (idsBelow m t) ∧ p.1.2.1 = (t : Int) + 1 ∧ t ≤ 255 ∧ H' = H, fun p _ => (256 - p.1.2.1).toNat, ⟨0, by simp [idsBelow], by simp, by omega, rfl⟩, ?_⟩
  rintro ⟨⟨l, i, _⟩, _⟩ H1 ⟨t, hl, hi, ht, rfl⟩
  simp only at hl hi ⊢
  subst hl; subst hi
  refine br (fun q => ?_) fun q => ?_
  · simp only [decide_eq_true_eq] at q
    obtain ⟨a, n, c, hlk, _, hk, hc⟩ := g_look h ((t : Int) + 1)
    have hs := idsBelow_succ m t
    refine ptr rfl (ptr rfl (ptr rfl ⟨_, h.1, _, a, n, c, _, _, hk, _, hc, _, hlk, br (fun q1 => ?_) fun q1 => ?_⟩))
    · rw [if_pos q1] at hs
      have e : List.append (cells (idsBelow m t)) [[vi ((t : Int) + 1)]] = cells (idsBelow m (t + 1)) := by rw [hs]; simp [cells]
      rw [e, w64 (by omega)]
      refine ⟨?_, ⟨t + 1, rfl, by omega, by omega, by trivial⟩, by omega⟩
      have := idsBelow_len m (t + 1)
      simp [cells]; omega
    · rw [if_neg (by simp [q1]), List.append_nil] at hs
      rw [w64 (by omega)]
      exact ⟨⟨t + 1, by rw [hs], by omega, by omega, by trivial⟩, by omega⟩
  · simp only [decide_eq_false_iff_not] at q
    have : t = 255 := by omega
    subst this
    exact fun v H' a b _ c => k v H' a b c
theorem s_new (k : ∀ r b, H r = none → H b = none → r ≠ b → ∀ H', H ≤ H' → GroveAt H' ⟨b, 0, none⟩ r (fun _ => none) → R (.returned (.pointer (some ⟨b, 0, none⟩))) H') : Meets prog 21 [] H R := by
  refine spec_of func21 (by kernel_rfl) (fun t h => by cases h) ?_ (vc_new R H) ?_
  · simp [argsR]
  unfold nf_new
  intro r hr b hb
  have hne : b ≠ r := by rintro rfl; rw [upd_same] at hb; cases hb
  rw [upd_ne _ _ hne] at hb
  refine k r b hr hb (Ne.symm hne) _ ?_ ⟨?_, [], map_same (map_new H r .i64) (fun o e => by rw [upd_ne _ _ (Ne.symm hne)]; exact e), fun id => .inl ⟨rfl, rfl⟩⟩
  · intro b' o e
    rw [upd_ne _ _ (fun e' => by subst e'; rw [hb] at e; cases e), upd_ne _ _ (fun e' => by subst e'; rw [hr] at e; cases e)]
    exact e
  · intro j x hj
    cases j with
    | zero =>
      simp at hj; subst hj
      simp [Heap.cell?, upd_same]
    | succ j => simp at hj
theorem s_empty (k : ∀ r b, H r = none → H b = none → r ≠ b → ∀ H', H ≤ H' → GroveAt H' ⟨b, 0, none⟩ r (setM (fun _ => none) 1 ⟨true, [], 0, z4, z4⟩) → R (.returned (.pointer (some ⟨b, 0, none⟩))) H') : Meets prog 22 [] H R := by
  refine spec_of func22 (by kernel_rfl) (fun t h => by cases h) ?_ (vc_empty R H) ?_
  · simp [argsR]
  unfold nf_empty
  refine s_new fun r b hr hb hne H1 hle hg => ⟨_, rfl, ?_⟩
  have ok : NdOK ⟨true, [], 0, z4, z4⟩ := by
    unfold NdOK
    rw [if_pos rfl]
    exact ⟨⟨by simp, by simp, by simp⟩, by simp, by simp, rfl, rfl⟩
  refine s_put (id := 1) (d := ⟨true, [], 0, z4, z4⟩) hg ⟨none, 0, 0, rfl, slice_nil _, rfl, rfl⟩ (by simp) (fun no => (no ok).elim) (fun _ no => (no (by omega)).elim) fun _ _ H2 hg2 hm => ⟨_, rfl, k r b hr hb hne H2 ?_ hg2⟩
  intro b' o e
  exact hm b' o (fun e' => by subst e'; rw [hr] at e; cases e) (hle _ _ e)
theorem s_gcl {g : Addr} {r : Nat} {m : Int → Option Nd} (hd : Dom m) (h : GroveAt H g r m) (k : ∀ r' b, H r' = none → H b = none → r' ≠ b → ∀ H', H ≤ H' → GroveAt H' ⟨b, 0, none⟩ r' m → R (.returned (.pointer (some ⟨b, 0, none⟩))) H') :
    Meets prog 15 [.pointer (some g)] H R := by
  refine spec_of func15 (by kernel_rfl) (fun t h => by cases h) ?_ (vc_gcl (some g) R H) ?_
  · simp [argsR, SV.rep, SC.rep, one]
  unfold nf_gcl
  simp only [true_and, delLs_nil]
  refine s_is h.1 ⟨_, rfl, br (fun q => by simp at q) fun _ => ?_⟩
  refine s_new fun r' b hr hb hne H1 hle1 hg1 => ⟨_, rfl, ?_⟩
  refine s_ids (h.le hle1) fun v H2 hle2 _ hv => ?_
  obtain ⟨a1, c1, rfl⟩ := row_val hv
  have hsl := row_slice hv
  have hlen : (cells (idsOf m)).length = (idsOf m).length := by simp [cells]
  have hl255 : (idsOf m).length ≤ 255 := idsBelow_len m 255
  refine ⟨_, _, _, rfl, ?_⟩
  refine ⟨fun p H' => ∃ t : Nat, p.1.1 = t ∧ t ≤ (idsOf m).length ∧ H ≤ H' ∧ SliceAt H' (.slice a1 (cells (idsOf m)).length c1) 1 (cells (idsOf m)) ∧ GroveAt H' ⟨b, 0, none⟩ r' (fun j => if j ∈ (idsOf m).take t then m j else none), fun p _ => ((idsOf m).length - p.1.1).toNat, ⟨0, rfl, by omega, fun b o e => hle2 _ _ (hle1 _ _ e), hsl, ?_⟩, ?_⟩
  · simpa using hg1.le hle2
  rintro ⟨⟨i, _⟩, _⟩ H3 ⟨t, hi, ht, hle3, hsl3, hg3⟩
  simp only at hi ⊢
  subst hi
  rw [hlen] at hsl3 ⊢
  refine br (fun q => ?_) fun q => ?_
  · simp only [decide_eq_true_eq] at q
    have hx : (idsOf m)[t]? = some (idsOf m)[t] := List.getElem?_eq_getElem (by omega)
    obtain ⟨A, e, _, g1⟩ := slice_get hsl3 (i := t) (e := [vi (idsOf m)[t]]) (by simp [cells, hx])
    subst e
    obtain ⟨a, n, c, hlk, hs, hk, hc⟩ := g_look (h.le hle3) (idsOf m)[t]
    have hmem := mem_idsBelow.1 (List.getElem_mem (l := idsOf m) (n := t) (by omega))
    obtain ⟨d, hd'⟩ := Option.isSome_iff_exists.1 hmem.2.2
    generalize (idsOf m)[t] = x at *
    refine ⟨⟨by omega, by omega⟩, ptr rfl (ptr rfl ⟨x, g1, H3, heap_refl _, ptr rfl (ptr rfl (ptr rfl ⟨_, hg3.1, ptr rfl (ptr rfl (ptr rfl ⟨_, (h.le hle3).1, _, a, n, c, _, _, hk, _, hc, ⟨_, hlk⟩, ?_⟩))⟩))⟩)⟩
    refine s_own (d := (m x).getD nd0) ⟨a, n, c, rfl, hs, hk, hc⟩ (by rw [hd']; have := hd.few hd'; simp; omega) fun v H4 hle4 hv4 => ?_
    have hv2 := hv4
    obtain ⟨a', n', c', rfl, _, _, _⟩ := hv4
    obtain ⟨es, clk, e1, e2⟩ := (hg3.le hle4).put (id := x) hv2
    refine ⟨fun b o hb _ => hle4 b o hb, _, a', n', c', _, _, hk, _, hc, rfl, mapk rfl ⟨es, clk, e1, ?_⟩⟩
    rw [w64 (by omega)]
    refine ⟨⟨t + 1, by omega, by omega, fun b' o e => ?_, slice_map e1.1 (slice_le hsl3 hle4), ?_⟩, by omega⟩
    · rw [upd_ne _ _ (fun e' => by subst e'; rw [hr] at e; cases e)]
      exact hle4 _ _ (hle3 _ _ e)
    · have : (fun j => if j ∈ (idsOf m).take (t + 1) then m j else none) = setM (fun j => if j ∈ (idsOf m).take t then m j else none) x ((m x).getD nd0) := by
        funext j
        rw [List.take_add_one, hx]
        unfold setM
        by_cases h : j = x
        · subst h; simp [hd']
        · simp [h]
      rw [this]
      exact e2
  · simp only [decide_eq_false_iff_not] at q
    have : t = (idsOf m).length := by omega
    subst this
    rw [List.take_length] at hg3
    have : (fun j => if j ∈ idsOf m then m j else none) = m := by
      funext j
      cases e : m j with
      | none => simp [e]
      | some d => 
        have := hd j d e
        rw [if_pos (mem_idsBelow.2 ⟨this.1, this.2.1, by rw [e]; rfl⟩)]
    rw [this] at hg3
    exact k r' b hr hb hne H3 hle3 hg3
end
end Cr

set_option linter.unusedVariables false
set_option linter.unusedSimpArgs false
namespace Bt
open Go Sx
theorem wu32 {k : Int} (h : 0 ≤ k ∧ k ≤ 4294967295) : IntKind.u32.wrap k = k := IntWalk.u32_in _ (by omega)
theorem ofI {n : Nat} {x : Int} (h : 0 ≤ x) : BitVec.ofInt n x = BitVec.ofNat n x.toNat := by
  obtain ⟨y, rfl⟩ := Int.eq_ofNat_of_zero_le h
  simp
theorem pow32 {h : Nat} (hh : h ≤ 32) : (2 : Nat) ^ h ≤ 4294967296 := by
  have := Nat.pow_le_pow_right (n := 2) (by omega) hh
  simpa using this
theorem clr_bits {x h : Nat} (hx : x < 4294967296) (hh : h ≤ 32) : (BitVec.ofNat 32 x &&& ~~~ BitVec.ofNat 32 (2 ^ h - 1)).toNat = x / 2 ^ h * 2 ^ h := by
  apply Nat.eq_of_testBit_eq
  intro i
  rw [BitVec.testBit_toNat, ← Nat.shiftRight_eq_div_pow, ← Nat.shiftLeft_eq, Nat.testBit_shiftLeft, Nat.testBit_shiftRight]
  simp only [BitVec.getLsbD_and, BitVec.getLsbD_not, BitVec.getLsbD_ofNat, Nat.testBit_two_pow_sub_one]
  by_cases hi : i < 32
  · by_cases hih : i < h
    · simp [hi, hih, Nat.not_le.2 hih]
    · simp only [hi, hih, decide_true, decide_false, Bool.and_false, Bool.not_false, Bool.true_and, Bool.and_true, Nat.not_lt.1 hih, ge_iff_le]
      rw [show h + (i - h) = i by omega]
  · have : x.testBit i = false := Nat.testBit_lt_two_pow (Nat.lt_of_lt_of_le (by omega : x < 2 ^ 32) (Nat.pow_le_pow_right (by omega) (by omega)))
    by_cases hih : i < h
    · omega
    · simp only [hi, decide_false, Bool.false_and]
      rw [show h + (i - h) = i by omega, this, Bool.and_false]
theorem and_not {x : Int} {h : Nat} (h0 : 0 ≤ x) (h1 : x < 4294967296) (hh : h ≤ 32) : bitOp .andNot .u32 x (2 ^ h - 1) = x / 2 ^ h * 2 ^ h := by
  obtain ⟨y, rfl⟩ := Int.eq_ofNat_of_zero_le h0
  have hp : (0 : Int) ≤ 2 ^ h - 1 := by have : (0 : Int) < 2 ^ h := Int.pow_pos (by decide); omega
  have e1 : ((2 : Int) ^ h - 1).toNat = 2 ^ h - 1 := by
    have : ((2 : Int) ^ h) = ((2 ^ h : Nat) : Int) := by simp
    rw [this]; have : 0 < 2 ^ h := Nat.pow_pos (by decide); omega
  have e := clr_bits (x := y) (h := h) (by omega) hh
  show IntKind.u32.wrap _ = _
  have hb : IntKind.u32.bits = 32 := rfl
  rw [hb, ofI (by omega), ofI hp, e1, Int.toNat_natCast, e]
  have hle : y / 2 ^ h * 2 ^ h ≤ y := Nat.div_mul_le_self _ _
  rw [wu32 (by omega)]
  simp
theorem and_one {x : Int} (h0 : 0 ≤ x) (h1 : x < 4294967296) : bitOp .and .u32 x 1 = x % 2 := by
  obtain ⟨y, rfl⟩ := Int.eq_ofNat_of_zero_le h0
  show IntKind.u32.wrap _ = _
  have hb : IntKind.u32.bits = 32 := rfl
  rw [hb, ofI (by omega), ofI (by omega), BitVec.toNat_and]
  simp only [BitVec.toNat_ofNat, Int.toNat_natCast]
  rw [show (1 : Int).toNat % 2 ^ 32 = 1 by decide, Nat.and_one_is_mod, Nat.mod_eq_of_lt (a := y) (by omega), wu32 (by omega)]
  omega
theorem and_i64 {x : Int} (h0 : 0 ≤ x) (h1 : x < 4294967296) : bitOp .and .i64 x 1 = x % 2 ∧ (x < 4 → bitOp .and .i64 x 2 = x / 2 * 2) := by
  obtain ⟨y, rfl⟩ := Int.eq_ofNat_of_zero_le h0
  have hb : IntKind.i64.bits = 64 := rfl
  constructor
  · show IntKind.i64.wrap _ = _
    rw [hb, ofI (by omega), ofI (by omega), BitVec.toNat_and]
    simp only [BitVec.toNat_ofNat, Int.toNat_natCast]
    rw [show (1 : Int).toNat % 2 ^ 64 = 1 by decide, Nat.and_one_is_mod, Nat.mod_eq_of_lt (a := y) (by omega), IntWalk.i64_in _ (by omega)]
    omega
  · intro h4
    have : y = 0 ∨ y = 1 ∨ y = 2 ∨ y = 3 := by omega
    rcases this with rfl | rfl | rfl | rfl <;> decide
theorem or_add {x y : Int} {h : Nat} (hx : x % 2 ^ h = 0) (h0 : 0 ≤ x) (h1 : 0 ≤ y) (h2 : y < 2 ^ h) (h3 : x + y < 4294967296) : bitOp .or .u32 x y = x + y := by
  obtain ⟨a, rfl⟩ := Int.eq_ofNat_of_zero_le h0
  obtain ⟨b, rfl⟩ := Int.eq_ofNat_of_zero_le h1
  have hx' : a % 2 ^ h = 0 := by
    have : ((a % 2 ^ h : Nat) : Int) = 0 := by simpa using hx
    omega
  have h2' : b < 2 ^ h := by
    have : ((b : Nat) : Int) < ((2 ^ h : Nat) : Int) := by simpa using h2
    omega
  show IntKind.u32.wrap _ = _
  have hb : IntKind.u32.bits = 32 := rfl
  rw [hb, ofI (by omega), ofI (by omega), BitVec.toNat_or]
  simp only [BitVec.toNat_ofNat, Int.toNat_natCast]
  rw [Nat.mod_eq_of_lt (a := a) (by omega), Nat.mod_eq_of_lt (a := b) (by omega)]
  have e : a = 2 ^ h * (a / 2 ^ h) := by have := Nat.div_add_mod a (2 ^ h); omega
  have : a ||| b = a + b := by
    rw [e, ← Nat.two_pow_add_eq_or_of_lt h2']
  rw [this, wu32 (by omega)]
  omega
theorem shr_u32 {x : Int} {k : Nat} (h0 : 0 ≤ x) (hk : k ≤ 32) : shrI .u32 x (k : Int) = x / 2 ^ k := by
  unfold shrI
  have hb : IntKind.u32.bits = 32 := rfl
  rw [hb, Int.toNat_natCast, Nat.min_eq_left hk, Int.fdiv_eq_ediv_of_nonneg]
  exact Int.le_of_lt (Int.pow_pos (by decide))
theorem shl_one {k : Nat} (hk : k ≤ 32) : IntKind.u32.wrap (shlI .u32 1 (k : Int) - 1) = 2 ^ k - 1 := by
  have : k = 0 ∨ k = 1 ∨ k = 2 ∨ k = 3 ∨ k = 4 ∨ k = 5 ∨ k = 6 ∨ k = 7 ∨ k = 8 ∨ k = 9 ∨ k = 10 ∨ k = 11 ∨ k = 12 ∨ k = 13 ∨ k = 14 ∨ k = 15 ∨ k = 16 ∨ k = 17 ∨ k = 18 ∨ k = 19 ∨ k = 20 ∨ k = 21 ∨ k = 22 ∨ k = 23 ∨ k = 24 ∨ k = 25 ∨ k = 26 ∨ k = 27 ∨ k = 28 ∨ k = 29 ∨ k = 30 ∨ k = 31 ∨ k = 32 := by omega
  rcases this with rfl | rfl | rfl | rfl | rfl | rfl | rfl | rfl | rfl | rfl | rfl | rfl | rfl | rfl | rfl | rfl | rfl | rfl | rfl | rfl | rfl | rfl | rfl | rfl | rfl | rfl | rfl | rfl | rfl | rfl | rfl | rfl | rfl <;> decide
end Bt

set_option linter.unusedVariables false
set_option linter.unusedSimpArgs false
namespace Cr
open Go Sx Stb Bt
open Go.Proofs.Try
set_option linter.unusedSectionVars false
variable [Dr]
set_option maxRecDepth 100000
abbrev ceA (x y lv : Int) : SV := .agg [.c (.v (.int .u32 x)), .c (.v (.int .u32 y)), .c (.v (.int .i64 lv))]
def h_idx : Hints := { loops := [(2, ⟨[0, 1, 4, 7], [.f 8 (.int .i64)], []⟩)] }
def h_del : Hints := { loops := [(5, ⟨[0, 1, 4], [.f 5 (.int .i64), .f 6 (.int .i64)], []⟩)] }
def nf_side (lv : Int) (R : Ending → Heap → Prop) (H : Heap) : Prop := (0 : Int) ≤ IntKind.wrap IntKind.i64 ((32 : Int) - lv) ∧ R (Ending.returned (Value.int IntKind.u32 (IntKind.wrap IntKind.u32 (shlI IntKind.u32 (1 : Int) (IntKind.wrap IntKind.i64 ((32 : Int) - lv)) - (1 : Int))))) H
theorem vc_side (lv : Int) (R : Ending → Heap → Prop) (H : Heap) : vcFun prog { } f62 [SV.c (SC.v (Value.int IntKind.i64 lv))] R H = nf_side lv R H := by kernel_rfl

def nf_fix (x : Int) (y : Int) (lv : Int) (R : Ending → Heap → Prop) (H : Heap) : Prop := Meets prog (62 : Nat) [Value.int IntKind.i64 (minI (maxI lv (0 : Int)) (32 : Int))] H fun (e : Ending) (H' : Nat → Option Obj) ↦ ∃ (n : Int), e = Ending.returned (Value.int IntKind.u32 n) ∧ R (Ending.returned (Value.agg { toList := [Value.int IntKind.u32 (bitOp BinOp.andNot IntKind.u32 x n), Value.int IntKind.u32 (bitOp BinOp.andNot IntKind.u32 y n), Value.int IntKind.i64 (minI (maxI lv (0 : Int)) (32 : Int))] })) H'
theorem vc_fix (x : Int) (y : Int) (lv : Int) (R : Ending → Heap → Prop) (H : Heap) : vcFun prog { } f60 [ceA x y lv] R H = nf_fix x y lv R H := by kernel_rfl

def nf_quar (x : Int) (y : Int) (lv : Int) (px : Int) (py : Int) (R : Ending → Heap → Prop) (H : Heap) : Prop := Meets prog (60 : Nat) [Value.agg { toList := [Value.int IntKind.u32 x, Value.int IntKind.u32 y, Value.int IntKind.i64 lv] }] H fun (e : Ending) (H' : Nat → Option Obj) ↦ ∃ (n : Int), ∃ (n_1 : Int), ∃ (n_2 : Int), e = Ending.returned (Value.agg { toList := [Value.int IntKind.u32 n, Value.int IntKind.u32 n_1, Value.int IntKind.i64 n_2] }) ∧ Br (n_2 == (32 : Int)) (R (Ending.returned (Value.int IntKind.i64 (0 : Int))) H') ((0 : Int) ≤ IntKind.wrap IntKind.i64 ((31 : Int) - n_2) ∧ (0 : Int) ≤ IntKind.wrap IntKind.i64 ((31 : Int) - n_2) ∧ (0 : Int) ≤ (1 : Int) ∧ R (Ending.returned (Value.int IntKind.i64 (IntKind.wrap IntKind.i64 (bitOp BinOp.or IntKind.u32 (bitOp BinOp.and IntKind.u32 (shrI IntKind.u32 px (IntKind.wrap IntKind.i64 ((31 : Int) - n_2))) (1 : Int)) (shlI IntKind.u32 (bitOp BinOp.and IntKind.u32 (shrI IntKind.u32 py (IntKind.wrap IntKind.i64 ((31 : Int) - n_2))) (1 : Int)) (1 : Int)))))) H')
theorem vc_quar (x : Int) (y : Int) (lv : Int) (px : Int) (py : Int) (R : Ending → Heap → Prop) (H : Heap) : vcFun prog { } f45 [ceA x y lv, SV.c (SC.v (Value.int IntKind.u32 px)), SV.c (SC.v (Value.int IntKind.u32 py))] R H = nf_quar x y lv px py R H := by kernel_rfl

def nf_kid (x : Int) (y : Int) (lv : Int) (q : Int) (R : Ending → Heap → Prop) (H : Heap) : Prop := Meets prog (60 : Nat) [Value.agg { toList := [Value.int IntKind.u32 x, Value.int IntKind.u32 y, Value.int IntKind.i64 lv] }] H fun (e : Ending) (H' : Nat → Option Obj) ↦ ∃ (n : Int), ∃ (n_1 : Int), ∃ (n_2 : Int), e = Ending.returned (Value.agg { toList := [Value.int IntKind.u32 n, Value.int IntKind.u32 n_1, Value.int IntKind.i64 n_2] }) ∧ Br (n_2 == (32 : Int)) (R (Ending.returned (Value.agg { toList := [Value.int IntKind.u32 n, Value.int IntKind.u32 n_1, Value.int IntKind.i64 n_2] })) H') (Meets prog (62 : Nat) [Value.int IntKind.i64 (IntKind.wrap IntKind.i64 (n_2 + (1 : Int)))] H' fun (e : Ending) (H' : Nat → Option Obj) ↦ ∃ (n_3 : Int), e = Ending.returned (Value.int IntKind.u32 n_3) ∧ Br (bitOp BinOp.and IntKind.i64 q (1 : Int) == (1 : Int)) (Br (bitOp BinOp.and IntKind.i64 q (2 : Int) == (2 : Int)) (R (Ending.returned (Value.agg { toList := [Value.int IntKind.u32 (bitOp BinOp.or IntKind.u32 n (IntKind.wrap IntKind.u32 (n_3 + (1 : Int)))), Value.int IntKind.u32 (bitOp BinOp.or IntKind.u32 n_1 (IntKind.wrap IntKind.u32 (n_3 + (1 : Int)))), Value.int IntKind.i64 (IntKind.wrap IntKind.i64 (n_2 + (1 : Int)))] })) H') (R (Ending.returned (Value.agg { toList := [Value.int IntKind.u32 (bitOp BinOp.or IntKind.u32 n (IntKind.wrap IntKind.u32 (n_3 + (1 : Int)))), Value.int IntKind.u32 n_1, Value.int IntKind.i64 (IntKind.wrap IntKind.i64 (n_2 + (1 : Int)))] })) H')) (Br (bitOp BinOp.and IntKind.i64 q (2 : Int) == (2 : Int)) (R (Ending.returned (Value.agg { toList := [Value.int IntKind.u32 n, Value.int IntKind.u32 (bitOp BinOp.or IntKind.u32 n_1 (IntKind.wrap IntKind.u32 (n_3 + (1 : Int)))), Value.int IntKind.i64 (IntKind.wrap IntKind.i64 (n_2 + (1 : Int)))] })) H') (R (Ending.returned (Value.agg { toList := [Value.int IntKind.u32 n, Value.int IntKind.u32 n_1, Value.int IntKind.i64 (IntKind.wrap IntKind.i64 (n_2 + (1 : Int)))] })) H')))
theorem vc_kid (x : Int) (y : Int) (lv : Int) (q : Int) (R : Ending → Heap → Prop) (H : Heap) : vcFun prog { } f47 [ceA x y lv, SV.c (SC.v (Value.int IntKind.i64 q))] R H = nf_kid x y lv q R H := by kernel_rfl

def nf_croot (R : Ending → Heap → Prop) (H : Heap) : Prop := R (Ending.returned (Value.agg { toList := [Value.int IntKind.u32 (0 : Int), Value.int IntKind.u32 (0 : Int), Value.int IntKind.i64 (0 : Int)] })) H
theorem vc_croot (R : Ending → Heap → Prop) (H : Heap) : vcFun prog { } f28 [] R H = nf_croot R H := by kernel_rfl

def nf_idx (a : Option Addr) (n : Nat) (c : Nat) (g : Nat) (caps : Array Value) (R : Ending → Heap → Prop) (H : Heap) : Prop := a = a ∧ n = n ∧ c = c ∧ Value.func (Fn.func g) { toList := [] } caps = Value.func (Fn.func g) { toList := [] } caps ∧ (0 : Int) = (0 : Int) ∧ (↑n : Int) = (↑n : Int) ∧ LoopP (fun (K : (Int × PUnit) × PUnit → (Nat → Option Obj) → Prop) (p : (Int × PUnit) × PUnit) (H : Nat → Option Obj) ↦ Br (decide (p.fst.fst < (↑n : Int))) (((0 : Int) ≤ p.fst.fst ∧ p.fst.fst < (↑n : Int)) ∧ PtrK a fun (A : Addr) ↦ PtrK (some (Addr.add A (Int.toNat p.fst.fst * (4 : Nat)))) fun (a_1 : Addr) ↦ ∃ (n_1 : Int), ∃ (n_2 : Int), ∃ (n_3 : Int), ∃ (s : ByteArray), Heap.has H a_1 [Value.int IntKind.i64 n_1, Value.int IntKind.u32 n_2, Value.int IntKind.u32 n_3, Value.string s] ∧ Meets prog g (Value.agg { toList := [Value.int IntKind.i64 n_1, Value.int IntKind.u32 n_2, Value.int IntKind.u32 n_3, Value.string s] } :: caps.1) H fun (e : Ending) (H' : Nat → Option Obj) ↦ ∃ (b : Bool), e = Ending.returned (Value.bool b) ∧ Br b (R (Ending.returned (Value.int IntKind.i64 p.fst.fst)) H') (a = a ∧ n = n ∧ c = c ∧ Value.func (Fn.func g) { toList := [] } caps = Value.func (Fn.func g) { toList := [] } caps ∧ (0 : Int) = (0 : Int) ∧ (↑n : Int) = (↑n : Int) ∧ K ((IntKind.wrap IntKind.i64 (p.fst.fst + (1 : Int)), PUnit.unit), PUnit.unit) H')) (R (Ending.returned (Value.int IntKind.i64 (-1 : Int))) H)) (((0 : Int), PUnit.unit), PUnit.unit) H
theorem vc_idx (a : Option Addr) (n : Nat) (c : Nat) (g : Nat) (caps : Array Value) (R : Ending → Heap → Prop) (H : Heap) : vcFun prog h_idx f59 [SV.c (SC.v (Value.slice a n c)), SV.c (SC.v (Value.func (Fn.func g) #[] caps))] R H = nf_idx a n c g caps R H := by kernel_rfl

def nf_del (a : Option Addr) (n : Nat) (c : Nat) (g : Nat) (caps : Array Value) (R : Ending → Heap → Prop) (H : Heap) : Prop := Meets prog (59 : Nat) [Value.slice a n c, Value.func (Fn.func g) { toList := [] } caps] H fun (e : Ending) (H' : Nat → Option Obj) ↦ ∃ (n_1 : Int), e = Ending.returned (Value.int IntKind.i64 n_1) ∧ Br (n_1 == (-1 : Int)) (R (Ending.returned (Value.slice a n c)) H') (a = a ∧ n = n ∧ c = c ∧ Value.func (Fn.func g) { toList := [] } caps = Value.func (Fn.func g) { toList := [] } caps ∧ (none : Option Addr) = none ∧ (0 : Nat) = (0 : Nat) ∧ (0 : Nat) = (0 : Nat) ∧ LoopP (fun (K : (Int × Int × PUnit) × PUnit → (Nat → Option Obj) → Prop) (p : (Int × Int × PUnit) × PUnit) (H : Nat → Option Obj) ↦ Br (decide (p.fst.snd.fst < (↑n : Int))) (((0 : Int) ≤ p.fst.snd.fst ∧ p.fst.snd.fst < (↑n : Int)) ∧ PtrK a fun (A : Addr) ↦ PtrK (some (Addr.add A (Int.toNat p.fst.snd.fst * (4 : Nat)))) fun (a_1 : Addr) ↦ ∃ (n_2 : Int), ∃ (n_3 : Int), ∃ (n_4 : Int), ∃ (s : ByteArray), Heap.has H a_1 [Value.int IntKind.i64 n_2, Value.int IntKind.u32 n_3, Value.int IntKind.u32 n_4, Value.string s] ∧ Meets prog g (Value.agg { toList := [Value.int IntKind.i64 n_2, Value.int IntKind.u32 n_3, Value.int IntKind.u32 n_4, Value.string s] } :: caps.1) H fun (e : Ending) (H' : Nat → Option Obj) ↦ ∃ (b : Bool), e = Ending.returned (Value.bool b) ∧ Br (!b) (((0 : Int) ≤ p.fst.fst ∧ p.fst.fst < (↑n : Int)) ∧ PtrK a fun (A : Addr) ↦ PtrK (some (Addr.add A (Int.toNat p.fst.fst * (4 : Nat)))) fun (A : Addr) ↦ ∃ (c_1 : Array Value), ∃ (ty : Nat), (H' A.block = some (Obj.cells c_1 ty) ∧ A.spot = none ∧ A.off + (4 : Nat) ≤ Array.size c_1) ∧ a = a ∧ n = n ∧ c = c ∧ Value.func (Fn.func g) { toList := [] } caps = Value.func (Fn.func g) { toList := [] } caps ∧ (none : Option Addr) = none ∧ (0 : Nat) = (0 : Nat) ∧ (0 : Nat) = (0 : Nat) ∧ K ((IntKind.wrap IntKind.i64 (p.fst.fst + (1 : Int)), IntKind.wrap IntKind.i64 (p.fst.snd.fst + (1 : Int)), PUnit.unit), PUnit.unit) (Heap.upd H' A.block (Obj.cells (writeCells c_1 A.off [Value.int IntKind.i64 n_2, Value.int IntKind.u32 n_3, Value.int IntKind.u32 n_4, Value.string s]) ty))) (a = a ∧ n = n ∧ c = c ∧ Value.func (Fn.func g) { toList := [] } caps = Value.func (Fn.func g) { toList := [] } caps ∧ (none : Option Addr) = none ∧ (0 : Nat) = (0 : Nat) ∧ (0 : Nat) = (0 : Nat) ∧ K ((p.fst.fst, IntKind.wrap IntKind.i64 (p.fst.snd.fst + (1 : Int)), PUnit.unit), PUnit.unit) H')) (((0 : Int) ≤ p.fst.fst ∧ p.fst.fst ≤ (↑n : Int)) ∧ (n - Int.toNat p.fst.fst = (0 : Nat) ∧ ((0 : Int) ≤ p.fst.fst ∧ p.fst.fst ≤ (↑c : Int)) ∧ R (Ending.returned (Value.slice (subAddr a c (0 : Nat) (4 : Nat)) (Int.toNat p.fst.fst - (0 : Nat)) (c - (0 : Nat)))) H ∨ ∃ (A : Addr), ∃ (c_1 : Array Value), ∃ (ty : Nat), subAddr a c (Int.toNat p.fst.fst) (4 : Nat) = some A ∧ (H A.block = some (Obj.cells c_1 ty) ∧ A.spot = none ∧ A.off + (n - Int.toNat p.fst.fst) * (4 : Nat) ≤ Array.size c_1) ∧ ((0 : Int) ≤ p.fst.fst ∧ p.fst.fst ≤ (↑c : Int)) ∧ R (Ending.returned (Value.slice (subAddr a c (0 : Nat) (4 : Nat)) (Int.toNat p.fst.fst - (0 : Nat)) (c - (0 : Nat)))) (Heap.upd H A.block (Obj.cells (writeCells c_1 A.off (List.flatten (List.replicate (n - Int.toNat p.fst.fst) [Value.int IntKind.i64 (0 : Int), Value.int IntKind.u32 (0 : Int), Value.int IntKind.u32 (0 : Int), Value.string { data := #[] }]))) ty))))) ((n_1, IntKind.wrap IntKind.i64 (n_1 + (1 : Int)), PUnit.unit), PUnit.unit) H')
theorem vc_del (a : Option Addr) (n : Nat) (c : Nat) (g : Nat) (caps : Array Value) (R : Ending → Heap → Prop) (H : Heap) : vcFun prog h_del f43 [SV.c (SC.v (Value.slice a n c)), SV.c (SC.v (Value.func (Fn.func g) #[] caps))] R H = nf_del a n c g caps R H := by kernel_rfl

/-- Coordinates that may be. -/
def PtR (p : Pt) : Prop := 0 ≤ p.x ∧ p.x < 4294967296 ∧ 0 ≤ p.y ∧ p.y < 4294967296
def qt (h : Nat) (p : Pt) : Int := p.x / 2 ^ h % 2 + 2 * (p.y / 2 ^ h % 2)
abbrev ceV (x y lv : Int) : Value := .agg { toList := [.int .u32 x, .int .u32 y, .int .i64 lv] }
/-- A corner of a cell of height h. -/
def Cor (h : Nat) (x : Int) : Prop := 0 ≤ x ∧ x + 2 ^ h ≤ 4294967296 ∧ x % 2 ^ h = 0
theorem pow_le {h : Nat} (hh : h ≤ 32) : (1 : Int) ≤ 2 ^ h ∧ (2 : Int) ^ h ≤ 4294967296 := by
  have h1 := pow32 hh
  have h2 : 1 ≤ 2 ^ h := Nat.one_le_two_pow
  have : ((2 : Int) ^ h) = ((2 ^ h : Nat) : Int) := by simp
  rw [this]; omega
theorem Cor.fix {h : Nat} {x : Int} (hx : Cor h x) : x / 2 ^ h * 2 ^ h = x := by
  have := Int.mul_ediv_add_emod x (2 ^ h)
  rw [hx.2.2, Int.mul_comm] at this
  omega
theorem Cor.lt {h : Nat} (hh : h ≤ 32) {x : Int} (hx : Cor h x) : 0 ≤ x ∧ x < 4294967296 := by
  have := pow_le hh
  exact ⟨hx.1, by have := hx.2.1; omega⟩
theorem Cor.kid {h : Nat} (hh : h < 32) {x b : Int} (hx : Cor (h + 1) x) (hb : b = 0 ∨ b = 1) : Cor h (x + b * 2 ^ h) := by
  obtain ⟨h1, h2, h3⟩ := hx
  have hp := pow_le (h := h) (by omega)
  rw [Int.pow_succ] at h2 h3
  refine ⟨?_, ?_, ?_⟩
  · rcases hb with rfl | rfl <;> omega
  · rcases hb with rfl | rfl <;> omega
  · have hd : (2 : Int) ^ h ∣ x := Int.dvd_trans ⟨2, rfl⟩ (Int.dvd_of_emod_eq_zero h3)
    rw [Int.add_mul_emod_self_right]
    exact Int.emod_eq_zero_of_dvd hd
section
variable {R : Ending → Heap → Prop} {H : Heap}
theorem s_side {lv : Int} {h : Nat} (hh : h ≤ 32) (hl : lv = 32 - h) (k : R (.returned (.int .u32 (2 ^ h - 1))) H) : Meets prog 62 [vi lv] H R := by
  refine spec_of func62 (by kernel_rfl) (fun t h => by cases h) ?_ (vc_side lv R H) ?_
  · simp [argsR, SV.rep, SC.rep, one]
  unfold nf_side
  have e : (32 : Int) - lv = (h : Int) := by omega
  rw [e, w64 (by omega), shl_one hh]
  exact ⟨by omega, k⟩
theorem s_fix {x y lv : Int} {h : Nat} (hh : h ≤ 32) (hl : minI (maxI lv 0) 32 = 32 - (h : Int)) (hx : 0 ≤ x ∧ x < 4294967296) (hy : 0 ≤ y ∧ y < 4294967296) (k : R (.returned (ceV (x / 2 ^ h * 2 ^ h) (y / 2 ^ h * 2 ^ h) (32 - h))) H) :
    Meets prog 60 [ceV x y lv] H R := by
  refine spec_of func60 (by kernel_rfl) (fun t h => by cases h) ?_ (vc_fix x y lv R H) ?_
  · simp [argsR, SV.rep, SegsRep, SC.rep, one]
  unfold nf_fix
  rw [hl]
  refine s_side hh rfl ⟨_, rfl, ?_⟩
  rw [and_not hx.1 hx.2 hh, and_not hy.1 hy.2 hh]
  exact k
theorem lv_fix {h : Nat} (hh : h ≤ 32) : minI (maxI (32 - (h : Int)) 0) 32 = 32 - (h : Int) := by
  unfold minI maxI
  split <;> split <;> omega
theorem s_quar {x y px py : Int} {h : Nat} (hh : h < 32) (hx : 0 ≤ x ∧ x < 4294967296) (hy : 0 ≤ y ∧ y < 4294967296) (hpx : 0 ≤ px ∧ px < 4294967296) (hpy : 0 ≤ py ∧ py < 4294967296)
    (k : R (.returned (vi (px / 2 ^ h % 2 + 2 * (py / 2 ^ h % 2)))) H) : Meets prog 45 [ceV x y (32 - ((h + 1 : Nat) : Int)), .int .u32 px, .int .u32 py] H R := by
  refine spec_of func45 (by kernel_rfl) (fun t h => by cases h) ?_ (vc_quar x y (32 - ((h + 1 : Nat) : Int)) px py R H) ?_
  · simp [argsR, SV.rep, SegsRep, SC.rep, one]
  unfold nf_quar
  refine s_fix (h := h + 1) (by omega) (lv_fix (by omega)) hx hy ⟨_, _, _, rfl, br (fun q => ?_) fun q => ?_⟩
  · simp at q; omega
  · have e : (31 : Int) - (32 - ((h + 1 : Nat) : Int)) = (h : Int) := by omega
    rw [e, w64 (k := (h : Int)) (by omega), shr_u32 hpx.1 (by omega), shr_u32 hpy.1 (by omega)]
    have hp := pow_le (h := h) (by omega)
    have b1 : 0 ≤ px / 2 ^ h ∧ px / 2 ^ h < 4294967296 := ⟨Int.ediv_nonneg hpx.1 (by omega), Int.lt_of_le_of_lt (Int.ediv_le_self _ hpx.1) hpx.2⟩
    have b2 : 0 ≤ py / 2 ^ h ∧ py / 2 ^ h < 4294967296 := ⟨Int.ediv_nonneg hpy.1 (by omega), Int.lt_of_le_of_lt (Int.ediv_le_self _ hpy.1) hpy.2⟩
    rw [and_one b1.1 b1.2, and_one b2.1 b2.2]
    refine ⟨by omega, by omega, by omega, ?_⟩
    have c1 : px / 2 ^ h % 2 = 0 ∨ px / 2 ^ h % 2 = 1 := by omega
    have c2 : py / 2 ^ h % 2 = 0 ∨ py / 2 ^ h % 2 = 1 := by omega
    have : IntKind.i64.wrap (bitOp .or .u32 (px / 2 ^ h % 2) (shlI .u32 (py / 2 ^ h % 2) 1)) = px / 2 ^ h % 2 + 2 * (py / 2 ^ h % 2) := by
      rcases c1 with c1 | c1 <;> rcases c2 with c2 | c2 <;> rw [c1, c2] <;> decide
    rw [this]
    exact k
theorem s_croot (k : R (.returned (ceV 0 0 0)) H) : Meets prog 28 [] H R := by
  refine spec_of func28 (by kernel_rfl) (fun t h => by cases h) ?_ (vc_croot R H) ?_
  · simp [argsR]
  exact k
theorem s_kid {x y : Int} {q : Nat} {h : Nat} (hh : h < 32) (hx : Cor (h + 1) x) (hy : Cor (h + 1) y) (hq : q < 4) (k : R (.returned (ceV (x + ((q % 2 : Nat) : Int) * 2 ^ h) (y + ((q / 2 : Nat) : Int) * 2 ^ h) (32 - h))) H) :
    Meets prog 47 [ceV x y (32 - ((h + 1 : Nat) : Int)), vi q] H R := by
  refine spec_of func47 (by kernel_rfl) (fun t h => by cases h) ?_ (vc_kid x y (32 - ((h + 1 : Nat) : Int)) q R H) ?_
  · simp [argsR, SV.rep, SegsRep, SC.rep, one]
  unfold nf_kid
  refine s_fix (h := h + 1) (by omega) (lv_fix (by omega)) (hx.lt (by omega)) (hy.lt (by omega)) ⟨_, _, _, rfl, br (fun q => ?_) fun q1 => ?_⟩
  · simp at q; omega
  · have e : (32 : Int) - ((h + 1 : Nat) : Int) + 1 = 32 - (h : Int) := by omega
    rw [hx.fix, hy.fix, e, w64 (k := 32 - (h : Int)) (by omega)]
    refine s_side (h := h) (by omega) rfl ⟨_, rfl, ?_⟩
    have hp := pow_le (h := h) (by omega)
    have hp32 : (2 : Int) ^ h < 4294967296 := by
      have h1 : 2 ^ h < 2 ^ 32 := Nat.pow_lt_pow_right (by omega) hh
      have : ((2 : Int) ^ h) = ((2 ^ h : Nat) : Int) := by simp
      rw [this]; omega
    have hps : (2 : Int) ^ (h + 1) = 2 ^ h * 2 := Int.pow_succ _ _
    rw [show (2 : Int) ^ h - 1 + 1 = 2 ^ h by omega, wu32 (by omega)]
    have ox : bitOp .or .u32 x (2 ^ h) = x + 2 ^ h := or_add hx.2.2 hx.1 (by omega) (by omega) (by have := hx.2.1; omega)
    have oy : bitOp .or .u32 y (2 ^ h) = y + 2 ^ h := or_add hy.2.2 hy.1 (by omega) (by omega) (by have := hy.2.1; omega)
    rw [ox, oy, (and_i64 (x := (q : Int)) (by omega) (by omega)).1, (and_i64 (x := (q : Int)) (by omega) (by omega)).2 (by omega)]
    have hq4 : q = 0 ∨ q = 1 ∨ q = 2 ∨ q = 3 := by omega
    rcases hq4 with rfl | rfl | rfl | rfl <;> refine br (fun a => br (fun b => ?_) fun b => ?_) fun a => br (fun b => ?_) fun b => ?_ <;> first | (exfalso; revert a; decide) | (exfalso; revert b; decide) | (simpa using k)
/-! ### Searching, thinning out -/
/-- A function that tells of points, in whatever memory of a kind. -/
def PredOK (Q : Pt → Prop) (I : Heap → Prop) (g : Nat) (caps : Array Value) (f : Pt → Bool) : Prop := ∀ (p : Pt) (H : Heap) (R : Ending → Heap → Prop), Q p → I H → R (.returned (.bool (f p))) H → Meets prog g (ptV p :: caps.toList) H R
theorem s_idx {Q : Pt → Prop} {I : Heap → Prop} {g : Nat} {caps : Array Value} {f : Pt → Bool} (hf : PredOK Q I g caps f) {v : Value} {l : List Pt} (h : SliceAt H v 4 (pts l)) (hI : I H) (hQ : ∀ p ∈ l, Q p) (hl : l.length ≤ 1000000)
    (k1 : ∀ i : Nat, l.findIdx? f = some i → R (.returned (vi i)) H) (k2 : l.findIdx? f = none → R (.returned (vi (-1))) H) : Meets prog 59 [v, .func (.func g) #[] caps] H R := by
  obtain ⟨a, n, c, e, hn⟩ := h
  subst e
  have h : SliceAt H (.slice a n c) 4 (pts l) := ⟨a, n, c, rfl, hn⟩
  have hln : l.length = n := by simpa [pts] using hn.1
  refine spec_of func59 (by kernel_rfl) (fun t h => by cases h) ?_ (vc_idx a n c g caps R H) ?_
  · simp [argsR, SV.rep, SC.rep, one]
  unfold nf_idx
  simp only [true_and]
  refine ⟨fun p H' => ∃ t : Nat, p.1.1 = t ∧ t ≤ n ∧ (∀ x ∈ l.take t, f x = false) ∧ H' = H, fun p _ => (n - p.1.1).toNat, ⟨0, rfl, by omega, by simp, rfl⟩, ?_⟩
  rintro ⟨⟨i, _⟩, _⟩ H1 ⟨t, hi, ht, f1, rfl⟩
  simp only at hi ⊢
  subst hi
  refine br (fun q => ?_) fun q => ?_
  · simp only [decide_eq_true_eq] at q
    obtain ⟨x, hd, htk, hx⟩ := drop_cons (l := l) (k := t) (by omega)
    obtain ⟨A, e, g1⟩ := pr_get h (i := t) hx
    subst e
    refine ⟨⟨by omega, by omega⟩, ptr rfl (ptr rfl ⟨_, _, _, _, g1, ?_⟩)⟩
    refine hf x _ _ (hQ x (List.mem_of_getElem? hx)) hI ⟨_, rfl, br (fun q1 => ?_) fun q1 => ?_⟩
    · refine k1 t ?_
      rw [List.findIdx?_eq_some_iff_getElem]
      refine ⟨by omega, ?_, fun j hj => ?_⟩
      · rw [List.getElem?_eq_getElem (by omega)] at hx
        cases hx; exact q1
      · have : l[j] ∈ l.take t := by
          rw [List.mem_take_iff_getElem]
          exact ⟨j, by omega, rfl⟩
        simpa using f1 _ this
    · rw [w64 (by omega)]
      refine ⟨⟨t + 1, by omega, by omega, fun z hz => ?_, by trivial⟩, by omega⟩
      rw [htk] at hz
      rcases List.mem_append.1 hz with hz | hz
      · exact f1 z hz
      · simp at hz; subst hz; exact q1
  · simp only [decide_eq_false_iff_not] at q
    refine k2 ?_
    rw [List.findIdx?_eq_none_iff]
    intro z hz
    refine f1 z ?_
    rw [List.take_of_length_le (by omega)]; exact hz
theorem s_del {Q : Pt → Prop} {I : Heap → Prop} {g : Nat} {caps : Array Value} {f : Pt → Bool} (hf : PredOK Q I g caps f) {v : Value} {l : List Pt} {ty : Nat} (h : RowAt H v ty 4 (pts l)) (hI : I H) (hIM : ∀ H' H'', I H' → Mod v H' H'' → I H'') (hQ : ∀ p ∈ l, Q p) (hl : l.length ≤ 1000000)
    (k : ∀ v' H', RowAt H' v' ty 4 (pts (l.filter fun p => !f p)) → blockOf v' = blockOf v → Mod v H H' → R (.returned v') H') : Meets prog 43 [v, .func (.func g) #[] caps] H R := by
  obtain ⟨a, c, rfl⟩ := row_val h
  have hpl : (pts l).length = l.length := by simp [pts]
  rw [hpl] at h hIM k ⊢
  refine spec_of func43 (by kernel_rfl) (fun t h => by cases h) ?_ (vc_del a l.length c g caps R H) ?_
  · simp [argsR, SV.rep, SC.rep, one]
  unfold nf_del
  simp only [true_and]
  refine s_idx hf (row_slice h) hI hQ hl (fun i hi => ⟨_, rfl, br (fun q => ?_) fun _ => ?_⟩) fun hn => ⟨_, rfl, br (fun _ => ?_) fun q => ?_⟩
  · simp at q
  · rw [List.findIdx?_eq_some_iff_getElem] at hi
    obtain ⟨hil, hfi, hlt⟩ := hi
    have hw0 : IntKind.i64.wrap ((i : Int) + 1) = ((i + 1 : Nat) : Int) := by rw [w64 (by omega)]; omega
    rw [hw0]
    obtain ⟨A, rfl⟩ : ∃ A, a = some A := by
      obtain ⟨A, e, _⟩ := pr_get (row_slice h) (i := i) (p := l[i]) (List.getElem?_eq_getElem hil)
      exact ⟨A, e⟩
    have hkeep : (l.take (i + 1)).filter (fun p => !f p) = l.take i := by
      rw [List.take_add_one, List.getElem?_eq_getElem hil, List.filter_append]
      simp only [Option.toList_some, List.filter_cons, hfi, Bool.not_true, Bool.false_eq_true, if_false, List.filter_nil, List.append_nil]
      rw [List.filter_eq_self]
      intro z hz
      obtain ⟨j, hj, rfl⟩ := List.mem_take_iff_getElem.1 hz
      simpa using hlt j (by omega)
    refine ⟨fun p H' => ∃ (t : Nat) (M : List Pt), p.1.2.1 = t ∧ t ≤ l.length ∧ p.1.1 = ((l.take t).filter fun p => !f p).length ∧ 0 < M.length ∧ ((l.take t).filter fun p => !f p).length + M.length = t ∧ RowAt H' (.slice (some A) l.length c) ty 4 (pts ((l.take t).filter (fun p => !f p) ++ M ++ l.drop t)) ∧ Mod (.slice (some A) l.length c) H H', fun p _ => (l.length - p.1.2.1).toNat, ⟨i + 1, [l[i]], rfl, by omega, ?_, by simp, ?_, ?_, Mod.refl _ _⟩, ?_⟩
    · rw [hkeep, List.length_take]; simp; omega
    · rw [hkeep, List.length_take]; simp; omega
    · rw [hkeep]
      have : l.take i ++ [l[i]] ++ l.drop (i + 1) = l := by
        rw [List.append_assoc, List.singleton_append, ← List.drop_eq_getElem_cons hil, List.take_append_drop]
      rw [this]; exact h
    rintro ⟨⟨i', j, _⟩, _⟩ H1 ⟨t, M, hj, ht, hi', hM, hlen, hrow, hmod⟩
    simp only at hj hi' ⊢
    subst hj; subst hi'
    generalize hF : (l.take t).filter (fun p => !f p) = F at *
    refine br (fun q => ?_) fun q => ?_
    · simp only [decide_eq_true_eq] at q
      obtain ⟨x, hd, htk, hx⟩ := drop_cons (l := l) (k := t) (by omega)
      have hxl : x ∈ l := List.mem_of_getElem? hx
      have hget : (F ++ M ++ l.drop t)[t]? = some x := by
        rw [List.getElem?_append_right (by rw [List.length_append]; omega), List.length_append, hlen, Nat.sub_self, hd]; rfl
      obtain ⟨A', e, g1⟩ := pr_get (row_slice hrow) (i := t) hget
      cases e
      have hFn : (l.take (t + 1)).filter (fun p => !f p) = F ++ if f x then [] else [x] := by
        rw [htk, List.filter_append, hF]
        congr 1
        cases hfx : f x <;> simp [hfx]
      refine ⟨⟨by omega, by omega⟩, ptr rfl (ptr rfl ⟨_, _, _, _, g1, ?_⟩)⟩
      refine hf x _ _ (hQ x hxl) (hIM _ _ hI hmod) ⟨_, rfl, br (fun q1 => ?_) fun q1 => ?_⟩
      · have q1 : f x = false := by simpa using q1
        rw [q1] at hFn
        simp only [Bool.false_eq_true, if_false] at hFn
        obtain ⟨m0, M', rfl⟩ : ∃ m0 M', M = m0 :: M' := by cases M with | nil => simp at hM | cons a b => exact ⟨a, b, rfl⟩
        obtain ⟨c1, m1, r1, d1⟩ := pr_put hrow (i := F.length) (by simp at hlen; omega) x
        have hset : (F ++ m0 :: M' ++ l.drop t).set F.length x = F ++ [x] ++ (M' ++ [x]) ++ l.drop (t + 1) := by
          rw [List.append_assoc, List.set_append_right _ _ (Nat.le_refl _), Nat.sub_self, List.cons_append, List.set_cons_zero, hd]
          simp
        rw [hset] at r1
        rw [w64 (by simp at hlen; omega), w64 (by omega)]
        refine ⟨⟨by omega, by simp at hlen; omega⟩, ptr rfl (ptr rfl ⟨_, _, m1, ⟨t + 1, M' ++ [x], by omega, by omega, ?_, by simp, ?_, ?_, hmod.trans d1⟩, by omega⟩)⟩
        · rw [hFn]; simp
        · rw [hFn]; simp at hlen ⊢; omega
        · rw [hFn]; exact r1
      · have q1 : f x = true := by simpa using q1
        rw [q1] at hFn
        simp only [if_true, List.append_nil] at hFn
        rw [w64 (by omega)]
        refine ⟨⟨t + 1, M ++ [x], by omega, by omega, by rw [hFn], by simp, ?_, ?_, hmod⟩, by omega⟩
        · rw [hFn]; simp; omega
        · rw [hFn]; rw [hd] at hrow; simpa using hrow
    · simp only [decide_eq_false_iff_not] at q
      have htl : t = l.length := by omega
      subst htl
      rw [List.drop_length, List.append_nil] at hrow
      rw [List.take_length] at hF
      rw [hF] at k
      have hcap := (row_len hrow).2
      have hz : pts (F ++ M) = pts F ++ pts M := by simp [pts]
      rw [hz] at hrow
      obtain ⟨cl, ⟨e1, e2, e3⟩, r1, d1⟩ := row_fill hrow (ws := List.replicate (l.length - F.length) [vi 0, .int .u32 0, .int .u32 0, .string { data := #[] }]) (by simp [pts]; omega) (by intro e he; rw [List.eq_of_mem_replicate he]; rfl) (by intro e he x hx; rw [List.eq_of_mem_replicate he] at hx; simp at hx; rcases hx with rfl | rfl | rfl | rfl <;> rfl)
      have hfl : (pts F).length = F.length := by simp [pts]
      have hsub : subAddr (some A) c F.length 4 = some ⟨A.block, A.off + F.length * 4, none⟩ := by
        unfold subAddr
        rw [if_neg (by omega)]
        simp [add_spot e2]
      have hsub0 : subAddr (some A) c 0 4 = some A := by
        unfold subAddr
        split
        · rfl
        · simp
      rw [Int.toNat_natCast, hsub0, Nat.sub_zero, Nat.sub_zero]
      rw [List.length_replicate] at e3
      refine ⟨⟨by omega, by omega⟩, .inr ⟨_, cl, ty, hsub, ⟨e1, rfl, ?_⟩, ⟨by omega, by omega⟩, ?_⟩⟩
      · rw [hfl] at e3; exact e3
      · rw [hfl] at r1 d1
        have := row_prefix r1
        rw [hfl] at this
        exact k _ _ this rfl (hmod.trans d1)
  · have : l.filter (fun p => !f p) = l := by
      rw [List.filter_eq_self]
      intro z hz
      simpa using List.findIdx?_eq_none_iff.1 hn z hz
    rw [this] at k
    exact k _ _ h rfl (Mod.refl _ _)
  · simp at q
end
end Cr

set_option linter.unusedVariables false
set_option linter.unusedSimpArgs false
namespace Cr
open Go Sx Stb Bt
open Go.Sort (SWO)
open Go.Proofs.Try
set_option linter.unusedSectionVars false
variable [Dr]
set_option maxRecDepth 100000
def h_twice : Hints := { loops := [(2, ⟨[0, 2], [.f 3 (.int .i64)], []⟩)] }
def h_in : Hints := { loops := [(2, ⟨[0, 1, 4], [.f 5 (.int .i64)], []⟩)] }
def h_ints : Hints := { loops := [(4, ⟨[0, 1, 4], [.f 5 (.int .i64)], []⟩)] }
def nf_cmpc (x : Int) (y : Int) (R : Ending → Heap → Prop) (H : Heap) : Prop := Meets prog (58 : Nat) [Value.int IntKind.i64 x] H fun (e : Ending) (H' : Nat → Option Obj) ↦ ∃ (b : Bool), e = Ending.returned (Value.bool b) ∧ Meets prog (58 : Nat) [Value.int IntKind.i64 y] H' fun (e : Ending) (H' : Nat → Option Obj) ↦ ∃ (b_1 : Bool), e = Ending.returned (Value.bool b_1) ∧ Br b (Br b_1 (R (Ending.returned (Value.int IntKind.i64 (0 : Int))) H') (R (Ending.returned (Value.int IntKind.i64 (-1 : Int))) H')) (Br b_1 (R (Ending.returned (Value.int IntKind.i64 (1 : Int))) H') (Br (decide (x < y)) (R (Ending.returned (Value.int IntKind.i64 (-1 : Int))) H') (Br (decide (x > y)) (R (Ending.returned (Value.int IntKind.i64 (1 : Int))) H') (R (Ending.returned (Value.int IntKind.i64 (0 : Int))) H'))))
theorem vc_cmpc (x : Int) (y : Int) (R : Ending → Heap → Prop) (H : Heap) : vcFun prog { } f41 [SV.c (SC.v (Value.int IntKind.i64 x)), SV.c (SC.v (Value.int IntKind.i64 y))] R H = nf_cmpc x y R H := by kernel_rfl

def nf_isnan (x : Int) (R : Ending → Heap → Prop) (H : Heap) : Prop := R (Ending.returned (Value.bool (x != x))) H
theorem vc_isnan (x : Int) (R : Ending → Heap → Prop) (H : Heap) : vcFun prog { } f58 [SV.c (SC.v (Value.int IntKind.i64 x))] R H = nf_isnan x R H := by kernel_rfl

def nf_srt1 (i : Int) (x : Int) (y : Int) (d : ByteArray) (i' : Int) (x' : Int) (y' : Int) (d' : ByteArray) (R : Ending → Heap → Prop) (H : Heap) : Prop := Meets prog (41 : Nat) [Value.int IntKind.i64 i, Value.int IntKind.i64 i'] H fun (e : Ending) (H' : Nat → Option Obj) ↦ ∃ (n : Int), e = Ending.returned (Value.int IntKind.i64 n) ∧ R (Ending.returned (Value.int IntKind.i64 n)) H'
theorem vc_srt1 (i : Int) (x : Int) (y : Int) (d : ByteArray) (i' : Int) (x' : Int) (y' : Int) (d' : ByteArray) (R : Ending → Heap → Prop) (H : Heap) : vcFun prog { } f40 [ptA i x y d, ptA i' x' y' d'] R H = nf_srt1 i x y d i' x' y' d' R H := by kernel_rfl

def nf_sst (a : Option Addr) (n : Nat) (c : Nat) (g : Nat) (R : Ending → Heap → Prop) (H : Heap) : Prop := Meets prog (57 : Nat) [Value.slice a n c, Value.int IntKind.i64 (↑n : Int), Value.func (Fn.func g) { toList := [] } { toList := [] }] H fun (e : Ending) (H' : Nat → Option Obj) ↦ e = Ending.returned (Value.tuple { toList := [] }) ∧ R (Ending.returned (Value.tuple { toList := [] })) H'
theorem vc_sst (a : Option Addr) (n : Nat) (c : Nat) (g : Nat) (R : Ending → Heap → Prop) (H : Heap) : vcFun prog { } f39 [SV.c (SC.v (Value.slice a n c)), SV.c (SC.v (Value.func (Fn.func g) #[] #[]))] R H = nf_sst a n c g R H := by kernel_rfl

def nf_stb0 (g : Nat) (R : Ending → Heap → Prop) (H : Heap) : Prop := (none : Option Addr) = none ∧ (0 : Nat) = (0 : Nat) ∧ (0 : Nat) = (0 : Nat) ∧ (0 : Int) = (0 : Int) ∧ Value.func (Fn.func g) { toList := [] } { toList := [] } = Value.func (Fn.func g) { toList := [] } { toList := [] } ∧ (20 : Int) = (20 : Int) ∧ LoopP (fun (K : (Int × Int × PUnit) × PUnit → (Nat → Option Obj) → Prop) (p : (Int × Int × PUnit) × PUnit) (H : Nat → Option Obj) ↦ Br (decide (p.fst.snd.fst ≤ (0 : Int))) (Meets prog (69 : Nat) [Value.slice none (0 : Nat) (0 : Nat), Value.int IntKind.i64 p.fst.fst, Value.int IntKind.i64 p.fst.snd.fst, Value.func (Fn.func g) { toList := [] } { toList := [] }] H fun (e : Ending) (H' : Nat → Option Obj) ↦ e = Ending.returned (Value.tuple { toList := [] }) ∧ (none : Option Addr) = none ∧ (0 : Nat) = (0 : Nat) ∧ (0 : Nat) = (0 : Nat) ∧ (0 : Int) = (0 : Int) ∧ Value.func (Fn.func g) { toList := [] } { toList := [] } = Value.func (Fn.func g) { toList := [] } { toList := [] } ∧ (20 : Int) = (20 : Int) ∧ K ((p.fst.snd.fst, IntKind.wrap IntKind.i64 (p.fst.snd.fst + (20 : Int)), PUnit.unit), PUnit.unit) H') (Meets prog (69 : Nat) [Value.slice none (0 : Nat) (0 : Nat), Value.int IntKind.i64 p.fst.fst, Value.int IntKind.i64 (0 : Int), Value.func (Fn.func g) { toList := [] } { toList := [] }] H fun (e : Ending) (H' : Nat → Option Obj) ↦ e = Ending.returned (Value.tuple { toList := [] }) ∧ (none : Option Addr) = none ∧ (0 : Nat) = (0 : Nat) ∧ (0 : Nat) = (0 : Nat) ∧ (0 : Int) = (0 : Int) ∧ Value.func (Fn.func g) { toList := [] } { toList := [] } = Value.func (Fn.func g) { toList := [] } { toList := [] } ∧ LoopP (fun (K : (Int × PUnit) × PUnit → (Nat → Option Obj) → Prop) (p : (Int × PUnit) × PUnit) (H : Nat → Option Obj) ↦ Br (decide (p.fst.fst < (0 : Int))) ((none : Option Addr) = none ∧ (0 : Nat) = (0 : Nat) ∧ (0 : Nat) = (0 : Nat) ∧ (0 : Int) = (0 : Int) ∧ Value.func (Fn.func g) { toList := [] } { toList := [] } = Value.func (Fn.func g) { toList := [] } { toList := [] } ∧ p.fst.fst = p.fst.fst ∧ LoopP (fun (K_1 : (Int × Int × PUnit) × PUnit → (Nat → Option Obj) → Prop) (p_1 : (Int × Int × PUnit) × PUnit) (H : Nat → Option Obj) ↦ Br (decide (p_1.fst.snd.fst ≤ (0 : Int))) (Meets prog (70 : Nat) [Value.slice none (0 : Nat) (0 : Nat), Value.int IntKind.i64 p_1.fst.fst, Value.int IntKind.i64 (IntKind.wrap IntKind.i64 (p_1.fst.fst + p.fst.fst)), Value.int IntKind.i64 p_1.fst.snd.fst, Value.func (Fn.func g) { toList := [] } { toList := [] }] H fun (e : Ending) (H' : Nat → Option Obj) ↦ e = Ending.returned (Value.tuple { toList := [] }) ∧ (none : Option Addr) = none ∧ (0 : Nat) = (0 : Nat) ∧ (0 : Nat) = (0 : Nat) ∧ (0 : Int) = (0 : Int) ∧ Value.func (Fn.func g) { toList := [] } { toList := [] } = Value.func (Fn.func g) { toList := [] } { toList := [] } ∧ p.fst.fst = p.fst.fst ∧ K_1 ((p_1.fst.snd.fst, IntKind.wrap IntKind.i64 (p_1.fst.snd.fst + IntKind.wrap IntKind.i64 ((2 : Int) * p.fst.fst)), PUnit.unit), PUnit.unit) H') (Br (decide (IntKind.wrap IntKind.i64 (p_1.fst.fst + p.fst.fst) < (0 : Int))) (Meets prog (70 : Nat) [Value.slice none (0 : Nat) (0 : Nat), Value.int IntKind.i64 p_1.fst.fst, Value.int IntKind.i64 (IntKind.wrap IntKind.i64 (p_1.fst.fst + p.fst.fst)), Value.int IntKind.i64 (0 : Int), Value.func (Fn.func g) { toList := [] } { toList := [] }] H fun (e : Ending) (H' : Nat → Option Obj) ↦ e = Ending.returned (Value.tuple { toList := [] }) ∧ (none : Option Addr) = none ∧ (0 : Nat) = (0 : Nat) ∧ (0 : Nat) = (0 : Nat) ∧ (0 : Int) = (0 : Int) ∧ Value.func (Fn.func g) { toList := [] } { toList := [] } = Value.func (Fn.func g) { toList := [] } { toList := [] } ∧ K ((IntKind.wrap IntKind.i64 (p.fst.fst * (2 : Int)), PUnit.unit), PUnit.unit) H') ((none : Option Addr) = none ∧ (0 : Nat) = (0 : Nat) ∧ (0 : Nat) = (0 : Nat) ∧ (0 : Int) = (0 : Int) ∧ Value.func (Fn.func g) { toList := [] } { toList := [] } = Value.func (Fn.func g) { toList := [] } { toList := [] } ∧ K ((IntKind.wrap IntKind.i64 (p.fst.fst * (2 : Int)), PUnit.unit), PUnit.unit) H))) (((0 : Int), IntKind.wrap IntKind.i64 ((2 : Int) * p.fst.fst), PUnit.unit), PUnit.unit) H) (R (Ending.returned (Value.tuple { toList := [] })) H)) (((20 : Int), PUnit.unit), PUnit.unit) H')) (((0 : Int), (20 : Int), PUnit.unit), PUnit.unit) H
theorem vc_stb0 (g : Nat) (R : Ending → Heap → Prop) (H : Heap) : vcFun prog h_stb f57 [SV.c (SC.v (Value.slice none (0 : Nat) (0 : Nat))), SV.c (SC.v (Value.int IntKind.i64 (0 : Int))), SV.c (SC.v (Value.func (Fn.func g) #[] #[]))] R H = nf_stb0 g R H := by kernel_rfl

def nf_ins0 (g : Nat) (R : Ending → Heap → Prop) (H : Heap) : Prop := (none : Option Addr) = none ∧ (0 : Nat) = (0 : Nat) ∧ (0 : Nat) = (0 : Nat) ∧ (0 : Int) = (0 : Int) ∧ (0 : Int) = (0 : Int) ∧ Value.func (Fn.func g) { toList := [] } { toList := [] } = Value.func (Fn.func g) { toList := [] } { toList := [] } ∧ LoopP (fun (K : (Int × PUnit) × PUnit → (Nat → Option Obj) → Prop) (p : (Int × PUnit) × PUnit) (H : Nat → Option Obj) ↦ Br (decide (p.fst.fst < (0 : Int))) ((none : Option Addr) = none ∧ (0 : Nat) = (0 : Nat) ∧ (0 : Nat) = (0 : Nat) ∧ (0 : Int) = (0 : Int) ∧ (0 : Int) = (0 : Int) ∧ Value.func (Fn.func g) { toList := [] } { toList := [] } = Value.func (Fn.func g) { toList := [] } { toList := [] } ∧ p.fst.fst = p.fst.fst ∧ LoopP (fun (K_1 : (Int × PUnit) × PUnit → (Nat → Option Obj) → Prop) (p_1 : (Int × PUnit) × PUnit) (H : Nat → Option Obj) ↦ ∃ (G : Nat → Option Obj), G ≤ H ∧ Br (decide (p_1.fst.fst > (0 : Int))) (((0 : Int) ≤ p_1.fst.fst ∧ p_1.fst.fst < (↑(0 : Nat) : Int)) ∧ PtrK none fun (A : Addr) ↦ PtrK (some (Addr.add A (Int.toNat p_1.fst.fst * (4 : Nat)))) fun (a : Addr) ↦ ∃ (n : Int), ∃ (n_1 : Int), ∃ (n_2 : Int), ∃ (s : ByteArray), Heap.has G a [Value.int IntKind.i64 n, Value.int IntKind.u32 n_1, Value.int IntKind.u32 n_2, Value.string s] ∧ ((0 : Int) ≤ IntKind.wrap IntKind.i64 (p_1.fst.fst - (1 : Int)) ∧ IntKind.wrap IntKind.i64 (p_1.fst.fst - (1 : Int)) < (↑(0 : Nat) : Int)) ∧ PtrK none fun (A : Addr) ↦ PtrK (some (Addr.add A (Int.toNat (IntKind.wrap IntKind.i64 (p_1.fst.fst - (1 : Int))) * (4 : Nat)))) fun (a : Addr) ↦ ∃ (n_3 : Int), ∃ (n_4 : Int), ∃ (n_5 : Int), ∃ (s_1 : ByteArray), Heap.has G a [Value.int IntKind.i64 n_3, Value.int IntKind.u32 n_4, Value.int IntKind.u32 n_5, Value.string s_1] ∧ Meets prog g [Value.agg { toList := [Value.int IntKind.i64 n, Value.int IntKind.u32 n_1, Value.int IntKind.u32 n_2, Value.string s] }, Value.agg { toList := [Value.int IntKind.i64 n_3, Value.int IntKind.u32 n_4, Value.int IntKind.u32 n_5, Value.string s_1] }] H fun (e : Ending) (H' : Nat → Option Obj) ↦ Keep G H H H' ∧ ∃ (n : Int), e = Ending.returned (Value.int IntKind.i64 n) ∧ Br (decide (n < (0 : Int))) (((0 : Int) ≤ IntKind.wrap IntKind.i64 (p_1.fst.fst - (1 : Int)) ∧ IntKind.wrap IntKind.i64 (p_1.fst.fst - (1 : Int)) < (↑(0 : Nat) : Int)) ∧ PtrK none fun (A : Addr) ↦ PtrK (some (Addr.add A (Int.toNat (IntKind.wrap IntKind.i64 (p_1.fst.fst - (1 : Int))) * (4 : Nat)))) fun (a : Addr) ↦ ∃ (n : Int), ∃ (n_6 : Int), ∃ (n_7 : Int), ∃ (s : ByteArray), Heap.has (delLs H' []) a [Value.int IntKind.i64 n, Value.int IntKind.u32 n_6, Value.int IntKind.u32 n_7, Value.string s] ∧ ((0 : Int) ≤ p_1.fst.fst ∧ p_1.fst.fst < (↑(0 : Nat) : Int)) ∧ PtrK none fun (A : Addr) ↦ PtrK (some (Addr.add A (Int.toNat p_1.fst.fst * (4 : Nat)))) fun (a : Addr) ↦ ∃ (n_8 : Int), ∃ (n_9 : Int), ∃ (n_10 : Int), ∃ (s_2 : ByteArray), Heap.has (delLs H' []) a [Value.int IntKind.i64 n_8, Value.int IntKind.u32 n_9, Value.int IntKind.u32 n_10, Value.string s_2] ∧ ((0 : Int) ≤ p_1.fst.fst ∧ p_1.fst.fst < (↑(0 : Nat) : Int)) ∧ PtrK none fun (A : Addr) ↦ PtrK (some (Addr.add A (Int.toNat p_1.fst.fst * (4 : Nat)))) fun (A : Addr) ↦ ∃ (c : Array Value), ∃ (ty : Nat), (delLs H' [] A.block = some (Obj.cells c ty) ∧ A.spot = none ∧ A.off + (4 : Nat) ≤ Array.size c) ∧ ((0 : Int) ≤ IntKind.wrap IntKind.i64 (p_1.fst.fst - (1 : Int)) ∧ IntKind.wrap IntKind.i64 (p_1.fst.fst - (1 : Int)) < (↑(0 : Nat) : Int)) ∧ PtrK none fun (A_1 : Addr) ↦ PtrK (some (Addr.add A_1 (Int.toNat (IntKind.wrap IntKind.i64 (p_1.fst.fst - (1 : Int))) * (4 : Nat)))) fun (A_2 : Addr) ↦ ∃ (c_1 : Array Value), ∃ (ty_1 : Nat), (Heap.upd (delLs H' ([] ++ ([] ++ ([] ++ ([] ++ ([] ++ []))) ++ ([] ++ ([] ++ ([] ++ ([] ++ []))) ++ [])))) A.block (Obj.cells (writeCells c A.off [Value.int IntKind.i64 n, Value.int IntKind.u32 n_6, Value.int IntKind.u32 n_7, Value.string s]) ty) A_2.block = some (Obj.cells c_1 ty_1) ∧ A_2.spot = none ∧ A_2.off + (4 : Nat) ≤ Array.size c_1) ∧ (none : Option Addr) = none ∧ (0 : Nat) = (0 : Nat) ∧ (0 : Nat) = (0 : Nat) ∧ (0 : Int) = (0 : Int) ∧ (0 : Int) = (0 : Int) ∧ Value.func (Fn.func g) { toList := [] } { toList := [] } = Value.func (Fn.func g) { toList := [] } { toList := [] } ∧ p.fst.fst = p.fst.fst ∧ K_1 ((IntKind.wrap IntKind.i64 (p_1.fst.fst - (1 : Int)), PUnit.unit), PUnit.unit) (Heap.upd (Heap.upd (delLs H' []) A.block (Obj.cells (writeCells c A.off [Value.int IntKind.i64 n, Value.int IntKind.u32 n_6, Value.int IntKind.u32 n_7, Value.string s]) ty)) A_2.block (Obj.cells (writeCells c_1 A_2.off [Value.int IntKind.i64 n_8, Value.int IntKind.u32 n_9, Value.int IntKind.u32 n_10, Value.string s_2]) ty_1))) ((none : Option Addr) = none ∧ (0 : Nat) = (0 : Nat) ∧ (0 : Nat) = (0 : Nat) ∧ (0 : Int) = (0 : Int) ∧ (0 : Int) = (0 : Int) ∧ Value.func (Fn.func g) { toList := [] } { toList := [] } = Value.func (Fn.func g) { toList := [] } { toList := [] } ∧ K ((IntKind.wrap IntKind.i64 (p.fst.fst + (1 : Int)), PUnit.unit), PUnit.unit) (delLs H' []))) ((none : Option Addr) = none ∧ (0 : Nat) = (0 : Nat) ∧ (0 : Nat) = (0 : Nat) ∧ (0 : Int) = (0 : Int) ∧ (0 : Int) = (0 : Int) ∧ Value.func (Fn.func g) { toList := [] } { toList := [] } = Value.func (Fn.func g) { toList := [] } { toList := [] } ∧ K ((IntKind.wrap IntKind.i64 (p.fst.fst + (1 : Int)), PUnit.unit), PUnit.unit) H)) ((p.fst.fst, PUnit.unit), PUnit.unit) H) (R (Ending.returned (Value.tuple { toList := [] })) H)) ((IntKind.wrap IntKind.i64 ((0 : Int) + (1 : Int)), PUnit.unit), PUnit.unit) H
theorem vc_ins0 (g : Nat) (R : Ending → Heap → Prop) (H : Heap) : vcFun prog h_ins f69 [SV.c (SC.v (Value.slice none (0 : Nat) (0 : Nat))), SV.c (SC.v (Value.int IntKind.i64 (0 : Int))), SV.c (SC.v (Value.int IntKind.i64 (0 : Int))), SV.c (SC.v (Value.func (Fn.func g) #[] #[]))] R H = nf_ins0 g R H := by kernel_rfl

def nf_srt (a : Option Addr) (n : Nat) (c : Nat) (R : Ending → Heap → Prop) (H : Heap) : Prop := Meets prog (38 : Nat) [Value.slice a n c] H fun (e : Ending) (H' : Nat → Option Obj) ↦ ∃ (a : Option Addr), ∃ (n : Nat), ∃ (c : Nat), e = Ending.returned (Value.slice a n c) ∧ Meets prog (39 : Nat) [Value.slice a n c, Value.func (Fn.func (40 : Nat)) { toList := [] } { toList := [] }] H' fun (e : Ending) (H' : Nat → Option Obj) ↦ e = Ending.returned (Value.tuple { toList := [] }) ∧ R (Ending.returned (Value.slice a n c)) H'
theorem vc_srt (a : Option Addr) (n : Nat) (c : Nat) (R : Ending → Heap → Prop) (H : Heap) : vcFun prog { } f24 [SV.c (SC.v (Value.slice a n c))] R H = nf_srt a n c R H := by kernel_rfl

def nf_twice (a : Option Addr) (n : Nat) (c : Nat) (R : Ending → Heap → Prop) (H : Heap) : Prop := a = a ∧ n = n ∧ c = c ∧ false = false ∧ LoopP (fun (K : (Int × PUnit) × PUnit → (Nat → Option Obj) → Prop) (p : (Int × PUnit) × PUnit) (H : Nat → Option Obj) ↦ Br (decide (p.fst.fst < (↑n : Int))) (((0 : Int) ≤ p.fst.fst ∧ p.fst.fst < (↑n : Int)) ∧ PtrK a fun (A : Addr) ↦ PtrK (some (Addr.add A (Int.toNat p.fst.fst * (4 : Nat)))) fun (a_1 : Addr) ↦ PtrK (some (Addr.add a_1 (0 : Nat))) fun (a_2 : Addr) ↦ ∃ (n_1 : Int), Heap.has H a_2 [Value.int IntKind.i64 n_1] ∧ ((0 : Int) ≤ IntKind.wrap IntKind.i64 (p.fst.fst - (1 : Int)) ∧ IntKind.wrap IntKind.i64 (p.fst.fst - (1 : Int)) < (↑n : Int)) ∧ PtrK a fun (A : Addr) ↦ PtrK (some (Addr.add A (Int.toNat (IntKind.wrap IntKind.i64 (p.fst.fst - (1 : Int))) * (4 : Nat)))) fun (a_3 : Addr) ↦ PtrK (some (Addr.add a_3 (0 : Nat))) fun (a_4 : Addr) ↦ ∃ (n_2 : Int), Heap.has H a_4 [Value.int IntKind.i64 n_2] ∧ Br (n_1 == n_2) (R (Ending.returned (Value.bool true)) H) (a = a ∧ n = n ∧ c = c ∧ false = false ∧ K ((IntKind.wrap IntKind.i64 (p.fst.fst + (1 : Int)), PUnit.unit), PUnit.unit) H)) (R (Ending.returned (Value.bool false)) H)) (((1 : Int), PUnit.unit), PUnit.unit) H
theorem vc_twice (a : Option Addr) (n : Nat) (c : Nat) (R : Ending → Heap → Prop) (H : Heap) : vcFun prog h_twice f25 [SV.c (SC.v (Value.slice a n c))] R H = nf_twice a n c R H := by kernel_rfl

def nf_inn (a : Option Addr) (n : Nat) (c : Nat) (x : Int) (R : Ending → Heap → Prop) (H : Heap) : Prop := a = a ∧ n = n ∧ c = c ∧ x = x ∧ false = false ∧ LoopP (fun (K : (Int × PUnit) × PUnit → (Nat → Option Obj) → Prop) (p : (Int × PUnit) × PUnit) (H : Nat → Option Obj) ↦ Br (decide (p.fst.fst < (↑n : Int))) (((0 : Int) ≤ p.fst.fst ∧ p.fst.fst < (↑n : Int)) ∧ PtrK a fun (A : Addr) ↦ PtrK (some (Addr.add A (Int.toNat p.fst.fst * (1 : Nat)))) fun (a_1 : Addr) ↦ ∃ (n_1 : Int), Heap.has H a_1 [Value.int IntKind.i64 n_1] ∧ Br (n_1 == x) (R (Ending.returned (Value.bool true)) H) (a = a ∧ n = n ∧ c = c ∧ x = x ∧ false = false ∧ K ((IntKind.wrap IntKind.i64 (p.fst.fst + (1 : Int)), PUnit.unit), PUnit.unit) H)) (R (Ending.returned (Value.bool false)) H)) (((0 : Int), PUnit.unit), PUnit.unit) H
theorem vc_inn (a : Option Addr) (n : Nat) (c : Nat) (x : Int) (R : Ending → Heap → Prop) (H : Heap) : vcFun prog h_in f29 [SV.c (SC.v (Value.slice a n c)), SV.c (SC.v (Value.int IntKind.i64 x))] R H = nf_inn a n c x R H := by kernel_rfl

def nf_ints (a : Option Addr) (n : Nat) (c : Nat) (a' : Option Addr) (n' : Nat) (c' : Nat) (R : Ending → Heap → Prop) (H : Heap) : Prop := Br ((↑n : Int) != (↑n' : Int)) (R (Ending.returned (Value.bool false)) H) (a = a ∧ n = n ∧ c = c ∧ a' = a' ∧ n' = n' ∧ c' = c' ∧ false = false ∧ LoopP (fun (K : (Int × PUnit) × PUnit → (Nat → Option Obj) → Prop) (p : (Int × PUnit) × PUnit) (H : Nat → Option Obj) ↦ Br (decide (p.fst.fst < (↑n : Int))) (((0 : Int) ≤ p.fst.fst ∧ p.fst.fst < (↑n : Int)) ∧ PtrK a fun (A : Addr) ↦ PtrK (some (Addr.add A (Int.toNat p.fst.fst * (1 : Nat)))) fun (a_1 : Addr) ↦ ∃ (n_1 : Int), Heap.has H a_1 [Value.int IntKind.i64 n_1] ∧ ((0 : Int) ≤ p.fst.fst ∧ p.fst.fst < (↑n' : Int)) ∧ PtrK a' fun (A : Addr) ↦ PtrK (some (Addr.add A (Int.toNat p.fst.fst * (1 : Nat)))) fun (a_2 : Addr) ↦ ∃ (n_2 : Int), Heap.has H a_2 [Value.int IntKind.i64 n_2] ∧ Br (n_1 != n_2) (R (Ending.returned (Value.bool false)) H) (a = a ∧ n = n ∧ c = c ∧ a' = a' ∧ n' = n' ∧ c' = c' ∧ false = false ∧ K ((IntKind.wrap IntKind.i64 (p.fst.fst + (1 : Int)), PUnit.unit), PUnit.unit) H)) (R (Ending.returned (Value.bool true)) H)) (((0 : Int), PUnit.unit), PUnit.unit) H)
theorem vc_ints (a : Option Addr) (n : Nat) (c : Nat) (a' : Option Addr) (n' : Nat) (c' : Nat) (R : Ending → Heap → Prop) (H : Heap) : vcFun prog h_ints f10 [SV.c (SC.v (Value.slice a n c)), SV.c (SC.v (Value.slice a' n' c'))] R H = nf_ints a n c a' n' c' R H := by kernel_rfl

theorem ba_beq (a b : ByteArray) : (a == b) = decide (a = b) := by
  cases a with | mk x => cases b with | mk y =>
  have : ((⟨x⟩ : ByteArray) == ⟨y⟩) = (x == y) := rfl
  rw [this, Bool.eq_iff_iff]
  simp
theorem ir_get {H : Heap} {a : Option Addr} {n c : Nat} {l : List Int} (h : SliceAt H (.slice a n c) 1 (cells l)) {i : Nat} {x : Int} (he : l[i]? = some x) : ∃ A, a = some A ∧ H.has (A.add (i * 1)) [vi x] := by
  obtain ⟨A, h1, _, h2⟩ := slice_get h (i := i) (e := [vi x]) (by simp [cells, he])
  exact ⟨A, h1, h2⟩
abbrev ltI (p q : Pt) : Bool := decide (p.id < q.id)
def cmpI (p q : Pt) : Int := if p.id < q.id then -1 else if p.id > q.id then 1 else 0
theorem ltc_cmpI : ltc cmpI = ltI := by
  funext p q
  unfold ltc cmpI ltI
  split
  · simp_all
  · split <;> simp_all
theorem swo_I : SWO ltI := ⟨fun x => by simp, fun x y z => by simp; omega, fun x y z => by simp; omega⟩
/-- Points, by Id. -/
def sortP (l : List Pt) : List Pt := isort ltI l
theorem sortP_len (l : List Pt) : (sortP l).length = l.length := isort_len l
section
variable {R : Ending → Heap → Prop} {H : Heap}
theorem s_cmpc {x y : Int} (k : R (.returned (vi (if x < y then -1 else if x > y then 1 else 0))) H) : Meets prog 41 [vi x, vi y] H R := by
  refine spec_of func41 (by kernel_rfl) (fun t h => by cases h) ?_ (vc_cmpc x y R H) ?_
  · simp [argsR, SV.rep, SC.rep, one]
  unfold nf_cmpc
  have nan : ∀ (z : Int) (R : Ending → Heap → Prop) (H : Heap), R (.returned (.bool false)) H → Meets prog 58 [vi z] H R := fun z R H k => by
    refine spec_of func58 (by kernel_rfl) (fun t h => by cases h) ?_ (vc_isnan z R H) ?_
    · simp [argsR, SV.rep, SC.rep, one]
    unfold nf_isnan
    simpa using k
  refine nan _ _ _ ⟨_, rfl, nan _ _ _ ⟨_, rfl, br (fun q => by cases q) fun _ => br (fun q => by cases q) fun _ => br (fun q => ?_) fun q => br (fun q1 => ?_) fun q1 => ?_⟩⟩
  all_goals simp only [decide_eq_true_eq, decide_eq_false_iff_not] at *
  · rwa [if_pos q] at k
  · rwa [if_neg q, if_pos q1] at k
  · rwa [if_neg q, if_neg q1] at k
theorem cmp_srt1 : CmpOK 40 cmpI := fun p q H R k => by
  refine spec_of func40 (by kernel_rfl) (fun t h => by cases h) ?_ (vc_srt1 p.id p.x p.y p.data q.id q.x q.y q.data R H) ?_
  · simp [argsR, SV.rep, SegsRep, SC.rep, one]
  unfold nf_srt1
  exact s_cmpc ⟨_, rfl, k⟩
theorem s_sst {g : Nat} {cf : Pt → Pt → Int} (hc : CmpOK g cf) (hs : SWO (ltc cf)) {v : Value} {ty : Nat} {l : List Pt} (hrow : RowAt H v ty 4 (pts l)) (hl : l.length ≤ 1000000) (hcap : ∀ a n c, v = .slice a n c → n ≤ 1000000)
    (k : ∀ H', RowAt H' v ty 4 (pts (isort (ltc cf) l)) → Mod v H H' → R (.returned (.tuple #[])) H') : Meets prog 39 [v, .func (.func g) #[] #[]] H R := by
  obtain ⟨a, c, rfl⟩ := row_val hrow
  have hpl : (pts l).length = l.length := by simp [pts]
  rw [hpl] at hrow k ⊢
  refine spec_of func39 (by kernel_rfl) (fun t h => by cases h) ?_ (vc_sst a l.length c g R H) ?_
  · simp [argsR, SV.rep, SC.rep, one]
  unfold nf_sst
  cases a with
  | some A => exact s_stb hc hs hl rfl hrow fun H' h1 h2 => ⟨rfl, k H' h1 h2⟩
  | none =>
    obtain ⟨rfl, rfl⟩ : l = [] ∧ c = 0 := by
      rcases hrow with ⟨e, e2⟩ | ⟨_, _, _, _, e, _⟩
      · simp only [Value.slice.injEq] at e
        exact ⟨by simpa [pts] using e2, e.2.2⟩
      · cases e
    refine spec_of func57 (by kernel_rfl) (fun t h => by cases h) ?_ (vc_stb0 g _ H) ?_
    · simp [argsR, SV.rep, SC.rep, one]
    unfold nf_stb0
    have i0 : ∀ (R : Ending → Heap → Prop), R (.returned (.tuple #[])) H → Meets prog 69 [.slice none 0 0, vi 0, vi 0, .func (.func g) #[] #[]] H R := fun R k => by
      refine spec_of func69 (by kernel_rfl) (fun t h => by cases h) ?_ (vc_ins0 g _ H) ?_
      · simp [argsR, SV.rep, SC.rep, one]
      unfold nf_ins0
      simp only [true_and]
      refine ⟨fun p H' => p.1.1 = 1 ∧ H' = H, fun _ _ => 0, ⟨by decide, rfl⟩, ?_⟩
      rintro ⟨⟨i, _⟩, _⟩ H1 ⟨h1, rfl⟩
      simp only at h1 ⊢
      subst h1
      exact br (fun q => by simp at q) fun _ => k
    simp only [true_and]
    refine ⟨fun p H' => p.1.1 = 0 ∧ p.1.2.1 = 20 ∧ H' = H, fun _ _ => 0, ⟨rfl, rfl, rfl⟩, ?_⟩
    rintro ⟨⟨i, j, _⟩, _⟩ H1 ⟨h1, h2, rfl⟩
    simp only at h1 h2 ⊢
    subst h1; subst h2
    refine br (fun q => by simp at q) fun _ => i0 _ ⟨rfl, fun p H' => p.1.1 = 20 ∧ H' = H1, fun _ _ => 0, ⟨rfl, rfl⟩, ?_⟩
    rintro ⟨⟨i, _⟩, _⟩ H2 ⟨h1, rfl⟩
    simp only at h1 ⊢
    subst h1
    exact br (fun q => by simp at q) fun _ => k _ hrow (Mod.refl _ _)
/-- What is new is apart from what there was. -/
theorem mod_le {v : Value} {H H' H'' : Heap} (h : H ≤ H') (hn : ∀ b, blockOf v = some b → H b = none) (hm : Mod v H' H'') : H ≤ H'' := fun b o e => by
  rw [hm b fun q => by rw [hn b q] at e; cases e]
  exact h b o e
theorem s_srt {v : Value} {l : List Pt} (h : SliceAt H v 4 (pts l)) (hl : l.length ≤ 1000000) (k : ∀ v H', H ≤ H' → (∀ b, blockOf v = some b → H b = none) → RowAt H' v tPt 4 (pts (sortP l)) → R (.returned v) H') :
    Meets prog 24 [v] H R := by
  obtain ⟨a, n, c, e, hn⟩ := h
  subst e
  refine spec_of func24 (by kernel_rfl) (fun t h => by cases h) ?_ (vc_srt a n c R H) ?_
  · simp [argsR, SV.rep, SC.rep, one]
  unfold nf_srt
  refine s_clone ⟨a, n, c, rfl, hn⟩ hl fun v H' h1 h2 h3 => ?_
  obtain ⟨a', c', rfl⟩ := row_val h3
  refine ⟨_, _, _, rfl, s_sst cmp_srt1 (ltc_cmpI ▸ swo_I) h3 hl (fun _ _ _ e => by cases e; simpa [pts] using hl) fun H'' h4 h5 => ⟨rfl, ?_⟩⟩
  rw [ltc_cmpI] at h4
  have e : (pts (sortP l)).length = (pts l).length := by simp [pts, sortP_len]
  exact k _ _ (mod_le h1 h2 h5) h2 h4
theorem s_twice {v : Value} {l : List Pt} (h : SliceAt H v 4 (pts l)) (hl : l.length ≤ 1000000) (k1 : ∀ (i : Nat) (p q : Pt), l[i]? = some p → l[i + 1]? = some q → q.id = p.id → R (.returned (.bool true)) H)
    (k2 : (∀ (i : Nat) (p q : Pt), l[i]? = some p → l[i + 1]? = some q → q.id ≠ p.id) → R (.returned (.bool false)) H) : Meets prog 25 [v] H R := by
  obtain ⟨a, n, c, e, hn⟩ := h
  subst e
  have h : SliceAt H (.slice a n c) 4 (pts l) := ⟨a, n, c, rfl, hn⟩
  have hln : l.length = n := by simpa [pts] using hn.1
  refine spec_of func25 (by kernel_rfl) (fun t h => by cases h) ?_ (vc_twice a n c R H) ?_
  · simp [argsR, SV.rep, SC.rep, one]
  unfold nf_twice
  simp only [true_and]
  refine ⟨fun p H' => ∃ t : Nat, p.1.1 = (t : Int) + 1 ∧ (t ≤ n) ∧ (∀ (i : Nat) (p q : Pt), i < t → l[i]? = some p → l[i + 1]? = some q → q.id ≠ p.id) ∧ H' = H, fun p _ => (n + 1 - p.1.1).toNat, ⟨0, rfl, by omega, fun i p q hi => by omega, rfl⟩, ?_⟩
  rintro ⟨⟨i, _⟩, _⟩ H1 ⟨t, hi, ht, f, rfl⟩
  simp only at hi ⊢
  subst hi
  refine br (fun q => ?_) fun q => ?_
  · simp only [decide_eq_true_eq] at q
    have hx : l[t + 1]? = some l[t + 1] := List.getElem?_eq_getElem (by omega)
    have hy : l[t]? = some l[t] := List.getElem?_eq_getElem (by omega)
    obtain ⟨A, e, g1⟩ := pr_get h (i := t + 1) hx
    subst e
    obtain ⟨A', e, g2⟩ := pr_get h (i := t) hy
    cases e
    have first : ∀ {A : Addr} {p : Pt}, H1.has A (ptC p) → H1.has A [vi p.id] := fun g j x hj => g j x (by
      cases j with
      | zero => simpa using hj
      | succ j => simp at hj)
    rw [w64 (k := (t : Int) + 1 - 1) (by omega), show (t : Int) + 1 - 1 = t by omega, show ((t : Int) + 1).toNat = t + 1 by omega, Int.toNat_natCast]
    refine ⟨⟨by omega, by omega⟩, ptr rfl (ptr rfl (ptr rfl ⟨_, first g1, ⟨by omega, by omega⟩, ptr rfl (ptr rfl (ptr rfl ⟨_, first g2, br (fun q1 => ?_) fun q1 => ?_⟩))⟩))⟩
    · exact k1 t _ _ hy hx (by simpa using q1)
    · rw [w64 (by omega)]
      refine ⟨⟨t + 1, by omega, by omega, fun i p q hi h1 h2 => ?_, by trivial⟩, by omega⟩
      rcases Nat.lt_or_ge i t with hlt | hge
      · exact f i p q hlt h1 h2
      · have : i = t := by omega
        subst this
        rw [hx] at h2; rw [hy] at h1; cases h1; cases h2
        simpa using q1
  · simp only [decide_eq_false_iff_not] at q
    refine k2 fun i p q h1 h2 => f i p q ?_ h1 h2
    have := (List.getElem?_eq_some_iff.1 h2).1
    omega
theorem s_in {v : Value} {l : List Int} {x : Int} (h : SliceAt H v 1 (cells l)) (hl : l.length ≤ 1000000) (k : R (.returned (.bool (decide (x ∈ l)))) H) : Meets prog 29 [v, vi x] H R := by
  obtain ⟨a, n, c, e, hn⟩ := h
  subst e
  have h : SliceAt H (.slice a n c) 1 (cells l) := ⟨a, n, c, rfl, hn⟩
  have hln : l.length = n := by simpa [cells] using hn.1
  refine spec_of func29 (by kernel_rfl) (fun t h => by cases h) ?_ (vc_inn a n c x R H) ?_
  · simp [argsR, SV.rep, SC.rep, one]
  unfold nf_inn
  simp only [true_and]
  refine ⟨fun p H' => ∃ t : Nat, p.1.1 = (t : Int) ∧ t ≤ n ∧ x ∉ l.take t ∧ H' = H, fun p _ => (n - p.1.1).toNat, ⟨0, rfl, by omega, by simp, rfl⟩, ?_⟩
  rintro ⟨⟨i, _⟩, _⟩ H1 ⟨t, hi, ht, f, rfl⟩
  simp only at hi ⊢
  subst hi
  refine br (fun q => ?_) fun q => ?_
  · simp only [decide_eq_true_eq] at q
    obtain ⟨y, hd, htk, hx⟩ := drop_cons (l := l) (k := t) (by omega)
    obtain ⟨A, e, g1⟩ := ir_get h (i := t) hx
    subst e
    refine ⟨⟨by omega, by omega⟩, ptr rfl (ptr rfl ⟨_, g1, br (fun q1 => ?_) fun q1 => ?_⟩)⟩
    · simp only [beq_iff_eq] at q1
      subst q1
      have : decide (y ∈ l) = true := by simpa using List.mem_of_getElem? hx
      rw [this] at k; exact k
    · rw [w64 (by omega)]
      refine ⟨⟨t + 1, by omega, by omega, ?_, by trivial⟩, by omega⟩
      rw [htk, List.mem_append]
      rintro (h | h)
      · exact f h
      · simp at h q1; exact q1 h.symm
  · simp only [decide_eq_false_iff_not] at q
    rw [List.take_of_length_le (by omega)] at f
    have : decide (x ∈ l) = false := by simpa using f
    rw [this] at k; exact k
theorem s_ints {v v' : Value} {l l' : List Int} (h : SliceAt H v 1 (cells l)) (h' : SliceAt H v' 1 (cells l')) (hl : l.length ≤ 10000000000000) (k : R (.returned (.bool (decide (l = l')))) H) : Meets prog 10 [v, v'] H R := by
  obtain ⟨a, n, c, e, hn⟩ := h
  subst e
  have h : SliceAt H (.slice a n c) 1 (cells l) := ⟨a, n, c, rfl, hn⟩
  have hln : l.length = n := by simpa [cells] using hn.1
  obtain ⟨a', n', c', e, hn'⟩ := h'
  subst e
  have h' : SliceAt H (.slice a' n' c') 1 (cells l') := ⟨a', n', c', rfl, hn'⟩
  have hln' : l'.length = n' := by simpa [cells] using hn'.1
  refine spec_of func10 (by kernel_rfl) (fun t h => by cases h) ?_ (vc_ints a n c a' n' c' R H) ?_
  · simp [argsR, SV.rep, SC.rep, one]
  unfold nf_ints
  refine br (fun q => ?_) fun q => ?_
  · have : decide (l = l') = false := decide_eq_false (by rintro rfl; simp at q; omega)
    rwa [this] at k
  simp only [bne_eq_false_iff_eq, Int.natCast_inj] at q
  simp only [true_and]
  refine ⟨fun p H' => ∃ t : Nat, p.1.1 = (t : Int) ∧ t ≤ n ∧ l.take t = l'.take t ∧ H' = H, fun p _ => (n - p.1.1).toNat, ⟨0, rfl, by omega, by simp, rfl⟩, ?_⟩
  rintro ⟨⟨i, _⟩, _⟩ H1 ⟨t, hi, ht, f, rfl⟩
  simp only at hi ⊢
  subst hi
  refine br (fun q1 => ?_) fun q1 => ?_
  · simp only [decide_eq_true_eq] at q1
    obtain ⟨y, hd, htk, hx⟩ := drop_cons (l := l) (k := t) (by omega)
    obtain ⟨y', hd', htk', hx'⟩ := drop_cons (l := l') (k := t) (by omega)
    obtain ⟨A, e, g1⟩ := ir_get h (i := t) hx
    subst e
    obtain ⟨A', e, g1'⟩ := ir_get h' (i := t) hx'
    subst e
    refine ⟨⟨by omega, by omega⟩, ptr rfl (ptr rfl ⟨_, g1, ⟨by omega, by omega⟩, ptr rfl (ptr rfl ⟨_, g1', br (fun q2 => ?_) fun q2 => ?_⟩)⟩)⟩
    · have : decide (l = l') = false := decide_eq_false (by rintro rfl; rw [hx] at hx'; cases hx'; simp at q2)
      rwa [this] at k
    · rw [w64 (by omega)]
      simp only [bne_eq_false_iff_eq] at q2
      exact ⟨⟨t + 1, by omega, by omega, by rw [htk, htk', f, q2], by trivial⟩, by omega⟩
  · simp only [decide_eq_false_iff_not] at q1
    rw [List.take_of_length_le (by omega), List.take_of_length_le (by omega)] at f
    rwa [decide_eq_true f] at k
end
end Cr
