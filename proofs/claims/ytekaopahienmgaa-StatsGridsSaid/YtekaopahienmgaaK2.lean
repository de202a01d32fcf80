/- Stable sorting of points: the library's insertion sort, swapped ranges, rotation. -/
import Derived.Test.YtekaopahienmgaaK1
set_option linter.unusedVariables false
set_option linter.unusedSimpArgs false
namespace Cr
open Go Sx Stb
open Go.Sort (SWO)
open Go.Proofs.Try
set_option maxRecDepth 100000
def h_ins : Hints := { loops := [(1, ⟨[0, 1, 2, 3], [.f 8 (.int .i64)], []⟩), (4, ⟨[0, 1, 2, 3, 8], [.f 9 (.int .i64)], []⟩)] }
def h_swr : Hints := { loops := [(1, ⟨[0, 1, 2, 3, 4], [.f 10 (.int .i64)], []⟩)] }
def h_rot : Hints := { loops := [(2, ⟨[0, 1, 2, 3, 4], [.f 10 (.int .i64), .f 11 (.int .i64)], []⟩)] }
def nf_ins (A : Addr) (n : Nat) (c : Nat) (g : Nat) (a : Int) (b : Int) (R : Ending → Heap → Prop) (H : Heap) : Prop := some A = some A ∧ n = n ∧ c = c ∧ a = a ∧ b = b ∧ Value.func (Fn.func g) { toList := [] } { toList := [] } = Value.func (Fn.func g) { toList := [] } { toList := [] } ∧ LoopP (fun (K : (Int × PUnit) × PUnit → (Nat → Option Obj) → Prop) (p : (Int × PUnit) × PUnit) (H : Nat → Option Obj) ↦ Br (decide (p.fst.fst < b)) (some A = some A ∧ n = n ∧ c = c ∧ a = a ∧ b = b ∧ Value.func (Fn.func g) { toList := [] } { toList := [] } = Value.func (Fn.func g) { toList := [] } { toList := [] } ∧ p.fst.fst = p.fst.fst ∧ LoopP (fun (K_1 : (Int × PUnit) × PUnit → (Nat → Option Obj) → Prop) (p_1 : (Int × PUnit) × PUnit) (H : Nat → Option Obj) ↦ ∃ (G : Nat → Option Obj), G ≤ H ∧ Br (decide (p_1.fst.fst > a)) (((0 : Int) ≤ p_1.fst.fst ∧ p_1.fst.fst < (↑n : Int)) ∧ PtrK (some A) fun (A_1 : Addr) ↦ PtrK (some (Addr.add A_1 (Int.toNat p_1.fst.fst * (4 : Nat)))) fun (a_1 : Addr) ↦ ∃ (n_1 : Int), ∃ (n_2 : Int), ∃ (n_3 : Int), ∃ (s : ByteArray), Heap.has G a_1 [Value.int IntKind.i64 n_1, Value.int IntKind.u32 n_2, Value.int IntKind.u32 n_3, Value.string s] ∧ ((0 : Int) ≤ IntKind.wrap IntKind.i64 (p_1.fst.fst - (1 : Int)) ∧ IntKind.wrap IntKind.i64 (p_1.fst.fst - (1 : Int)) < (↑n : Int)) ∧ PtrK (some A) fun (A_2 : Addr) ↦ PtrK (some (Addr.add A_2 (Int.toNat (IntKind.wrap IntKind.i64 (p_1.fst.fst - (1 : Int))) * (4 : Nat)))) fun (a_2 : Addr) ↦ ∃ (n_4 : Int), ∃ (n_5 : Int), ∃ (n_6 : Int), ∃ (s_1 : ByteArray), Heap.has G a_2 [Value.int IntKind.i64 n_4, Value.int IntKind.u32 n_5, Value.int IntKind.u32 n_6, Value.string s_1] ∧ Meets prog g [Value.agg { toList := [Value.int IntKind.i64 n_1, Value.int IntKind.u32 n_2, Value.int IntKind.u32 n_3, Value.string s] }, Value.agg { toList := [Value.int IntKind.i64 n_4, Value.int IntKind.u32 n_5, Value.int IntKind.u32 n_6, Value.string s_1] }] H fun (e : Ending) (H' : Nat → Option Obj) ↦ Keep G H H H' ∧ ∃ (n_7 : Int), e = Ending.returned (Value.int IntKind.i64 n_7) ∧ Br (decide (n_7 < (0 : Int))) (((0 : Int) ≤ IntKind.wrap IntKind.i64 (p_1.fst.fst - (1 : Int)) ∧ IntKind.wrap IntKind.i64 (p_1.fst.fst - (1 : Int)) < (↑n : Int)) ∧ PtrK (some A) fun (A_3 : Addr) ↦ PtrK (some (Addr.add A_3 (Int.toNat (IntKind.wrap IntKind.i64 (p_1.fst.fst - (1 : Int))) * (4 : Nat)))) fun (a_3 : Addr) ↦ ∃ (n_8 : Int), ∃ (n_9 : Int), ∃ (n_10 : Int), ∃ (s : ByteArray), Heap.has (delLs H' []) a_3 [Value.int IntKind.i64 n_8, Value.int IntKind.u32 n_9, Value.int IntKind.u32 n_10, Value.string s] ∧ ((0 : Int) ≤ p_1.fst.fst ∧ p_1.fst.fst < (↑n : Int)) ∧ PtrK (some A) fun (A_4 : Addr) ↦ PtrK (some (Addr.add A_4 (Int.toNat p_1.fst.fst * (4 : Nat)))) fun (a_4 : Addr) ↦ ∃ (n_11 : Int), ∃ (n_12 : Int), ∃ (n_13 : Int), ∃ (s_2 : ByteArray), Heap.has (delLs H' []) a_4 [Value.int IntKind.i64 n_11, Value.int IntKind.u32 n_12, Value.int IntKind.u32 n_13, Value.string s_2] ∧ ((0 : Int) ≤ p_1.fst.fst ∧ p_1.fst.fst < (↑n : Int)) ∧ PtrK (some A) fun (A_5 : Addr) ↦ PtrK (some (Addr.add A_5 (Int.toNat p_1.fst.fst * (4 : Nat)))) fun (A_6 : Addr) ↦ ∃ (c_1 : Array Value), ∃ (ty : Nat), (delLs H' [] A_6.block = some (Obj.cells c_1 ty) ∧ A_6.spot = none ∧ A_6.off + (4 : Nat) ≤ Array.size c_1) ∧ ((0 : Int) ≤ IntKind.wrap IntKind.i64 (p_1.fst.fst - (1 : Int)) ∧ IntKind.wrap IntKind.i64 (p_1.fst.fst - (1 : Int)) < (↑n : Int)) ∧ PtrK (some A) fun (A_7 : Addr) ↦ PtrK (some (Addr.add A_7 (Int.toNat (IntKind.wrap IntKind.i64 (p_1.fst.fst - (1 : Int))) * (4 : Nat)))) fun (A_8 : Addr) ↦ ∃ (c_2 : Array Value), ∃ (ty_1 : Nat), (Heap.upd (delLs H' ([] ++ ([] ++ ([] ++ ([] ++ ([] ++ []))) ++ ([] ++ ([] ++ ([] ++ ([] ++ []))) ++ [])))) A_6.block (Obj.cells (writeCells c_1 A_6.off [Value.int IntKind.i64 n_8, Value.int IntKind.u32 n_9, Value.int IntKind.u32 n_10, Value.string s]) ty) A_8.block = some (Obj.cells c_2 ty_1) ∧ A_8.spot = none ∧ A_8.off + (4 : Nat) ≤ Array.size c_2) ∧ some A = some A ∧ n = n ∧ c = c ∧ a = a ∧ b = b ∧ Value.func (Fn.func g) { toList := [] } { toList := [] } = Value.func (Fn.func g) { toList := [] } { toList := [] } ∧ p.fst.fst = p.fst.fst ∧ K_1 ((IntKind.wrap IntKind.i64 (p_1.fst.fst - (1 : Int)), PUnit.unit), PUnit.unit) (Heap.upd (Heap.upd (delLs H' []) A_6.block (Obj.cells (writeCells c_1 A_6.off [Value.int IntKind.i64 n_8, Value.int IntKind.u32 n_9, Value.int IntKind.u32 n_10, Value.string s]) ty)) A_8.block (Obj.cells (writeCells c_2 A_8.off [Value.int IntKind.i64 n_11, Value.int IntKind.u32 n_12, Value.int IntKind.u32 n_13, Value.string s_2]) ty_1))) (some A = some A ∧ n = n ∧ c = c ∧ a = a ∧ b = b ∧ Value.func (Fn.func g) { toList := [] } { toList := [] } = Value.func (Fn.func g) { toList := [] } { toList := [] } ∧ K ((IntKind.wrap IntKind.i64 (p.fst.fst + (1 : Int)), PUnit.unit), PUnit.unit) (delLs H' []))) (some A = some A ∧ n = n ∧ c = c ∧ a = a ∧ b = b ∧ Value.func (Fn.func g) { toList := [] } { toList := [] } = Value.func (Fn.func g) { toList := [] } { toList := [] } ∧ K ((IntKind.wrap IntKind.i64 (p.fst.fst + (1 : Int)), PUnit.unit), PUnit.unit) H)) ((p.fst.fst, PUnit.unit), PUnit.unit) H) (R (Ending.returned (Value.tuple { toList := [] })) H)) ((IntKind.wrap IntKind.i64 (a + (1 : Int)), PUnit.unit), PUnit.unit) H
theorem vc_ins (A : Addr) (n : Nat) (c : Nat) (g : Nat) (a : Int) (b : Int) (R : Ending → Heap → Prop) (H : Heap) : vcFun prog h_ins f133 [SV.c (SC.v (Value.slice (some A) n c)), SV.c (SC.v (Value.int IntKind.i64 a)), SV.c (SC.v (Value.int IntKind.i64 b)), SV.c (SC.v (Value.func (Fn.func g) #[] #[]))] R H = nf_ins A n c g a b R H := by kernel_rfl

def nf_swr (A : Addr) (n : Nat) (c : Nat) (g : Nat) (a : Int) (b : Int) (m : Int) (R : Ending → Heap → Prop) (H : Heap) : Prop := some A = some A ∧ n = n ∧ c = c ∧ a = a ∧ b = b ∧ m = m ∧ Value.func (Fn.func g) { toList := [] } { toList := [] } = Value.func (Fn.func g) { toList := [] } { toList := [] } ∧ LoopP (fun (K : (Int × PUnit) × PUnit → (Nat → Option Obj) → Prop) (p : (Int × PUnit) × PUnit) (H : Nat → Option Obj) ↦ Br (decide (p.fst.fst < m)) (((0 : Int) ≤ IntKind.wrap IntKind.i64 (b + p.fst.fst) ∧ IntKind.wrap IntKind.i64 (b + p.fst.fst) < (↑n : Int)) ∧ PtrK (some A) fun (A_1 : Addr) ↦ PtrK (some (Addr.add A_1 (Int.toNat (IntKind.wrap IntKind.i64 (b + p.fst.fst)) * (4 : Nat)))) fun (a_1 : Addr) ↦ ∃ (n_1 : Int), ∃ (n_2 : Int), ∃ (n_3 : Int), ∃ (s : ByteArray), Heap.has H a_1 [Value.int IntKind.i64 n_1, Value.int IntKind.u32 n_2, Value.int IntKind.u32 n_3, Value.string s] ∧ ((0 : Int) ≤ IntKind.wrap IntKind.i64 (a + p.fst.fst) ∧ IntKind.wrap IntKind.i64 (a + p.fst.fst) < (↑n : Int)) ∧ PtrK (some A) fun (A_2 : Addr) ↦ PtrK (some (Addr.add A_2 (Int.toNat (IntKind.wrap IntKind.i64 (a + p.fst.fst)) * (4 : Nat)))) fun (a_2 : Addr) ↦ ∃ (n_4 : Int), ∃ (n_5 : Int), ∃ (n_6 : Int), ∃ (s_1 : ByteArray), Heap.has H a_2 [Value.int IntKind.i64 n_4, Value.int IntKind.u32 n_5, Value.int IntKind.u32 n_6, Value.string s_1] ∧ ((0 : Int) ≤ IntKind.wrap IntKind.i64 (a + p.fst.fst) ∧ IntKind.wrap IntKind.i64 (a + p.fst.fst) < (↑n : Int)) ∧ PtrK (some A) fun (A_3 : Addr) ↦ PtrK (some (Addr.add A_3 (Int.toNat (IntKind.wrap IntKind.i64 (a + p.fst.fst)) * (4 : Nat)))) fun (A_4 : Addr) ↦ ∃ (c_1 : Array Value), ∃ (ty : Nat), (H A_4.block = some (Obj.cells c_1 ty) ∧ A_4.spot = none ∧ A_4.off + (4 : Nat) ≤ Array.size c_1) ∧ ((0 : Int) ≤ IntKind.wrap IntKind.i64 (b + p.fst.fst) ∧ IntKind.wrap IntKind.i64 (b + p.fst.fst) < (↑n : Int)) ∧ PtrK (some A) fun (A_5 : Addr) ↦ PtrK (some (Addr.add A_5 (Int.toNat (IntKind.wrap IntKind.i64 (b + p.fst.fst)) * (4 : Nat)))) fun (A_6 : Addr) ↦ ∃ (c_2 : Array Value), ∃ (ty_1 : Nat), (Heap.upd H A_4.block (Obj.cells (writeCells c_1 A_4.off [Value.int IntKind.i64 n_1, Value.int IntKind.u32 n_2, Value.int IntKind.u32 n_3, Value.string s]) ty) A_6.block = some (Obj.cells c_2 ty_1) ∧ A_6.spot = none ∧ A_6.off + (4 : Nat) ≤ Array.size c_2) ∧ some A = some A ∧ n = n ∧ c = c ∧ a = a ∧ b = b ∧ m = m ∧ Value.func (Fn.func g) { toList := [] } { toList := [] } = Value.func (Fn.func g) { toList := [] } { toList := [] } ∧ K ((IntKind.wrap IntKind.i64 (p.fst.fst + (1 : Int)), PUnit.unit), PUnit.unit) (Heap.upd (Heap.upd H A_4.block (Obj.cells (writeCells c_1 A_4.off [Value.int IntKind.i64 n_1, Value.int IntKind.u32 n_2, Value.int IntKind.u32 n_3, Value.string s]) ty)) A_6.block (Obj.cells (writeCells c_2 A_6.off [Value.int IntKind.i64 n_4, Value.int IntKind.u32 n_5, Value.int IntKind.u32 n_6, Value.string s_1]) ty_1))) (R (Ending.returned (Value.tuple { toList := [] })) H)) (((0 : Int), PUnit.unit), PUnit.unit) H
theorem vc_swr (A : Addr) (n : Nat) (c : Nat) (g : Nat) (a : Int) (b : Int) (m : Int) (R : Ending → Heap → Prop) (H : Heap) : vcFun prog h_swr f153 [SV.c (SC.v (Value.slice (some A) n c)), SV.c (SC.v (Value.int IntKind.i64 a)), SV.c (SC.v (Value.int IntKind.i64 b)), SV.c (SC.v (Value.int IntKind.i64 m)), SV.c (SC.v (Value.func (Fn.func g) #[] #[]))] R H = nf_swr A n c g a b m R H := by kernel_rfl

def nf_rot (A : Addr) (n : Nat) (c : Nat) (g : Nat) (a : Int) (m : Int) (b : Int) (R : Ending → Heap → Prop) (H : Heap) : Prop := some A = some A ∧ n = n ∧ c = c ∧ a = a ∧ m = m ∧ b = b ∧ Value.func (Fn.func g) { toList := [] } { toList := [] } = Value.func (Fn.func g) { toList := [] } { toList := [] } ∧ LoopP (fun (K : (Int × Int × PUnit) × PUnit → (Nat → Option Obj) → Prop) (p : (Int × Int × PUnit) × PUnit) (H : Nat → Option Obj) ↦ Br (p.fst.fst != p.fst.snd.fst) (Br (decide (p.fst.fst > p.fst.snd.fst)) (Meets prog (153 : Nat) [Value.slice (some A) n c, Value.int IntKind.i64 (IntKind.wrap IntKind.i64 (m - p.fst.fst)), Value.int IntKind.i64 m, Value.int IntKind.i64 p.fst.snd.fst, Value.func (Fn.func g) { toList := [] } { toList := [] }] H fun (e : Ending) (H' : Nat → Option Obj) ↦ e = Ending.returned (Value.tuple { toList := [] }) ∧ some A = some A ∧ n = n ∧ c = c ∧ a = a ∧ m = m ∧ b = b ∧ Value.func (Fn.func g) { toList := [] } { toList := [] } = Value.func (Fn.func g) { toList := [] } { toList := [] } ∧ K ((IntKind.wrap IntKind.i64 (p.fst.fst - p.fst.snd.fst), p.fst.snd.fst, PUnit.unit), PUnit.unit) H') (Meets prog (153 : Nat) [Value.slice (some A) n c, Value.int IntKind.i64 (IntKind.wrap IntKind.i64 (m - p.fst.fst)), Value.int IntKind.i64 (IntKind.wrap IntKind.i64 (IntKind.wrap IntKind.i64 (m + p.fst.snd.fst) - p.fst.fst)), Value.int IntKind.i64 p.fst.fst, Value.func (Fn.func g) { toList := [] } { toList := [] }] H fun (e : Ending) (H' : Nat → Option Obj) ↦ e = Ending.returned (Value.tuple { toList := [] }) ∧ some A = some A ∧ n = n ∧ c = c ∧ a = a ∧ m = m ∧ b = b ∧ Value.func (Fn.func g) { toList := [] } { toList := [] } = Value.func (Fn.func g) { toList := [] } { toList := [] } ∧ K ((p.fst.fst, IntKind.wrap IntKind.i64 (p.fst.snd.fst - p.fst.fst), PUnit.unit), PUnit.unit) H')) (Meets prog (153 : Nat) [Value.slice (some A) n c, Value.int IntKind.i64 (IntKind.wrap IntKind.i64 (m - p.fst.fst)), Value.int IntKind.i64 m, Value.int IntKind.i64 p.fst.fst, Value.func (Fn.func g) { toList := [] } { toList := [] }] H fun (e : Ending) (H' : Nat → Option Obj) ↦ e = Ending.returned (Value.tuple { toList := [] }) ∧ R (Ending.returned (Value.tuple { toList := [] })) H')) ((IntKind.wrap IntKind.i64 (m - a), IntKind.wrap IntKind.i64 (b - m), PUnit.unit), PUnit.unit) H
theorem vc_rot (A : Addr) (n : Nat) (c : Nat) (g : Nat) (a : Int) (m : Int) (b : Int) (R : Ending → Heap → Prop) (H : Heap) : vcFun prog h_rot f147 [SV.c (SC.v (Value.slice (some A) n c)), SV.c (SC.v (Value.int IntKind.i64 a)), SV.c (SC.v (Value.int IntKind.i64 m)), SV.c (SC.v (Value.int IntKind.i64 b)), SV.c (SC.v (Value.func (Fn.func g) #[] #[]))] R H = nf_rot A n c g a m b R H := by kernel_rfl

section
variable {R : Ending → Heap → Prop} {H : Heap} {ty : Nat}
theorem w64 {k : Int} (h : -9223372036854775808 ≤ k ∧ k ≤ 9223372036854775807) : IntKind.i64.wrap k = k := IntWalk.i64_in _ (by omega)
theorem s_ins {g : Nat} {cf : Pt → Pt → Int} (hc : CmpOK g cf) (hs : SWO (ltc cf)) {Ad : Addr} {n c : Nat} {A X B : List Pt} {a b : Int} (ha : (A.length : Int) = a) (hb : a + X.length = b)
    (hrow : RowAt H (.slice (some Ad) n c) ty 4 (pts (A ++ X ++ B))) (hn : n ≤ 1000000) (h : ∀ H', RowAt H' (.slice (some Ad) n c) ty 4 (pts (A ++ isort (ltc cf) X ++ B)) → Mod (.slice (some Ad) n c) H H' → R (.returned (.tuple #[])) H') :
    Meets prog 133 [.slice (some Ad) n c, vi a, vi b, .func (.func g) #[] #[]] H R := by
  refine spec_of func133 (by kernel_rfl) (fun t h => by cases h) ?_ (vc_ins Ad n c g a b R H) ?_
  · simp [argsR, SV.rep, SC.rep, one]
  unfold nf_ins
  simp only [true_and, delLs_nil, List.nil_append, List.append_nil]
  have hlen0 := (row_len hrow).1
  simp only [pts, List.length_map, List.length_append] at hlen0
  have hw1 : IntKind.i64.wrap (a + 1) = a + 1 := w64 (by omega)
  rw [hw1]
  refine ⟨fun p H' => ∃ t : Nat, p.1.1 = a + t ∧ 1 ≤ t ∧ (t ≤ X.length ∨ (t = 1 ∧ X = [])) ∧ RowAt H' (.slice (some Ad) n c) ty 4 (pts (A ++ isort (ltc cf) (X.take t) ++ X.drop t ++ B)) ∧ Mod (.slice (some Ad) n c) H H', fun p _ => (b + 2 - p.1.1).toNat, ⟨1, by simp, by omega, ?_, ?_, Mod.refl _ _⟩, ?_⟩
  · cases X <;> simp
  · have : isort (ltc cf) (X.take 1) = X.take 1 := by cases X <;> simp [isort, insR]
    rw [this, List.append_assoc A, List.take_append_drop]
    exact hrow
  rintro ⟨⟨i, _⟩, _⟩ H1 ⟨t, hi, ht1, ht2, hrow1, hmod1⟩
  simp only at hi ⊢
  subst hi
  refine br (fun q => ?_) fun q => ?_
  · simp only [decide_eq_true_eq] at q
    have htl : t < X.length := by omega
    obtain ⟨x, hx⟩ : ∃ x, X[t]? = some x := ⟨X[t], by simp [htl]⟩
    have htake : X.take (t + 1) = X.take t ++ [x] := by rw [List.take_add_one, hx]; rfl
    have hdrop : X.drop t = x :: X.drop (t + 1) := by
      rw [List.drop_eq_getElem_cons htl]
      congr 1
      rw [List.getElem?_eq_getElem htl] at hx
      exact Option.some.inj hx
    have hSl : (isort (ltc cf) (X.take t)).length = t := by rw [isort_len, List.length_take]; omega
    have hSs := isort_srtd hs (X.take t)
    have hstep : isort (ltc cf) (X.take (t + 1)) = insR (ltc cf) x (isort (ltc cf) (X.take t)) := by rw [htake, isort_snoc]
    have hw2 : IntKind.i64.wrap (a + t + 1) = a + ((t + 1 : Nat) : Int) := by rw [w64 (by omega)]; omega
    rw [hw2]
    have hms : (b + 2 - (a + ((t + 1 : Nat) : Int))).toNat < (b + 2 - (a + t)).toNat := by omega
    generalize isort (ltc cf) (X.take t) = S at hSl hSs hstep hrow1
    -- the inner loop
    have done : ∀ (P Q : List Pt) (H2 : Heap), S = P ++ Q → RowAt H2 (.slice (some Ad) n c) ty 4 (pts (A ++ P ++ x :: Q ++ (X.drop (t + 1) ++ B))) → Mod (.slice (some Ad) n c) H H2 → (∀ y ∈ P, ltc cf x y = false) → (∀ y ∈ Q, ltc cf x y = true) →
        (∃ t' : Nat, a + ((t + 1 : Nat) : Int) = a + t' ∧ 1 ≤ t' ∧ (t' ≤ X.length ∨ (t' = 1 ∧ X = [])) ∧ RowAt H2 (.slice (some Ad) n c) ty 4 (pts (A ++ isort (ltc cf) (X.take t') ++ X.drop t' ++ B)) ∧ Mod (.slice (some Ad) n c) H H2) ∧ (b + 2 - (a + ((t + 1 : Nat) : Int))).toNat < (b + 2 - (a + t)).toNat := by
      intro P Q H2 e hr hm h1 h2
      refine ⟨⟨t + 1, rfl, by omega, .inl (by omega), ?_, hm⟩, hms⟩
      rw [hstep, e, insR_at x P Q h1 h2]
      simpa using hr
    refine ⟨fun p H' => ∃ P Q : List Pt, S = P ++ Q ∧ p.1.1 = a + P.length ∧ RowAt H' (.slice (some Ad) n c) ty 4 (pts (A ++ P ++ x :: Q ++ (X.drop (t + 1) ++ B))) ∧ Mod (.slice (some Ad) n c) H H' ∧ (∀ y ∈ Q, ltc cf x y = true), fun p _ => (p.1.1).toNat, ⟨S, [], by simp, by simp [hSl], ?_, hmod1, by simp⟩, ?_⟩
    · rw [hdrop] at hrow1
      simpa using hrow1
    rintro ⟨⟨j, _⟩, _⟩ H2 ⟨P, Q, hPQ, hj, hrow2, hmod2, hQ⟩
    simp only at hj ⊢
    subst hj
    have hPQl : P.length + Q.length = t := by rw [← hSl, hPQ, List.length_append]
    refine ⟨H2, heap_refl _, br (fun q1 => ?_) fun q1 => ?_⟩
    · simp only [decide_eq_true_eq] at q1
      obtain ⟨P', y, rfl⟩ : ∃ P' y, P = P' ++ [y] := by
        cases List.eq_nil_or_concat P with
        | inl h => subst h; simp at q1
        | inr h => obtain ⟨A, z, h⟩ := h; exact ⟨A, z, by simpa using h⟩
      have hl2 : (P' ++ [y]).length = P'.length + 1 := by simp
      rw [hl2] at q1 hPQl ⊢
      have hw3 : IntKind.i64.wrap (a + ((P'.length + 1 : Nat) : Int) - 1) = a + P'.length := by rw [w64 (by omega)]; omega
      rw [hw3]
      have hk1 : (a + ((P'.length + 1 : Nat) : Int)).toNat = (A ++ P').length + 1 := by simp; omega
      have hk0 : (a + (P'.length : Int)).toNat = (A ++ P').length := by simp; omega
      rw [hk1, hk0]
      have hb0 : 0 ≤ a + (P'.length : Int) ∧ a + (P'.length : Int) < n := by omega
      have hb1 : 0 ≤ a + ((P'.length + 1 : Nat) : Int) ∧ a + ((P'.length + 1 : Nat) : Int) < n := by omega
      have hL : A ++ (P' ++ [y]) ++ x :: Q ++ (X.drop (t + 1) ++ B) = (A ++ P') ++ y :: x :: (Q ++ (X.drop (t + 1) ++ B)) := by simp
      rw [hL] at hrow2
      have hsl := row_slice hrow2
      obtain ⟨A1, e1, g1⟩ := pr_get hsl (i := (A ++ P').length + 1) (p := x) (by rw [List.getElem?_append_right (by omega)]; simp)
      obtain ⟨A0, e0, g0⟩ := pr_get hsl (i := (A ++ P').length) (p := y) (get_at rfl)
      cases e1; cases e0
      refine ⟨hb1, ptr rfl (ptr rfl ⟨_, _, _, _, g1, hb0, ptr rfl (ptr rfl ⟨_, _, _, _, g0, ?_⟩)⟩)⟩
      refine hc x y _ _ ⟨keep_same _ _ _, _, rfl, br (fun q2 => ?_) fun q2 => ?_⟩
      · have hlt : (A ++ P').length + 1 < n := by
          have := (row_len hrow2).1
          simp at this ⊢; omega
        obtain ⟨c1, m1, r1, d1⟩ := pr_put hrow2 (i := (A ++ P').length + 1) hlt y
        obtain ⟨c2, m2, r2, d2⟩ := pr_put r1 (i := (A ++ P').length) (by omega) x
        refine ⟨hb0, ptr rfl (ptr rfl ⟨_, _, _, _, g0, hb1, ptr rfl (ptr rfl ⟨_, _, _, _, g1, hb1, ptr rfl (ptr rfl ⟨_, _, m1, hb0, ptr rfl (ptr rfl ⟨_, _, m2, ?_⟩)⟩)⟩)⟩)⟩
        refine ⟨⟨P', y :: Q, by rw [hPQ]; simp, rfl, ?_, (hmod2.trans d1).trans d2, ?_⟩, by omega⟩
        · rw [set_two rfl] at r2
          simpa using r2
        · intro z hz
          rcases List.mem_cons.1 hz with rfl | hz
          · exact q2
          · exact hQ z hz
      · refine done (P' ++ [y]) Q H2 hPQ (by rw [hL]; exact hrow2) hmod2 ?_ hQ
        intro z hz
        rcases List.mem_append.1 hz with hz | hz
        · have h5 : ltc cf y z = false := by
            rw [hPQ] at hSs
            have := (List.pairwise_append.1 (List.pairwise_append.1 hSs).1).2.2 z hz y (by simp)
            exact this
          exact hs.ntrans _ _ _ q2 h5
        · simp at hz; subst hz; exact q2
    · simp only [decide_eq_false_iff_not] at q1
      have : P = [] := List.length_eq_zero_iff.1 (by omega)
      subst this
      exact done [] Q H2 hPQ hrow2 hmod2 (by simp) hQ
  · simp only [decide_eq_false_iff_not] at q
    have e1 : X.take t = X := List.take_of_length_le (by omega)
    have e2 : X.drop t = [] := List.drop_of_length_le (by omega)
    rw [e1, e2, List.append_nil] at hrow1
    exact h _ hrow1 hmod1
theorem split_at {α : Type} {X : List α} {k : Nat} (h : k < X.length) : ∃ x, X = X.take k ++ x :: X.drop (k + 1) ∧ (X.take k).length = k := by
  refine ⟨X[k], ?_, by rw [List.length_take]; omega⟩
  rw [← List.drop_eq_getElem_cons h, List.take_append_drop]
theorem s_swr {g : Nat} {Ad : Addr} {n c : Nat} {A U M V B : List Pt} {a b m : Int} (ha : (A.length : Int) = a) (hu : (U.length : Int) = m) (hv : (V.length : Int) = m) (hb : a + m + M.length = b)
    (hrow : RowAt H (.slice (some Ad) n c) ty 4 (pts (A ++ U ++ M ++ V ++ B))) (hn : n ≤ 1000000) (h : ∀ H', RowAt H' (.slice (some Ad) n c) ty 4 (pts (A ++ V ++ M ++ U ++ B)) → Mod (.slice (some Ad) n c) H H' → R (.returned (.tuple #[])) H') :
    Meets prog 153 [.slice (some Ad) n c, vi a, vi b, vi m, .func (.func g) #[] #[]] H R := by
  refine spec_of func153 (by kernel_rfl) (fun t h => by cases h) ?_ (vc_swr Ad n c g a b m R H) ?_
  · simp [argsR, SV.rep, SC.rep, one]
  unfold nf_swr
  simp only [true_and, delLs_nil, List.nil_append, List.append_nil]
  have hlen0 := (row_len hrow).1
  simp only [pts, List.length_map, List.length_append] at hlen0
  refine ⟨fun p H' => ∃ k : Nat, p.1.1 = k ∧ k ≤ U.length ∧ RowAt H' (.slice (some Ad) n c) ty 4 (pts (A ++ (V.take k ++ U.drop k) ++ M ++ (U.take k ++ V.drop k) ++ B)) ∧ Mod (.slice (some Ad) n c) H H', fun p _ => (m - p.1.1).toNat, ⟨0, rfl, by omega, by simpa using hrow, Mod.refl _ _⟩, ?_⟩
  rintro ⟨⟨i, _⟩, _⟩ H1 ⟨k, hi, hk, hrow1, hmod1⟩
  simp only at hi ⊢
  subst hi
  refine br (fun q => ?_) fun q => ?_
  · simp only [decide_eq_true_eq] at q
    obtain ⟨u, hU, hUl⟩ := split_at (X := U) (k := k) (by omega)
    obtain ⟨v, hV, hVl⟩ := split_at (X := V) (k := k) (by omega)
    have hUd : U.drop k = u :: U.drop (k + 1) := by
      conv => lhs; rw [hU]
      rw [List.drop_append_of_le_length (by omega), List.drop_of_length_le (by omega)]; rfl
    have hVd : V.drop k = v :: V.drop (k + 1) := by
      conv => lhs; rw [hV]
      rw [List.drop_append_of_le_length (by omega), List.drop_of_length_le (by omega)]; rfl
    have hUt : U.take (k + 1) = U.take k ++ [u] := by
      conv => lhs; rw [hU]
      rw [List.take_append, hUl, List.take_of_length_le (by omega)]; simp
    have hVt : V.take (k + 1) = V.take k ++ [v] := by
      conv => lhs; rw [hV]
      rw [List.take_append, hVl, List.take_of_length_le (by omega)]; simp
    have hL : A ++ (V.take k ++ U.drop k) ++ M ++ (U.take k ++ V.drop k) ++ B = (A ++ V.take k) ++ u :: ((U.drop (k + 1) ++ M ++ U.take k) ++ v :: (V.drop (k + 1) ++ B)) := by rw [hUd, hVd]; simp
    have hi1 : (A ++ V.take k).length = (a + k).toNat := by simp only [List.length_append, hVl]; omega
    have hj1 : (a + k).toNat + 1 + (U.drop (k + 1) ++ M ++ U.take k).length = (b + k).toNat := by
      simp only [List.length_append, hUl, List.length_drop]; omega
    rw [hL] at hrow1
    have hb1 : 0 ≤ a + (k : Int) ∧ a + (k : Int) < n := by omega
    have hb2 : 0 ≤ b + (k : Int) ∧ b + (k : Int) < n := by omega
    rw [w64 (k := b + (k : Int)) (by omega), w64 (k := a + (k : Int)) (by omega), w64 (k := (k : Int) + 1) (by omega)]
    have hsl := row_slice hrow1
    obtain ⟨A1, e1, g1⟩ := pr_get hsl (i := (a + k).toNat) (p := u) (get_at hi1)
    obtain ⟨A2, e2, g2⟩ := pr_get hsl (i := (b + k).toNat) (p := v) (by
      have := get_at (P := (A ++ V.take k) ++ u :: (U.drop (k + 1) ++ M ++ U.take k)) (Q := V.drop (k + 1) ++ B) (x := v) (k := (b + k).toNat) (by rw [List.length_append, List.length_cons, hi1]; omega)
      simpa using this)
    cases e1; cases e2
    obtain ⟨c1, m1, r1, d1⟩ := pr_put hrow1 (i := (a + k).toNat) (by omega) v
    obtain ⟨c2, m2, r2, d2⟩ := pr_put r1 (i := (b + k).toNat) (by omega) u
    refine ⟨hb2, ptr rfl (ptr rfl ⟨_, _, _, _, g2, hb1, ptr rfl (ptr rfl ⟨_, _, _, _, g1, hb1, ptr rfl (ptr rfl ⟨_, _, m1, hb2, ptr rfl (ptr rfl ⟨_, _, m2, ⟨k + 1, by omega, by omega, ?_, (hmod1.trans d1).trans d2⟩, by omega⟩)⟩)⟩)⟩)⟩
    rw [set_far hi1 hj1] at r2
    rw [hUt, hVt]
    simpa using r2
  · simp only [decide_eq_false_iff_not] at q
    have : k = U.length := by omega
    subst this
    have hl : U.length = V.length := by omega
    rw [List.drop_length, List.take_length, hl, List.take_length, List.drop_length, List.append_nil, List.append_nil] at hrow1
    exact h _ hrow1 hmod1
theorem s_rot {g : Nat} {Ad : Addr} {n c : Nat} {A X Y B : List Pt} {a m b : Int} (ha : (A.length : Int) = a) (hm : a + X.length = m) (hb : m + Y.length = b)
    (hrow : RowAt H (.slice (some Ad) n c) ty 4 (pts (A ++ X ++ Y ++ B))) (hx : 0 < X.length) (hy : 0 < Y.length) (hn : n ≤ 1000000) (h : ∀ H', RowAt H' (.slice (some Ad) n c) ty 4 (pts (A ++ Y ++ X ++ B)) → Mod (.slice (some Ad) n c) H H' → R (.returned (.tuple #[])) H') :
    Meets prog 147 [.slice (some Ad) n c, vi a, vi m, vi b, .func (.func g) #[] #[]] H R := by
  refine spec_of func147 (by kernel_rfl) (fun t h => by cases h) ?_ (vc_rot Ad n c g a m b R H) ?_
  · simp [argsR, SV.rep, SC.rep, one]
  unfold nf_rot
  simp only [true_and, delLs_nil, List.nil_append, List.append_nil]
  have hlen0 := (row_len hrow).1
  simp only [pts, List.length_map, List.length_append] at hlen0
  refine ⟨fun p H' => ∃ P X' Y' S : List Pt, p.1.1 = X'.length ∧ p.1.2.1 = Y'.length ∧ 0 < X'.length ∧ 0 < Y'.length ∧ a + P.length + X'.length = m ∧ m + Y'.length + S.length = b ∧ P ++ (Y' ++ X') ++ S = Y ++ X ∧
      RowAt H' (.slice (some Ad) n c) ty 4 (pts (A ++ P ++ X' ++ Y' ++ S ++ B)) ∧ Mod (.slice (some Ad) n c) H H', fun p _ => (p.1.1 + p.1.2.1).toNat, ⟨[], X, Y, [], ?_, ?_, hx, hy, by simp; omega, by simp; omega, by simp, by simpa using hrow, Mod.refl _ _⟩, ?_⟩
  · simp only; rw [w64 (by omega)]; omega
  · simp only; rw [w64 (by omega)]; omega
  rintro ⟨⟨i, j, _⟩, _⟩ H1 ⟨P, X', Y', S, hi, hj, hx', hy', h1, h2, h3, hrow1, hmod1⟩
  simp only at hi hj ⊢
  subst hi; subst hj
  rw [w64 (k := m - (X'.length : Int)) (by omega)]
  refine br (fun q => ?_) fun q => ?_
  · simp only [bne_iff_ne, ne_eq] at q
    refine br (fun q1 => ?_) fun q1 => ?_
    · simp only [decide_eq_true_eq] at q1
      have e : X' = X'.take Y'.length ++ X'.drop Y'.length := (List.take_append_drop _ _).symm
      have hl1 : (X'.take Y'.length).length = Y'.length := by rw [List.length_take]; omega
      have hl2 : (X'.drop Y'.length).length = X'.length - Y'.length := by simp
      refine s_swr (ty := ty) (A := A ++ P) (U := X'.take Y'.length) (M := X'.drop Y'.length) (V := Y') (B := S ++ B) (by simp; omega) (by omega) rfl (by omega) ?_ hn fun H2 hr hmd => ?_
      · rw [e] at hrow1; simpa using hrow1
      · refine ⟨rfl, ⟨P ++ Y', X'.drop Y'.length, X'.take Y'.length, S, ?_, by rw [hl1], by omega, by omega, by simp; omega, by omega, ?_, ?_, hmod1.trans hmd⟩, ?_⟩
        · rw [w64 (by omega)]; omega
        · rw [List.take_append_drop]; simpa using h3
        · simpa using hr
        · rw [w64 (by omega)]; omega
    · simp only [decide_eq_false_iff_not] at q1
      rw [w64 (k := m + (Y'.length : Int)) (by omega), w64 (k := m + (Y'.length : Int) - (X'.length : Int)) (by omega)]
      have e : Y' = Y'.take (Y'.length - X'.length) ++ Y'.drop (Y'.length - X'.length) := (List.take_append_drop _ _).symm
      have hl1 : (Y'.take (Y'.length - X'.length)).length = Y'.length - X'.length := by rw [List.length_take]; omega
      have hl2 : (Y'.drop (Y'.length - X'.length)).length = X'.length := by simp; omega
      refine s_swr (ty := ty) (A := A ++ P) (U := X') (M := Y'.take (Y'.length - X'.length)) (V := Y'.drop (Y'.length - X'.length)) (B := S ++ B) (by simp; omega) rfl (by omega) (by omega) ?_ hn fun H2 hr hmd => ?_
      · rw [e] at hrow1; simpa using hrow1
      · refine ⟨rfl, ⟨P, Y'.drop (Y'.length - X'.length), Y'.take (Y'.length - X'.length), X' ++ S, by rw [hl2], ?_, by omega, by omega, by omega, by simp; omega, ?_, ?_, hmod1.trans hmd⟩, ?_⟩
        · rw [w64 (by omega)]; omega
        · rw [List.take_append_drop]; simpa using h3
        · simpa using hr
        · rw [w64 (by omega)]; omega
  · have q : X'.length = Y'.length := by simp at q; omega
    refine s_swr (ty := ty) (A := A ++ P) (U := X') (M := []) (V := Y') (B := S ++ B) (by simp; omega) rfl (by omega) (by simp only [List.length_nil]; omega) (by simpa using hrow1) hn fun H2 hr hmd => ?_
    refine ⟨rfl, h _ ?_ (hmod1.trans hmd)⟩
    have : A ++ Y ++ X ++ B = A ++ P ++ Y' ++ [] ++ X' ++ (S ++ B) := by
      rw [List.append_assoc A Y X, ← h3]; simp
    rw [this]
    exact hr
end
end Cr
