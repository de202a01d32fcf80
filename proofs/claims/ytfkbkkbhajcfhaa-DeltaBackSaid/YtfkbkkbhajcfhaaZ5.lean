/- Own texts, one behind the other: K2, K3, K4, A2, SxSort, A3, D1, D2, D17, A5, A16. -/
import Derived.Test.YtfkbkkbhajcfhaaProg
import Derived.Lib.Mul64
import Derived.IntWalk
import Derived.Shelf.SlSortCmp.NoneTotal
import Derived.Shelf.Sort.Plain
import Derived.Shelf.Slices.In.SortNone
import Derived.Shelf.Slices.CompactI
import Derived.Test.YtfkbkkbhajcfhaaZ4
set_option linter.unusedVariables false
set_option linter.unusedSimpArgs false
namespace Cr
open Go Sx Stb
open Go.Sort (SWO)
open Go.Proofs.Try
set_option linter.unusedSectionVars false
variable [Dr]
set_option maxRecDepth 100000
def h_ins : Hints := { loops := [(1, ⟨[0, 1, 2, 3], [.f 8 (.int .i64)], []⟩), (4, ⟨[0, 1, 2, 3, 8], [.f 9 (.int .i64)], []⟩)] }
def h_swr : Hints := { loops := [(1, ⟨[0, 1, 2, 3, 4], [.f 10 (.int .i64)], []⟩)] }
def h_rot : Hints := { loops := [(2, ⟨[0, 1, 2, 3, 4], [.f 10 (.int .i64), .f 11 (.int .i64)], []⟩)] }
def nf_ins (A : Addr) (n : Nat) (c : Nat) (g : Nat) (a : Int) (b : Int) (R : Ending → Heap → Prop) (H : Heap) : Prop := some A = some A ∧ n = n ∧ c = c ∧ a = a ∧ b = b ∧ Value.func (Fn.func g) { toList := [] } { toList := [] } = Value.func (Fn.func g) { toList := [] } { toList := [] } ∧ LoopP (fun (K : (Int × PUnit) × PUnit → (Nat → Option Obj) → Prop) (p : (Int × PUnit) × PUnit) (H : Nat → Option Obj) ↦ Br (decide (p.fst.fst < b)) (some A = some A ∧ n = n ∧ c = c ∧ a = a ∧ b = b ∧ Value.func (Fn.func g) { toList := [] } { toList := [] } = Value.func (Fn.func g) { toList := [] } { toList := [] } ∧ p.fst.fst = p.fst.fst ∧ LoopP (fun (K_1 : (Int × PUnit) × PUnit → (Nat → Option Obj) → Prop) (p_1 : (Int × PUnit) × PUnit) (H : Nat → Option Obj) ↦ ∃ (G : Nat → Option Obj), G ≤ H ∧ Br (decide (p_1.fst.fst > a)) (((0 : Int) ≤ p_1.fst.fst ∧ p_1.fst.fst < (↑n : Int)) ∧ PtrK (some A) fun (A_1 : Addr) ↦ PtrK (some (Addr.add A_1 (Int.toNat p_1.fst.fst * (4 : Nat)))) fun (a_1 : Addr) ↦ ∃ (n_1 : Int), ∃ (n_2 : Int), ∃ (n_3 : Int), ∃ (s : ByteArray), Heap.has G a_1 [Value.int IntKind.i64 n_1, Value.int IntKind.u32 n_2, Value.int IntKind.u32 n_3, Value.string s] ∧ ((0 : Int) ≤ IntKind.wrap IntKind.i64 (p_1.fst.fst - (1 : Int)) ∧ IntKind.wrap IntKind.i64 (p_1.fst.fst - (1 : Int)) < (↑n : Int)) ∧ PtrK (some A) fun (A_2 : Addr) ↦ PtrK (some (Addr.add A_2 (Int.toNat (IntKind.wrap IntKind.i64 (p_1.fst.fst - (1 : Int))) * (4 : Nat)))) fun (a_2 : Addr) ↦ ∃ (n_4 : Int), ∃ (n_5 : Int), ∃ (n_6 : Int), ∃ (s_1 : ByteArray), Heap.has G a_2 [Value.int IntKind.i64 n_4, Value.int IntKind.u32 n_5, Value.int IntKind.u32 n_6, Value.string s_1] ∧ Meets prog g [Value.agg { toList := [Value.int IntKind.i64 n_1, Value.int IntKind.u32 n_2, Value.int IntKind.u32 n_3, Value.string s] }, Value.agg { toList := [Value.int IntKind.i64 n_4, Value.int IntKind.u32 n_5, Value.int IntKind.u32 n_6, Value.string s_1] }] H fun (e : Ending) (H' : Nat → Option Obj) ↦ Keep G H H H' ∧ ∃ (n_7 : Int), e = Ending.returned (Value.int IntKind.i64 n_7) ∧ Br (decide (n_7 < (0 : Int))) (((0 : Int) ≤ IntKind.wrap IntKind.i64 (p_1.fst.fst - (1 : Int)) ∧ IntKind.wrap IntKind.i64 (p_1.fst.fst - (1 : Int)) < (↑n : Int)) ∧ PtrK (some A) fun (A_3 : Addr) ↦ PtrK (some (Addr.add A_3 (Int.toNat (IntKind.wrap IntKind.i64 (p_1.fst.fst - (1 : Int))) * (4 : Nat)))) fun (a_3 : Addr) ↦ ∃ (n_8 : Int), ∃ (n_9 : Int), ∃ (n_10 : Int), ∃ (s : ByteArray), Heap.has (delLs H' []) a_3 [Value.int IntKind.i64 n_8, Value.int IntKind.u32 n_9, Value.int IntKind.u32 n_10, Value.string s] ∧ ((0 : Int) ≤ p_1.fst.fst ∧ p_1.fst.fst < (↑n : Int)) ∧ PtrK (some A) fun (A_4 : Addr) ↦ PtrK (some (Addr.add A_4 (Int.toNat p_1.fst.fst * (4 : Nat)))) fun (a_4 : Addr) ↦ ∃ (n_11 : Int), ∃ (n_12 : Int), ∃ (n_13 : Int), ∃ (s_2 : ByteArray), Heap.has (delLs H' []) a_4 [Value.int IntKind.i64 n_11, Value.int IntKind.u32 n_12, Value.int IntKind.u32 n_13, Value.string s_2] ∧ ((0 : Int) ≤ p_1.fst.fst ∧ p_1.fst.fst < (↑n : Int)) ∧ PtrK (some A) fun (A_5 : Addr) ↦ PtrK (some (Addr.add A_5 (Int.toNat p_1.fst.fst * (4 : Nat)))) fun (A_6 : Addr) ↦ ∃ (c_1 : Array Value), ∃ (ty : Nat), (delLs H' [] A_6.block = some (Obj.cells c_1 ty) ∧ A_6.spot = none ∧ A_6.off + (4 : Nat) ≤ Array.size c_1) ∧ ((0 : Int) ≤ IntKind.wrap IntKind.i64 (p_1.fst.fst - (1 : Int)) ∧ IntKind.wrap IntKind.i64 (p_1.fst.fst - (1 : Int)) < (↑n : Int)) ∧ PtrK (some A) fun (A_7 : Addr) ↦ PtrK (some (Addr.add A_7 (Int.toNat (IntKind.wrap IntKind.i64 (p_1.fst.fst - (1 : Int))) * (4 : Nat)))) fun (A_8 : Addr) ↦ ∃ (c_2 : Array Value), ∃ (ty_1 : Nat), (Heap.upd (delLs H' ([] ++ ([] ++ ([] ++ ([] ++ ([] ++ []))) ++ ([] ++ ([] ++ ([] ++ ([] ++ []))) ++ [])))) A_6.block (Obj.cells (writeCells c_1 A_6.off [Value.int IntKind.i64 n_8, Value.int IntKind.u32 n_9, Value.int IntKind.u32 n_10, Value.string s]) ty) A_8.block = some (Obj.cells c_2 ty_1) ∧ A_8.spot = none ∧ A_8.off + (4 : Nat) ≤ Array.size c_2) ∧ some A = some A ∧ n = n ∧ c = c ∧ a = a ∧ b = b ∧ Value.func (Fn.func g) { toList := [] } { toList := [] } = Value.func (Fn.func g) { toList := [] } { toList := [] } ∧ p.fst.fst = p.fst.fst ∧ K_1 ((IntKind.wrap IntKind.i64 (p_1.fst.fst - (1 : Int)), PUnit.unit), PUnit.unit) (Heap.upd (Heap.upd (delLs H' []) A_6.block (Obj.cells (writeCells c_1 A_6.off [Value.int IntKind.i64 n_8, Value.int IntKind.u32 n_9, Value.int IntKind.u32 n_10, Value.string s]) ty)) A_8.block (Obj.cells (writeCells c_2 A_8.off [Value.int IntKind.i64 n_11, Value.int IntKind.u32 n_12, Value.int IntKind.u32 n_13, Value.string s_2]) ty_1))) (some A = some A ∧ n = n ∧ c = c ∧ a = a ∧ b = b ∧ Value.func (Fn.func g) { toList := [] } { toList := [] } = Value.func (Fn.func g) { toList := [] } { toList := [] } ∧ K ((IntKind.wrap IntKind.i64 (p.fst.fst + (1 : Int)), PUnit.unit), PUnit.unit) (delLs H' []))) (some A = some A ∧ n = n ∧ c = c ∧ a = a ∧ b = b ∧ Value.func (Fn.func g) { toList := [] } { toList := [] } = Value.func (Fn.func g) { toList := [] } { toList := [] } ∧ K ((IntKind.wrap IntKind.i64 (p.fst.fst + (1 : Int)), PUnit.unit), PUnit.unit) H)) ((p.fst.fst, PUnit.unit), PUnit.unit) H) (R (Ending.returned (Value.tuple { toList := [] })) H)) ((IntKind.wrap IntKind.i64 (a + (1 : Int)), PUnit.unit), PUnit.unit) H
theorem vc_ins (A : Addr) (n : Nat) (c : Nat) (g : Nat) (a : Int) (b : Int) (R : Ending → Heap → Prop) (H : Heap) : vcFun prog h_ins f43 [SV.c (SC.v (Value.slice (some A) n c)), SV.c (SC.v (Value.int IntKind.i64 a)), SV.c (SC.v (Value.int IntKind.i64 b)), SV.c (SC.v (Value.func (Fn.func g) #[] #[]))] R H = nf_ins A n c g a b R H := by kernel_rfl

def nf_swr (A : Addr) (n : Nat) (c : Nat) (g : Nat) (a : Int) (b : Int) (m : Int) (R : Ending → Heap → Prop) (H : Heap) : Prop := some A = some A ∧ n = n ∧ c = c ∧ a = a ∧ b = b ∧ m = m ∧ Value.func (Fn.func g) { toList := [] } { toList := [] } = Value.func (Fn.func g) { toList := [] } { toList := [] } ∧ LoopP (fun (K : (Int × PUnit) × PUnit → (Nat → Option Obj) → Prop) (p : (Int × PUnit) × PUnit) (H : Nat → Option Obj) ↦ Br (decide (p.fst.fst < m)) (((0 : Int) ≤ IntKind.wrap IntKind.i64 (b + p.fst.fst) ∧ IntKind.wrap IntKind.i64 (b + p.fst.fst) < (↑n : Int)) ∧ PtrK (some A) fun (A_1 : Addr) ↦ PtrK (some (Addr.add A_1 (Int.toNat (IntKind.wrap IntKind.i64 (b + p.fst.fst)) * (4 : Nat)))) fun (a_1 : Addr) ↦ ∃ (n_1 : Int), ∃ (n_2 : Int), ∃ (n_3 : Int), ∃ (s : ByteArray), Heap.has H a_1 [Value.int IntKind.i64 n_1, Value.int IntKind.u32 n_2, Value.int IntKind.u32 n_3, Value.string s] ∧ ((0 : Int) ≤ IntKind.wrap IntKind.i64 (a + p.fst.fst) ∧ IntKind.wrap IntKind.i64 (a + p.fst.fst) < (↑n : Int)) ∧ PtrK (some A) fun (A_2 : Addr) ↦ PtrK (some (Addr.add A_2 (Int.toNat (IntKind.wrap IntKind.i64 (a + p.fst.fst)) * (4 : Nat)))) fun (a_2 : Addr) ↦ ∃ (n_4 : Int), ∃ (n_5 : Int), ∃ (n_6 : Int), ∃ (s_1 : ByteArray), Heap.has H a_2 [Value.int IntKind.i64 n_4, Value.int IntKind.u32 n_5, Value.int IntKind.u32 n_6, Value.string s_1] ∧ ((0 : Int) ≤ IntKind.wrap IntKind.i64 (a + p.fst.fst) ∧ IntKind.wrap IntKind.i64 (a + p.fst.fst) < (↑n : Int)) ∧ PtrK (some A) fun (A_3 : Addr) ↦ PtrK (some (Addr.add A_3 (Int.toNat (IntKind.wrap IntKind.i64 (a + p.fst.fst)) * (4 : Nat)))) fun (A_4 : Addr) ↦ ∃ (c_1 : Array Value), ∃ (ty : Nat), (H A_4.block = some (Obj.cells c_1 ty) ∧ A_4.spot = none ∧ A_4.off + (4 : Nat) ≤ Array.size c_1) ∧ ((0 : Int) ≤ IntKind.wrap IntKind.i64 (b + p.fst.fst) ∧ IntKind.wrap IntKind.i64 (b + p.fst.fst) < (↑n : Int)) ∧ PtrK (some A) fun (A_5 : Addr) ↦ PtrK (some (Addr.add A_5 (Int.toNat (IntKind.wrap IntKind.i64 (b + p.fst.fst)) * (4 : Nat)))) fun (A_6 : Addr) ↦ ∃ (c_2 : Array Value), ∃ (ty_1 : Nat), (Heap.upd H A_4.block (Obj.cells (writeCells c_1 A_4.off [Value.int IntKind.i64 n_1, Value.int IntKind.u32 n_2, Value.int IntKind.u32 n_3, Value.string s]) ty) A_6.block = some (Obj.cells c_2 ty_1) ∧ A_6.spot = none ∧ A_6.off + (4 : Nat) ≤ Array.size c_2) ∧ some A = some A ∧ n = n ∧ c = c ∧ a = a ∧ b = b ∧ m = m ∧ Value.func (Fn.func g) { toList := [] } { toList := [] } = Value.func (Fn.func g) { toList := [] } { toList := [] } ∧ K ((IntKind.wrap IntKind.i64 (p.fst.fst + (1 : Int)), PUnit.unit), PUnit.unit) (Heap.upd (Heap.upd H A_4.block (Obj.cells (writeCells c_1 A_4.off [Value.int IntKind.i64 n_1, Value.int IntKind.u32 n_2, Value.int IntKind.u32 n_3, Value.string s]) ty)) A_6.block (Obj.cells (writeCells c_2 A_6.off [Value.int IntKind.i64 n_4, Value.int IntKind.u32 n_5, Value.int IntKind.u32 n_6, Value.string s_1]) ty_1))) (R (Ending.returned (Value.tuple { toList := [] })) H)) (((0 : Int), PUnit.unit), PUnit.unit) H
theorem vc_swr (A : Addr) (n : Nat) (c : Nat) (g : Nat) (a : Int) (b : Int) (m : Int) (R : Ending → Heap → Prop) (H : Heap) : vcFun prog h_swr f52 [SV.c (SC.v (Value.slice (some A) n c)), SV.c (SC.v (Value.int IntKind.i64 a)), SV.c (SC.v (Value.int IntKind.i64 b)), SV.c (SC.v (Value.int IntKind.i64 m)), SV.c (SC.v (Value.func (Fn.func g) #[] #[]))] R H = nf_swr A n c g a b m R H := by kernel_rfl

def nf_rot (A : Addr) (n : Nat) (c : Nat) (g : Nat) (a : Int) (m : Int) (b : Int) (R : Ending → Heap → Prop) (H : Heap) : Prop := some A = some A ∧ n = n ∧ c = c ∧ a = a ∧ m = m ∧ b = b ∧ Value.func (Fn.func g) { toList := [] } { toList := [] } = Value.func (Fn.func g) { toList := [] } { toList := [] } ∧ LoopP (fun (K : (Int × Int × PUnit) × PUnit → (Nat → Option Obj) → Prop) (p : (Int × Int × PUnit) × PUnit) (H : Nat → Option Obj) ↦ Br (p.fst.fst != p.fst.snd.fst) (Br (decide (p.fst.fst > p.fst.snd.fst)) (Meets prog (52 : Nat) [Value.slice (some A) n c, Value.int IntKind.i64 (IntKind.wrap IntKind.i64 (m - p.fst.fst)), Value.int IntKind.i64 m, Value.int IntKind.i64 p.fst.snd.fst, Value.func (Fn.func g) { toList := [] } { toList := [] }] H fun (e : Ending) (H' : Nat → Option Obj) ↦ e = Ending.returned (Value.tuple { toList := [] }) ∧ some A = some A ∧ n = n ∧ c = c ∧ a = a ∧ m = m ∧ b = b ∧ Value.func (Fn.func g) { toList := [] } { toList := [] } = Value.func (Fn.func g) { toList := [] } { toList := [] } ∧ K ((IntKind.wrap IntKind.i64 (p.fst.fst - p.fst.snd.fst), p.fst.snd.fst, PUnit.unit), PUnit.unit) H') (Meets prog (52 : Nat) [Value.slice (some A) n c, Value.int IntKind.i64 (IntKind.wrap IntKind.i64 (m - p.fst.fst)), Value.int IntKind.i64 (IntKind.wrap IntKind.i64 (IntKind.wrap IntKind.i64 (m + p.fst.snd.fst) - p.fst.fst)), Value.int IntKind.i64 p.fst.fst, Value.func (Fn.func g) { toList := [] } { toList := [] }] H fun (e : Ending) (H' : Nat → Option Obj) ↦ e = Ending.returned (Value.tuple { toList := [] }) ∧ some A = some A ∧ n = n ∧ c = c ∧ a = a ∧ m = m ∧ b = b ∧ Value.func (Fn.func g) { toList := [] } { toList := [] } = Value.func (Fn.func g) { toList := [] } { toList := [] } ∧ K ((p.fst.fst, IntKind.wrap IntKind.i64 (p.fst.snd.fst - p.fst.fst), PUnit.unit), PUnit.unit) H')) (Meets prog (52 : Nat) [Value.slice (some A) n c, Value.int IntKind.i64 (IntKind.wrap IntKind.i64 (m - p.fst.fst)), Value.int IntKind.i64 m, Value.int IntKind.i64 p.fst.fst, Value.func (Fn.func g) { toList := [] } { toList := [] }] H fun (e : Ending) (H' : Nat → Option Obj) ↦ e = Ending.returned (Value.tuple { toList := [] }) ∧ R (Ending.returned (Value.tuple { toList := [] })) H')) ((IntKind.wrap IntKind.i64 (m - a), IntKind.wrap IntKind.i64 (b - m), PUnit.unit), PUnit.unit) H
theorem vc_rot (A : Addr) (n : Nat) (c : Nat) (g : Nat) (a : Int) (m : Int) (b : Int) (R : Ending → Heap → Prop) (H : Heap) : vcFun prog h_rot f50 [SV.c (SC.v (Value.slice (some A) n c)), SV.c (SC.v (Value.int IntKind.i64 a)), SV.c (SC.v (Value.int IntKind.i64 m)), SV.c (SC.v (Value.int IntKind.i64 b)), SV.c (SC.v (Value.func (Fn.func g) #[] #[]))] R H = nf_rot A n c g a m b R H := by kernel_rfl

section
variable {R : Ending → Heap → Prop} {H : Heap} {ty : Nat}
theorem w64 {k : Int} (h : -9223372036854775808 ≤ k ∧ k ≤ 9223372036854775807) : IntKind.i64.wrap k = k := IntWalk.i64_in _ (by omega)
theorem s_ins {g : Nat} {cf : Pt → Pt → Int} (hc : CmpOK g cf) (hs : SWO (ltc cf)) {Ad : Addr} {n c : Nat} {A X B : List Pt} {a b : Int} (ha : (A.length : Int) = a) (hb : a + X.length = b)
    (hrow : RowAt H (.slice (some Ad) n c) ty 4 (pts (A ++ X ++ B))) (hn : n ≤ 1000000) (h : ∀ H', RowAt H' (.slice (some Ad) n c) ty 4 (pts (A ++ isort (ltc cf) X ++ B)) → Mod (.slice (some Ad) n c) H H' → R (.returned (.tuple #[])) H') :
    Meets prog 43 [.slice (some Ad) n c, vi a, vi b, .func (.func g) #[] #[]] H R := by
  refine spec_of func43 (by kernel_rfl) (fun t h => by cases h) ?_ (vc_ins Ad n c g a b R H) ?_
  · simp [argsR, SV.rep, SC.rep, one]
  unfold nf_ins
  simp only [true_and, delLs_nil, List.nil_append, List.append_nil]
  have hlen0 := (row_len hrow).1
  simp only [pts, List.length_map, List.length_append] at hlen0
  have hw1 : IntKind.i64.wrap (a + 1) = a + 1 := w64 (by omega)
  rw [hw1]
  refine ⟨fun p H' => ∃ t : Nat, p.1.1 = a + t ∧ 1 ≤ t ∧ (t ≤ X.length ∨ (t = 1 ∧ X = [])) ∧ RowAt H' (.slice (some Ad) n c) ty 4 (pts (A ++ isort (ltc cf) (X.take t) ++ X.drop t ++ B)) ∧ Mod (.slice (some Ad) n c) H H', fun p _ => (b + 2 - p.1.1).toNat, ⟨1, by simp, by omega, ?_, ?_, Mod.refl _ _⟩, ?_⟩
  · cases X <;> simp
  · have : isort (ltc cf) (X.take 1) = X.take 1 := by cases X <;> simp [isort, insR]
    rw [this, List.append_assoc A, List.take_append_drop]
    exact hrow
  rintro ⟨⟨i, _⟩, _⟩ H1 ⟨t, hi, ht1, ht2, hrow1, hmod1⟩
  simp only at hi ⊢
  subst hi
  refine br (fun q => ?_) fun q => ?_
  · simp only [decide_eq_true_eq] at q
    have htl : t < X.length := by omega
    obtain ⟨x, hx⟩ : ∃ x, X[t]? = some x := ⟨X[t], by simp [htl]⟩
    have htake : X.take (t + 1) = X.take t ++ [x] := by rw [List.take_add_one, hx]; rfl
    have hdrop : X.drop t = x :: X.drop (t + 1) := by
      rw [List.drop_eq_getElem_cons htl]
      congr 1
      rw [List.getElem?_eq_getElem htl] at hx
      exact Option.some.inj hx
    have hSl : (isort (ltc cf) (X.take t)).length = t := by rw [isort_len, List.length_take]; omega
    have hSs := isort_srtd hs (X.take t)
    have hstep : isort (ltc cf) (X.take (t + 1)) = insR (ltc cf) x (isort (ltc cf) (X.take t)) := by rw [htake, isort_snoc]
    have hw2 : IntKind.i64.wrap (a + t + 1) = a + ((t + 1 : Nat) : Int) := by rw [w64 (by omega)]; omega
    rw [hw2]
    have hms : (b + 2 - (a + ((t + 1 : Nat) : Int))).toNat < (b + 2 - (a + t)).toNat := by omega
    generalize isort (ltc cf) (X.take t) = S at hSl hSs hstep hrow1
    -- the inner loop
    have done : ∀ (P Q : List Pt) (H2 : Heap), S = P ++ Q → RowAt H2 (.slice (some Ad) n c) ty 4 (pts (A ++ P ++ x :: Q ++ (X.drop (t + 1) ++ B))) → Mod (.slice (some Ad) n c) H H2 → (∀ y ∈ P, ltc cf x y = false) → (∀ y ∈ Q, ltc cf x y = true) →
        (∃ t' : Nat, a + ((t + 1 : Nat) : Int) = a + t' ∧ 1 ≤ t' ∧ (t' ≤ X.length ∨ (t' = 1 ∧ X = [])) ∧ RowAt H2 (.slice (some Ad) n c) ty 4 (pts (A ++ isort (ltc cf) (X.take t') ++ X.drop t' ++ B)) ∧ Mod (.slice (some Ad) n c) H H2) ∧ (b + 2 - (a + ((t + 1 : Nat) : Int))).toNat < (b + 2 - (a + t)).toNat := by
      intro P Q H2 e hr hm h1 h2
      refine ⟨⟨t + 1, rfl, by omega, .inl (by omega), ?_, hm⟩, hms⟩
      rw [hstep, e, insR_at x P Q h1 h2]
      simpa using hr
    refine ⟨fun p H' => ∃ P Q : List Pt, S = P ++ Q ∧ p.1.1 = a + P.length ∧ RowAt H' (.slice (some Ad) n c) ty 4 (pts (A ++ P ++ x :: Q ++ (X.drop (t + 1) ++ B))) ∧ Mod (.slice (some Ad) n c) H H' ∧ (∀ y ∈ Q, ltc cf x y = true), fun p _ => (p.1.1).toNat, ⟨S, [], by simp, by simp [hSl], ?_, hmod1, by simp⟩, ?_⟩
    · rw [hdrop] at hrow1
      simpa using hrow1
    rintro ⟨⟨j, _⟩, _⟩ H2 ⟨P, Q, hPQ, hj, hrow2, hmod2, hQ⟩
    simp only at hj ⊢
    subst hj
    have hPQl : P.length + Q.length = t := by rw [← hSl, hPQ, List.length_append]
    refine ⟨H2, heap_refl _, br (fun q1 => ?_) fun q1 => ?_⟩
    · simp only [decide_eq_true_eq] at q1
      obtain ⟨P', y, rfl⟩ : ∃ P' y, P = P' ++ [y] := by
        cases List.eq_nil_or_concat P with
        | inl h => subst h; simp at q1
        | inr h => obtain ⟨A, z, h⟩ := h; exact ⟨A, z, by simpa using h⟩
      have hl2 : (P' ++ [y]).length = P'.length + 1 := by simp
      rw [hl2] at q1 hPQl ⊢
      have hw3 : IntKind.i64.wrap (a + ((P'.length + 1 : Nat) : Int) - 1) = a + P'.length := by rw [w64 (by omega)]; omega
      rw [hw3]
      have hk1 : (a + ((P'.length + 1 : Nat) : Int)).toNat = (A ++ P').length + 1 := by simp; omega
      have hk0 : (a + (P'.length : Int)).toNat = (A ++ P').length := by simp; omega
      rw [hk1, hk0]
      have hb0 : 0 ≤ a + (P'.length : Int) ∧ a + (P'.length : Int) < n := by omega
      have hb1 : 0 ≤ a + ((P'.length + 1 : Nat) : Int) ∧ a + ((P'.length + 1 : Nat) : Int) < n := by omega
      have hL : A ++ (P' ++ [y]) ++ x :: Q ++ (X.drop (t + 1) ++ B) = (A ++ P') ++ y :: x :: (Q ++ (X.drop (t + 1) ++ B)) := by simp
      rw [hL] at hrow2
      have hsl := row_slice hrow2
      obtain ⟨A1, e1, g1⟩ := pr_get hsl (i := (A ++ P').length + 1) (p := x) (by rw [List.getElem?_append_right (by omega)]; simp)
      obtain ⟨A0, e0, g0⟩ := pr_get hsl (i := (A ++ P').length) (p := y) (get_at rfl)
      cases e1; cases e0
      refine ⟨hb1, ptr rfl (ptr rfl ⟨_, _, _, _, g1, hb0, ptr rfl (ptr rfl ⟨_, _, _, _, g0, ?_⟩)⟩)⟩
      refine hc x y _ _ ⟨keep_same _ _ _, _, rfl, br (fun q2 => ?_) fun q2 => ?_⟩
      · have hlt : (A ++ P').length + 1 < n := by
          have := (row_len hrow2).1
          simp at this ⊢; omega
        obtain ⟨c1, m1, r1, d1⟩ := pr_put hrow2 (i := (A ++ P').length + 1) hlt y
        obtain ⟨c2, m2, r2, d2⟩ := pr_put r1 (i := (A ++ P').length) (by omega) x
        refine ⟨hb0, ptr rfl (ptr rfl ⟨_, _, _, _, g0, hb1, ptr rfl (ptr rfl ⟨_, _, _, _, g1, hb1, ptr rfl (ptr rfl ⟨_, _, m1, hb0, ptr rfl (ptr rfl ⟨_, _, m2, ?_⟩)⟩)⟩)⟩)⟩
        refine ⟨⟨P', y :: Q, by rw [hPQ]; simp, rfl, ?_, (hmod2.trans d1).trans d2, ?_⟩, by omega⟩
        · rw [set_two rfl] at r2
          simpa using r2
        · intro z hz
          rcases List.mem_cons.1 hz with rfl | hz
          · exact q2
          · exact hQ z hz
      · refine done (P' ++ [y]) Q H2 hPQ (by rw [hL]; exact hrow2) hmod2 ?_ hQ
        intro z hz
        rcases List.mem_append.1 hz with hz | hz
        · have h5 : ltc cf y z = false := by
            rw [hPQ] at hSs
            have := (List.pairwise_append.1 (List.pairwise_append.1 hSs).1).2.2 z hz y (by simp)
            exact this
          exact hs.ntrans _ _ _ q2 h5
        · simp at hz; subst hz; exact q2
    · simp only [decide_eq_false_iff_not] at q1
      have : P = [] := List.length_eq_zero_iff.1 (by omega)
      subst this
      exact done [] Q H2 hPQ hrow2 hmod2 (by simp) hQ
  · simp only [decide_eq_false_iff_not] at q
    have e1 : X.take t = X := List.take_of_length_le (by omega)
    have e2 : X.drop t = [] := List.drop_of_length_le (by omega)
    rw [e1, e2, List.append_nil] at hrow1
    exact h _ hrow1 hmod1
theorem split_at {α : Type} {X : List α} {k : Nat} (h : k < X.length) : ∃ x, X = X.take k ++ x :: X.drop (k + 1) ∧ (X.take k).length = k := by
  refine ⟨X[k], ?_, by rw [List.length_take]; omega⟩
  rw [← List.drop_eq_getElem_cons h, List.take_append_drop]
theorem s_swr {g : Nat} {Ad : Addr} {n c : Nat} {A U M V B : List Pt} {a b m : Int} (ha : (A.length : Int) = a) (hu : (U.length : Int) = m) (hv : (V.length : Int) = m) (hb : a + m + M.length = b)
    (hrow : RowAt H (.slice (some Ad) n c) ty 4 (pts (A ++ U ++ M ++ V ++ B))) (hn : n ≤ 1000000) (h : ∀ H', RowAt H' (.slice (some Ad) n c) ty 4 (pts (A ++ V ++ M ++ U ++ B)) → Mod (.slice (some Ad) n c) H H' → R (.returned (.tuple #[])) H') :
    Meets prog 52 [.slice (some Ad) n c, vi a, vi b, vi m, .func (.func g) #[] #[]] H R := by
  refine spec_of func52 (by kernel_rfl) (fun t h => by cases h) ?_ (vc_swr Ad n c g a b m R H) ?_
  · simp [argsR, SV.rep, SC.rep, one]
  unfold nf_swr
  simp only [true_and, delLs_nil, List.nil_append, List.append_nil]
  have hlen0 := (row_len hrow).1
  simp only [pts, List.length_map, List.length_append] at hlen0
  refine ⟨fun p H' => ∃ k : Nat, p.1.1 = k ∧ k ≤ U.length ∧ RowAt H' (.slice (some Ad) n c) ty 4 (pts (A ++ (V.take k ++ U.drop k) ++ M ++ (U.take k ++ V.drop k) ++ B)) ∧ Mod (.slice (some Ad) n c) H H', fun p _ => (m - p.1.1).toNat, ⟨0, rfl, by omega, by simpa using hrow, Mod.refl _ _⟩, ?_⟩
  rintro ⟨⟨i, _⟩, _⟩ H1 ⟨k, hi, hk, hrow1, hmod1⟩
  simp only at hi ⊢
  subst hi
  refine br (fun q => ?_) fun q => ?_
  · simp only [decide_eq_true_eq] at q
    obtain ⟨u, hU, hUl⟩ := split_at (X := U) (k := k) (by omega)
    obtain ⟨v, hV, hVl⟩ := split_at (X := V) (k := k) (by omega)
    have hUd : U.drop k = u :: U.drop (k + 1) := by
      conv => lhs; rw [hU]
      rw [List.drop_append_of_le_length (by omega), List.drop_of_length_le (by omega)]; rfl
    have hVd : V.drop k = v :: V.drop (k + 1) := by
      conv => lhs; rw [hV]
      rw [List.drop_append_of_le_length (by omega), List.drop_of_length_le (by omega)]; rfl
    have hUt : U.take (k + 1) = U.take k ++ [u] := by
      conv => lhs; rw [hU]
      rw [List.take_append, hUl, List.take_of_length_le (by omega)]; simp
    have hVt : V.take (k + 1) = V.take k ++ [v] := by
      conv => lhs; rw [hV]
      rw [List.take_append, hVl, List.take_of_length_le (by omega)]; simp
    have hL : A ++ (V.take k ++ U.drop k) ++ M ++ (U.take k ++ V.drop k) ++ B = (A ++ V.take k) ++ u :: ((U.drop (k + 1) ++ M ++ U.take k) ++ v :: (V.drop (k + 1) ++ B)) := by rw [hUd, hVd]; simp
    have hi1 : (A ++ V.take k).length = (a + k).toNat := by simp only [List.length_append, hVl]; omega
    have hj1 : (a + k).toNat + 1 + (U.drop (k + 1) ++ M ++ U.take k).length = (b + k).toNat := by
      simp only [List.length_append, hUl, List.length_drop]; omega
    rw [hL] at hrow1
    have hb1 : 0 ≤ a + (k : Int) ∧ a + (k : Int) < n := by omega
    have hb2 : 0 ≤ b + (k : Int) ∧ b + (k : Int) < n := by omega
    rw [w64 (k := b + (k : Int)) (by omega), w64 (k := a + (k : Int)) (by omega), w64 (k := (k : Int) + 1) (by omega)]
    have hsl := row_slice hrow1
    obtain ⟨A1, e1, g1⟩ := pr_get hsl (i := (a + k).toNat) (p := u) (get_at hi1)
    obtain ⟨A2, e2, g2⟩ := pr_get hsl (i := (b + k).toNat) (p := v) (by
      have := get_at (P := (A ++ V.take k) ++ u :: (U.drop (k + 1) ++ M ++ U.take k)) (Q := V.drop (k + 1) ++ B) (x := v) (k := (b + k).toNat) (by rw [List.length_append, List.length_cons, hi1]; omega)
      simpa using this)
    cases e1; cases e2
    obtain ⟨c1, m1, r1, d1⟩ := pr_put hrow1 (i := (a + k).toNat) (by omega) v
    obtain ⟨c2, m2, r2, d2⟩ := pr_put r1 (i := (b + k).toNat) (by omega) u
    refine ⟨hb2, ptr rfl (ptr rfl ⟨_, _, _, _, g2, hb1, ptr rfl (ptr rfl ⟨_, _, _, _, g1, hb1, ptr rfl (ptr rfl ⟨_, _, m1, hb2, ptr rfl (ptr rfl ⟨_, _, m2, ⟨k + 1, by omega, by omega, ?_, (hmod1.trans d1).trans d2⟩, by omega⟩)⟩)⟩)⟩)⟩
    rw [set_far hi1 hj1] at r2
    rw [hUt, hVt]
    simpa using r2
  · simp only [decide_eq_false_iff_not] at q
    have : k = U.length := by omega
    subst this
    have hl : U.length = V.length := by omega
    rw [List.drop_length, List.take_length, hl, List.take_length, List.drop_length, List.append_nil, List.append_nil] at hrow1
    exact h _ hrow1 hmod1
theorem s_rot {g : Nat} {Ad : Addr} {n c : Nat} {A X Y B : List Pt} {a m b : Int} (ha : (A.length : Int) = a) (hm : a + X.length = m) (hb : m + Y.length = b)
    (hrow : RowAt H (.slice (some Ad) n c) ty 4 (pts (A ++ X ++ Y ++ B))) (hx : 0 < X.length) (hy : 0 < Y.length) (hn : n ≤ 1000000) (h : ∀ H', RowAt H' (.slice (some Ad) n c) ty 4 (pts (A ++ Y ++ X ++ B)) → Mod (.slice (some Ad) n c) H H' → R (.returned (.tuple #[])) H') :
    Meets prog 50 [.slice (some Ad) n c, vi a, vi m, vi b, .func (.func g) #[] #[]] H R := by
  refine spec_of func50 (by kernel_rfl) (fun t h => by cases h) ?_ (vc_rot Ad n c g a m b R H) ?_
  · simp [argsR, SV.rep, SC.rep, one]
  unfold nf_rot
  simp only [true_and, delLs_nil, List.nil_append, List.append_nil]
  have hlen0 := (row_len hrow).1
  simp only [pts, List.length_map, List.length_append] at hlen0
  refine ⟨fun p H' => ∃ P X' Y' S : List Pt, p.1.1 = X'.length ∧ p.1.2.1 = Y'.length ∧ 0 < X'.length ∧ 0 < Y'.length ∧ a + P.length + X'.length = m ∧ m + Y'.length + S.length = b ∧ P ++ (Y' ++ X') ++ S = Y ++ X ∧
      RowAt H' (.slice (some Ad) n c) ty 4 (pts (A ++ P ++ X' ++ Y' ++ S ++ B)) ∧ Mod (.slice (some Ad) n c) H H', fun p _ => (p.1.1 + p.1.2.1).toNat, ⟨[], X, Y, [], ?_, ?_, hx, hy, by simp; omega, by simp; omega, by simp, by simpa using hrow, Mod.refl _ _⟩, ?_⟩
  · simp only; rw [w64 (by omega)]; omega
  · simp only; rw [w64 (by omega)]; omega
  rintro ⟨⟨i, j, _⟩, _⟩ H1 ⟨P, X', Y', S, hi, hj, hx', hy', h1, h2, h3, hrow1, hmod1⟩
  simp only at hi hj ⊢
  subst hi; subst hj
  rw [w64 (k := m - (X'.length : Int)) (by omega)]
  refine br (fun q => ?_) fun q => ?_
  · simp only [bne_iff_ne, ne_eq] at q
    refine br (fun q1 => ?_) fun q1 => ?_
    · simp only [decide_eq_true_eq] at q1
      have e : X' = X'.take Y'.length ++ X'.drop Y'.length := (List.take_append_drop _ _).symm
      have hl1 : (X'.take Y'.length).length = Y'.length := by rw [List.length_take]; omega
      have hl2 : (X'.drop Y'.length).length = X'.length - Y'.length := by simp
      refine s_swr (ty := ty) (A := A ++ P) (U := X'.take Y'.length) (M := X'.drop Y'.length) (V := Y') (B := S ++ B) (by simp; omega) (by omega) rfl (by omega) ?_ hn fun H2 hr hmd => ?_
      · rw [e] at hrow1; simpa using hrow1
      · refine ⟨rfl, ⟨P ++ Y', X'.drop Y'.length, X'.take Y'.length, S, ?_, by rw [hl1], by omega, by omega, by simp; omega, by omega, ?_, ?_, hmod1.trans hmd⟩, ?_⟩
        · rw [w64 (by omega)]; omega
        · rw [List.take_append_drop]; simpa using h3
        · simpa using hr
        · rw [w64 (by omega)]; omega
    · simp only [decide_eq_false_iff_not] at q1
      rw [w64 (k := m + (Y'.length : Int)) (by omega), w64 (k := m + (Y'.length : Int) - (X'.length : Int)) (by omega)]
      have e : Y' = Y'.take (Y'.length - X'.length) ++ Y'.drop (Y'.length - X'.length) := (List.take_append_drop _ _).symm
      have hl1 : (Y'.take (Y'.length - X'.length)).length = Y'.length - X'.length := by rw [List.length_take]; omega
      have hl2 : (Y'.drop (Y'.length - X'.length)).length = X'.length := by simp; omega
      refine s_swr (ty := ty) (A := A ++ P) (U := X') (M := Y'.take (Y'.length - X'.length)) (V := Y'.drop (Y'.length - X'.length)) (B := S ++ B) (by simp; omega) rfl (by omega) (by omega) ?_ hn fun H2 hr hmd => ?_
      · rw [e] at hrow1; simpa using hrow1
      · refine ⟨rfl, ⟨P, Y'.drop (Y'.length - X'.length), Y'.take (Y'.length - X'.length), X' ++ S, by rw [hl2], ?_, by omega, by omega, by omega, by simp; omega, ?_, ?_, hmod1.trans hmd⟩, ?_⟩
        · rw [w64 (by omega)]; omega
        · rw [List.take_append_drop]; simpa using h3
        · simpa using hr
        · rw [w64 (by omega)]; omega
  · have q : X'.length = Y'.length := by simp at q; omega
    refine s_swr (ty := ty) (A := A ++ P) (U := X') (M := []) (V := Y') (B := S ++ B) (by simp; omega) rfl (by omega) (by simp only [List.length_nil]; omega) (by simpa using hrow1) hn fun H2 hr hmd => ?_
    refine ⟨rfl, h _ ?_ (hmod1.trans hmd)⟩
    have : A ++ Y ++ X ++ B = A ++ P ++ Y' ++ [] ++ X' ++ (S ++ B) := by
      rw [List.append_assoc A Y X, ← h3]; simp
    rw [this]
    exact hr
end
end Cr

set_option linter.unusedVariables false
set_option linter.unusedSimpArgs false
namespace Cr
open Go Sx Stb
open Go.Sort (SWO)
open Go.Proofs.Try
set_option linter.unusedSectionVars false
variable [Dr]
set_option maxRecDepth 100000
def h_sym : Hints := { loops := [(3, ⟨[0, 1, 2, 3, 4], [.f 10 (.int .i64), .f 11 (.int .i64)], []⟩), (9, ⟨[0, 1, 2, 3, 4, 10], [.f 13 (.int .i64)], []⟩), (15, ⟨[0, 1, 2, 3, 4], [.f 14 (.int .i64), .f 15 (.int .i64)], []⟩), (21, ⟨[0, 1, 2, 3, 4, 14], [.f 17 (.int .i64)], []⟩), (33, ⟨[0, 1, 2, 3, 4, 18, 19, 22], [.f 20 (.int .i64), .f 21 (.int .i64)], []⟩)], cuts := [(32, ⟨[0, 1, 2, 3, 4, 18, 19], [.f 20 (.int .i64), .f 21 (.int .i64)], []⟩), (41, ⟨[0, 1, 3, 4, 18, 20, 24], [], []⟩), (43, ⟨[0, 3, 4, 18, 24], [], []⟩)] }
def h_stb : Hints := { loops := [(2, ⟨[0, 1, 2, 6], [.f 7 (.int .i64), .f 8 (.int .i64)], []⟩), (7, ⟨[0, 1, 2], [.f 6 (.int .i64)], []⟩), (9, ⟨[0, 1, 2, 6], [.f 7 (.int .i64), .f 8 (.int .i64)], []⟩)] }
def nf_sym (A : Addr) (n : Nat) (c : Nat) (g : Nat) (a : Int) (m : Int) (b : Int) (R : Ending → Heap → Prop) (H : Heap) : Prop := Br (IntKind.wrap IntKind.i64 (m - a) == (1 : Int)) (some A = some A ∧ n = n ∧ c = c ∧ a = a ∧ m = m ∧ b = b ∧ Value.func (Fn.func g) { toList := [] } { toList := [] } = Value.func (Fn.func g) { toList := [] } { toList := [] } ∧ LoopP (fun (K : (Int × Int × PUnit) × PUnit → (Nat → Option Obj) → Prop) (p : (Int × Int × PUnit) × PUnit) (H : Nat → Option Obj) ↦ Br (decide (p.fst.fst < p.fst.snd.fst)) ((0 : Int) ≤ (1 : Int) ∧ ∃ (G : Nat → Option Obj), G ≤ H ∧ ((0 : Int) ≤ IntKind.wrap IntKind.i64 (shrI IntKind.u64 (IntKind.wrap IntKind.u64 (IntKind.wrap IntKind.i64 (p.fst.fst + p.fst.snd.fst))) (1 : Int)) ∧ IntKind.wrap IntKind.i64 (shrI IntKind.u64 (IntKind.wrap IntKind.u64 (IntKind.wrap IntKind.i64 (p.fst.fst + p.fst.snd.fst))) (1 : Int)) < (↑n : Int)) ∧ PtrK (some A) fun (A_1 : Addr) ↦ PtrK (some (Addr.add A_1 (Int.toNat (IntKind.wrap IntKind.i64 (shrI IntKind.u64 (IntKind.wrap IntKind.u64 (IntKind.wrap IntKind.i64 (p.fst.fst + p.fst.snd.fst))) (1 : Int))) * (4 : Nat)))) fun (a_1 : Addr) ↦ ∃ (n_1 : Int), ∃ (n_2 : Int), ∃ (n_3 : Int), ∃ (s : ByteArray), Heap.has G a_1 [Value.int IntKind.i64 n_1, Value.int IntKind.u32 n_2, Value.int IntKind.u32 n_3, Value.string s] ∧ ((0 : Int) ≤ a ∧ a < (↑n : Int)) ∧ PtrK (some A) fun (A_2 : Addr) ↦ PtrK (some (Addr.add A_2 (Int.toNat a * (4 : Nat)))) fun (a_2 : Addr) ↦ ∃ (n_4 : Int), ∃ (n_5 : Int), ∃ (n_6 : Int), ∃ (s_1 : ByteArray), Heap.has G a_2 [Value.int IntKind.i64 n_4, Value.int IntKind.u32 n_5, Value.int IntKind.u32 n_6, Value.string s_1] ∧ Meets prog g [Value.agg { toList := [Value.int IntKind.i64 n_1, Value.int IntKind.u32 n_2, Value.int IntKind.u32 n_3, Value.string s] }, Value.agg { toList := [Value.int IntKind.i64 n_4, Value.int IntKind.u32 n_5, Value.int IntKind.u32 n_6, Value.string s_1] }] H fun (e : Ending) (H' : Nat → Option Obj) ↦ Keep G H H H' ∧ ∃ (n_7 : Int), e = Ending.returned (Value.int IntKind.i64 n_7) ∧ Br (decide (n_7 < (0 : Int))) (some A = some A ∧ n = n ∧ c = c ∧ a = a ∧ m = m ∧ b = b ∧ Value.func (Fn.func g) { toList := [] } { toList := [] } = Value.func (Fn.func g) { toList := [] } { toList := [] } ∧ K ((IntKind.wrap IntKind.i64 (IntKind.wrap IntKind.i64 (shrI IntKind.u64 (IntKind.wrap IntKind.u64 (IntKind.wrap IntKind.i64 (p.fst.fst + p.fst.snd.fst))) (1 : Int)) + (1 : Int)), p.fst.snd.fst, PUnit.unit), PUnit.unit) (delLs H' [])) (some A = some A ∧ n = n ∧ c = c ∧ a = a ∧ m = m ∧ b = b ∧ Value.func (Fn.func g) { toList := [] } { toList := [] } = Value.func (Fn.func g) { toList := [] } { toList := [] } ∧ K ((p.fst.fst, IntKind.wrap IntKind.i64 (shrI IntKind.u64 (IntKind.wrap IntKind.u64 (IntKind.wrap IntKind.i64 (p.fst.fst + p.fst.snd.fst))) (1 : Int)), PUnit.unit), PUnit.unit) (delLs H' []))) (some A = some A ∧ n = n ∧ c = c ∧ a = a ∧ m = m ∧ b = b ∧ Value.func (Fn.func g) { toList := [] } { toList := [] } = Value.func (Fn.func g) { toList := [] } { toList := [] } ∧ p.fst.fst = p.fst.fst ∧ LoopP (fun (K : (Int × PUnit) × PUnit → (Nat → Option Obj) → Prop) (p_1 : (Int × PUnit) × PUnit) (H : Nat → Option Obj) ↦ Br (decide (p_1.fst.fst < IntKind.wrap IntKind.i64 (p.fst.fst - (1 : Int)))) (((0 : Int) ≤ IntKind.wrap IntKind.i64 (p_1.fst.fst + (1 : Int)) ∧ IntKind.wrap IntKind.i64 (p_1.fst.fst + (1 : Int)) < (↑n : Int)) ∧ PtrK (some A) fun (A_1 : Addr) ↦ PtrK (some (Addr.add A_1 (Int.toNat (IntKind.wrap IntKind.i64 (p_1.fst.fst + (1 : Int))) * (4 : Nat)))) fun (a_1 : Addr) ↦ ∃ (n_1 : Int), ∃ (n_2 : Int), ∃ (n_3 : Int), ∃ (s : ByteArray), Heap.has H a_1 [Value.int IntKind.i64 n_1, Value.int IntKind.u32 n_2, Value.int IntKind.u32 n_3, Value.string s] ∧ ((0 : Int) ≤ p_1.fst.fst ∧ p_1.fst.fst < (↑n : Int)) ∧ PtrK (some A) fun (A_2 : Addr) ↦ PtrK (some (Addr.add A_2 (Int.toNat p_1.fst.fst * (4 : Nat)))) fun (a_2 : Addr) ↦ ∃ (n_4 : Int), ∃ (n_5 : Int), ∃ (n_6 : Int), ∃ (s_1 : ByteArray), Heap.has H a_2 [Value.int IntKind.i64 n_4, Value.int IntKind.u32 n_5, Value.int IntKind.u32 n_6, Value.string s_1] ∧ ((0 : Int) ≤ p_1.fst.fst ∧ p_1.fst.fst < (↑n : Int)) ∧ PtrK (some A) fun (A_3 : Addr) ↦ PtrK (some (Addr.add A_3 (Int.toNat p_1.fst.fst * (4 : Nat)))) fun (A_4 : Addr) ↦ ∃ (c_1 : Array Value), ∃ (ty : Nat), (H A_4.block = some (Obj.cells c_1 ty) ∧ A_4.spot = none ∧ A_4.off + (4 : Nat) ≤ Array.size c_1) ∧ ((0 : Int) ≤ IntKind.wrap IntKind.i64 (p_1.fst.fst + (1 : Int)) ∧ IntKind.wrap IntKind.i64 (p_1.fst.fst + (1 : Int)) < (↑n : Int)) ∧ PtrK (some A) fun (A_5 : Addr) ↦ PtrK (some (Addr.add A_5 (Int.toNat (IntKind.wrap IntKind.i64 (p_1.fst.fst + (1 : Int))) * (4 : Nat)))) fun (A_6 : Addr) ↦ ∃ (c_2 : Array Value), ∃ (ty_1 : Nat), (Heap.upd H A_4.block (Obj.cells (writeCells c_1 A_4.off [Value.int IntKind.i64 n_1, Value.int IntKind.u32 n_2, Value.int IntKind.u32 n_3, Value.string s]) ty) A_6.block = some (Obj.cells c_2 ty_1) ∧ A_6.spot = none ∧ A_6.off + (4 : Nat) ≤ Array.size c_2) ∧ some A = some A ∧ n = n ∧ c = c ∧ a = a ∧ m = m ∧ b = b ∧ Value.func (Fn.func g) { toList := [] } { toList := [] } = Value.func (Fn.func g) { toList := [] } { toList := [] } ∧ p.fst.fst = p.fst.fst ∧ K ((IntKind.wrap IntKind.i64 (p_1.fst.fst + (1 : Int)), PUnit.unit), PUnit.unit) (Heap.upd (Heap.upd H A_4.block (Obj.cells (writeCells c_1 A_4.off [Value.int IntKind.i64 n_1, Value.int IntKind.u32 n_2, Value.int IntKind.u32 n_3, Value.string s]) ty)) A_6.block (Obj.cells (writeCells c_2 A_6.off [Value.int IntKind.i64 n_4, Value.int IntKind.u32 n_5, Value.int IntKind.u32 n_6, Value.string s_1]) ty_1))) (R (Ending.returned (Value.tuple { toList := [] })) H)) ((a, PUnit.unit), PUnit.unit) H)) ((m, b, PUnit.unit), PUnit.unit) H) (Br (IntKind.wrap IntKind.i64 (b - m) == (1 : Int)) (some A = some A ∧ n = n ∧ c = c ∧ a = a ∧ m = m ∧ b = b ∧ Value.func (Fn.func g) { toList := [] } { toList := [] } = Value.func (Fn.func g) { toList := [] } { toList := [] } ∧ LoopP (fun (K : (Int × Int × PUnit) × PUnit → (Nat → Option Obj) → Prop) (p : (Int × Int × PUnit) × PUnit) (H : Nat → Option Obj) ↦ Br (decide (p.fst.fst < p.fst.snd.fst)) ((0 : Int) ≤ (1 : Int) ∧ ∃ (G : Nat → Option Obj), G ≤ H ∧ ((0 : Int) ≤ m ∧ m < (↑n : Int)) ∧ PtrK (some A) fun (A_1 : Addr) ↦ PtrK (some (Addr.add A_1 (Int.toNat m * (4 : Nat)))) fun (a_1 : Addr) ↦ ∃ (n_1 : Int), ∃ (n_2 : Int), ∃ (n_3 : Int), ∃ (s : ByteArray), Heap.has G a_1 [Value.int IntKind.i64 n_1, Value.int IntKind.u32 n_2, Value.int IntKind.u32 n_3, Value.string s] ∧ ((0 : Int) ≤ IntKind.wrap IntKind.i64 (shrI IntKind.u64 (IntKind.wrap IntKind.u64 (IntKind.wrap IntKind.i64 (p.fst.fst + p.fst.snd.fst))) (1 : Int)) ∧ IntKind.wrap IntKind.i64 (shrI IntKind.u64 (IntKind.wrap IntKind.u64 (IntKind.wrap IntKind.i64 (p.fst.fst + p.fst.snd.fst))) (1 : Int)) < (↑n : Int)) ∧ PtrK (some A) fun (A_2 : Addr) ↦ PtrK (some (Addr.add A_2 (Int.toNat (IntKind.wrap IntKind.i64 (shrI IntKind.u64 (IntKind.wrap IntKind.u64 (IntKind.wrap IntKind.i64 (p.fst.fst + p.fst.snd.fst))) (1 : Int))) * (4 : Nat)))) fun (a_2 : Addr) ↦ ∃ (n_4 : Int), ∃ (n_5 : Int), ∃ (n_6 : Int), ∃ (s_1 : ByteArray), Heap.has G a_2 [Value.int IntKind.i64 n_4, Value.int IntKind.u32 n_5, Value.int IntKind.u32 n_6, Value.string s_1] ∧ Meets prog g [Value.agg { toList := [Value.int IntKind.i64 n_1, Value.int IntKind.u32 n_2, Value.int IntKind.u32 n_3, Value.string s] }, Value.agg { toList := [Value.int IntKind.i64 n_4, Value.int IntKind.u32 n_5, Value.int IntKind.u32 n_6, Value.string s_1] }] H fun (e : Ending) (H' : Nat → Option Obj) ↦ Keep G H H H' ∧ ∃ (n_7 : Int), e = Ending.returned (Value.int IntKind.i64 n_7) ∧ Br (!decide (n_7 < (0 : Int))) (some A = some A ∧ n = n ∧ c = c ∧ a = a ∧ m = m ∧ b = b ∧ Value.func (Fn.func g) { toList := [] } { toList := [] } = Value.func (Fn.func g) { toList := [] } { toList := [] } ∧ K ((IntKind.wrap IntKind.i64 (IntKind.wrap IntKind.i64 (shrI IntKind.u64 (IntKind.wrap IntKind.u64 (IntKind.wrap IntKind.i64 (p.fst.fst + p.fst.snd.fst))) (1 : Int)) + (1 : Int)), p.fst.snd.fst, PUnit.unit), PUnit.unit) (delLs H' [])) (some A = some A ∧ n = n ∧ c = c ∧ a = a ∧ m = m ∧ b = b ∧ Value.func (Fn.func g) { toList := [] } { toList := [] } = Value.func (Fn.func g) { toList := [] } { toList := [] } ∧ K ((p.fst.fst, IntKind.wrap IntKind.i64 (shrI IntKind.u64 (IntKind.wrap IntKind.u64 (IntKind.wrap IntKind.i64 (p.fst.fst + p.fst.snd.fst))) (1 : Int)), PUnit.unit), PUnit.unit) (delLs H' []))) (some A = some A ∧ n = n ∧ c = c ∧ a = a ∧ m = m ∧ b = b ∧ Value.func (Fn.func g) { toList := [] } { toList := [] } = Value.func (Fn.func g) { toList := [] } { toList := [] } ∧ p.fst.fst = p.fst.fst ∧ LoopP (fun (K : (Int × PUnit) × PUnit → (Nat → Option Obj) → Prop) (p_1 : (Int × PUnit) × PUnit) (H : Nat → Option Obj) ↦ Br (decide (p_1.fst.fst > p.fst.fst)) (((0 : Int) ≤ IntKind.wrap IntKind.i64 (p_1.fst.fst - (1 : Int)) ∧ IntKind.wrap IntKind.i64 (p_1.fst.fst - (1 : Int)) < (↑n : Int)) ∧ PtrK (some A) fun (A_1 : Addr) ↦ PtrK (some (Addr.add A_1 (Int.toNat (IntKind.wrap IntKind.i64 (p_1.fst.fst - (1 : Int))) * (4 : Nat)))) fun (a_1 : Addr) ↦ ∃ (n_1 : Int), ∃ (n_2 : Int), ∃ (n_3 : Int), ∃ (s : ByteArray), Heap.has H a_1 [Value.int IntKind.i64 n_1, Value.int IntKind.u32 n_2, Value.int IntKind.u32 n_3, Value.string s] ∧ ((0 : Int) ≤ p_1.fst.fst ∧ p_1.fst.fst < (↑n : Int)) ∧ PtrK (some A) fun (A_2 : Addr) ↦ PtrK (some (Addr.add A_2 (Int.toNat p_1.fst.fst * (4 : Nat)))) fun (a_2 : Addr) ↦ ∃ (n_4 : Int), ∃ (n_5 : Int), ∃ (n_6 : Int), ∃ (s_1 : ByteArray), Heap.has H a_2 [Value.int IntKind.i64 n_4, Value.int IntKind.u32 n_5, Value.int IntKind.u32 n_6, Value.string s_1] ∧ ((0 : Int) ≤ p_1.fst.fst ∧ p_1.fst.fst < (↑n : Int)) ∧ PtrK (some A) fun (A_3 : Addr) ↦ PtrK (some (Addr.add A_3 (Int.toNat p_1.fst.fst * (4 : Nat)))) fun (A_4 : Addr) ↦ ∃ (c_1 : Array Value), ∃ (ty : Nat), (H A_4.block = some (Obj.cells c_1 ty) ∧ A_4.spot = none ∧ A_4.off + (4 : Nat) ≤ Array.size c_1) ∧ ((0 : Int) ≤ IntKind.wrap IntKind.i64 (p_1.fst.fst - (1 : Int)) ∧ IntKind.wrap IntKind.i64 (p_1.fst.fst - (1 : Int)) < (↑n : Int)) ∧ PtrK (some A) fun (A_5 : Addr) ↦ PtrK (some (Addr.add A_5 (Int.toNat (IntKind.wrap IntKind.i64 (p_1.fst.fst - (1 : Int))) * (4 : Nat)))) fun (A_6 : Addr) ↦ ∃ (c_2 : Array Value), ∃ (ty_1 : Nat), (Heap.upd H A_4.block (Obj.cells (writeCells c_1 A_4.off [Value.int IntKind.i64 n_1, Value.int IntKind.u32 n_2, Value.int IntKind.u32 n_3, Value.string s]) ty) A_6.block = some (Obj.cells c_2 ty_1) ∧ A_6.spot = none ∧ A_6.off + (4 : Nat) ≤ Array.size c_2) ∧ some A = some A ∧ n = n ∧ c = c ∧ a = a ∧ m = m ∧ b = b ∧ Value.func (Fn.func g) { toList := [] } { toList := [] } = Value.func (Fn.func g) { toList := [] } { toList := [] } ∧ p.fst.fst = p.fst.fst ∧ K ((IntKind.wrap IntKind.i64 (p_1.fst.fst - (1 : Int)), PUnit.unit), PUnit.unit) (Heap.upd (Heap.upd H A_4.block (Obj.cells (writeCells c_1 A_4.off [Value.int IntKind.i64 n_1, Value.int IntKind.u32 n_2, Value.int IntKind.u32 n_3, Value.string s]) ty)) A_6.block (Obj.cells (writeCells c_2 A_6.off [Value.int IntKind.i64 n_4, Value.int IntKind.u32 n_5, Value.int IntKind.u32 n_6, Value.string s_1]) ty_1))) (R (Ending.returned (Value.tuple { toList := [] })) H)) ((m, PUnit.unit), PUnit.unit) H)) ((a, m, PUnit.unit), PUnit.unit) H) ((0 : Int) ≤ (1 : Int) ∧ CutP (fun (I : (Int × Int × PUnit) × PUnit → (Nat → Option Obj) → Prop) ↦ Br (decide (m > IntKind.wrap IntKind.i64 (shrI IntKind.u64 (IntKind.wrap IntKind.u64 (IntKind.wrap IntKind.i64 (a + b))) (1 : Int)))) (some A = some A ∧ n = n ∧ c = c ∧ a = a ∧ m = m ∧ b = b ∧ Value.func (Fn.func g) { toList := [] } { toList := [] } = Value.func (Fn.func g) { toList := [] } { toList := [] } ∧ IntKind.wrap IntKind.i64 (shrI IntKind.u64 (IntKind.wrap IntKind.u64 (IntKind.wrap IntKind.i64 (a + b))) (1 : Int)) = IntKind.wrap IntKind.i64 (shrI IntKind.u64 (IntKind.wrap IntKind.u64 (IntKind.wrap IntKind.i64 (a + b))) (1 : Int)) ∧ IntKind.wrap IntKind.i64 (IntKind.wrap IntKind.i64 (shrI IntKind.u64 (IntKind.wrap IntKind.u64 (IntKind.wrap IntKind.i64 (a + b))) (1 : Int)) + m) = IntKind.wrap IntKind.i64 (IntKind.wrap IntKind.i64 (shrI IntKind.u64 (IntKind.wrap IntKind.u64 (IntKind.wrap IntKind.i64 (a + b))) (1 : Int)) + m) ∧ I ((IntKind.wrap IntKind.i64 (IntKind.wrap IntKind.i64 (IntKind.wrap IntKind.i64 (shrI IntKind.u64 (IntKind.wrap IntKind.u64 (IntKind.wrap IntKind.i64 (a + b))) (1 : Int)) + m) - b), IntKind.wrap IntKind.i64 (shrI IntKind.u64 (IntKind.wrap IntKind.u64 (IntKind.wrap IntKind.i64 (a + b))) (1 : Int)), PUnit.unit), PUnit.unit) H) (some A = some A ∧ n = n ∧ c = c ∧ a = a ∧ m = m ∧ b = b ∧ Value.func (Fn.func g) { toList := [] } { toList := [] } = Value.func (Fn.func g) { toList := [] } { toList := [] } ∧ IntKind.wrap IntKind.i64 (shrI IntKind.u64 (IntKind.wrap IntKind.u64 (IntKind.wrap IntKind.i64 (a + b))) (1 : Int)) = IntKind.wrap IntKind.i64 (shrI IntKind.u64 (IntKind.wrap IntKind.u64 (IntKind.wrap IntKind.i64 (a + b))) (1 : Int)) ∧ IntKind.wrap IntKind.i64 (IntKind.wrap IntKind.i64 (shrI IntKind.u64 (IntKind.wrap IntKind.u64 (IntKind.wrap IntKind.i64 (a + b))) (1 : Int)) + m) = IntKind.wrap IntKind.i64 (IntKind.wrap IntKind.i64 (shrI IntKind.u64 (IntKind.wrap IntKind.u64 (IntKind.wrap IntKind.i64 (a + b))) (1 : Int)) + m) ∧ I ((a, m, PUnit.unit), PUnit.unit) H)) fun (p : (Int × Int × PUnit) × PUnit) (H : Nat → Option Obj) ↦ some A = some A ∧ n = n ∧ c = c ∧ a = a ∧ m = m ∧ b = b ∧ Value.func (Fn.func g) { toList := [] } { toList := [] } = Value.func (Fn.func g) { toList := [] } { toList := [] } ∧ IntKind.wrap IntKind.i64 (shrI IntKind.u64 (IntKind.wrap IntKind.u64 (IntKind.wrap IntKind.i64 (a + b))) (1 : Int)) = IntKind.wrap IntKind.i64 (shrI IntKind.u64 (IntKind.wrap IntKind.u64 (IntKind.wrap IntKind.i64 (a + b))) (1 : Int)) ∧ IntKind.wrap IntKind.i64 (IntKind.wrap IntKind.i64 (shrI IntKind.u64 (IntKind.wrap IntKind.u64 (IntKind.wrap IntKind.i64 (a + b))) (1 : Int)) + m) = IntKind.wrap IntKind.i64 (IntKind.wrap IntKind.i64 (shrI IntKind.u64 (IntKind.wrap IntKind.u64 (IntKind.wrap IntKind.i64 (a + b))) (1 : Int)) + m) ∧ IntKind.wrap IntKind.i64 (IntKind.wrap IntKind.i64 (IntKind.wrap IntKind.i64 (shrI IntKind.u64 (IntKind.wrap IntKind.u64 (IntKind.wrap IntKind.i64 (a + b))) (1 : Int)) + m) - (1 : Int)) = IntKind.wrap IntKind.i64 (IntKind.wrap IntKind.i64 (IntKind.wrap IntKind.i64 (shrI IntKind.u64 (IntKind.wrap IntKind.u64 (IntKind.wrap IntKind.i64 (a + b))) (1 : Int)) + m) - (1 : Int)) ∧ LoopP (fun (K : (Int × Int × PUnit) × PUnit → (Nat → Option Obj) → Prop) (p : (Int × Int × PUnit) × PUnit) (H : Nat → Option Obj) ↦ Br (decide (p.fst.fst < p.fst.snd.fst)) ((0 : Int) ≤ (1 : Int) ∧ ∃ (G : Nat → Option Obj), G ≤ H ∧ ((0 : Int) ≤ IntKind.wrap IntKind.i64 (IntKind.wrap IntKind.i64 (IntKind.wrap IntKind.i64 (IntKind.wrap IntKind.i64 (shrI IntKind.u64 (IntKind.wrap IntKind.u64 (IntKind.wrap IntKind.i64 (a + b))) (1 : Int)) + m) - (1 : Int)) - IntKind.wrap IntKind.i64 (shrI IntKind.u64 (IntKind.wrap IntKind.u64 (IntKind.wrap IntKind.i64 (p.fst.fst + p.fst.snd.fst))) (1 : Int))) ∧ IntKind.wrap IntKind.i64 (IntKind.wrap IntKind.i64 (IntKind.wrap IntKind.i64 (IntKind.wrap IntKind.i64 (shrI IntKind.u64 (IntKind.wrap IntKind.u64 (IntKind.wrap IntKind.i64 (a + b))) (1 : Int)) + m) - (1 : Int)) - IntKind.wrap IntKind.i64 (shrI IntKind.u64 (IntKind.wrap IntKind.u64 (IntKind.wrap IntKind.i64 (p.fst.fst + p.fst.snd.fst))) (1 : Int))) < (↑n : Int)) ∧ PtrK (some A) fun (A_1 : Addr) ↦ PtrK (some (Addr.add A_1 (Int.toNat (IntKind.wrap IntKind.i64 (IntKind.wrap IntKind.i64 (IntKind.wrap IntKind.i64 (IntKind.wrap IntKind.i64 (shrI IntKind.u64 (IntKind.wrap IntKind.u64 (IntKind.wrap IntKind.i64 (a + b))) (1 : Int)) + m) - (1 : Int)) - IntKind.wrap IntKind.i64 (shrI IntKind.u64 (IntKind.wrap IntKind.u64 (IntKind.wrap IntKind.i64 (p.fst.fst + p.fst.snd.fst))) (1 : Int)))) * (4 : Nat)))) fun (a_1 : Addr) ↦ ∃ (n_1 : Int), ∃ (n_2 : Int), ∃ (n_3 : Int), ∃ (s : ByteArray), Heap.has G a_1 [Value.int IntKind.i64 n_1, Value.int IntKind.u32 n_2, Value.int IntKind.u32 n_3, Value.string s] ∧ ((0 : Int) ≤ IntKind.wrap IntKind.i64 (shrI IntKind.u64 (IntKind.wrap IntKind.u64 (IntKind.wrap IntKind.i64 (p.fst.fst + p.fst.snd.fst))) (1 : Int)) ∧ IntKind.wrap IntKind.i64 (shrI IntKind.u64 (IntKind.wrap IntKind.u64 (IntKind.wrap IntKind.i64 (p.fst.fst + p.fst.snd.fst))) (1 : Int)) < (↑n : Int)) ∧ PtrK (some A) fun (A_2 : Addr) ↦ PtrK (some (Addr.add A_2 (Int.toNat (IntKind.wrap IntKind.i64 (shrI IntKind.u64 (IntKind.wrap IntKind.u64 (IntKind.wrap IntKind.i64 (p.fst.fst + p.fst.snd.fst))) (1 : Int))) * (4 : Nat)))) fun (a_2 : Addr) ↦ ∃ (n_4 : Int), ∃ (n_5 : Int), ∃ (n_6 : Int), ∃ (s_1 : ByteArray), Heap.has G a_2 [Value.int IntKind.i64 n_4, Value.int IntKind.u32 n_5, Value.int IntKind.u32 n_6, Value.string s_1] ∧ Meets prog g [Value.agg { toList := [Value.int IntKind.i64 n_1, Value.int IntKind.u32 n_2, Value.int IntKind.u32 n_3, Value.string s] }, Value.agg { toList := [Value.int IntKind.i64 n_4, Value.int IntKind.u32 n_5, Value.int IntKind.u32 n_6, Value.string s_1] }] H fun (e : Ending) (H' : Nat → Option Obj) ↦ Keep G H H H' ∧ ∃ (n_7 : Int), e = Ending.returned (Value.int IntKind.i64 n_7) ∧ Br (!decide (n_7 < (0 : Int))) (some A = some A ∧ n = n ∧ c = c ∧ a = a ∧ m = m ∧ b = b ∧ Value.func (Fn.func g) { toList := [] } { toList := [] } = Value.func (Fn.func g) { toList := [] } { toList := [] } ∧ IntKind.wrap IntKind.i64 (shrI IntKind.u64 (IntKind.wrap IntKind.u64 (IntKind.wrap IntKind.i64 (a + b))) (1 : Int)) = IntKind.wrap IntKind.i64 (shrI IntKind.u64 (IntKind.wrap IntKind.u64 (IntKind.wrap IntKind.i64 (a + b))) (1 : Int)) ∧ IntKind.wrap IntKind.i64 (IntKind.wrap IntKind.i64 (shrI IntKind.u64 (IntKind.wrap IntKind.u64 (IntKind.wrap IntKind.i64 (a + b))) (1 : Int)) + m) = IntKind.wrap IntKind.i64 (IntKind.wrap IntKind.i64 (shrI IntKind.u64 (IntKind.wrap IntKind.u64 (IntKind.wrap IntKind.i64 (a + b))) (1 : Int)) + m) ∧ IntKind.wrap IntKind.i64 (IntKind.wrap IntKind.i64 (IntKind.wrap IntKind.i64 (shrI IntKind.u64 (IntKind.wrap IntKind.u64 (IntKind.wrap IntKind.i64 (a + b))) (1 : Int)) + m) - (1 : Int)) = IntKind.wrap IntKind.i64 (IntKind.wrap IntKind.i64 (IntKind.wrap IntKind.i64 (shrI IntKind.u64 (IntKind.wrap IntKind.u64 (IntKind.wrap IntKind.i64 (a + b))) (1 : Int)) + m) - (1 : Int)) ∧ K ((IntKind.wrap IntKind.i64 (IntKind.wrap IntKind.i64 (shrI IntKind.u64 (IntKind.wrap IntKind.u64 (IntKind.wrap IntKind.i64 (p.fst.fst + p.fst.snd.fst))) (1 : Int)) + (1 : Int)), p.fst.snd.fst, PUnit.unit), PUnit.unit) (delLs H' [])) (some A = some A ∧ n = n ∧ c = c ∧ a = a ∧ m = m ∧ b = b ∧ Value.func (Fn.func g) { toList := [] } { toList := [] } = Value.func (Fn.func g) { toList := [] } { toList := [] } ∧ IntKind.wrap IntKind.i64 (shrI IntKind.u64 (IntKind.wrap IntKind.u64 (IntKind.wrap IntKind.i64 (a + b))) (1 : Int)) = IntKind.wrap IntKind.i64 (shrI IntKind.u64 (IntKind.wrap IntKind.u64 (IntKind.wrap IntKind.i64 (a + b))) (1 : Int)) ∧ IntKind.wrap IntKind.i64 (IntKind.wrap IntKind.i64 (shrI IntKind.u64 (IntKind.wrap IntKind.u64 (IntKind.wrap IntKind.i64 (a + b))) (1 : Int)) + m) = IntKind.wrap IntKind.i64 (IntKind.wrap IntKind.i64 (shrI IntKind.u64 (IntKind.wrap IntKind.u64 (IntKind.wrap IntKind.i64 (a + b))) (1 : Int)) + m) ∧ IntKind.wrap IntKind.i64 (IntKind.wrap IntKind.i64 (IntKind.wrap IntKind.i64 (shrI IntKind.u64 (IntKind.wrap IntKind.u64 (IntKind.wrap IntKind.i64 (a + b))) (1 : Int)) + m) - (1 : Int)) = IntKind.wrap IntKind.i64 (IntKind.wrap IntKind.i64 (IntKind.wrap IntKind.i64 (shrI IntKind.u64 (IntKind.wrap IntKind.u64 (IntKind.wrap IntKind.i64 (a + b))) (1 : Int)) + m) - (1 : Int)) ∧ K ((p.fst.fst, IntKind.wrap IntKind.i64 (shrI IntKind.u64 (IntKind.wrap IntKind.u64 (IntKind.wrap IntKind.i64 (p.fst.fst + p.fst.snd.fst))) (1 : Int)), PUnit.unit), PUnit.unit) (delLs H' []))) (CutP (fun (I : PUnit × PUnit → (Nat → Option Obj) → Prop) ↦ Br (decide (p.fst.fst < m)) (Br (decide (m < IntKind.wrap IntKind.i64 (IntKind.wrap IntKind.i64 (IntKind.wrap IntKind.i64 (shrI IntKind.u64 (IntKind.wrap IntKind.u64 (IntKind.wrap IntKind.i64 (a + b))) (1 : Int)) + m) - p.fst.fst))) (Meets prog (50 : Nat) [Value.slice (some A) n c, Value.int IntKind.i64 p.fst.fst, Value.int IntKind.i64 m, Value.int IntKind.i64 (IntKind.wrap IntKind.i64 (IntKind.wrap IntKind.i64 (IntKind.wrap IntKind.i64 (shrI IntKind.u64 (IntKind.wrap IntKind.u64 (IntKind.wrap IntKind.i64 (a + b))) (1 : Int)) + m) - p.fst.fst)), Value.func (Fn.func g) { toList := [] } { toList := [] }] H fun (e : Ending) (H' : Nat → Option Obj) ↦ e = Ending.returned (Value.tuple { toList := [] }) ∧ some A = some A ∧ n = n ∧ c = c ∧ a = a ∧ b = b ∧ Value.func (Fn.func g) { toList := [] } { toList := [] } = Value.func (Fn.func g) { toList := [] } { toList := [] } ∧ IntKind.wrap IntKind.i64 (shrI IntKind.u64 (IntKind.wrap IntKind.u64 (IntKind.wrap IntKind.i64 (a + b))) (1 : Int)) = IntKind.wrap IntKind.i64 (shrI IntKind.u64 (IntKind.wrap IntKind.u64 (IntKind.wrap IntKind.i64 (a + b))) (1 : Int)) ∧ p.fst.fst = p.fst.fst ∧ IntKind.wrap IntKind.i64 (IntKind.wrap IntKind.i64 (IntKind.wrap IntKind.i64 (shrI IntKind.u64 (IntKind.wrap IntKind.u64 (IntKind.wrap IntKind.i64 (a + b))) (1 : Int)) + m) - p.fst.fst) = IntKind.wrap IntKind.i64 (IntKind.wrap IntKind.i64 (IntKind.wrap IntKind.i64 (shrI IntKind.u64 (IntKind.wrap IntKind.u64 (IntKind.wrap IntKind.i64 (a + b))) (1 : Int)) + m) - p.fst.fst) ∧ I (PUnit.unit, PUnit.unit) H') (some A = some A ∧ n = n ∧ c = c ∧ a = a ∧ b = b ∧ Value.func (Fn.func g) { toList := [] } { toList := [] } = Value.func (Fn.func g) { toList := [] } { toList := [] } ∧ IntKind.wrap IntKind.i64 (shrI IntKind.u64 (IntKind.wrap IntKind.u64 (IntKind.wrap IntKind.i64 (a + b))) (1 : Int)) = IntKind.wrap IntKind.i64 (shrI IntKind.u64 (IntKind.wrap IntKind.u64 (IntKind.wrap IntKind.i64 (a + b))) (1 : Int)) ∧ p.fst.fst = p.fst.fst ∧ IntKind.wrap IntKind.i64 (IntKind.wrap IntKind.i64 (IntKind.wrap IntKind.i64 (shrI IntKind.u64 (IntKind.wrap IntKind.u64 (IntKind.wrap IntKind.i64 (a + b))) (1 : Int)) + m) - p.fst.fst) = IntKind.wrap IntKind.i64 (IntKind.wrap IntKind.i64 (IntKind.wrap IntKind.i64 (shrI IntKind.u64 (IntKind.wrap IntKind.u64 (IntKind.wrap IntKind.i64 (a + b))) (1 : Int)) + m) - p.fst.fst) ∧ I (PUnit.unit, PUnit.unit) H)) (some A = some A ∧ n = n ∧ c = c ∧ a = a ∧ b = b ∧ Value.func (Fn.func g) { toList := [] } { toList := [] } = Value.func (Fn.func g) { toList := [] } { toList := [] } ∧ IntKind.wrap IntKind.i64 (shrI IntKind.u64 (IntKind.wrap IntKind.u64 (IntKind.wrap IntKind.i64 (a + b))) (1 : Int)) = IntKind.wrap IntKind.i64 (shrI IntKind.u64 (IntKind.wrap IntKind.u64 (IntKind.wrap IntKind.i64 (a + b))) (1 : Int)) ∧ p.fst.fst = p.fst.fst ∧ IntKind.wrap IntKind.i64 (IntKind.wrap IntKind.i64 (IntKind.wrap IntKind.i64 (shrI IntKind.u64 (IntKind.wrap IntKind.u64 (IntKind.wrap IntKind.i64 (a + b))) (1 : Int)) + m) - p.fst.fst) = IntKind.wrap IntKind.i64 (IntKind.wrap IntKind.i64 (IntKind.wrap IntKind.i64 (shrI IntKind.u64 (IntKind.wrap IntKind.u64 (IntKind.wrap IntKind.i64 (a + b))) (1 : Int)) + m) - p.fst.fst) ∧ I (PUnit.unit, PUnit.unit) H)) fun (p_1 : PUnit × PUnit) (H : Nat → Option Obj) ↦ CutP (fun (I : PUnit × PUnit → (Nat → Option Obj) → Prop) ↦ Br (decide (a < p.fst.fst)) (Br (decide (p.fst.fst < IntKind.wrap IntKind.i64 (shrI IntKind.u64 (IntKind.wrap IntKind.u64 (IntKind.wrap IntKind.i64 (a + b))) (1 : Int)))) (Meets prog (44 : Nat) [Value.slice (some A) n c, Value.int IntKind.i64 a, Value.int IntKind.i64 p.fst.fst, Value.int IntKind.i64 (IntKind.wrap IntKind.i64 (shrI IntKind.u64 (IntKind.wrap IntKind.u64 (IntKind.wrap IntKind.i64 (a + b))) (1 : Int))), Value.func (Fn.func g) { toList := [] } { toList := [] }] H fun (e : Ending) (H' : Nat → Option Obj) ↦ e = Ending.returned (Value.tuple { toList := [] }) ∧ some A = some A ∧ n = n ∧ c = c ∧ b = b ∧ Value.func (Fn.func g) { toList := [] } { toList := [] } = Value.func (Fn.func g) { toList := [] } { toList := [] } ∧ IntKind.wrap IntKind.i64 (shrI IntKind.u64 (IntKind.wrap IntKind.u64 (IntKind.wrap IntKind.i64 (a + b))) (1 : Int)) = IntKind.wrap IntKind.i64 (shrI IntKind.u64 (IntKind.wrap IntKind.u64 (IntKind.wrap IntKind.i64 (a + b))) (1 : Int)) ∧ IntKind.wrap IntKind.i64 (IntKind.wrap IntKind.i64 (IntKind.wrap IntKind.i64 (shrI IntKind.u64 (IntKind.wrap IntKind.u64 (IntKind.wrap IntKind.i64 (a + b))) (1 : Int)) + m) - p.fst.fst) = IntKind.wrap IntKind.i64 (IntKind.wrap IntKind.i64 (IntKind.wrap IntKind.i64 (shrI IntKind.u64 (IntKind.wrap IntKind.u64 (IntKind.wrap IntKind.i64 (a + b))) (1 : Int)) + m) - p.fst.fst) ∧ I (PUnit.unit, PUnit.unit) H') (some A = some A ∧ n = n ∧ c = c ∧ b = b ∧ Value.func (Fn.func g) { toList := [] } { toList := [] } = Value.func (Fn.func g) { toList := [] } { toList := [] } ∧ IntKind.wrap IntKind.i64 (shrI IntKind.u64 (IntKind.wrap IntKind.u64 (IntKind.wrap IntKind.i64 (a + b))) (1 : Int)) = IntKind.wrap IntKind.i64 (shrI IntKind.u64 (IntKind.wrap IntKind.u64 (IntKind.wrap IntKind.i64 (a + b))) (1 : Int)) ∧ IntKind.wrap IntKind.i64 (IntKind.wrap IntKind.i64 (IntKind.wrap IntKind.i64 (shrI IntKind.u64 (IntKind.wrap IntKind.u64 (IntKind.wrap IntKind.i64 (a + b))) (1 : Int)) + m) - p.fst.fst) = IntKind.wrap IntKind.i64 (IntKind.wrap IntKind.i64 (IntKind.wrap IntKind.i64 (shrI IntKind.u64 (IntKind.wrap IntKind.u64 (IntKind.wrap IntKind.i64 (a + b))) (1 : Int)) + m) - p.fst.fst) ∧ I (PUnit.unit, PUnit.unit) H)) (some A = some A ∧ n = n ∧ c = c ∧ b = b ∧ Value.func (Fn.func g) { toList := [] } { toList := [] } = Value.func (Fn.func g) { toList := [] } { toList := [] } ∧ IntKind.wrap IntKind.i64 (shrI IntKind.u64 (IntKind.wrap IntKind.u64 (IntKind.wrap IntKind.i64 (a + b))) (1 : Int)) = IntKind.wrap IntKind.i64 (shrI IntKind.u64 (IntKind.wrap IntKind.u64 (IntKind.wrap IntKind.i64 (a + b))) (1 : Int)) ∧ IntKind.wrap IntKind.i64 (IntKind.wrap IntKind.i64 (IntKind.wrap IntKind.i64 (shrI IntKind.u64 (IntKind.wrap IntKind.u64 (IntKind.wrap IntKind.i64 (a + b))) (1 : Int)) + m) - p.fst.fst) = IntKind.wrap IntKind.i64 (IntKind.wrap IntKind.i64 (IntKind.wrap IntKind.i64 (shrI IntKind.u64 (IntKind.wrap IntKind.u64 (IntKind.wrap IntKind.i64 (a + b))) (1 : Int)) + m) - p.fst.fst) ∧ I (PUnit.unit, PUnit.unit) H)) fun (p_2 : PUnit × PUnit) (H : Nat → Option Obj) ↦ Br (decide (IntKind.wrap IntKind.i64 (shrI IntKind.u64 (IntKind.wrap IntKind.u64 (IntKind.wrap IntKind.i64 (a + b))) (1 : Int)) < IntKind.wrap IntKind.i64 (IntKind.wrap IntKind.i64 (IntKind.wrap IntKind.i64 (shrI IntKind.u64 (IntKind.wrap IntKind.u64 (IntKind.wrap IntKind.i64 (a + b))) (1 : Int)) + m) - p.fst.fst))) (Br (decide (IntKind.wrap IntKind.i64 (IntKind.wrap IntKind.i64 (IntKind.wrap IntKind.i64 (shrI IntKind.u64 (IntKind.wrap IntKind.u64 (IntKind.wrap IntKind.i64 (a + b))) (1 : Int)) + m) - p.fst.fst) < b)) (Meets prog (44 : Nat) [Value.slice (some A) n c, Value.int IntKind.i64 (IntKind.wrap IntKind.i64 (shrI IntKind.u64 (IntKind.wrap IntKind.u64 (IntKind.wrap IntKind.i64 (a + b))) (1 : Int))), Value.int IntKind.i64 (IntKind.wrap IntKind.i64 (IntKind.wrap IntKind.i64 (IntKind.wrap IntKind.i64 (shrI IntKind.u64 (IntKind.wrap IntKind.u64 (IntKind.wrap IntKind.i64 (a + b))) (1 : Int)) + m) - p.fst.fst)), Value.int IntKind.i64 b, Value.func (Fn.func g) { toList := [] } { toList := [] }] H fun (e : Ending) (H' : Nat → Option Obj) ↦ e = Ending.returned (Value.tuple { toList := [] }) ∧ R (Ending.returned (Value.tuple { toList := [] })) H') (R (Ending.returned (Value.tuple { toList := [] })) H)) (R (Ending.returned (Value.tuple { toList := [] })) H))) ((p.fst.fst, p.fst.snd.fst, PUnit.unit), PUnit.unit) H))
theorem vc_sym (A : Addr) (n : Nat) (c : Nat) (g : Nat) (a : Int) (m : Int) (b : Int) (R : Ending → Heap → Prop) (H : Heap) : vcFun prog h_sym f44 [SV.c (SC.v (Value.slice (some A) n c)), SV.c (SC.v (Value.int IntKind.i64 a)), SV.c (SC.v (Value.int IntKind.i64 m)), SV.c (SC.v (Value.int IntKind.i64 b)), SV.c (SC.v (Value.func (Fn.func g) #[] #[]))] R H = nf_sym A n c g a m b R H := by kernel_rfl

def nf_stb (A : Addr) (n : Nat) (c : Nat) (g : Nat) (m : Int) (R : Ending → Heap → Prop) (H : Heap) : Prop := some A = some A ∧ n = n ∧ c = c ∧ m = m ∧ Value.func (Fn.func g) { toList := [] } { toList := [] } = Value.func (Fn.func g) { toList := [] } { toList := [] } ∧ (20 : Int) = (20 : Int) ∧ LoopP (fun (K : (Int × Int × PUnit) × PUnit → (Nat → Option Obj) → Prop) (p : (Int × Int × PUnit) × PUnit) (H : Nat → Option Obj) ↦ Br (decide (p.fst.snd.fst ≤ m)) (Meets prog (43 : Nat) [Value.slice (some A) n c, Value.int IntKind.i64 p.fst.fst, Value.int IntKind.i64 p.fst.snd.fst, Value.func (Fn.func g) { toList := [] } { toList := [] }] H fun (e : Ending) (H' : Nat → Option Obj) ↦ e = Ending.returned (Value.tuple { toList := [] }) ∧ some A = some A ∧ n = n ∧ c = c ∧ m = m ∧ Value.func (Fn.func g) { toList := [] } { toList := [] } = Value.func (Fn.func g) { toList := [] } { toList := [] } ∧ (20 : Int) = (20 : Int) ∧ K ((p.fst.snd.fst, IntKind.wrap IntKind.i64 (p.fst.snd.fst + (20 : Int)), PUnit.unit), PUnit.unit) H') (Meets prog (43 : Nat) [Value.slice (some A) n c, Value.int IntKind.i64 p.fst.fst, Value.int IntKind.i64 m, Value.func (Fn.func g) { toList := [] } { toList := [] }] H fun (e : Ending) (H' : Nat → Option Obj) ↦ e = Ending.returned (Value.tuple { toList := [] }) ∧ some A = some A ∧ n = n ∧ c = c ∧ m = m ∧ Value.func (Fn.func g) { toList := [] } { toList := [] } = Value.func (Fn.func g) { toList := [] } { toList := [] } ∧ LoopP (fun (K : (Int × PUnit) × PUnit → (Nat → Option Obj) → Prop) (p : (Int × PUnit) × PUnit) (H : Nat → Option Obj) ↦ Br (decide (p.fst.fst < m)) (some A = some A ∧ n = n ∧ c = c ∧ m = m ∧ Value.func (Fn.func g) { toList := [] } { toList := [] } = Value.func (Fn.func g) { toList := [] } { toList := [] } ∧ p.fst.fst = p.fst.fst ∧ LoopP (fun (K_1 : (Int × Int × PUnit) × PUnit → (Nat → Option Obj) → Prop) (p_1 : (Int × Int × PUnit) × PUnit) (H : Nat → Option Obj) ↦ Br (decide (p_1.fst.snd.fst ≤ m)) (Meets prog (44 : Nat) [Value.slice (some A) n c, Value.int IntKind.i64 p_1.fst.fst, Value.int IntKind.i64 (IntKind.wrap IntKind.i64 (p_1.fst.fst + p.fst.fst)), Value.int IntKind.i64 p_1.fst.snd.fst, Value.func (Fn.func g) { toList := [] } { toList := [] }] H fun (e : Ending) (H' : Nat → Option Obj) ↦ e = Ending.returned (Value.tuple { toList := [] }) ∧ some A = some A ∧ n = n ∧ c = c ∧ m = m ∧ Value.func (Fn.func g) { toList := [] } { toList := [] } = Value.func (Fn.func g) { toList := [] } { toList := [] } ∧ p.fst.fst = p.fst.fst ∧ K_1 ((p_1.fst.snd.fst, IntKind.wrap IntKind.i64 (p_1.fst.snd.fst + IntKind.wrap IntKind.i64 ((2 : Int) * p.fst.fst)), PUnit.unit), PUnit.unit) H') (Br (decide (IntKind.wrap IntKind.i64 (p_1.fst.fst + p.fst.fst) < m)) (Meets prog (44 : Nat) [Value.slice (some A) n c, Value.int IntKind.i64 p_1.fst.fst, Value.int IntKind.i64 (IntKind.wrap IntKind.i64 (p_1.fst.fst + p.fst.fst)), Value.int IntKind.i64 m, Value.func (Fn.func g) { toList := [] } { toList := [] }] H fun (e : Ending) (H' : Nat → Option Obj) ↦ e = Ending.returned (Value.tuple { toList := [] }) ∧ some A = some A ∧ n = n ∧ c = c ∧ m = m ∧ Value.func (Fn.func g) { toList := [] } { toList := [] } = Value.func (Fn.func g) { toList := [] } { toList := [] } ∧ K ((IntKind.wrap IntKind.i64 (p.fst.fst * (2 : Int)), PUnit.unit), PUnit.unit) H') (some A = some A ∧ n = n ∧ c = c ∧ m = m ∧ Value.func (Fn.func g) { toList := [] } { toList := [] } = Value.func (Fn.func g) { toList := [] } { toList := [] } ∧ K ((IntKind.wrap IntKind.i64 (p.fst.fst * (2 : Int)), PUnit.unit), PUnit.unit) H))) (((0 : Int), IntKind.wrap IntKind.i64 ((2 : Int) * p.fst.fst), PUnit.unit), PUnit.unit) H) (R (Ending.returned (Value.tuple { toList := [] })) H)) (((20 : Int), PUnit.unit), PUnit.unit) H')) (((0 : Int), (20 : Int), PUnit.unit), PUnit.unit) H
theorem vc_stb (A : Addr) (n : Nat) (c : Nat) (g : Nat) (m : Int) (R : Ending → Heap → Prop) (H : Heap) : vcFun prog h_stb f30 [SV.c (SC.v (Value.slice (some A) n c)), SV.c (SC.v (Value.int IntKind.i64 m)), SV.c (SC.v (Value.func (Fn.func g) #[] #[]))] R H = nf_stb A n c g m R H := by kernel_rfl

end Cr

set_option linter.unusedVariables false
set_option linter.unusedSimpArgs false
namespace Cr
open Go Sx Stb
open Go.Sort (SWO)
open Go.Proofs.Try
set_option linter.unusedSectionVars false
variable [Dr]
set_option maxRecDepth 100000
section
variable {R : Ending → Heap → Prop} {H : Heap} {ty : Nat}
theorem half64 {u : Int} (h : 0 ≤ u ∧ u ≤ 4611686018427387904) : IntKind.i64.wrap (shrI .u64 (IntKind.u64.wrap (IntKind.i64.wrap u)) 1) = u / 2 := by
  rw [w64 (k := u) (by omega), IntWalk.u64_in u (by omega)]
  have : shrI .u64 u 1 = u / 2 := by
    unfold shrI
    rw [show min (Int.toNat 1) (IntKind.u64).bits = 1 by decide, show ((2 : Int) ^ 1) = 2 by decide, Int.fdiv_eq_ediv_of_nonneg _ (by decide)]
  rw [this, w64 (by omega)]
theorem get_X {A X Y B : List Pt} {k j : Nat} (hk : k < X.length) (hj : A.length + k = j) : (A ++ X ++ Y ++ B)[j]? = some X[k] := by
  subst hj
  rw [List.append_assoc, List.append_assoc, List.getElem?_append_right (by omega), Nat.add_sub_cancel_left, List.getElem?_append_left hk, List.getElem?_eq_getElem hk]
theorem get_Y {A X Y B : List Pt} {k j : Nat} (hk : k < Y.length) (hj : A.length + X.length + k = j) : (A ++ X ++ Y ++ B)[j]? = some Y[k] := by
  subst hj
  rw [List.append_assoc, List.getElem?_append_right (by simp only [List.length_append]; omega), List.length_append, Nat.add_sub_cancel_left, List.getElem?_append_left hk, List.getElem?_eq_getElem hk]
theorem drop_cons {α : Type} {l : List α} {k : Nat} (h : k < l.length) : ∃ y, l.drop k = y :: l.drop (k + 1) ∧ l.take (k + 1) = l.take k ++ [y] ∧ l[k]? = some y :=
  ⟨l[k], List.drop_eq_getElem_cons h, by rw [List.take_add_one, List.getElem?_eq_getElem h]; rfl, List.getElem?_eq_getElem h⟩
theorem s_sym {g : Nat} {cf : Pt → Pt → Int} (hc : CmpOK g cf) (hs : SWO (ltc cf)) {Ad : Addr} {n c : Nat} (hn : n ≤ 1000000) : ∀ (N : Nat) {A X Y B : List Pt} {a m b : Int} (hN : X.length + Y.length = N) (ha : (A.length : Int) = a) (hm : a + X.length = m) (hb : m + Y.length = b) (hx : 0 < X.length) (hy : 0 < Y.length)
    (sX : Srtd (ltc cf) X) (sY : Srtd (ltc cf) Y) {R : Ending → Heap → Prop} {H : Heap}
    (hrow : RowAt H (.slice (some Ad) n c) ty 4 (pts (A ++ X ++ Y ++ B))) (h : ∀ H', RowAt H' (.slice (some Ad) n c) ty 4 (pts (A ++ isort (ltc cf) (X ++ Y) ++ B)) → Mod (.slice (some Ad) n c) H H' → R (.returned (.tuple #[])) H'),
    Meets prog 44 [.slice (some Ad) n c, vi a, vi m, vi b, .func (.func g) #[] #[]] H R := by
  intro N
  induction N using Nat.strongRecOn with
  | _ N ih =>
  intro A X Y B a m b hN ha hm hb hx hy sX sY R H hrow h
  refine spec_of func44 (by kernel_rfl) (fun t h => by cases h) ?_ (vc_sym Ad n c g a m b R H) ?_
  · simp [argsR, SV.rep, SC.rep, one]
  unfold nf_sym
  simp only [true_and, delLs_nil, List.nil_append, List.append_nil]
  have hlen0 := (row_len hrow).1
  simp only [pts, List.length_map, List.length_append] at hlen0
  have hsl := row_slice hrow
  rw [w64 (k := m - a) (by omega), w64 (k := b - m) (by omega)]
  refine br (fun q => ?_) fun q => br (fun q1 => ?_) fun q1 => ?_
  · -- one on the left
    have hx1 : X.length = 1 := by simp at q; omega
    obtain ⟨x, rfl⟩ := List.length_eq_one_iff.1 hx1
    simp only [List.length_singleton] at hm hlen0 hN
    refine ⟨fun p H' => ∃ s t : Nat, p.1.1 = m + s ∧ p.1.2.1 = m + t ∧ s ≤ t ∧ t ≤ Y.length ∧ (∀ y, 0 < s → Y[s - 1]? = some y → ltc cf y x = true) ∧ (∀ y, t < Y.length → Y[t]? = some y → ltc cf y x = false) ∧ H' = H, fun p _ => (p.1.2.1 - p.1.1).toNat, ⟨0, Y.length, by simp, by simp only; omega, by omega, by omega, by omega, by omega, rfl⟩, ?_⟩
    rintro ⟨⟨i, j, _⟩, _⟩ H1 ⟨s, t, hi, hj, hst, htl, f1, f2, rfl⟩
    simp only at hi hj ⊢
    subst hi; subst hj
    refine br (fun q2 => ?_) fun q2 => ?_
    · simp only [decide_eq_true_eq] at q2
      rw [half64 (by omega)]
      obtain ⟨k, hk⟩ : ∃ k : Nat, (m + (s : Int) + (m + (t : Int))) / 2 = m + k ∧ s ≤ k ∧ k < t := ⟨(s + t) / 2, by omega, by omega, by omega⟩
      rw [hk.1, w64 (k := m + k + 1) (by omega)]
      obtain ⟨A1, e1, g1⟩ := pr_get hsl (i := (m + k).toNat) (p := Y[k]) (get_Y (by omega) (by simp only [List.length_singleton]; omega))
      obtain ⟨A2, e2, g2⟩ := pr_get hsl (i := a.toNat) (p := x) (get_X (X := [x]) (k := 0) (by simp) (by omega))
      cases e1; cases e2
      refine ⟨by decide, _, heap_refl _, ⟨by omega, by omega⟩, ptr rfl (ptr rfl ⟨_, _, _, _, g1, ⟨by omega, by omega⟩, ptr rfl (ptr rfl ⟨_, _, _, _, g2, ?_⟩)⟩)⟩
      refine hc _ _ _ _ ⟨keep_same _ _ _, _, rfl, br (fun q3 => ?_) fun q3 => ?_⟩
      · refine ⟨⟨k + 1, t, by omega, rfl, by omega, htl, fun y _ hy => ?_, f2, rfl⟩, by omega⟩
        rw [Nat.add_sub_cancel, List.getElem?_eq_getElem (by omega)] at hy
        cases hy
        exact q3
      · refine ⟨⟨s, k, rfl, rfl, by omega, by omega, f1, fun y _ hy => ?_, rfl⟩, by omega⟩
        rw [List.getElem?_eq_getElem (by omega)] at hy
        cases hy
        exact q3
    · simp only [decide_eq_false_iff_not] at q2
      have hst' : t = s := by omega
      subst hst'
      have hins : isort (ltc cf) ([x] ++ Y) = Y.take t ++ x :: Y.drop t := by
        have := ins_left hs (x := x) (Y1 := Y.take t) (Y2 := Y.drop t) (by rw [List.take_append_drop]; exact sY) (fun y hy => ?_) (fun y hy => ?_)
        · rwa [List.take_append_drop] at this
        · rcases Nat.eq_zero_or_pos t with h0 | h0
          · subst h0; simp at hy
          · rw [last_take h0 htl] at hy
            exact f1 y h0 hy
        · rw [head_drop] at hy
          have : t < Y.length := by
            rcases Nat.lt_or_ge t Y.length with h | h
            · exact h
            · rw [List.getElem?_eq_none h] at hy; cases hy
          exact f2 y this hy
      rw [w64 (k := m + t - 1) (by omega)]
      refine ⟨fun p H' => ∃ u : Nat, p.1.1 = a + u ∧ u ≤ t ∧ RowAt H' (.slice (some Ad) n c) ty 4 (pts (A ++ Y.take u ++ x :: Y.drop u ++ B)) ∧ Mod (.slice (some Ad) n c) H1 H', fun p _ => (m + t - p.1.1).toNat, ⟨0, by simp, by omega, by simpa using hrow, Mod.refl _ _⟩, ?_⟩
      rintro ⟨⟨i, _⟩, _⟩ H2 ⟨u, hi, hut, hrow2, hmod2⟩
      simp only at hi ⊢
      subst hi
      refine br (fun q3 => ?_) fun q3 => ?_
      · simp only [decide_eq_true_eq] at q3
        obtain ⟨y, hd, ht, _⟩ := drop_cons (l := Y) (k := u) (by omega)
        rw [w64 (k := a + u + 1) (by omega)]
        have hL : A ++ Y.take u ++ x :: Y.drop u ++ B = (A ++ Y.take u) ++ x :: ([] ++ y :: (Y.drop (u + 1) ++ B)) := by rw [hd]; simp
        rw [hL] at hrow2
        have hl1 : (A ++ Y.take u).length = (a + u).toNat := by rw [List.length_append, List.length_take]; omega
        have hl2 : (a + u).toNat + 1 + ([] : List Pt).length = (a + u + 1).toNat := by simp only [List.length_nil]; omega
        have hsl2 := row_slice hrow2
        obtain ⟨A1, e1, g1⟩ := pr_get hsl2 (i := (a + u).toNat) (p := x) (get_at hl1)
        obtain ⟨A2, e2, g2⟩ := pr_get hsl2 (i := (a + u + 1).toNat) (p := y) (by
          have := get_at (P := (A ++ Y.take u) ++ [x]) (Q := Y.drop (u + 1) ++ B) (x := y) (k := (a + u + 1).toNat) (by rw [List.length_append, hl1]; simp only [List.length_singleton]; omega)
          simpa using this)
        cases e1; cases e2
        obtain ⟨c1, m1, r1, d1⟩ := pr_put hrow2 (i := (a + u).toNat) (by omega) y
        obtain ⟨c2, m2, r2, d2⟩ := pr_put r1 (i := (a + u + 1).toNat) (by omega) x
        rw [set_far hl1 hl2] at r2
        refine ⟨⟨by omega, by omega⟩, ptr rfl (ptr rfl ⟨_, _, _, _, g2, ⟨by omega, by omega⟩, ptr rfl (ptr rfl ⟨_, _, _, _, g1, ⟨by omega, by omega⟩, ptr rfl (ptr rfl ⟨_, _, m1, ⟨by omega, by omega⟩, ptr rfl (ptr rfl ⟨_, _, m2, ⟨u + 1, by omega, by omega, ?_, (hmod2.trans d1).trans d2⟩, by omega⟩)⟩)⟩)⟩)⟩
        rw [ht]
        simpa using r2
      · simp only [decide_eq_false_iff_not] at q3
        have : u = t := by omega
        subst this
        refine h _ ?_ hmod2
        rw [hins]
        simpa using hrow2
  · -- one on the right
    have hy1 : Y.length = 1 := by simp at q1; omega
    obtain ⟨y, rfl⟩ := List.length_eq_one_iff.1 hy1
    simp only [List.length_singleton] at hb hlen0 hN
    refine ⟨fun p H' => ∃ s t : Nat, p.1.1 = a + s ∧ p.1.2.1 = a + t ∧ s ≤ t ∧ t ≤ X.length ∧ (∀ x, 0 < s → X[s - 1]? = some x → ltc cf y x = false) ∧ (∀ x, t < X.length → X[t]? = some x → ltc cf y x = true) ∧ H' = H, fun p _ => (p.1.2.1 - p.1.1).toNat, ⟨0, X.length, by simp, by simp only; omega, by omega, by omega, by omega, by omega, rfl⟩, ?_⟩
    rintro ⟨⟨i, j, _⟩, _⟩ H1 ⟨s, t, hi, hj, hst, htl, f1, f2, rfl⟩
    simp only at hi hj ⊢
    subst hi; subst hj
    refine br (fun q2 => ?_) fun q2 => ?_
    · simp only [decide_eq_true_eq] at q2
      rw [half64 (by omega)]
      obtain ⟨k, hk⟩ : ∃ k : Nat, (a + (s : Int) + (a + (t : Int))) / 2 = a + k ∧ s ≤ k ∧ k < t := ⟨(s + t) / 2, by omega, by omega, by omega⟩
      rw [hk.1, w64 (k := a + k + 1) (by omega)]
      obtain ⟨A1, e1, g1⟩ := pr_get hsl (i := (a + k).toNat) (p := X[k]) (get_X (by omega) (by omega))
      obtain ⟨A2, e2, g2⟩ := pr_get hsl (i := m.toNat) (p := y) (get_Y (Y := [y]) (k := 0) (by simp) (by omega))
      cases e1; cases e2
      refine ⟨by decide, _, heap_refl _, ⟨by omega, by omega⟩, ptr rfl (ptr rfl ⟨_, _, _, _, g2, ⟨by omega, by omega⟩, ptr rfl (ptr rfl ⟨_, _, _, _, g1, ?_⟩)⟩)⟩
      refine hc _ _ _ _ ⟨keep_same _ _ _, _, rfl, br (fun q3 => ?_) fun q3 => ?_⟩
      · refine ⟨⟨k + 1, t, by omega, rfl, by omega, htl, fun x _ hx => ?_, f2, rfl⟩, by omega⟩
        rw [Nat.add_sub_cancel, List.getElem?_eq_getElem (by omega)] at hx
        cases hx
        simpa [ltc] using q3
      · refine ⟨⟨s, k, rfl, rfl, by omega, by omega, f1, fun x _ hx => ?_, rfl⟩, by omega⟩
        rw [List.getElem?_eq_getElem (by omega)] at hx
        cases hx
        simpa [ltc] using q3
    · simp only [decide_eq_false_iff_not] at q2
      have hst' : t = s := by omega
      subst hst'
      have hins : isort (ltc cf) (X ++ [y]) = X.take t ++ y :: X.drop t := by
        have := ins_right hs (y := y) (X1 := X.take t) (X2 := X.drop t) (by rw [List.take_append_drop]; exact sX) (fun x hx => ?_) (fun x hx => ?_)
        · rwa [List.take_append_drop] at this
        · rcases Nat.eq_zero_or_pos t with h0 | h0
          · subst h0; simp at hx
          · rw [last_take h0 htl] at hx
            exact f1 x h0 hx
        · rw [head_drop] at hx
          have : t < X.length := by
            rcases Nat.lt_or_ge t X.length with h | h
            · exact h
            · rw [List.getElem?_eq_none h] at hx; cases hx
          exact f2 x this hx
      refine ⟨fun p H' => ∃ u : Nat, p.1.1 = a + u ∧ t ≤ u ∧ u ≤ X.length ∧ RowAt H' (.slice (some Ad) n c) ty 4 (pts (A ++ X.take u ++ y :: X.drop u ++ B)) ∧ Mod (.slice (some Ad) n c) H1 H', fun p _ => (p.1.1).toNat, ⟨X.length, by simp only; omega, by omega, by omega, by simpa using hrow, Mod.refl _ _⟩, ?_⟩
      rintro ⟨⟨i, _⟩, _⟩ H2 ⟨u, hi, hut, hul, hrow2, hmod2⟩
      simp only at hi ⊢
      subst hi
      refine br (fun q3 => ?_) fun q3 => ?_
      · simp only [decide_eq_true_eq] at q3
        obtain ⟨v, rfl⟩ : ∃ v, u = v + 1 := ⟨u - 1, by omega⟩
        obtain ⟨x, hd, ht, _⟩ := drop_cons (l := X) (k := v) (by omega)
        rw [w64 (k := a + ((v + 1 : Nat) : Int) - 1) (by omega)]
        have hL : A ++ X.take (v + 1) ++ y :: X.drop (v + 1) ++ B = (A ++ X.take v) ++ x :: y :: (X.drop (v + 1) ++ B) := by rw [ht]; simp
        rw [hL] at hrow2
        have hl1 : (A ++ X.take v).length = (a + ((v + 1 : Nat) : Int) - 1).toNat := by rw [List.length_append, List.length_take]; omega
        have hk : (a + ((v + 1 : Nat) : Int)).toNat = (a + ((v + 1 : Nat) : Int) - 1).toNat + 1 := by omega
        rw [hk]
        have hsl2 := row_slice hrow2
        obtain ⟨A1, e1, g1⟩ := pr_get hsl2 (i := (a + ((v + 1 : Nat) : Int) - 1).toNat) (p := x) (get_at hl1)
        obtain ⟨A2, e2, g2⟩ := pr_get hsl2 (i := (a + ((v + 1 : Nat) : Int) - 1).toNat + 1) (p := y) (by
          have := get_at (P := (A ++ X.take v) ++ [x]) (Q := X.drop (v + 1) ++ B) (x := y) (k := (a + ((v + 1 : Nat) : Int) - 1).toNat + 1) (by rw [List.length_append, hl1]; simp only [List.length_singleton])
          simpa using this)
        cases e1; cases e2
        obtain ⟨c1, m1, r1, d1⟩ := pr_put hrow2 (i := (a + ((v + 1 : Nat) : Int) - 1).toNat + 1) (by omega) x
        obtain ⟨c2, m2, r2, d2⟩ := pr_put r1 (i := (a + ((v + 1 : Nat) : Int) - 1).toNat) (by omega) y
        rw [set_two hl1] at r2
        refine ⟨⟨by omega, by omega⟩, ptr rfl (ptr rfl ⟨_, _, _, _, g1, ⟨by omega, by omega⟩, ptr rfl (ptr rfl ⟨_, _, _, _, g2, ⟨by omega, by omega⟩, ptr rfl (ptr rfl ⟨_, _, m1, ⟨by omega, by omega⟩, ptr rfl (ptr rfl ⟨_, _, m2, ⟨v, by omega, by omega, by omega, ?_, (hmod2.trans d1).trans d2⟩, by omega⟩)⟩)⟩)⟩)⟩
        rw [hd]
        simpa using r2
      · simp only [decide_eq_false_iff_not] at q3
        have : u = t := by omega
        subst this
        refine h _ ?_ hmod2
        rw [hins]
        simpa using hrow2
  · -- both longer
    have hx2 : 2 ≤ X.length := by simp at q; omega
    have hy2 : 2 ≤ Y.length := by simp at q1; omega
    rw [half64 (u := a + b) (by omega)]
    generalize hmid : (a + b) / 2 = mid
    have hmb : a + 2 ≤ mid ∧ mid + 2 ≤ b := by omega
    rw [w64 (k := mid + m) (by omega), w64 (k := mid + m - b) (by omega), w64 (k := mid + m - 1) (by omega)]
    refine ⟨by decide, fun p H' => H' = H ∧ ((m > mid ∧ p.1.1 = mid + m - b ∧ p.1.2.1 = mid) ∨ (m ≤ mid ∧ p.1.1 = a ∧ p.1.2.1 = m)), br (fun q2 => ?_) fun q2 => ?_, ?_⟩
    · simp only [decide_eq_true_eq] at q2
      exact ⟨rfl, .inl ⟨q2, rfl, rfl⟩⟩
    · simp only [decide_eq_false_iff_not] at q2
      exact ⟨rfl, .inr ⟨by omega, rfl, rfl⟩⟩
    rintro ⟨⟨st0, r0, _⟩, _⟩ H1 ⟨rfl, hsr⟩
    simp only at hsr ⊢
    have hsr' : a ≤ st0 ∧ st0 ≤ r0 ∧ r0 ≤ m ∧ r0 ≤ mid ∧ mid + m - st0 ≤ b ∧ (a < st0 → mid + m - st0 = b) ∧ (r0 < m → r0 = mid) := by omega
    refine ⟨fun p H' => ∃ s t : Nat, p.1.1 = a + s ∧ p.1.2.1 = a + t ∧ s ≤ t ∧ st0 ≤ a + s ∧ a + t ≤ r0 ∧ (∀ x y, st0 < a + s → X[s - 1]? = some x → Y[(mid - a - s).toNat]? = some y → ltc cf y x = false) ∧ (∀ x y, a + t < r0 → X[t]? = some x → Y[(mid - a - t - 1).toNat]? = some y → ltc cf y x = true) ∧ H' = H1, fun p _ => (p.1.2.1 - p.1.1).toNat, ⟨(st0 - a).toNat, (r0 - a).toNat, by simp only; omega, by simp only; omega, by omega, by omega, by omega, by omega, by omega, rfl⟩, ?_⟩
    rintro ⟨⟨i, j, _⟩, _⟩ H2 ⟨s, t, hi, hj, hst, hs0, ht0, f1, f2, rfl⟩
    simp only at hi hj ⊢
    subst hi; subst hj
    refine br (fun q2 => ?_) fun q2 => ?_
    · simp only [decide_eq_true_eq] at q2
      rw [half64 (by omega)]
      obtain ⟨k, hk⟩ : ∃ k : Nat, (a + (s : Int) + (a + (t : Int))) / 2 = a + k ∧ s ≤ k ∧ k < t := ⟨(s + t) / 2, by omega, by omega, by omega⟩
      rw [hk.1, w64 (k := a + k + 1) (by omega), w64 (k := mid + m - 1 - (a + k)) (by omega)]
      have hkx : k < X.length := by omega
      have hky : (mid - a - k - 1).toNat < Y.length := by omega
      obtain ⟨A1, e1, g1⟩ := pr_get hsl (i := (a + k).toNat) (p := X[k]) (get_X hkx (by omega))
      obtain ⟨A2, e2, g2⟩ := pr_get hsl (i := (mid + m - 1 - (a + k)).toNat) (p := Y[(mid - a - k - 1).toNat]) (get_Y hky (by omega))
      cases e1; cases e2
      refine ⟨by decide, _, heap_refl _, ⟨by omega, by omega⟩, ptr rfl (ptr rfl ⟨_, _, _, _, g2, ⟨by omega, by omega⟩, ptr rfl (ptr rfl ⟨_, _, _, _, g1, ?_⟩)⟩)⟩
      refine hc _ _ _ _ ⟨keep_same _ _ _, _, rfl, br (fun q3 => ?_) fun q3 => ?_⟩
      · refine ⟨⟨k + 1, t, by omega, rfl, by omega, by omega, ht0, fun x y _ hx hy => ?_, f2, rfl⟩, by omega⟩
        rw [Nat.add_sub_cancel, List.getElem?_eq_getElem hkx] at hx
        rw [show (mid - a - ((k + 1 : Nat) : Int)).toNat = (mid - a - k - 1).toNat by omega, List.getElem?_eq_getElem hky] at hy
        cases hx; cases hy
        simpa [ltc] using q3
      · refine ⟨⟨s, k, rfl, rfl, by omega, hs0, by omega, f1, fun x y _ hx hy => ?_, rfl⟩, by omega⟩
        rw [List.getElem?_eq_getElem hkx] at hx
        rw [List.getElem?_eq_getElem hky] at hy
        cases hx; cases hy
        simpa [ltc] using q3
    · simp only [decide_eq_false_iff_not] at q2
      have hst' : t = s := by omega
      subst hst'
      -- the four parts
      obtain ⟨d, hd⟩ : ∃ d : Nat, mid = a + t + d := ⟨(mid - a - t).toNat, by omega⟩
      have hXs : X.take t ++ X.drop t = X := List.take_append_drop ..
      have hYs : Y.take d ++ Y.drop d = Y := List.take_append_drop ..
      have lX1 : (X.take t).length = t := by rw [List.length_take]; omega
      have lX2 : (X.drop t).length = X.length - t := by simp
      have lY1 : (Y.take d).length = d := by rw [List.length_take]; omega
      have lY2 : (Y.drop d).length = Y.length - d := by simp
      have hfin : isort (ltc cf) (X.take t ++ Y.take d) ++ isort (ltc cf) (X.drop t ++ Y.drop d) = isort (ltc cf) (X ++ Y) := by
        have hb1 := borders hs (X1 := X.take t) (X2 := X.drop t) (Y1 := Y.take d) (Y2 := Y.drop d) (by rw [hXs]; exact sX) (by rw [hYs]; exact sY) (fun x y hx hy => ?_) (fun x y hx hy => ?_)
        · have := merge_halves hs (X1 := X.take t) (X2 := X.drop t) (Y1 := Y.take d) (Y2 := Y.drop d) (by rw [hXs]; exact sX) (by rw [hYs]; exact sY) hb1.1 hb1.2
          rwa [hXs, hYs] at this
        · rw [head_drop] at hy
          have h3 : d < Y.length := by
            rcases Nat.lt_or_ge d Y.length with h | h
            · exact h
            · rw [List.getElem?_eq_none h] at hy; cases hy
          have h4 : 0 < t := by
            rcases Nat.eq_zero_or_pos t with h0 | h0
            · subst h0; simp at hx
            · exact h0
          rw [last_take h4 (by omega)] at hx
          refine f1 x y (by omega) hx ?_
          rw [show (mid - a - (t : Int)).toNat = d by omega]; exact hy
        · rw [head_drop] at hx
          have h3 : t < X.length := by
            rcases Nat.lt_or_ge t X.length with h | h
            · exact h
            · rw [List.getElem?_eq_none h] at hx; cases hx
          have h4 : 0 < d := by
            rcases Nat.eq_zero_or_pos d with h0 | h0
            · subst h0; simp at hy
            · exact h0
          rw [last_take h4 (by omega)] at hy
          refine f2 x y (by omega) hx ?_
          rw [show (mid - a - (t : Int) - 1).toNat = d - 1 by omega]; exact hy
      rw [← hXs] at sX
      rw [← hYs] at sY
      have pX := List.pairwise_append.1 sX
      have pY := List.pairwise_append.1 sY
      rw [← hXs, ← hYs] at hrow
      rw [hfin.symm] at h
      generalize X.take t = X1 at *
      generalize X.drop t = X2 at *
      generalize Y.take d = Y1 at *
      generalize Y.drop d = Y2 at *
      rw [w64 (k := mid + m - (a + t)) (by omega)]
      have hend : mid + m - (a + (t : Int)) = m + d := by omega
      rw [hend]
      refine ⟨fun _ H' => RowAt H' (.slice (some Ad) n c) ty 4 (pts (A ++ (X1 ++ Y1) ++ (X2 ++ Y2) ++ B)) ∧ Mod (.slice (some Ad) n c) H2 H', ?_, ?_⟩
      · refine br (fun q3 => br (fun q4 => ?_) fun q4 => ?_) fun q3 => ?_
        · simp only [decide_eq_true_eq] at q3 q4
          refine s_rot (ty := ty) (A := A ++ X1) (X := X2) (Y := Y1) (B := Y2 ++ B) (by simp; omega) (by omega) (by omega) (by simpa using hrow) (by omega) (by omega) hn fun H3 hr hmd => ⟨rfl, by simpa using hr, hmd⟩
        · simp only [decide_eq_false_iff_not] at q4
          have : Y1 = [] := List.length_eq_zero_iff.1 (by omega)
          subst this
          exact ⟨by simpa using hrow, Mod.refl _ _⟩
        · simp only [decide_eq_false_iff_not] at q3
          have : X2 = [] := List.length_eq_zero_iff.1 (by omega)
          subst this
          exact ⟨by simpa using hrow, Mod.refl _ _⟩
      rintro _ H3 ⟨hrow3, hmod3⟩
      refine ⟨fun _ H' => RowAt H' (.slice (some Ad) n c) ty 4 (pts (A ++ isort (ltc cf) (X1 ++ Y1) ++ (X2 ++ Y2) ++ B)) ∧ Mod (.slice (some Ad) n c) H2 H', ?_, ?_⟩
      · refine br (fun q3 => br (fun q4 => ?_) fun q4 => ?_) fun q3 => ?_
        · simp only [decide_eq_true_eq] at q3 q4
          refine ih (X1.length + Y1.length) (by omega) (A := A) (X := X1) (Y := Y1) (B := X2 ++ Y2 ++ B) rfl ha (by omega) (by omega) (by omega) (by omega) pX.1 pY.1 (by simpa using hrow3) fun H4 hr hmd => ⟨rfl, by simpa using hr, hmod3.trans hmd⟩
        · simp only [decide_eq_false_iff_not] at q4
          have : Y1 = [] := List.length_eq_zero_iff.1 (by omega)
          subst this
          rw [List.append_nil, isort_id hs pX.1]
          exact ⟨by simpa using hrow3, hmod3⟩
        · simp only [decide_eq_false_iff_not] at q3
          have : X1 = [] := List.length_eq_zero_iff.1 (by omega)
          subst this
          rw [List.nil_append, isort_id hs pY.1]
          exact ⟨by simpa using hrow3, hmod3⟩
      rintro _ H4 ⟨hrow4, hmod4⟩
      have hl4 : (isort (ltc cf) (X1 ++ Y1)).length = X1.length + Y1.length := by rw [isort_len, List.length_append]
      refine br (fun q3 => br (fun q4 => ?_) fun q4 => ?_) fun q3 => ?_
      · simp only [decide_eq_true_eq] at q3 q4
        refine ih (X2.length + Y2.length) (by omega) (A := A ++ isort (ltc cf) (X1 ++ Y1)) (X := X2) (Y := Y2) (B := B) rfl (by rw [List.length_append, hl4]; omega) (by omega) (by omega) (by omega) (by omega) pX.2.1 pY.2.1 (by simpa using hrow4) fun H5 hr hmd => ⟨rfl, h _ (by simpa using hr) (hmod4.trans hmd)⟩
      · simp only [decide_eq_false_iff_not] at q4
        have : Y2 = [] := List.length_eq_zero_iff.1 (by omega)
        subst this
        rw [List.append_nil] at hrow4 h
        rw [isort_id hs pX.2.1] at h
        exact h _ (by simpa using hrow4) hmod4
      · simp only [decide_eq_false_iff_not] at q3
        have : X2 = [] := List.length_eq_zero_iff.1 (by omega)
        subst this
        rw [List.nil_append] at hrow4 h
        rw [isort_id hs pY.2.1] at h
        exact h _ (by simpa using hrow4) hmod4
theorem flat_len {α : Type} {k : Nat} : ∀ {Ls : List (List α)}, (∀ l ∈ Ls, l.length = k) → Ls.flatten.length = Ls.length * k
  | [], _ => by simp
  | l :: Ls, h => by
    rw [List.flatten_cons, List.length_append, flat_len (fun l hl => h l (List.mem_cons_of_mem _ hl)), h l (List.mem_cons_self ..), List.length_cons, Nat.add_mul, Nat.one_mul, Nat.add_comm]
/-- Sorted blocks of one length, and a shorter rest. -/
structure Blk (lt : Pt → Pt → Bool) (k : Nat) (Ls : List (List Pt)) : Prop where
  len : ∀ l ∈ Ls, l.length = k
  srt : ∀ l ∈ Ls, Srtd lt l
theorem Blk.nil (lt : Pt → Pt → Bool) (k : Nat) : Blk lt k [] := ⟨by simp, by simp⟩
theorem Blk.snoc {lt : Pt → Pt → Bool} {k : Nat} {Ls : List (List Pt)} (h : Blk lt k Ls) {l : List Pt} (h1 : l.length = k) (h2 : Srtd lt l) : Blk lt k (Ls ++ [l]) :=
  ⟨fun x hx => (List.mem_append.1 hx).elim (h.len x) fun hx => by simp at hx; subst hx; exact h1, fun x hx => (List.mem_append.1 hx).elim (h.srt x) fun hx => by simp at hx; subst hx; exact h2⟩
theorem Blk.tail {lt : Pt → Pt → Bool} {k : Nat} {l : List Pt} {Ls : List (List Pt)} (h : Blk lt k (l :: Ls)) : l.length = k ∧ Srtd lt l ∧ Blk lt k Ls :=
  ⟨h.len l (List.mem_cons_self ..), h.srt l (List.mem_cons_self ..), fun x hx => h.len x (List.mem_cons_of_mem _ hx), fun x hx => h.srt x (List.mem_cons_of_mem _ hx)⟩
theorem stab_mid {lt : Pt → Pt → Bool} (hs : SWO lt) {L A X B : List Pt} (h : Stab lt L (A ++ X ++ B)) : Stab lt L (A ++ isort lt X ++ B) :=
  h.trans (Stab.app (Stab.app (Stab.refl A) (isort_stab hs X)) (Stab.refl B))
theorem s_stb {g : Nat} {cf : Pt → Pt → Int} (hc : CmpOK g cf) (hs : SWO (ltc cf)) {Ad : Addr} {n c : Nat} (hn : n ≤ 1000000) {L : List Pt} {m : Int} (hm : (L.length : Int) = m) {R : Ending → Heap → Prop} {H : Heap}
    (hrow : RowAt H (.slice (some Ad) n c) ty 4 (pts L)) (h : ∀ H', RowAt H' (.slice (some Ad) n c) ty 4 (pts (isort (ltc cf) L)) → Mod (.slice (some Ad) n c) H H' → R (.returned (.tuple #[])) H') :
    Meets prog 30 [.slice (some Ad) n c, vi m, .func (.func g) #[] #[]] H R := by
  refine spec_of func30 (by kernel_rfl) (fun t h => by cases h) ?_ (vc_stb Ad n c g m R H) ?_
  · simp [argsR, SV.rep, SC.rep, one]
  unfold nf_stb
  simp only [true_and, delLs_nil, List.nil_append, List.append_nil]
  have hlen0 := (row_len hrow).1
  simp only [pts, List.length_map] at hlen0
  refine ⟨fun p H' => ∃ (Ls : List (List Pt)) (T : List Pt), p.1.1 = Ls.flatten.length ∧ p.1.2.1 = Ls.flatten.length + 20 ∧ Blk (ltc cf) 20 Ls ∧ Stab (ltc cf) L (Ls.flatten ++ T) ∧ RowAt H' (.slice (some Ad) n c) ty 4 (pts (Ls.flatten ++ T)) ∧ Mod (.slice (some Ad) n c) H H', fun p _ => (m + 40 - p.1.2.1).toNat, ⟨[], L, by simp, by simp, Blk.nil .., Stab.refl _, hrow, Mod.refl _ _⟩, ?_⟩
  rintro ⟨⟨i, j, _⟩, _⟩ H1 ⟨Ls, T, hi, hj, hB, hS, hrow1, hmod1⟩
  simp only at hi hj ⊢
  subst hi; subst hj
  have hl1 := hS.len hs
  rw [List.length_append] at hl1
  refine br (fun q => ?_) fun q => ?_
  · simp only [decide_eq_true_eq] at q
    have e : T.take 20 ++ T.drop 20 = T := List.take_append_drop ..
    have l1 : (T.take 20).length = 20 := by rw [List.length_take]; omega
    have e2 : Ls.flatten ++ T = Ls.flatten ++ T.take 20 ++ T.drop 20 := by rw [List.append_assoc, e]
    rw [e2] at hS hrow1
    refine s_ins hc hs (A := Ls.flatten) (X := T.take 20) (B := T.drop 20) rfl (by omega) hrow1 hn fun H2 hr hmd => ⟨rfl, ⟨Ls ++ [isort (ltc cf) (T.take 20)], T.drop 20, ?_, ?_, hB.snoc (by rw [isort_len, l1]) (isort_srtd hs _), ?_, ?_, hmod1.trans hmd⟩, ?_⟩
    · simp only [List.flatten_append, List.flatten_cons, List.flatten_nil, List.append_nil, List.length_append, isort_len, l1]; omega
    · simp only [List.flatten_append, List.flatten_cons, List.flatten_nil, List.append_nil, List.length_append, isort_len, l1]; rw [w64 (by omega)]; omega
    · have := stab_mid hs hS; simpa using this
    · simpa using hr
    · rw [w64 (by omega)]; omega
  · simp only [decide_eq_false_iff_not] at q
    have e2 : Ls.flatten ++ T = Ls.flatten ++ T ++ [] := by simp
    rw [e2] at hrow1
    refine s_ins hc hs (A := Ls.flatten) (X := T) (B := []) rfl (by omega) hrow1 hn fun H2 hr hmd => ⟨rfl, ?_⟩
    refine ⟨fun p H' => ∃ (k : Nat) (Ls : List (List Pt)) (T : List Pt), p.1.1 = k ∧ 20 ≤ k ∧ k ≤ 2000000 ∧ Blk (ltc cf) k Ls ∧ T.length < k ∧ Srtd (ltc cf) T ∧ Stab (ltc cf) L (Ls.flatten ++ T) ∧ RowAt H' (.slice (some Ad) n c) ty 4 (pts (Ls.flatten ++ T)) ∧ Mod (.slice (some Ad) n c) H H', fun p _ => (4000000 - p.1.1).toNat, ⟨20, Ls, isort (ltc cf) T, rfl, by omega, by omega, hB, by rw [isort_len]; omega, isort_srtd hs _, ?_, by simpa using hr, hmod1.trans hmd⟩, ?_⟩
    · have := stab_mid hs (A := Ls.flatten) (X := T) (B := []) (by simpa using hS); simpa using this
    clear hr hmd hmod1 hrow1 e2 q hl1 hS hB
    rintro ⟨⟨i, _⟩, _⟩ H3 ⟨k, Ls, T, hi, hk, hk2, hB, hT, sT, hS, hrow1, hmod1⟩
    simp only at hi ⊢
    subst hi
    have hl1 := hS.len hs
    rw [List.length_append] at hl1
    have hfl := flat_len hB.len
    refine br (fun q => ?_) fun q => ?_
    · simp only [decide_eq_true_eq] at q
      rw [w64 (k := 2 * (k : Int)) (by omega), w64 (k := (k : Int) * 2) (by omega)]
      refine ⟨fun p H' => ∃ (Ms Ls : List (List Pt)), p.1.1 = Ms.flatten.length ∧ p.1.2.1 = Ms.flatten.length + 2 * k ∧ Blk (ltc cf) (k * 2) Ms ∧ Blk (ltc cf) k Ls ∧ Stab (ltc cf) L (Ms.flatten ++ Ls.flatten ++ T) ∧ RowAt H' (.slice (some Ad) n c) ty 4 (pts (Ms.flatten ++ Ls.flatten ++ T)) ∧ Mod (.slice (some Ad) n c) H H', fun p _ => (m + 2 * k + 2 * k - p.1.2.1).toNat, ⟨[], Ls, by simp, by simp, Blk.nil .., hB, by simpa using hS, by simpa using hrow1, hmod1⟩, ?_⟩
      clear hB hS hrow1 hmod1 hl1 hfl
      rintro ⟨⟨i, j, _⟩, _⟩ H4 ⟨Ms, Ls, hi, hj, hM, hB, hS, hrow1, hmod1⟩
      simp only at hi hj ⊢
      subst hi; subst hj
      have hl1 := hS.len hs
      rw [List.length_append, List.length_append] at hl1
      have hfl := flat_len hB.len
      rw [w64 (k := (Ms.flatten.length : Int) + k) (by omega)]
      refine br (fun q1 => ?_) fun q1 => br (fun q2 => ?_) fun q2 => ?_
      · simp only [decide_eq_true_eq] at q1
        match Ls, hB, hS, hrow1, hl1, hfl with
        | [], _, _, _, hl1, _ => rw [List.flatten_nil, List.length_nil] at hl1; omega
        | [X], _, _, _, hl1, hfl => rw [hfl] at hl1; simp only [List.length_singleton] at hl1; omega
        | X :: Y :: Ls, hB, hS, hrow1, hl1, hfl =>
          obtain ⟨lX, sX, hB⟩ := hB.tail
          obtain ⟨lY, sY, hB⟩ := hB.tail
          have e : Ms.flatten ++ (X :: Y :: Ls).flatten ++ T = Ms.flatten ++ (X ++ Y) ++ (Ls.flatten ++ T) := by simp
          rw [e] at hS hrow1
          refine s_sym hc hs hn _ (A := Ms.flatten) (X := X) (Y := Y) (B := Ls.flatten ++ T) rfl rfl (by omega) (by omega) (by omega) (by omega) sX sY (by simpa using hrow1) fun H5 hr hmd => ⟨rfl, ⟨Ms ++ [isort (ltc cf) (X ++ Y)], Ls, ?_, ?_, hM.snoc (by rw [isort_len, List.length_append]; omega) (isort_srtd hs _), hB, ?_, ?_, hmod1.trans hmd⟩, ?_⟩
          · simp only [List.flatten_append, List.flatten_cons, List.flatten_nil, List.append_nil, List.length_append, isort_len, lX, lY]; omega
          · simp only [List.flatten_append, List.flatten_cons, List.flatten_nil, List.append_nil, List.length_append, isort_len, lX, lY]; rw [w64 (by omega)]; omega
          · have := stab_mid hs hS; simpa using this
          · simpa using hr
          · rw [w64 (by omega)]; omega
      · simp only [decide_eq_false_iff_not, decide_eq_true_eq] at q1 q2
        match Ls, hB, hS, hrow1, hl1, hfl with
        | [], _, _, _, hl1, _ => rw [List.flatten_nil, List.length_nil] at hl1; omega
        | X :: Y :: Ls, _, _, _, hl1, hfl =>
          rw [hfl, List.length_cons, List.length_cons, Nat.add_mul, Nat.add_mul] at hl1; omega
        | [X], hB, hS, hrow1, hl1, hfl =>
          obtain ⟨lX, sX, hB⟩ := hB.tail
          have e : Ms.flatten ++ [X].flatten ++ T = Ms.flatten ++ (X ++ T) ++ [] := by simp
          rw [e] at hS hrow1
          rw [hfl] at hl1
          simp only [List.length_singleton] at hl1
          refine s_sym hc hs hn _ (A := Ms.flatten) (X := X) (Y := T) (B := []) rfl rfl (by omega) (by omega) (by omega) (by omega) sX sT (by simpa using hrow1) fun H5 hr hmd => ⟨rfl, ⟨k * 2, Ms, isort (ltc cf) (X ++ T), by omega, by omega, by omega, hM, by rw [isort_len, List.length_append]; omega, isort_srtd hs _, ?_, by simpa using hr, hmod1.trans hmd⟩, by omega⟩
          have := stab_mid hs hS; simpa using this
      · simp only [decide_eq_false_iff_not] at q1 q2
        match Ls, hB, hS, hrow1, hl1, hfl with
        | [], hB, hS, hrow1, _, _ =>
          exact ⟨⟨k * 2, Ms, T, by omega, by omega, by omega, hM, by omega, sT, by simpa using hS, by simpa using hrow1, hmod1⟩, by omega⟩
        | X :: Y :: Ls, _, _, _, hl1, hfl =>
          rw [hfl, List.length_cons, List.length_cons, Nat.add_mul, Nat.add_mul] at hl1; omega
        | [X], hB, hS, hrow1, hl1, hfl =>
          obtain ⟨lX, sX, hB⟩ := hB.tail
          rw [hfl] at hl1
          simp only [List.length_singleton] at hl1
          have : T = [] := List.length_eq_zero_iff.1 (by omega)
          subst this
          exact ⟨⟨k * 2, Ms, X, by omega, by omega, by omega, hM, by omega, sX, by simpa using hS, by simpa using hrow1, hmod1⟩, by omega⟩
    · simp only [decide_eq_false_iff_not] at q
      have hfin : Ls.flatten ++ T = isort (ltc cf) L := by
        refine isort_eq hs ?_ hS
        match Ls, hB, hl1, hfl with
        | [], _, _, _ => simpa using sT
        | X :: Y :: Ls, _, hl1, hfl => rw [hfl, List.length_cons, List.length_cons, Nat.add_mul, Nat.add_mul] at hl1; omega
        | [X], hB, hl1, hfl =>
          obtain ⟨lX, sX, hB⟩ := hB.tail
          rw [hfl] at hl1
          simp only [List.length_singleton] at hl1
          have : T = [] := List.length_eq_zero_iff.1 (by omega)
          subst this
          simpa using sX
      rw [hfin] at hrow1
      exact h _ hrow1 hmod1
end
end Cr

set_option linter.unusedVariables false
set_option linter.unusedSimpArgs false
namespace Cr
open Go Sx
open Go.Proofs.Try
set_option linter.unusedSectionVars false
variable [Dr]
set_option maxRecDepth 100000
theorem heap_trans {A B D : Heap} (h : A ≤ B) (h' : B ≤ D) : A ≤ D := fun b o e => h' b o (h b o e)
/-- What was lent is taken off again. -/
theorem lend_off {H H' : Heap} {v : Value} (hle : H ≤ H') (hf : ∀ b, blockOf v = some b → H b = none) (hb : ∀ b o, H' b = some o → H b = some o ∨ blockOf v = some b) : H'.delO (blockOf v) = H := by
  funext b
  cases e : blockOf v with
  | none =>
    show H' b = H b
    cases q : H' b with
    | none => cases q2 : H b with
      | none => rfl
      | some o => rw [hle _ _ q2] at q; cases q
    | some o =>
      rcases hb b o q with h | h
      · exact h.symm
      · rw [e] at h; cases h
  | some k =>
    show (if b = k then none else H' b) = H b
    by_cases hbk : b = k
    · subst hbk; rw [if_pos rfl, hf b e]
    · rw [if_neg hbk]
      cases q : H' b with
      | none => cases q2 : H b with
        | none => rfl
        | some o => rw [hle _ _ q2] at q; cases q
      | some o =>
        rcases hb b o q with h | h
        · exact h.symm
        · rw [e] at h; cases h; exact (hbk rfl).elim
theorem rowat_known {H : Heap} {v : Value} {ty sz : Nat} {es : List (List Value)} (h : RowAt H v ty sz es) {b : Nat} (hb : blockOf v = some b) : H b ≠ none := by
  rcases h with ⟨rfl, _⟩ | ⟨b', o, cap, c, rfl, h1, _⟩
  · cases hb
  · simp only [blockOf, Option.some.injEq] at hb
    subst hb
    rw [h1]; simp
theorem row_delO {H : Heap} {v : Value} {ty sz : Nat} {es : List (List Value)} {o : Option Nat} (h : RowAt H v ty sz es) (hn : ∀ b, blockOf v = some b → o ≠ some b) : RowAt (H.delO o) v ty sz es := by
  rcases h with h | ⟨b, off, cap, c, rfl, h1, h2⟩
  · exact .inl h
  · refine .inr ⟨b, off, cap, c, rfl, ?_, h2⟩
    cases o with
    | none => exact h1
    | some k => show (if b = k then none else H b) = _; rw [if_neg (fun e => hn b rfl (by rw [e]))]; exact h1
theorem wi64 {k : Int} (h : -9223372036854775808 ≤ k ∧ k ≤ 9223372036854775807) : IntKind.i64.wrap k = k := IntWalk.i64_in _ (by omega)
section
variable {H : Heap} {R : Ending → Heap → Prop}
@[reducible] def cells (l : List Int) : List (List Value) := l.map fun x => [vi x]
theorem ir_get {H : Heap} {a : Option Addr} {n cp : Nat} {l : List Int} (h : SliceAt H (.slice a n cp) 1 (cells l)) {i : Nat} {x : Int} (hx : l[i]? = some x) : ∃ A, a = some A ∧ H.has (A.add (i * 1)) [vi x] := by
  obtain ⟨A, e, _, g⟩ := slice_get h (i := i) (e := [vi x]) (by simp [cells, hx])
  exact ⟨A, e, g⟩
abbrev U32 (x : Int) : Prop := 0 ≤ x ∧ x ≤ 4294967295
end
end Cr

set_option linter.unusedVariables false
set_option linter.unusedSimpArgs false
namespace Sx
open Go Go.Proofs Go.Shelf Go.RowKit Go.Lib Go.Sort
set_option linter.unusedSectionVars false
variable [Dr]
/-- A row's block holds other cells: what is known then. -/
theorem put_row {β : Type} [Inhabited β] {H : Heap} {w : World} {b o cap ty sz : Nat} {c : Array Value} {es es' : List (List Value)} (hs : H.sub w)
    (hb : H b = some (.cells c ty (0, 0))) (hcap : es.length ≤ cap) (hsz : o + cap * sz ≤ c.size)
    (e : β → Value) (d : Array β) (rest : List Value) (hd : d.toList.map e = es'.flatten ++ rest) (hlen : es'.length ≤ es.length) (hds : d.size = es.length * sz)
    (h1 : ∀ x ∈ es', x.length = sz) (h2 : ∀ x ∈ es', ∀ y ∈ x, one y = true) (m : Nat) (os : Array Obj) :
    ∃ H', Step H w H' (grow (putRow e (Sort.ahead w m) b o d) os) ∧ RowAt H' (.slice (some ⟨b, o, none⟩) es'.length cap) ty sz es' ∧ Mod (.slice (some ⟨b, o, none⟩) es'.length cap) H H' := by
  have hwb := hs b _ hb
  have hlt : b < w.heap.size := (Array.getElem?_eq_some_iff.1 hwb).1
  have hm2 : es.length * sz ≤ cap * sz := Nat.mul_le_mul_right _ hcap
  have hc' : (putCells e o d c).size = c.size := by simp [putCells]
  have hheap : (grow (putRow e (Sort.ahead w m) b o d) os).heap = (w.heap.modify b (onCells (putCells e o d))) ++ os := rfl
  have hat : ∀ b', b' < w.heap.size → (grow (putRow e (Sort.ahead w m) b o d) os).heap[b']? = if b = b' then some (.cells (putCells e o d c) ty (0, 0)) else w.heap[b']? := by
    intro b' hb'
    rw [hheap, Array.getElem?_append_left (by simpa using hb'), Array.getElem?_modify]
    by_cases q : b = b'
    · subst q
      rw [if_pos rfl, if_pos rfl, hwb]
      rfl
    · rw [if_neg q, if_neg q]
  refine ⟨H.upd b (.cells (putCells e o d c) ty (0, 0)), ⟨?_, rfl, ⟨rfl, fun _ => Nat.le_add_right _ _⟩, rfl, ?_, ?_, ?_⟩, .inr ⟨b, o, cap, putCells e o d c, rfl, upd_same _ _ _, by omega, by rw [hc']; exact hsz, h1, ?_, h2⟩, ?_⟩
  · intro b' ob hb'
    by_cases q : b' = b
    · subst q
      rw [upd_same] at hb'
      rw [hat _ hlt, if_pos rfl]
      exact hb'
    · rw [upd_ne _ _ q] at hb'
      have := hs b' ob hb'
      rw [hat b' (Array.getElem?_eq_some_iff.1 this).1, if_neg (Ne.symm q)]
      exact this
  · rw [hheap]; simp
  · intro b' hb' e'
    rw [hat b' hb', if_neg (by rintro rfl; rw [hb] at e'; cases e')]
  · intro b' hb' e'
    rw [upd_ne _ _ (by rintro rfl; rw [hb] at e'; cases e')]
    exact e'
  · have hfl : es'.flatten.length = es'.length * sz := by
      have : ∀ (l : List (List Value)), (∀ x ∈ l, x.length = sz) → l.flatten.length = l.length * sz := by
        intro l
        induction l with
        | nil => intro _; simp
        | cons x r ih =>
          intro h
          rw [List.flatten_cons, List.length_append, ih fun y hy => h y (List.mem_cons_of_mem _ hy), h x List.mem_cons_self, List.length_cons, Nat.add_mul, Nat.one_mul, Nat.add_comm]
      exact this es' h1
    have hml : es'.length * sz ≤ es.length * sz := Nat.mul_le_mul_right _ hlen
    refine List.ext_getElem? fun j => ?_
    by_cases hj : j < es'.length * sz
    · rw [List.getElem?_take_of_lt hj, List.getElem?_drop, Array.getElem?_toList]
      have hjc : o + j < c.size := by omega
      have e1 : (putCells e o d c)[o + j]? = some (e d[j]!) := by
        unfold putCells
        rw [Array.getElem?_mapIdx, Array.getElem?_eq_getElem hjc]
        simp only [Option.map_some]
        rw [if_pos ⟨by omega, by omega⟩]
        congr 3
        omega
      rw [e1]
      have hjd : j < d.size := by omega
      have e2 : (d.toList.map e)[j]? = some (e d[j]!) := by
        rw [List.getElem?_map, Array.getElem?_toList, Array.getElem?_eq_getElem hjd, getElem!_pos d j hjd]
        rfl
      rw [hd, List.getElem?_append_left (by omega)] at e2
      exact e2.symm
    · rw [List.getElem?_eq_none (by rw [List.length_take]; omega), List.getElem?_eq_none (by omega)]
  · intro b' hb'
    simp [blockOf] at hb'
    exact upd_ne _ _ (fun e => hb' e.symm)
theorem mod_off {v : Value} {A B : Heap} (h : Mod v A B) : B.delO (blockOf v) = A.delO (blockOf v) := by
  funext b
  cases e : blockOf v with
  | none => exact h b (by rw [e]; simp)
  | some k =>
    show (if b = k then none else B b) = (if b = k then none else A b)
    by_cases q : b = k
    · rw [if_pos q, if_pos q]
    · rw [if_neg q, if_neg q]; exact h b (by rw [e]; simpa using fun e => q e.symm)
section
variable {P : Program} {ρ : Ren} {α : Type} [Inhabited α]
theorem holds_row {H : Heap} {w : World} {b o cap ty sz : Nat} {c : Array Value} {es : List (List Value)} {β : Type} [Inhabited β] (hs : H.sub w)
    (hb : H b = some (.cells c ty (0, 0))) (hcap : es.length ≤ cap) (hsz : o + cap * sz ≤ c.size) (hes : ∀ x ∈ es, x.length = sz) (hfl : (c.toList.drop o).take (es.length * sz) = es.flatten)
    (e : β → Value) (d : Array β) (hd : d.toList.map e = es.flatten) (hds : d.size = es.length * sz) : Holds e w b o d := by
  intro j hj
  have hwb := hs b _ hb
  have hm2 : es.length * sz ≤ cap * sz := Nat.mul_le_mul_right _ hcap
  refine ⟨?_, ?_⟩
  · unfold World.cell?
    rw [show (⟨b, o + j, none⟩ : Addr).block = b from rfl, hwb]
    show (if (none : Option _).isSome then none else c[o + j]?) = _
    rw [if_neg (by simp)]
    have e1 : (es.flatten)[j]? = c[o + j]? := by
      rw [← hfl, List.getElem?_take_of_lt (by omega), List.getElem?_drop, Array.getElem?_toList]
    rw [← e1, ← hd, List.getElem?_map, Array.getElem?_toList, Array.getElem?_eq_getElem hj, getElem!_pos d j hj]
    rfl
  · unfold World.frozen?
    rw [show (⟨b, o + j, none⟩ : Addr).block = b from rfl, hwb]
    show (decide (0 ≤ o + j) && decide (o + j < 0)) = false
    simp
theorem flat_ints {k : IntKind} (l : List Int) : (l.map fun x => [Value.int k x]).flatten = l.map (Value.int k) := by
  induction l with
  | nil => rfl
  | cons x r ih => simp [ih]
/-- **slices.Sort** of numbers. -/
theorem meets_sortInt (L : Lays.n189 P ρ) (hsf : callable P (ρ.f 189) = true) {H : Heap} {R : Ending → Heap → Prop} {v : Value} {ty : Nat} {l : List Int} (h : RowAt H v ty 1 (l.map fun x => [.int .i64 x])) (hl : l.length < 4611686018427387904)
    (K : ∀ H', RowAt H' v ty 1 ((l.mergeSort fun x y => decide (x ≤ y)).map fun x => [.int .i64 x]) → Mod v H H' → R (.returned (.tuple #[])) H') : Meets P (ρ.f 189) [v] H R := by
  refine ⟨hsf, fun w hw => ?_⟩
  rcases h with ⟨rfl, he⟩ | ⟨b, o, cap, c, rfl, hb, hcap, hsz, hes, hfl, hon⟩
  · have hl0 : l = [] := by cases l with | nil => rfl | cons _ _ => simp at he
    subst hl0
    refine (Any.slices_Sort_int_none L none 0 w).mono ?_
    rintro e w' ⟨rfl, rfl⟩
    exact ⟨H, ⟨hw, rfl, Tp.refl _, rfl, Nat.le_refl _, fun _ _ _ => rfl, fun _ _ e => e⟩, K H (.inl ⟨rfl, by simp⟩) (Mod.refl _ _)⟩
  · have hH : Holds (Value.int .i64) w b o l.toArray := holds_row (es := l.map fun x => [.int .i64 x]) hw hb hcap hsz hes hfl _ _ (by rw [flat_ints]) (by simp)
    have hblk : b < w.heap.size := (Array.getElem?_eq_some_iff.1 (hw b _ hb)).1
    have h := Any.slices_Sort_int L b o cap l w hH hblk hl
    have ea : (#[.slice (some ⟨b, o, none⟩) l.length cap] : Array Value) = [Value.slice (some ⟨b, o, none⟩) (l.map fun x => [Value.int .i64 x]).length cap].toArray := by simp
    rw [ea] at h
    refine h.mono ?_
    rintro e w' ⟨rfl, n, os, rfl⟩
    have hdl : (l.mergeSort fun x y => decide (x ≤ y)).length = l.length := List.length_mergeSort _
    obtain ⟨H', st, hr, hm⟩ := put_row (es := l.map fun x => [.int .i64 x]) (es' := (l.mergeSort fun x y => decide (x ≤ y)).map fun x => [.int .i64 x]) hw hb hcap hsz (Value.int .i64) (l.mergeSort fun x y => decide (x ≤ y)).toArray [] (by rw [flat_ints]; simp) (by simp [hdl]) (by simp [hdl])
      (by intro x hx; simp at hx; obtain ⟨y, _, rfl⟩ := hx; rfl) (by intro x hx y hy; simp at hx; obtain ⟨z, _, rfl⟩ := hx; simp at hy; subst hy; rfl) n os
    have el : ((l.mergeSort fun x y => decide (x ≤ y)).map fun x => [Value.int .i64 x]).length = (l.map fun x => [Value.int .i64 x]).length := by simp [hdl]
    rw [el] at hr hm
    exact ⟨H', st, K H' hr hm⟩
theorem compact_len (l : List Int) : (Lib.compact l).length ≤ l.length := by
  unfold Lib.compact compactUpTo
  rw [List.length_map]
  have := List.length_filter_le (fun j => keeps l.toArray j) (List.range l.length)
  simpa using this
/-- **slices.Compact** of numbers: the row gets shorter where it stands. -/
theorem meets_compactInt (L : Lays2.n20 P ρ) (hsf : callable P (ρ.f 20) = true) {H : Heap} {R : Ending → Heap → Prop} {v : Value} {ty : Nat} {l : List Int} (h : RowAt H v ty 1 (l.map fun x => [.int .i64 x])) (hl : l.length ≤ 4611686018427387904)
    (K : ∀ v' H', RowAt H' v' ty 1 ((Lib.compact l).map fun x => [.int .i64 x]) → blockOf v' = blockOf v → Mod v H H' → R (.returned v') H') : Meets P (ρ.f 20) [v] H R := by
  refine ⟨hsf, fun w hw => ?_⟩
  rcases h with ⟨rfl, he⟩ | ⟨b, o, cap, c, rfl, hb, hcap, hsz, hes, hfl, hon⟩
  · have hl0 : l = [] := by cases l with | nil => rfl | cons _ _ => simp at he
    subst hl0
    refine (Any.slices_Compact_int_empty L none 0 w).mono ?_
    rintro e w' ⟨rfl, rfl⟩
    exact ⟨H, ⟨hw, rfl, Tp.refl _, rfl, Nat.le_refl _, fun _ _ _ => rfl, fun _ _ e => e⟩, K _ H (.inl ⟨rfl, by simp [Lib.compact, Lib.compactUpTo]⟩) rfl (Mod.refl _ _)⟩
  · have hH : Holds (Value.int .i64) w b o l.toArray := holds_row (es := l.map fun x => [.int .i64 x]) hw hb hcap hsz hes hfl _ _ (by rw [flat_ints]) (by simp)
    have hblk : b < w.heap.size := (Array.getElem?_eq_some_iff.1 (hw b _ hb)).1
    have h := Any.slices_Compact_int L b o cap l w hH (by omega) (by simpa using hcap)
    have ea : (#[.slice (some ⟨b, o, none⟩) l.length cap] : Array Value) = [Value.slice (some ⟨b, o, none⟩) (l.map fun x => [Value.int .i64 x]).length cap].toArray := by simp
    rw [ea] at h
    refine h.mono ?_
    rintro e w' ⟨rfl, n, rfl⟩
    have hcl : (Lib.compact l).length ≤ l.length := compact_len l
    obtain ⟨H', st, hr, hm⟩ := put_row (es := l.map fun x => [.int .i64 x]) (es' := (Lib.compact l).map fun x => [.int .i64 x]) hw hb hcap hsz (Value.int .i64) (Lib.compact l ++ List.replicate (l.length - (Lib.compact l).length) 0).toArray
      ((List.replicate (l.length - (Lib.compact l).length) 0).map (Value.int .i64)) (by rw [flat_ints]; simp) (by simpa using hcl) (by simp; omega)
      (by intro x hx; simp at hx; obtain ⟨y, _, rfl⟩ := hx; rfl) (by intro x hx y hy; simp at hx; obtain ⟨z, _, rfl⟩ := hx; simp at hy; subst hy; rfl) n #[]
    have el : ((Lib.compact l).map fun x => [Value.int .i64 x]).length = (Lib.compact l).length := by simp
    rw [el] at hr hm
    have eg : ∀ W : World, grow W #[] = W := fun W => by simp [grow]
    rw [eg] at st
    exact ⟨H', st, K _ H' hr rfl hm⟩
end
end Sx

set_option linter.unusedVariables false
set_option linter.unusedSimpArgs false
set_option maxRecDepth 100000
namespace Go.Proofs
def sortInt_ren : Go.Shelf.Ren := ⟨fun | 189 => 18 | 125 => 27 | 257 => 26 | 128 => 41 | 129 => 42 | 294 => 32 | 295 => 33 | 296 => 34 | 297 => 35 | 298 => 36 | 299 => 37 | 216 => 38 | 300 => 39 | 301 => 40 | 328 => 45 | 329 => 46 | 330 => 47 | 331 => 48 | 332 => 49 | 215 => 31 | 343 => 51 | n => n, fun | 28 => 37 | 3 => 3 | 46 => 53 | 0 => 0 | 51 => 31 | 53 => 69 | 4 => 4 | 183 => 60 | 182 => 59 | 131 => 65 | 5 => 5 | 9 => 9 | 218 => 72 | 222 => 76 | 228 => 78 | 229 => 79 | n => n, fun | n => n⟩
theorem sortInt : Go.Proofs.Lays.n189 Try.prog sortInt_ren := {
  mixed := by kernel_rfl,
  f125 := Try.func27.trans (congrArg some (by kernel_rfl)),
  f128 := Try.func41.trans (congrArg some (by kernel_rfl)),
  f129 := Try.func42.trans (congrArg some (by kernel_rfl)),
  f189 := Try.func18.trans (congrArg some (by kernel_rfl)),
  f215 := Try.func31.trans (congrArg some (by kernel_rfl)),
  f216 := Try.func38.trans (congrArg some (by kernel_rfl)),
  f257 := Try.func26.trans (congrArg some (by kernel_rfl)),
  f294 := Try.func32.trans (congrArg some (by kernel_rfl)),
  f295 := Try.func33.trans (congrArg some (by kernel_rfl)),
  f296 := Try.func34.trans (congrArg some (by kernel_rfl)),
  f297 := Try.func35.trans (congrArg some (by kernel_rfl)),
  f298 := Try.func36.trans (congrArg some (by kernel_rfl)),
  f299 := Try.func37.trans (congrArg some (by kernel_rfl)),
  f300 := Try.func39.trans (congrArg some (by kernel_rfl)),
  f301 := Try.func40.trans (congrArg some (by kernel_rfl)),
  f328 := Try.func45.trans (congrArg some (by kernel_rfl)),
  f329 := Try.func46.trans (congrArg some (by kernel_rfl)),
  f330 := Try.func47.trans (congrArg some (by kernel_rfl)),
  f331 := Try.func48.trans (congrArg some (by kernel_rfl)),
  f332 := Try.func49.trans (congrArg some (by kernel_rfl)),
  f343 := Try.func51.trans (congrArg some (by kernel_rfl)),
  t0 := Try.underlying0,
  a0 := Try.isAgg0,
  z0 := Try.sizeOf0,
  v0 := Try.zeroValue0,
  t3 := Try.underlying3,
  a3 := Try.isAgg3,
  z3 := Try.sizeOf3,
  v3 := Try.zeroValue3,
  t4 := Try.underlying4,
  a4 := Try.isAgg4,
  z4 := Try.sizeOf4,
  v4 := Try.zeroValue4,
  t5 := Try.underlying5,
  a5 := Try.isAgg5,
  z5 := Try.sizeOf5,
  v5 := Try.zeroValue5,
  t9 := Try.underlying9,
  a9 := Try.isAgg9,
  z9 := Try.sizeOf9,
  v9 := Try.zeroValue9,
  t28 := Try.underlying37,
  a28 := Try.isAgg37,
  z28 := Try.sizeOf37,
  v28 := Try.zeroValue37,
  t46 := Try.underlying53,
  a46 := Try.isAgg53,
  z46 := Try.sizeOf53,
  v46 := Try.zeroValue53,
  t51 := Try.underlying31,
  a51 := Try.isAgg31,
  z51 := Try.sizeOf31,
  v51 := Try.zeroValue31,
  t53 := Try.underlying69,
  a53 := Try.isAgg69,
  z53 := Try.sizeOf69,
  v53 := Try.zeroValue69,
  t131 := Try.underlying65,
  a131 := Try.isAgg65,
  z131 := Try.sizeOf65,
  v131 := Try.zeroValue65,
  t182 := Try.underlying59,
  a182 := Try.isAgg59,
  z182 := Try.sizeOf59,
  v182 := Try.zeroValue59,
  t183 := Try.underlying60,
  a183 := Try.isAgg60,
  z183 := Try.sizeOf60,
  v183 := Try.zeroValue60,
  t218 := Try.underlying72,
  a218 := Try.isAgg72,
  z218 := Try.sizeOf72,
  v218 := Try.zeroValue72,
  t222 := Try.underlying76,
  a222 := Try.isAgg76,
  z222 := Try.sizeOf76,
  v222 := Try.zeroValue76,
  t228 := Try.underlying78,
  a228 := Try.isAgg78,
  z228 := Try.sizeOf78,
  v228 := Try.zeroValue78,
  t229 := Try.underlying79,
  a229 := Try.isAgg79,
  z229 := Try.sizeOf79,
  v229 := Try.zeroValue79 }

def compInt_ren : Go.Shelf.Ren := ⟨fun | 20 => 19 | n => n, fun | 22 => 37 | 3 => 3 | 4 => 4 | 0 => 0 | n => n, fun | n => n⟩
theorem compInt : Go.Proofs.Lays2.n20 Try.prog compInt_ren := {
  mixed := by kernel_rfl,
  f20 := Try.func19.trans (congrArg some (by kernel_rfl)),
  t0 := Try.underlying0,
  a0 := Try.isAgg0,
  z0 := Try.sizeOf0,
  v0 := Try.zeroValue0,
  t3 := Try.underlying3,
  a3 := Try.isAgg3,
  z3 := Try.sizeOf3,
  v3 := Try.zeroValue3,
  t4 := Try.underlying4,
  a4 := Try.isAgg4,
  z4 := Try.sizeOf4,
  v4 := Try.zeroValue4,
  t22 := Try.underlying37,
  a22 := Try.isAgg37,
  z22 := Try.sizeOf37,
  v22 := Try.zeroValue37,
  i3 := by kernel_rfl }

end Go.Proofs

set_option linter.unusedVariables false
set_option linter.unusedSimpArgs false
namespace Cr
open Go Sx Stb
open Go.Sort (SWO)
open Go.Proofs.Try
set_option linter.unusedSectionVars false
variable [Dr]
set_option maxRecDepth 100000
abbrev ptA (i x y : Int) (d : ByteArray) : SV := .agg [.c (.v (.int .i64 i)), .c (.v (.int .u32 x)), .c (.v (.int .u32 y)), .c (.v (.string d))]
def h_idx : Hints := { loops := [(2, ⟨[0, 1, 4, 7], [.f 8 (.int .i64)], []⟩)] }
def h_points : Hints := { eqs := [33], loops := [(4, ⟨[0, 1, 4], [.f 5 (.int .i64)], []⟩)] }
def h_rsort : Hints := { loops := [(3, ⟨[0, 2], [.row 3 33 4, .f 4 (.int .i64)], []⟩), (6, ⟨[0, 2, 4], [.row 3 33 4, .f 5 (.int .i64)], []⟩)] }
def h_sdel : Hints := { inp := [26] }
def nf_clone (a : Option Addr) (n : Nat) (c : Nat) (R : Ending → Heap → Prop) (H : Heap) : Prop := Br (Option.isNone a) (R (Ending.returned (Value.slice none (0 : Nat) (0 : Nat))) H) (∃ (es2 : List (List Value)), SliceAt H (Value.slice a n c) (4 : Nat) es2 ∧ List.length es2 * (32 : Nat) ≤ (140737488355328 : Nat) ∧ ∀ (v : Value) (H' : Nat → Option Obj), H ≤ H' → (∀ (b : Nat), blockOf v = some b → H b = none) → (∀ (b : Nat) (o : Obj), H' b = some o → H b = some o ∨ blockOf v = some b) → RowAt H' v (33 : Nat) (4 : Nat) es2 → R (Ending.returned v) H')
theorem vc_clone (a : Option Addr) (n : Nat) (c : Nat) (R : Ending → Heap → Prop) (H : Heap) : vcFun prog { } f22 [SV.c (SC.v (Value.slice a n c))] R H = nf_clone a n c R H := by kernel_rfl

def nf_idx (a : Option Addr) (n : Nat) (c : Nat) (g : Nat) (caps : Array Value) (R : Ending → Heap → Prop) (H : Heap) : Prop := a = a ∧ n = n ∧ c = c ∧ Value.func (Fn.func g) { toList := [] } caps = Value.func (Fn.func g) { toList := [] } caps ∧ (0 : Int) = (0 : Int) ∧ (↑n : Int) = (↑n : Int) ∧ LoopP (fun (K : (Int × PUnit) × PUnit → (Nat → Option Obj) → Prop) (p : (Int × PUnit) × PUnit) (H : Nat → Option Obj) ↦ Br (decide (p.fst.fst < (↑n : Int))) (((0 : Int) ≤ p.fst.fst ∧ p.fst.fst < (↑n : Int)) ∧ PtrK a fun (A : Addr) ↦ PtrK (some (Addr.add A (Int.toNat p.fst.fst * (4 : Nat)))) fun (a_1 : Addr) ↦ ∃ (n_1 : Int), ∃ (n_2 : Int), ∃ (n_3 : Int), ∃ (s : ByteArray), Heap.has H a_1 [Value.int IntKind.i64 n_1, Value.int IntKind.u32 n_2, Value.int IntKind.u32 n_3, Value.string s] ∧ Meets prog g (Value.agg { toList := [Value.int IntKind.i64 n_1, Value.int IntKind.u32 n_2, Value.int IntKind.u32 n_3, Value.string s] } :: caps.1) H fun (e : Ending) (H' : Nat → Option Obj) ↦ ∃ (b : Bool), e = Ending.returned (Value.bool b) ∧ Br b (R (Ending.returned (Value.int IntKind.i64 p.fst.fst)) H') (a = a ∧ n = n ∧ c = c ∧ Value.func (Fn.func g) { toList := [] } caps = Value.func (Fn.func g) { toList := [] } caps ∧ (0 : Int) = (0 : Int) ∧ (↑n : Int) = (↑n : Int) ∧ K ((IntKind.wrap IntKind.i64 (p.fst.fst + (1 : Int)), PUnit.unit), PUnit.unit) H')) (R (Ending.returned (Value.int IntKind.i64 (-1 : Int))) H)) (((0 : Int), PUnit.unit), PUnit.unit) H
theorem vc_idx (a : Option Addr) (n : Nat) (c : Nat) (g : Nat) (caps : Array Value) (R : Ending → Heap → Prop) (H : Heap) : vcFun prog h_idx f28 [SV.c (SC.v (Value.slice a n c)), SV.c (SC.v (Value.func (Fn.func g) #[] caps))] R H = nf_idx a n c g caps R H := by kernel_rfl

def nf_cmpc (x : Int) (y : Int) (R : Ending → Heap → Prop) (H : Heap) : Prop := Meets prog (31 : Nat) [Value.int IntKind.i64 x] H fun (e : Ending) (H' : Nat → Option Obj) ↦ ∃ (b : Bool), e = Ending.returned (Value.bool b) ∧ Meets prog (31 : Nat) [Value.int IntKind.i64 y] H' fun (e : Ending) (H' : Nat → Option Obj) ↦ ∃ (b_1 : Bool), e = Ending.returned (Value.bool b_1) ∧ Br b (Br b_1 (R (Ending.returned (Value.int IntKind.i64 (0 : Int))) H') (R (Ending.returned (Value.int IntKind.i64 (-1 : Int))) H')) (Br b_1 (R (Ending.returned (Value.int IntKind.i64 (1 : Int))) H') (Br (decide (x < y)) (R (Ending.returned (Value.int IntKind.i64 (-1 : Int))) H') (Br (decide (x > y)) (R (Ending.returned (Value.int IntKind.i64 (1 : Int))) H') (R (Ending.returned (Value.int IntKind.i64 (0 : Int))) H'))))
theorem vc_cmpc (x : Int) (y : Int) (R : Ending → Heap → Prop) (H : Heap) : vcFun prog { } f25 [SV.c (SC.v (Value.int IntKind.i64 x)), SV.c (SC.v (Value.int IntKind.i64 y))] R H = nf_cmpc x y R H := by kernel_rfl

def nf_isnan (x : Int) (R : Ending → Heap → Prop) (H : Heap) : Prop := R (Ending.returned (Value.bool (x != x))) H
theorem vc_isnan (x : Int) (R : Ending → Heap → Prop) (H : Heap) : vcFun prog { } f31 [SV.c (SC.v (Value.int IntKind.i64 x))] R H = nf_isnan x R H := by kernel_rfl

def nf_srt1 (i : Int) (x : Int) (y : Int) (d : ByteArray) (i' : Int) (x' : Int) (y' : Int) (d' : ByteArray) (R : Ending → Heap → Prop) (H : Heap) : Prop := Meets prog (25 : Nat) [Value.int IntKind.i64 i, Value.int IntKind.i64 i'] H fun (e : Ending) (H' : Nat → Option Obj) ↦ ∃ (n : Int), e = Ending.returned (Value.int IntKind.i64 n) ∧ R (Ending.returned (Value.int IntKind.i64 n)) H'
theorem vc_srt1 (i : Int) (x : Int) (y : Int) (d : ByteArray) (i' : Int) (x' : Int) (y' : Int) (d' : ByteArray) (R : Ending → Heap → Prop) (H : Heap) : vcFun prog { } f24 [ptA i x y d, ptA i' x' y' d'] R H = nf_srt1 i x y d i' x' y' d' R H := by kernel_rfl

def nf_sst (a : Option Addr) (n : Nat) (c : Nat) (g : Nat) (R : Ending → Heap → Prop) (H : Heap) : Prop := Meets prog (30 : Nat) [Value.slice a n c, Value.int IntKind.i64 (↑n : Int), Value.func (Fn.func g) { toList := [] } { toList := [] }] H fun (e : Ending) (H' : Nat → Option Obj) ↦ e = Ending.returned (Value.tuple { toList := [] }) ∧ R (Ending.returned (Value.tuple { toList := [] })) H'
theorem vc_sst (a : Option Addr) (n : Nat) (c : Nat) (g : Nat) (R : Ending → Heap → Prop) (H : Heap) : vcFun prog { } f23 [SV.c (SC.v (Value.slice a n c)), SV.c (SC.v (Value.func (Fn.func g) #[] #[]))] R H = nf_sst a n c g R H := by kernel_rfl

def nf_stb0 (g : Nat) (R : Ending → Heap → Prop) (H : Heap) : Prop := (none : Option Addr) = none ∧ (0 : Nat) = (0 : Nat) ∧ (0 : Nat) = (0 : Nat) ∧ (0 : Int) = (0 : Int) ∧ Value.func (Fn.func g) { toList := [] } { toList := [] } = Value.func (Fn.func g) { toList := [] } { toList := [] } ∧ (20 : Int) = (20 : Int) ∧ LoopP (fun (K : (Int × Int × PUnit) × PUnit → (Nat → Option Obj) → Prop) (p : (Int × Int × PUnit) × PUnit) (H : Nat → Option Obj) ↦ Br (decide (p.fst.snd.fst ≤ (0 : Int))) (Meets prog (43 : Nat) [Value.slice none (0 : Nat) (0 : Nat), Value.int IntKind.i64 p.fst.fst, Value.int IntKind.i64 p.fst.snd.fst, Value.func (Fn.func g) { toList := [] } { toList := [] }] H fun (e : Ending) (H' : Nat → Option Obj) ↦ e = Ending.returned (Value.tuple { toList := [] }) ∧ (none : Option Addr) = none ∧ (0 : Nat) = (0 : Nat) ∧ (0 : Nat) = (0 : Nat) ∧ (0 : Int) = (0 : Int) ∧ Value.func (Fn.func g) { toList := [] } { toList := [] } = Value.func (Fn.func g) { toList := [] } { toList := [] } ∧ (20 : Int) = (20 : Int) ∧ K ((p.fst.snd.fst, IntKind.wrap IntKind.i64 (p.fst.snd.fst + (20 : Int)), PUnit.unit), PUnit.unit) H') (Meets prog (43 : Nat) [Value.slice none (0 : Nat) (0 : Nat), Value.int IntKind.i64 p.fst.fst, Value.int IntKind.i64 (0 : Int), Value.func (Fn.func g) { toList := [] } { toList := [] }] H fun (e : Ending) (H' : Nat → Option Obj) ↦ e = Ending.returned (Value.tuple { toList := [] }) ∧ (none : Option Addr) = none ∧ (0 : Nat) = (0 : Nat) ∧ (0 : Nat) = (0 : Nat) ∧ (0 : Int) = (0 : Int) ∧ Value.func (Fn.func g) { toList := [] } { toList := [] } = Value.func (Fn.func g) { toList := [] } { toList := [] } ∧ LoopP (fun (K : (Int × PUnit) × PUnit → (Nat → Option Obj) → Prop) (p : (Int × PUnit) × PUnit) (H : Nat → Option Obj) ↦ Br (decide (p.fst.fst < (0 : Int))) ((none : Option Addr) = none ∧ (0 : Nat) = (0 : Nat) ∧ (0 : Nat) = (0 : Nat) ∧ (0 : Int) = (0 : Int) ∧ Value.func (Fn.func g) { toList := [] } { toList := [] } = Value.func (Fn.func g) { toList := [] } { toList := [] } ∧ p.fst.fst = p.fst.fst ∧ LoopP (fun (K_1 : (Int × Int × PUnit) × PUnit → (Nat → Option Obj) → Prop) (p_1 : (Int × Int × PUnit) × PUnit) (H : Nat → Option Obj) ↦ Br (decide (p_1.fst.snd.fst ≤ (0 : Int))) (Meets prog (44 : Nat) [Value.slice none (0 : Nat) (0 : Nat), Value.int IntKind.i64 p_1.fst.fst, Value.int IntKind.i64 (IntKind.wrap IntKind.i64 (p_1.fst.fst + p.fst.fst)), Value.int IntKind.i64 p_1.fst.snd.fst, Value.func (Fn.func g) { toList := [] } { toList := [] }] H fun (e : Ending) (H' : Nat → Option Obj) ↦ e = Ending.returned (Value.tuple { toList := [] }) ∧ (none : Option Addr) = none ∧ (0 : Nat) = (0 : Nat) ∧ (0 : Nat) = (0 : Nat) ∧ (0 : Int) = (0 : Int) ∧ Value.func (Fn.func g) { toList := [] } { toList := [] } = Value.func (Fn.func g) { toList := [] } { toList := [] } ∧ p.fst.fst = p.fst.fst ∧ K_1 ((p_1.fst.snd.fst, IntKind.wrap IntKind.i64 (p_1.fst.snd.fst + IntKind.wrap IntKind.i64 ((2 : Int) * p.fst.fst)), PUnit.unit), PUnit.unit) H') (Br (decide (IntKind.wrap IntKind.i64 (p_1.fst.fst + p.fst.fst) < (0 : Int))) (Meets prog (44 : Nat) [Value.slice none (0 : Nat) (0 : Nat), Value.int IntKind.i64 p_1.fst.fst, Value.int IntKind.i64 (IntKind.wrap IntKind.i64 (p_1.fst.fst + p.fst.fst)), Value.int IntKind.i64 (0 : Int), Value.func (Fn.func g) { toList := [] } { toList := [] }] H fun (e : Ending) (H' : Nat → Option Obj) ↦ e = Ending.returned (Value.tuple { toList := [] }) ∧ (none : Option Addr) = none ∧ (0 : Nat) = (0 : Nat) ∧ (0 : Nat) = (0 : Nat) ∧ (0 : Int) = (0 : Int) ∧ Value.func (Fn.func g) { toList := [] } { toList := [] } = Value.func (Fn.func g) { toList := [] } { toList := [] } ∧ K ((IntKind.wrap IntKind.i64 (p.fst.fst * (2 : Int)), PUnit.unit), PUnit.unit) H') ((none : Option Addr) = none ∧ (0 : Nat) = (0 : Nat) ∧ (0 : Nat) = (0 : Nat) ∧ (0 : Int) = (0 : Int) ∧ Value.func (Fn.func g) { toList := [] } { toList := [] } = Value.func (Fn.func g) { toList := [] } { toList := [] } ∧ K ((IntKind.wrap IntKind.i64 (p.fst.fst * (2 : Int)), PUnit.unit), PUnit.unit) H))) (((0 : Int), IntKind.wrap IntKind.i64 ((2 : Int) * p.fst.fst), PUnit.unit), PUnit.unit) H) (R (Ending.returned (Value.tuple { toList := [] })) H)) (((20 : Int), PUnit.unit), PUnit.unit) H')) (((0 : Int), (20 : Int), PUnit.unit), PUnit.unit) H
theorem vc_stb0 (g : Nat) (R : Ending → Heap → Prop) (H : Heap) : vcFun prog h_stb f30 [SV.c (SC.v (Value.slice none (0 : Nat) (0 : Nat))), SV.c (SC.v (Value.int IntKind.i64 (0 : Int))), SV.c (SC.v (Value.func (Fn.func g) #[] #[]))] R H = nf_stb0 g R H := by kernel_rfl

def nf_ins0 (g : Nat) (R : Ending → Heap → Prop) (H : Heap) : Prop := (none : Option Addr) = none ∧ (0 : Nat) = (0 : Nat) ∧ (0 : Nat) = (0 : Nat) ∧ (0 : Int) = (0 : Int) ∧ (0 : Int) = (0 : Int) ∧ Value.func (Fn.func g) { toList := [] } { toList := [] } = Value.func (Fn.func g) { toList := [] } { toList := [] } ∧ LoopP (fun (K : (Int × PUnit) × PUnit → (Nat → Option Obj) → Prop) (p : (Int × PUnit) × PUnit) (H : Nat → Option Obj) ↦ Br (decide (p.fst.fst < (0 : Int))) ((none : Option Addr) = none ∧ (0 : Nat) = (0 : Nat) ∧ (0 : Nat) = (0 : Nat) ∧ (0 : Int) = (0 : Int) ∧ (0 : Int) = (0 : Int) ∧ Value.func (Fn.func g) { toList := [] } { toList := [] } = Value.func (Fn.func g) { toList := [] } { toList := [] } ∧ p.fst.fst = p.fst.fst ∧ LoopP (fun (K_1 : (Int × PUnit) × PUnit → (Nat → Option Obj) → Prop) (p_1 : (Int × PUnit) × PUnit) (H : Nat → Option Obj) ↦ ∃ (G : Nat → Option Obj), G ≤ H ∧ Br (decide (p_1.fst.fst > (0 : Int))) (((0 : Int) ≤ p_1.fst.fst ∧ p_1.fst.fst < (↑(0 : Nat) : Int)) ∧ PtrK none fun (A : Addr) ↦ PtrK (some (Addr.add A (Int.toNat p_1.fst.fst * (4 : Nat)))) fun (a : Addr) ↦ ∃ (n : Int), ∃ (n_1 : Int), ∃ (n_2 : Int), ∃ (s : ByteArray), Heap.has G a [Value.int IntKind.i64 n, Value.int IntKind.u32 n_1, Value.int IntKind.u32 n_2, Value.string s] ∧ ((0 : Int) ≤ IntKind.wrap IntKind.i64 (p_1.fst.fst - (1 : Int)) ∧ IntKind.wrap IntKind.i64 (p_1.fst.fst - (1 : Int)) < (↑(0 : Nat) : Int)) ∧ PtrK none fun (A : Addr) ↦ PtrK (some (Addr.add A (Int.toNat (IntKind.wrap IntKind.i64 (p_1.fst.fst - (1 : Int))) * (4 : Nat)))) fun (a : Addr) ↦ ∃ (n_3 : Int), ∃ (n_4 : Int), ∃ (n_5 : Int), ∃ (s_1 : ByteArray), Heap.has G a [Value.int IntKind.i64 n_3, Value.int IntKind.u32 n_4, Value.int IntKind.u32 n_5, Value.string s_1] ∧ Meets prog g [Value.agg { toList := [Value.int IntKind.i64 n, Value.int IntKind.u32 n_1, Value.int IntKind.u32 n_2, Value.string s] }, Value.agg { toList := [Value.int IntKind.i64 n_3, Value.int IntKind.u32 n_4, Value.int IntKind.u32 n_5, Value.string s_1] }] H fun (e : Ending) (H' : Nat → Option Obj) ↦ Keep G H H H' ∧ ∃ (n : Int), e = Ending.returned (Value.int IntKind.i64 n) ∧ Br (decide (n < (0 : Int))) (((0 : Int) ≤ IntKind.wrap IntKind.i64 (p_1.fst.fst - (1 : Int)) ∧ IntKind.wrap IntKind.i64 (p_1.fst.fst - (1 : Int)) < (↑(0 : Nat) : Int)) ∧ PtrK none fun (A : Addr) ↦ PtrK (some (Addr.add A (Int.toNat (IntKind.wrap IntKind.i64 (p_1.fst.fst - (1 : Int))) * (4 : Nat)))) fun (a : Addr) ↦ ∃ (n : Int), ∃ (n_6 : Int), ∃ (n_7 : Int), ∃ (s : ByteArray), Heap.has (delLs H' []) a [Value.int IntKind.i64 n, Value.int IntKind.u32 n_6, Value.int IntKind.u32 n_7, Value.string s] ∧ ((0 : Int) ≤ p_1.fst.fst ∧ p_1.fst.fst < (↑(0 : Nat) : Int)) ∧ PtrK none fun (A : Addr) ↦ PtrK (some (Addr.add A (Int.toNat p_1.fst.fst * (4 : Nat)))) fun (a : Addr) ↦ ∃ (n_8 : Int), ∃ (n_9 : Int), ∃ (n_10 : Int), ∃ (s_2 : ByteArray), Heap.has (delLs H' []) a [Value.int IntKind.i64 n_8, Value.int IntKind.u32 n_9, Value.int IntKind.u32 n_10, Value.string s_2] ∧ ((0 : Int) ≤ p_1.fst.fst ∧ p_1.fst.fst < (↑(0 : Nat) : Int)) ∧ PtrK none fun (A : Addr) ↦ PtrK (some (Addr.add A (Int.toNat p_1.fst.fst * (4 : Nat)))) fun (A : Addr) ↦ ∃ (c : Array Value), ∃ (ty : Nat), (delLs H' [] A.block = some (Obj.cells c ty) ∧ A.spot = none ∧ A.off + (4 : Nat) ≤ Array.size c) ∧ ((0 : Int) ≤ IntKind.wrap IntKind.i64 (p_1.fst.fst - (1 : Int)) ∧ IntKind.wrap IntKind.i64 (p_1.fst.fst - (1 : Int)) < (↑(0 : Nat) : Int)) ∧ PtrK none fun (A_1 : Addr) ↦ PtrK (some (Addr.add A_1 (Int.toNat (IntKind.wrap IntKind.i64 (p_1.fst.fst - (1 : Int))) * (4 : Nat)))) fun (A_2 : Addr) ↦ ∃ (c_1 : Array Value), ∃ (ty_1 : Nat), (Heap.upd (delLs H' ([] ++ ([] ++ ([] ++ ([] ++ ([] ++ []))) ++ ([] ++ ([] ++ ([] ++ ([] ++ []))) ++ [])))) A.block (Obj.cells (writeCells c A.off [Value.int IntKind.i64 n, Value.int IntKind.u32 n_6, Value.int IntKind.u32 n_7, Value.string s]) ty) A_2.block = some (Obj.cells c_1 ty_1) ∧ A_2.spot = none ∧ A_2.off + (4 : Nat) ≤ Array.size c_1) ∧ (none : Option Addr) = none ∧ (0 : Nat) = (0 : Nat) ∧ (0 : Nat) = (0 : Nat) ∧ (0 : Int) = (0 : Int) ∧ (0 : Int) = (0 : Int) ∧ Value.func (Fn.func g) { toList := [] } { toList := [] } = Value.func (Fn.func g) { toList := [] } { toList := [] } ∧ p.fst.fst = p.fst.fst ∧ K_1 ((IntKind.wrap IntKind.i64 (p_1.fst.fst - (1 : Int)), PUnit.unit), PUnit.unit) (Heap.upd (Heap.upd (delLs H' []) A.block (Obj.cells (writeCells c A.off [Value.int IntKind.i64 n, Value.int IntKind.u32 n_6, Value.int IntKind.u32 n_7, Value.string s]) ty)) A_2.block (Obj.cells (writeCells c_1 A_2.off [Value.int IntKind.i64 n_8, Value.int IntKind.u32 n_9, Value.int IntKind.u32 n_10, Value.string s_2]) ty_1))) ((none : Option Addr) = none ∧ (0 : Nat) = (0 : Nat) ∧ (0 : Nat) = (0 : Nat) ∧ (0 : Int) = (0 : Int) ∧ (0 : Int) = (0 : Int) ∧ Value.func (Fn.func g) { toList := [] } { toList := [] } = Value.func (Fn.func g) { toList := [] } { toList := [] } ∧ K ((IntKind.wrap IntKind.i64 (p.fst.fst + (1 : Int)), PUnit.unit), PUnit.unit) (delLs H' []))) ((none : Option Addr) = none ∧ (0 : Nat) = (0 : Nat) ∧ (0 : Nat) = (0 : Nat) ∧ (0 : Int) = (0 : Int) ∧ (0 : Int) = (0 : Int) ∧ Value.func (Fn.func g) { toList := [] } { toList := [] } = Value.func (Fn.func g) { toList := [] } { toList := [] } ∧ K ((IntKind.wrap IntKind.i64 (p.fst.fst + (1 : Int)), PUnit.unit), PUnit.unit) H)) ((p.fst.fst, PUnit.unit), PUnit.unit) H) (R (Ending.returned (Value.tuple { toList := [] })) H)) ((IntKind.wrap IntKind.i64 ((0 : Int) + (1 : Int)), PUnit.unit), PUnit.unit) H
theorem vc_ins0 (g : Nat) (R : Ending → Heap → Prop) (H : Heap) : vcFun prog h_ins f43 [SV.c (SC.v (Value.slice none (0 : Nat) (0 : Nat))), SV.c (SC.v (Value.int IntKind.i64 (0 : Int))), SV.c (SC.v (Value.int IntKind.i64 (0 : Int))), SV.c (SC.v (Value.func (Fn.func g) #[] #[]))] R H = nf_ins0 g R H := by kernel_rfl

def nf_srt (a : Option Addr) (n : Nat) (c : Nat) (R : Ending → Heap → Prop) (H : Heap) : Prop := Meets prog (22 : Nat) [Value.slice a n c] H fun (e : Ending) (H' : Nat → Option Obj) ↦ ∃ (a : Option Addr), ∃ (n : Nat), ∃ (c : Nat), e = Ending.returned (Value.slice a n c) ∧ Meets prog (23 : Nat) [Value.slice a n c, Value.func (Fn.func (24 : Nat)) { toList := [] } { toList := [] }] H' fun (e : Ending) (H' : Nat → Option Obj) ↦ e = Ending.returned (Value.tuple { toList := [] }) ∧ R (Ending.returned (Value.slice a n c)) H'
theorem vc_srt (a : Option Addr) (n : Nat) (c : Nat) (R : Ending → Heap → Prop) (H : Heap) : vcFun prog { } f16 [SV.c (SC.v (Value.slice a n c))] R H = nf_srt a n c R H := by kernel_rfl

def nf_find (a : Option Addr) (n : Nat) (c : Nat) (id : Int) (R : Ending → Heap → Prop) (H : Heap) : Prop := ∀ (b : Nat), H b = none → Meets prog (28 : Nat) [Value.slice a n c, Value.func (Fn.func (29 : Nat)) { toList := [] } { toList := [Value.pointer (some { block := b, off := (0 : Nat) })] }] (Heap.upd H b (Obj.cells { toList := [Value.int IntKind.i64 id] } (3 : Nat))) fun (e : Ending) (H' : Nat → Option Obj) ↦ ∃ (n : Int), e = Ending.returned (Value.int IntKind.i64 n) ∧ ∃ (n_1 : Int), (∃ (b_1 : Nat), blockOf (Value.pointer (some { block := b, off := (0 : Nat) })) = some b_1 ∧ H' b_1 = some (Obj.cells { toList := [Value.int IntKind.i64 n_1] } (3 : Nat))) ∧ R (Ending.returned (Value.int IntKind.i64 n)) (Heap.delO H' (blockOf (Value.pointer (some { block := b, off := (0 : Nat) }))))
theorem vc_find (a : Option Addr) (n : Nat) (c : Nat) (id : Int) (R : Ending → Heap → Prop) (H : Heap) : vcFun prog { } f20 [SV.c (SC.v (Value.slice a n c)), SV.c (SC.v (Value.int IntKind.i64 id))] R H = nf_find a n c id R H := by kernel_rfl

def nf_find1 (i : Int) (x : Int) (y : Int) (d : ByteArray) (pid : Addr) (R : Ending → Heap → Prop) (H : Heap) : Prop := PtrK (some pid) fun (a : Addr) ↦ ∃ (n : Int), Heap.has H a [Value.int IntKind.i64 n] ∧ R (Ending.returned (Value.bool (i == n))) H
theorem vc_find1 (i : Int) (x : Int) (y : Int) (d : ByteArray) (pid : Addr) (R : Ending → Heap → Prop) (H : Heap) : vcFun prog { } f29 [ptA i x y d, SV.c (SC.v (Value.pointer (some pid)))] R H = nf_find1 i x y d pid R H := by kernel_rfl

def nf_points (a : Option Addr) (n : Nat) (c : Nat) (a' : Option Addr) (n' : Nat) (c' : Nat) (R : Ending → Heap → Prop) (H : Heap) : Prop := Br ((↑n : Int) != (↑n' : Int)) (R (Ending.returned (Value.bool false)) H) (a = a ∧ n = n ∧ c = c ∧ a' = a' ∧ n' = n' ∧ c' = c' ∧ false = false ∧ LoopP (fun (K : (Int × PUnit) × PUnit → (Nat → Option Obj) → Prop) (p : (Int × PUnit) × PUnit) (H : Nat → Option Obj) ↦ Br (decide (p.fst.fst < (↑n : Int))) (((0 : Int) ≤ p.fst.fst ∧ p.fst.fst < (↑n : Int)) ∧ PtrK a fun (A : Addr) ↦ PtrK (some (Addr.add A (Int.toNat p.fst.fst * (4 : Nat)))) fun (a_1 : Addr) ↦ ∃ (n_1 : Int), ∃ (n_2 : Int), ∃ (n_3 : Int), ∃ (s : ByteArray), Heap.has H a_1 [Value.int IntKind.i64 n_1, Value.int IntKind.u32 n_2, Value.int IntKind.u32 n_3, Value.string s] ∧ ((0 : Int) ≤ p.fst.fst ∧ p.fst.fst < (↑n' : Int)) ∧ PtrK a' fun (A : Addr) ↦ PtrK (some (Addr.add A (Int.toNat p.fst.fst * (4 : Nat)))) fun (a_2 : Addr) ↦ ∃ (n_4 : Int), ∃ (n_5 : Int), ∃ (n_6 : Int), ∃ (s_1 : ByteArray), Heap.has H a_2 [Value.int IntKind.i64 n_4, Value.int IntKind.u32 n_5, Value.int IntKind.u32 n_6, Value.string s_1] ∧ Br (!andO (some (andO (some (andO (some (andO none (n_1 == n_4))) (n_2 == n_5))) (n_3 == n_6))) (s == s_1)) (R (Ending.returned (Value.bool false)) H) (a = a ∧ n = n ∧ c = c ∧ a' = a' ∧ n' = n' ∧ c' = c' ∧ false = false ∧ K ((IntKind.wrap IntKind.i64 (p.fst.fst + (1 : Int)), PUnit.unit), PUnit.unit) H)) (R (Ending.returned (Value.bool true)) H)) (((0 : Int), PUnit.unit), PUnit.unit) H)
theorem vc_points (a : Option Addr) (n : Nat) (c : Nat) (a' : Option Addr) (n' : Nat) (c' : Nat) (R : Ending → Heap → Prop) (H : Heap) : vcFun prog h_points f9 [SV.c (SC.v (Value.slice a n c)), SV.c (SC.v (Value.slice a' n' c'))] R H = nf_points a n c a' n' c' R H := by kernel_rfl

def nf_rsort (a : Option Addr) (n : Nat) (c : Nat) (R : Ending → Heap → Prop) (H : Heap) : Prop := a = a ∧ n = n ∧ c = c ∧ (none : Option Addr) = none ∧ (0 : Nat) = (0 : Nat) ∧ (0 : Nat) = (0 : Nat) ∧ LoopP (fun (K : (List (List Value) × Int × PUnit) × PUnit → (Nat → Option Obj) → Prop) (p : (List (List Value) × Int × PUnit) × PUnit) (H : Nat → Option Obj) ↦ Br (decide (p.fst.snd.fst < (↑n : Int))) (a = a ∧ n = n ∧ c = c ∧ (none : Option Addr) = none ∧ (0 : Nat) = (0 : Nat) ∧ (0 : Nat) = (0 : Nat) ∧ p.fst.snd.fst = p.fst.snd.fst ∧ LoopP (fun (K_1 : (List (List Value) × Int × PUnit) × PUnit → (Nat → Option Obj) → Prop) (p_1 : (List (List Value) × Int × PUnit) × PUnit) (H : Nat → Option Obj) ↦ Br (decide (p_1.fst.snd.fst > (0 : Int))) (((0 : Int) ≤ IntKind.wrap IntKind.i64 (p_1.fst.snd.fst - (1 : Int)) ∧ IntKind.wrap IntKind.i64 (p_1.fst.snd.fst - (1 : Int)) < (↑(List.length p_1.fst.fst) : Int)) ∧ ∃ (n_1 : Int), (∃ (e : List Value), List.get?Internal p_1.fst.fst (Int.toNat (IntKind.wrap IntKind.i64 (p_1.fst.snd.fst - (1 : Int)))) = some e ∧ List.take (1 : Nat) (List.drop (0 : Nat) e) = [Value.int IntKind.i64 n_1]) ∧ ((0 : Int) ≤ p.fst.snd.fst ∧ p.fst.snd.fst < (↑n : Int)) ∧ PtrK a fun (A : Addr) ↦ PtrK (some (Addr.add A (Int.toNat p.fst.snd.fst * (4 : Nat)))) fun (a_1 : Addr) ↦ PtrK (some (Addr.add a_1 (0 : Nat))) fun (a_2 : Addr) ↦ ∃ (n_2 : Int), Heap.has H a_2 [Value.int IntKind.i64 n_2] ∧ Br (decide (n_1 > n_2)) (a = a ∧ n = n ∧ c = c ∧ (none : Option Addr) = none ∧ (0 : Nat) = (0 : Nat) ∧ (0 : Nat) = (0 : Nat) ∧ p.fst.snd.fst = p.fst.snd.fst ∧ K_1 ((p_1.fst.fst, IntKind.wrap IntKind.i64 (p_1.fst.snd.fst - (1 : Int)), PUnit.unit), PUnit.unit) H) (((0 : Int) ≤ p_1.fst.snd.fst ∧ p_1.fst.snd.fst ≤ (↑(List.length p_1.fst.fst) : Int)) ∧ ((0 : Int) ≤ p.fst.snd.fst ∧ p.fst.snd.fst < (↑n : Int)) ∧ PtrK a fun (A : Addr) ↦ PtrK (some (Addr.add A (Int.toNat p.fst.snd.fst * (4 : Nat)))) fun (a_3 : Addr) ↦ ∃ (n_3 : Int), ∃ (n_4 : Int), ∃ (n_5 : Int), ∃ (s : ByteArray), Heap.has H a_3 [Value.int IntKind.i64 n_3, Value.int IntKind.u32 n_4, Value.int IntKind.u32 n_5, Value.string s] ∧ ((0 : Int) ≤ p_1.fst.snd.fst ∧ p_1.fst.snd.fst ≤ (↑(List.length p_1.fst.fst) : Int)) ∧ List.length (List.take (Int.toNat p_1.fst.snd.fst - (0 : Nat)) (List.drop (0 : Nat) p_1.fst.fst)) * (32 : Nat) ≤ (140737488355328 : Nat) ∧ List.length (List.append (List.take (Int.toNat p_1.fst.snd.fst - (0 : Nat)) (List.drop (0 : Nat) p_1.fst.fst)) [[Value.int IntKind.i64 n_3, Value.int IntKind.u32 n_4, Value.int IntKind.u32 n_5, Value.string s]]) * (32 : Nat) ≤ (140737488355328 : Nat) ∧ List.length (List.append (List.append (List.take (Int.toNat p_1.fst.snd.fst - (0 : Nat)) (List.drop (0 : Nat) p_1.fst.fst)) [[Value.int IntKind.i64 n_3, Value.int IntKind.u32 n_4, Value.int IntKind.u32 n_5, Value.string s]]) (List.take (List.length p_1.fst.fst - Int.toNat p_1.fst.snd.fst) (List.drop (Int.toNat p_1.fst.snd.fst) p_1.fst.fst))) * (32 : Nat) ≤ (140737488355328 : Nat) ∧ a = a ∧ n = n ∧ c = c ∧ (none : Option Addr) = none ∧ (0 : Nat) = (0 : Nat) ∧ (0 : Nat) = (0 : Nat) ∧ K ((List.append (List.append (List.take (Int.toNat p_1.fst.snd.fst - (0 : Nat)) (List.drop (0 : Nat) p_1.fst.fst)) [[Value.int IntKind.i64 n_3, Value.int IntKind.u32 n_4, Value.int IntKind.u32 n_5, Value.string s]]) (List.take (List.length p_1.fst.fst - Int.toNat p_1.fst.snd.fst) (List.drop (Int.toNat p_1.fst.snd.fst) p_1.fst.fst)), IntKind.wrap IntKind.i64 (p.fst.snd.fst + (1 : Int)), PUnit.unit), PUnit.unit) H)) (((0 : Int) ≤ p_1.fst.snd.fst ∧ p_1.fst.snd.fst ≤ (↑(List.length p_1.fst.fst) : Int)) ∧ ((0 : Int) ≤ p.fst.snd.fst ∧ p.fst.snd.fst < (↑n : Int)) ∧ PtrK a fun (A : Addr) ↦ PtrK (some (Addr.add A (Int.toNat p.fst.snd.fst * (4 : Nat)))) fun (a_1 : Addr) ↦ ∃ (n_1 : Int), ∃ (n_2 : Int), ∃ (n_3 : Int), ∃ (s : ByteArray), Heap.has H a_1 [Value.int IntKind.i64 n_1, Value.int IntKind.u32 n_2, Value.int IntKind.u32 n_3, Value.string s] ∧ ((0 : Int) ≤ p_1.fst.snd.fst ∧ p_1.fst.snd.fst ≤ (↑(List.length p_1.fst.fst) : Int)) ∧ List.length (List.take (Int.toNat p_1.fst.snd.fst - (0 : Nat)) (List.drop (0 : Nat) p_1.fst.fst)) * (32 : Nat) ≤ (140737488355328 : Nat) ∧ List.length (List.append (List.take (Int.toNat p_1.fst.snd.fst - (0 : Nat)) (List.drop (0 : Nat) p_1.fst.fst)) [[Value.int IntKind.i64 n_1, Value.int IntKind.u32 n_2, Value.int IntKind.u32 n_3, Value.string s]]) * (32 : Nat) ≤ (140737488355328 : Nat) ∧ List.length (List.append (List.append (List.take (Int.toNat p_1.fst.snd.fst - (0 : Nat)) (List.drop (0 : Nat) p_1.fst.fst)) [[Value.int IntKind.i64 n_1, Value.int IntKind.u32 n_2, Value.int IntKind.u32 n_3, Value.string s]]) (List.take (List.length p_1.fst.fst - Int.toNat p_1.fst.snd.fst) (List.drop (Int.toNat p_1.fst.snd.fst) p_1.fst.fst))) * (32 : Nat) ≤ (140737488355328 : Nat) ∧ a = a ∧ n = n ∧ c = c ∧ (none : Option Addr) = none ∧ (0 : Nat) = (0 : Nat) ∧ (0 : Nat) = (0 : Nat) ∧ K ((List.append (List.append (List.take (Int.toNat p_1.fst.snd.fst - (0 : Nat)) (List.drop (0 : Nat) p_1.fst.fst)) [[Value.int IntKind.i64 n_1, Value.int IntKind.u32 n_2, Value.int IntKind.u32 n_3, Value.string s]]) (List.take (List.length p_1.fst.fst - Int.toNat p_1.fst.snd.fst) (List.drop (Int.toNat p_1.fst.snd.fst) p_1.fst.fst)), IntKind.wrap IntKind.i64 (p.fst.snd.fst + (1 : Int)), PUnit.unit), PUnit.unit) H)) ((p.fst.fst, (↑(List.length p.fst.fst) : Int), PUnit.unit), PUnit.unit) H) (∀ (v : Value) (H' : Nat → Option Obj), H ≤ H' → (∀ (b : Nat), blockOf v = some b → H b = none) → (∀ (b : Nat) (o : Obj), H' b = some o → H b = some o ∨ blockOf v = some b) → RowAt H' v (33 : Nat) (4 : Nat) p.fst.fst → R (Ending.returned v) H')) (([], (0 : Int), PUnit.unit), PUnit.unit) H
theorem vc_rsort (a : Option Addr) (n : Nat) (c : Nat) (R : Ending → Heap → Prop) (H : Heap) : vcFun prog h_rsort f14 [SV.c (SC.v (Value.slice a n c))] R H = nf_rsort a n c R H := by kernel_rfl

def nf_sdel (a : Option Addr) (n : Nat) (c : Nat) (i : Int) (j : Int) (R : Ending → Heap → Prop) (H : Heap) : Prop := ((0 : Int) ≤ (↑n : Int) ∧ (↑n : Int) ≤ (↑c : Int)) ∧ ((0 : Int) ≤ j ∧ j ≤ (↑n : Int)) ∧ ((0 : Int) ≤ i ∧ i ≤ j) ∧ Br (i == j) (R (Ending.returned (Value.slice a n c)) H) (((0 : Int) ≤ i ∧ i ≤ (↑c : Int)) ∧ ((0 : Int) ≤ j ∧ j ≤ (↑n : Int)) ∧ Int.toNat i - (0 : Nat) + (n - Int.toNat j) ≤ c - (0 : Nat) ∧ ∃ (es2 : List (List Value)), SliceAt H (Value.slice (subAddr a c (Int.toNat j) (4 : Nat)) (n - Int.toNat j) (c - Int.toNat j)) (4 : Nat) es2 ∧ (es2 = [] ∧ ((0 : Int) ≤ (↑n : Int) ∧ (↑n : Int) ≤ (↑(c - (0 : Nat)) : Int)) ∧ ((0 : Int) ≤ (↑(Int.toNat i - (0 : Nat) + (n - Int.toNat j)) : Int) ∧ (↑(Int.toNat i - (0 : Nat) + (n - Int.toNat j)) : Int) ≤ (↑(Int.toNat (↑n : Int)) : Int)) ∧ (Int.toNat (↑n : Int) - Int.toNat (↑(Int.toNat i - (0 : Nat) + (n - Int.toNat j)) : Int) = (0 : Nat) ∧ R (Ending.returned (Value.slice (subAddr a c (0 : Nat) (4 : Nat)) (Int.toNat i - (0 : Nat) + (n - Int.toNat j)) (c - (0 : Nat)))) H ∨ ∃ (A : Addr), ∃ (c_1 : Array Value), ∃ (ty : Nat), subAddr (subAddr a c (0 : Nat) (4 : Nat)) (c - (0 : Nat)) (Int.toNat (↑(Int.toNat i - (0 : Nat) + (n - Int.toNat j)) : Int)) (4 : Nat) = some A ∧ (H A.block = some (Obj.cells c_1 ty) ∧ A.spot = none ∧ A.off + (Int.toNat (↑n : Int) - Int.toNat (↑(Int.toNat i - (0 : Nat) + (n - Int.toNat j)) : Int)) * (4 : Nat) ≤ Array.size c_1) ∧ R (Ending.returned (Value.slice (subAddr a c (0 : Nat) (4 : Nat)) (Int.toNat i - (0 : Nat) + (n - Int.toNat j)) (c - (0 : Nat)))) (Heap.upd H A.block (Obj.cells (writeCells c_1 A.off (List.flatten (List.replicate (Int.toNat (↑n : Int) - Int.toNat (↑(Int.toNat i - (0 : Nat) + (n - Int.toNat j)) : Int)) [Value.int IntKind.i64 (0 : Int), Value.int IntKind.u32 (0 : Int), Value.int IntKind.u32 (0 : Int), Value.string { data := #[] }]))) ty))) ∨ ∃ (A : Addr), ∃ (c_1 : Array Value), ∃ (ty : Nat), subAddr a c (0 : Nat) (4 : Nat) = some A ∧ (H A.block = some (Obj.cells c_1 ty) ∧ A.spot = none ∧ A.off + (Int.toNat i - (0 : Nat)) * (4 : Nat) + List.length es2 * (4 : Nat) ≤ Array.size c_1) ∧ ((0 : Int) ≤ (↑n : Int) ∧ (↑n : Int) ≤ (↑(c - (0 : Nat)) : Int)) ∧ ((0 : Int) ≤ (↑(Int.toNat i - (0 : Nat) + (n - Int.toNat j)) : Int) ∧ (↑(Int.toNat i - (0 : Nat) + (n - Int.toNat j)) : Int) ≤ (↑(Int.toNat (↑n : Int)) : Int)) ∧ (Int.toNat (↑n : Int) - Int.toNat (↑(Int.toNat i - (0 : Nat) + (n - Int.toNat j)) : Int) = (0 : Nat) ∧ R (Ending.returned (Value.slice (subAddr a c (0 : Nat) (4 : Nat)) (Int.toNat i - (0 : Nat) + (n - Int.toNat j)) (c - (0 : Nat)))) (Heap.upd H A.block (Obj.cells (writeCells c_1 (A.off + (Int.toNat i - (0 : Nat)) * (4 : Nat)) (List.flatten es2)) ty)) ∨ ∃ (A_1 : Addr), ∃ (c_2 : Array Value), ∃ (ty_1 : Nat), subAddr (subAddr a c (0 : Nat) (4 : Nat)) (c - (0 : Nat)) (Int.toNat (↑(Int.toNat i - (0 : Nat) + (n - Int.toNat j)) : Int)) (4 : Nat) = some A_1 ∧ (Heap.upd H A.block (Obj.cells (writeCells c_1 (A.off + (Int.toNat i - (0 : Nat)) * (4 : Nat)) (List.flatten es2)) ty) A_1.block = some (Obj.cells c_2 ty_1) ∧ A_1.spot = none ∧ A_1.off + (Int.toNat (↑n : Int) - Int.toNat (↑(Int.toNat i - (0 : Nat) + (n - Int.toNat j)) : Int)) * (4 : Nat) ≤ Array.size c_2) ∧ R (Ending.returned (Value.slice (subAddr a c (0 : Nat) (4 : Nat)) (Int.toNat i - (0 : Nat) + (n - Int.toNat j)) (c - (0 : Nat)))) (Heap.upd (Heap.upd H A.block (Obj.cells (writeCells c_1 (A.off + (Int.toNat i - (0 : Nat)) * (4 : Nat)) (List.flatten es2)) ty)) A_1.block (Obj.cells (writeCells c_2 A_1.off (List.flatten (List.replicate (Int.toNat (↑n : Int) - Int.toNat (↑(Int.toNat i - (0 : Nat) + (n - Int.toNat j)) : Int)) [Value.int IntKind.i64 (0 : Int), Value.int IntKind.u32 (0 : Int), Value.int IntKind.u32 (0 : Int), Value.string { data := #[] }]))) ty_1)))))
theorem vc_sdel (a : Option Addr) (n : Nat) (c : Nat) (i : Int) (j : Int) (R : Ending → Heap → Prop) (H : Heap) : vcFun prog h_sdel f21 [SV.c (SC.v (Value.slice a n c)), SV.c (SC.v (Value.int IntKind.i64 i)), SV.c (SC.v (Value.int IntKind.i64 j))] R H = nf_sdel a n c i j R H := by kernel_rfl

section
variable {H : Heap} {R : Ending → Heap → Prop}
@[simp] theorem add0 (a : Addr) : Addr.add a 0 = a := rfl
theorem slice_nil (H : Heap) {sz : Nat} : SliceAt H (.slice none 0 0) sz [] := ⟨none, 0, 0, rfl, rfl, Nat.le_refl _, by simp, by simp, by simp⟩
theorem s_clone {v : Value} {l : List Pt} (h : SliceAt H v 4 (pts l)) (hl : l.length ≤ 1000000) (k : ∀ v H', H ≤ H' → (∀ b, blockOf v = some b → H b = none) → RowAt H' v tPt 4 (pts l) → R (.returned v) H') :
    Meets prog 22 [v] H R := by
  obtain ⟨a, n, c, e, hn⟩ := h
  subst e
  have h : SliceAt H (.slice a n c) 4 (pts l) := ⟨a, n, c, rfl, hn⟩
  refine spec_of func22 (by kernel_rfl) (fun t h => by cases h) ?_ (vc_clone a n c R H) ?_
  · simp [argsR, SV.rep, SC.rep, one]
  unfold nf_clone
  refine br (fun q => ?_) fun q => ?_
  · have : l = [] := by
      cases l with
      | nil => rfl
      | cons p l =>
        obtain ⟨A, e, _⟩ := pr_get h (i := 0) (p := p) rfl
        subst e
        simp at q
    subst this
    exact k _ _ (fun _ _ h => h) (by simp [blockOf]) (.inl ⟨rfl, rfl⟩)
  · refine ⟨_, h, ?_, fun v H' h1 h2 h3 h4 => k v H' h1 h2 h4⟩
    simp [pts]; omega
theorem memN_one {a t : Nat} (h : memN [a] t = true) : t = a := by
  simp only [memN] at h
  split at h
  · rename_i e; exact (Nat.eq_of_beq_eq_true e).symm
  · cases h
/-- A function that tells of points, in whatever memory of a kind. -/
def PredOK (Q : Pt → Prop) (I : Heap → Prop) (g : Nat) (caps : Array Value) (f : Pt → Bool) : Prop := ∀ (p : Pt) (H : Heap) (R : Ending → Heap → Prop), Q p → I H → R (.returned (.bool (f p))) H → Meets prog g (ptV p :: caps.toList) H R
theorem s_idx {Q : Pt → Prop} {I : Heap → Prop} {g : Nat} {caps : Array Value} {f : Pt → Bool} (hf : PredOK Q I g caps f) {v : Value} {l : List Pt} (h : SliceAt H v 4 (pts l)) (hI : I H) (hQ : ∀ p ∈ l, Q p) (hl : l.length ≤ 1000000)
    (k1 : ∀ i : Nat, l.findIdx? f = some i → R (.returned (vi i)) H) (k2 : l.findIdx? f = none → R (.returned (vi (-1))) H) : Meets prog 28 [v, .func (.func g) #[] caps] H R := by
  obtain ⟨a, n, c, e, hn⟩ := h
  subst e
  have h : SliceAt H (.slice a n c) 4 (pts l) := ⟨a, n, c, rfl, hn⟩
  have hln : l.length = n := by simpa [pts] using hn.1
  refine spec_of func28 (by kernel_rfl) (fun t h => by cases h) ?_ (vc_idx a n c g caps R H) ?_
  · simp [argsR, SV.rep, SC.rep, one]
  unfold nf_idx
  simp only [true_and]
  refine ⟨fun p H' => ∃ t : Nat, p.1.1 = t ∧ t ≤ n ∧ (∀ x ∈ l.take t, f x = false) ∧ H' = H, fun p _ => (n - p.1.1).toNat, ⟨0, rfl, by omega, by simp, rfl⟩, ?_⟩
  rintro ⟨⟨i, _⟩, _⟩ H1 ⟨t, hi, ht, f1, rfl⟩
  simp only at hi ⊢
  subst hi
  refine br (fun q => ?_) fun q => ?_
  · simp only [decide_eq_true_eq] at q
    obtain ⟨x, hd, htk, hx⟩ := drop_cons (l := l) (k := t) (by omega)
    obtain ⟨A, e, g1⟩ := pr_get h (i := t) hx
    subst e
    refine ⟨⟨by omega, by omega⟩, ptr rfl (ptr rfl ⟨_, _, _, _, g1, ?_⟩)⟩
    refine hf x _ _ (hQ x (List.mem_of_getElem? hx)) hI ⟨_, rfl, br (fun q1 => ?_) fun q1 => ?_⟩
    · refine k1 t ?_
      rw [List.findIdx?_eq_some_iff_getElem]
      refine ⟨by omega, ?_, fun j hj => ?_⟩
      · rw [List.getElem?_eq_getElem (by omega)] at hx
        cases hx; exact q1
      · have : l[j] ∈ l.take t := by
          rw [List.mem_take_iff_getElem]
          exact ⟨j, by omega, rfl⟩
        simpa using f1 _ this
    · rw [w64 (by omega)]
      refine ⟨⟨t + 1, by omega, by omega, fun z hz => ?_, by trivial⟩, by omega⟩
      rw [htk] at hz
      rcases List.mem_append.1 hz with hz | hz
      · exact f1 z hz
      · simp at hz; subst hz; exact q1
  · simp only [decide_eq_false_iff_not] at q
    refine k2 ?_
    rw [List.findIdx?_eq_none_iff]
    intro z hz
    refine f1 z ?_
    rw [List.take_of_length_le (by omega)]; exact hz
theorem ba_beq (a b : ByteArray) : (a == b) = decide (a = b) := by
  cases a with | mk x => cases b with | mk y =>
  have : ((⟨x⟩ : ByteArray) == ⟨y⟩) = (x == y) := rfl
  rw [this, Bool.eq_iff_iff]
  simp
theorem upd_del {H : Heap} {b : Nat} {o : Obj} (h : H b = none) : (H.upd b o).del b = H := by
  funext x
  unfold Heap.del Heap.upd
  split
  · subst_vars; exact h.symm
  · rfl
theorem upd_le {H : Heap} {b : Nat} {o : Obj} (h : H b = none) : H ≤ H.upd b o := fun x y e => by
  rw [upd_ne _ _ (fun q => by subst q; rw [h] at e; cases e)]; exact e
abbrev ltI (p q : Pt) : Bool := decide (p.id < q.id)
def cmpI (p q : Pt) : Int := if p.id < q.id then -1 else if p.id > q.id then 1 else 0
theorem ltc_cmpI : ltc cmpI = ltI := by
  funext p q
  unfold ltc cmpI ltI
  split
  · simp_all
  · split <;> simp_all
theorem swo_I : SWO ltI := ⟨fun x => by simp, fun x y z => by simp; omega, fun x y z => by simp; omega⟩
/-- Points, by Id. -/
def sortP (l : List Pt) : List Pt := isort ltI l
theorem sortP_len (l : List Pt) : (sortP l).length = l.length := isort_len l
theorem s_cmpc {x y : Int} (k : R (.returned (vi (if x < y then -1 else if x > y then 1 else 0))) H) : Meets prog 25 [vi x, vi y] H R := by
  refine spec_of func25 (by kernel_rfl) (fun t h => by cases h) ?_ (vc_cmpc x y R H) ?_
  · simp [argsR, SV.rep, SC.rep, one]
  unfold nf_cmpc
  have nan : ∀ (z : Int) (R : Ending → Heap → Prop) (H : Heap), R (.returned (.bool false)) H → Meets prog 31 [vi z] H R := fun z R H k => by
    refine spec_of func31 (by kernel_rfl) (fun t h => by cases h) ?_ (vc_isnan z R H) ?_
    · simp [argsR, SV.rep, SC.rep, one]
    unfold nf_isnan
    simpa using k
  refine nan _ _ _ ⟨_, rfl, nan _ _ _ ⟨_, rfl, br (fun q => by cases q) fun _ => br (fun q => by cases q) fun _ => br (fun q => ?_) fun q => br (fun q1 => ?_) fun q1 => ?_⟩⟩
  all_goals simp only [decide_eq_true_eq, decide_eq_false_iff_not] at *
  · rwa [if_pos q] at k
  · rwa [if_neg q, if_pos q1] at k
  · rwa [if_neg q, if_neg q1] at k
theorem cmp_srt1 : CmpOK 24 cmpI := fun p q H R k => by
  refine spec_of func24 (by kernel_rfl) (fun t h => by cases h) ?_ (vc_srt1 p.id p.x p.y p.data q.id q.x q.y q.data R H) ?_
  · simp [argsR, SV.rep, SegsRep, SC.rep, one]
  unfold nf_srt1
  exact s_cmpc ⟨_, rfl, k⟩
theorem s_sst {g : Nat} {cf : Pt → Pt → Int} (hc : CmpOK g cf) (hs : SWO (ltc cf)) {v : Value} {ty : Nat} {l : List Pt} (hrow : RowAt H v ty 4 (pts l)) (hl : l.length ≤ 1000000) (hcap : ∀ a n c, v = .slice a n c → n ≤ 1000000)
    (k : ∀ H', RowAt H' v ty 4 (pts (isort (ltc cf) l)) → Mod v H H' → R (.returned (.tuple #[])) H') : Meets prog 23 [v, .func (.func g) #[] #[]] H R := by
  obtain ⟨a, c, rfl⟩ := row_val hrow
  have hpl : (pts l).length = l.length := by simp [pts]
  rw [hpl] at hrow k ⊢
  refine spec_of func23 (by kernel_rfl) (fun t h => by cases h) ?_ (vc_sst a l.length c g R H) ?_
  · simp [argsR, SV.rep, SC.rep, one]
  unfold nf_sst
  cases a with
  | some A => exact s_stb hc hs hl rfl hrow fun H' h1 h2 => ⟨rfl, k H' h1 h2⟩
  | none =>
    obtain ⟨rfl, rfl⟩ : l = [] ∧ c = 0 := by
      rcases hrow with ⟨e, e2⟩ | ⟨_, _, _, _, e, _⟩
      · simp only [Value.slice.injEq] at e
        exact ⟨by simpa [pts] using e2, e.2.2⟩
      · cases e
    refine spec_of func30 (by kernel_rfl) (fun t h => by cases h) ?_ (vc_stb0 g _ H) ?_
    · simp [argsR, SV.rep, SC.rep, one]
    unfold nf_stb0
    have i0 : ∀ (R : Ending → Heap → Prop), R (.returned (.tuple #[])) H → Meets prog 43 [.slice none 0 0, vi 0, vi 0, .func (.func g) #[] #[]] H R := fun R k => by
      refine spec_of func43 (by kernel_rfl) (fun t h => by cases h) ?_ (vc_ins0 g _ H) ?_
      · simp [argsR, SV.rep, SC.rep, one]
      unfold nf_ins0
      simp only [true_and]
      refine ⟨fun p H' => p.1.1 = 1 ∧ H' = H, fun _ _ => 0, ⟨by decide, rfl⟩, ?_⟩
      rintro ⟨⟨i, _⟩, _⟩ H1 ⟨h1, rfl⟩
      simp only at h1 ⊢
      subst h1
      exact br (fun q => by simp at q) fun _ => k
    simp only [true_and]
    refine ⟨fun p H' => p.1.1 = 0 ∧ p.1.2.1 = 20 ∧ H' = H, fun _ _ => 0, ⟨rfl, rfl, rfl⟩, ?_⟩
    rintro ⟨⟨i, j, _⟩, _⟩ H1 ⟨h1, h2, rfl⟩
    simp only at h1 h2 ⊢
    subst h1; subst h2
    refine br (fun q => by simp at q) fun _ => i0 _ ⟨rfl, fun p H' => p.1.1 = 20 ∧ H' = H1, fun _ _ => 0, ⟨rfl, rfl⟩, ?_⟩
    rintro ⟨⟨i, _⟩, _⟩ H2 ⟨h1, rfl⟩
    simp only at h1 ⊢
    subst h1
    exact br (fun q => by simp at q) fun _ => k _ hrow (Mod.refl _ _)
/-- What is new is apart from what there was. -/
theorem mod_le {v : Value} {H H' H'' : Heap} (h : H ≤ H') (hn : ∀ b, blockOf v = some b → H b = none) (hm : Mod v H' H'') : H ≤ H'' := fun b o e => by
  rw [hm b fun q => by rw [hn b q] at e; cases e]
  exact h b o e
theorem s_srt {v : Value} {l : List Pt} (h : SliceAt H v 4 (pts l)) (hl : l.length ≤ 1000000) (k : ∀ v H', H ≤ H' → (∀ b, blockOf v = some b → H b = none) → RowAt H' v tPt 4 (pts (sortP l)) → R (.returned v) H') :
    Meets prog 16 [v] H R := by
  obtain ⟨a, n, c, e, hn⟩ := h
  subst e
  refine spec_of func16 (by kernel_rfl) (fun t h => by cases h) ?_ (vc_srt a n c R H) ?_
  · simp [argsR, SV.rep, SC.rep, one]
  unfold nf_srt
  refine s_clone ⟨a, n, c, rfl, hn⟩ hl fun v H' h1 h2 h3 => ?_
  obtain ⟨a', c', rfl⟩ := row_val h3
  refine ⟨_, _, _, rfl, s_sst cmp_srt1 (ltc_cmpI ▸ swo_I) h3 hl (fun _ _ _ e => by cases e; simpa [pts] using hl) fun H'' h4 h5 => ⟨rfl, ?_⟩⟩
  rw [ltc_cmpI] at h4
  have e : (pts (sortP l)).length = (pts l).length := by simp [pts, sortP_len]
  exact k _ _ (mod_le h1 h2 h5) h2 h4
theorem s_find {v : Value} {l : List Pt} {id : Int} (h : SliceAt H v 4 (pts l)) (hl : l.length ≤ 1000000) (k1 : ∀ i : Nat, l.findIdx? (fun p => p.id == id) = some i → R (.returned (vi i)) H) (k2 : l.findIdx? (fun p => p.id == id) = none → R (.returned (vi (-1))) H) :
    Meets prog 20 [v, vi id] H R := by
  obtain ⟨a, n, c, e, hn⟩ := h
  subst e
  refine spec_of func20 (by kernel_rfl) (fun t h => by cases h) ?_ (vc_find a n c id R H) ?_
  · simp [argsR, SV.rep, SC.rep, one]
  unfold nf_find
  intro b hb
  have hp : PredOK (fun _ => True) (fun H' => H' b = some (.cells #[vi id] 3 (0, 0))) 29 #[.pointer (some ⟨b, 0, none⟩)] fun p => p.id == id := by
    intro p H' R' _ hI k
    refine spec_of func29 (by kernel_rfl) (fun t h => by cases h) ?_ (vc_find1 p.id p.x p.y p.data ⟨b, 0, none⟩ R' H') ?_
    · simp [argsR, SV.rep, SegsRep, SC.rep, one]
    unfold nf_find1
    refine ptr rfl ⟨id, fun j x hx => ?_, k⟩
    cases j with
    | zero => simp at hx; subst hx; simp [Heap.cell?, hI]
    | succ j => simp at hx
  have fin : ∀ e, R e H → ∃ n, (∃ b_1, blockOf (.pointer (some ⟨b, 0, none⟩)) = some b_1 ∧ (H.upd b (.cells #[vi id] 3 (0, 0))) b_1 = some (.cells #[vi n] 3 (0, 0))) ∧ R e ((H.upd b (.cells #[vi id] 3 (0, 0))).delO (blockOf (.pointer (some ⟨b, 0, none⟩)))) := fun e h => by
    refine ⟨id, ⟨b, rfl, upd_same _ _ _⟩, ?_⟩
    show R e ((H.upd b _).del b)
    rw [upd_del hb]; exact h
  refine s_idx hp (slice_le ⟨a, n, c, rfl, hn⟩ (upd_le hb)) (upd_same _ _ _) (fun _ _ => trivial) hl (fun i hi => ⟨_, rfl, fin _ (k1 i hi)⟩) fun hi => ⟨_, rfl, fin _ (k2 hi)⟩
theorem pt_eta {p q : Pt} (h1 : p.id = q.id) (h2 : p.x = q.x) (h3 : p.y = q.y) (h4 : p.data = q.data) : p = q := by
  cases p; cases q; simp_all
theorem s_points {v v' : Value} {l l' : List Pt} (h : SliceAt H v 4 (pts l)) (h' : SliceAt H v' 4 (pts l')) (hl : l.length ≤ 10000000000000) (k : R (.returned (.bool (decide (l = l')))) H) : Meets prog 9 [v, v'] H R := by
  obtain ⟨a, n, c, e, hn⟩ := h
  subst e
  have h : SliceAt H (.slice a n c) 4 (pts l) := ⟨a, n, c, rfl, hn⟩
  have hln : l.length = n := by simpa [pts] using hn.1
  obtain ⟨a', n', c', e, hn'⟩ := h'
  subst e
  have h' : SliceAt H (.slice a' n' c') 4 (pts l') := ⟨a', n', c', rfl, hn'⟩
  have hln' : l'.length = n' := by simpa [pts] using hn'.1
  refine spec_of func9 (by kernel_rfl) (fun t h => ?_) ?_ (vc_points a n c a' n' c' R H) ?_
  · have : t = 33 := memN_one h
    subst this
    exact eqOK_of (by kernel_rfl) (by kernel_rfl) (by kernel_rfl)
  · simp [argsR, SV.rep, SC.rep, one]
  unfold nf_points
  refine br (fun q => ?_) fun q => ?_
  · have : decide (l = l') = false := decide_eq_false (by rintro rfl; simp at q; omega)
    rwa [this] at k
  simp only [bne_eq_false_iff_eq, Int.natCast_inj] at q
  simp only [true_and]
  refine ⟨fun p H' => ∃ t : Nat, p.1.1 = (t : Int) ∧ t ≤ n ∧ l.take t = l'.take t ∧ H' = H, fun p _ => (n - p.1.1).toNat, ⟨0, rfl, by omega, by simp, rfl⟩, ?_⟩
  rintro ⟨⟨i, _⟩, _⟩ H1 ⟨t, hi, ht, f, rfl⟩
  simp only at hi ⊢
  subst hi
  refine br (fun q1 => ?_) fun q1 => ?_
  · simp only [decide_eq_true_eq] at q1
    obtain ⟨y, hd, htk, hx⟩ := drop_cons (l := l) (k := t) (by omega)
    obtain ⟨y', hd', htk', hx'⟩ := drop_cons (l := l') (k := t) (by omega)
    obtain ⟨A, e, g1⟩ := pr_get h (i := t) hx
    subst e
    obtain ⟨A', e, g1'⟩ := pr_get h' (i := t) hx'
    subst e
    refine ⟨⟨by omega, by omega⟩, ptr rfl (ptr rfl ⟨_, _, _, _, g1, ⟨by omega, by omega⟩, ptr rfl (ptr rfl ⟨_, _, _, _, g1', br (fun q2 => ?_) fun q2 => ?_⟩)⟩)⟩
    · have : decide (l = l') = false := decide_eq_false (by rintro rfl; rw [hx] at hx'; cases hx'; simp [andO, ba_beq] at q2)
      rwa [this] at k
    · rw [w64 (by omega)]
      have : y = y' := by
        simp [andO, ba_beq] at q2
        exact pt_eta q2.1.1.1 q2.1.1.2 q2.1.2 q2.2
      exact ⟨⟨t + 1, by omega, by omega, by rw [htk, htk', f, this], by trivial⟩, by omega⟩
  · simp only [decide_eq_false_iff_not] at q1
    rw [List.take_of_length_le (by omega), List.take_of_length_le (by omega)] at f
    rwa [decide_eq_true f] at k
theorem le_delO {H H' : Heap} {v : Value} (h : H ≤ H') (hn : ∀ b, blockOf v = some b → H b = none) : H ≤ H'.delO (blockOf v) := fun b o e => by
  cases hb : blockOf v with
  | none => exact h b o e
  | some b' =>
    show (if b = b' then none else H' b) = some o
    rw [if_neg (by rintro rfl; rw [hn b hb] at e; cases e)]
    exact h b o e
theorem has_first {H : Heap} {A : Addr} {x : Value} {l : List Value} (g : H.has A (x :: l)) : H.has A [x] := fun j y hj => g j y (by
  cases j with
  | zero => simpa using hj
  | succ j => simp at hj)
theorem has_one {H : Heap} {A : Addr} {l : List Value} {k : Nat} {x : Value} (g : H.has A l) (h : l[k]? = some x) (hs : A.spot = none) : H.has (A.add k) [x] := fun j y hj => by
  cases j with
  | zero => simp at hj; subst hj; rw [add0]; exact g k _ h
  | succ j => simp at hj
theorem pr_fld {a : Option Addr} {n c : Nat} {l : List Pt} (h : SliceAt H (.slice a n c) 4 (pts l)) {i : Nat} {p : Pt} (he : l[i]? = some p) :
    ∃ A, a = some A ∧ H.has (A.add (i * 4)) (ptC p) ∧ H.has ((A.add (i * 4)).add 0) [vi p.id] ∧ H.has ((A.add (i * 4)).add 1) [.int .u32 p.x] ∧ H.has ((A.add (i * 4)).add 2) [.int .u32 p.y] ∧ H.has ((A.add (i * 4)).add 3) [.string p.data] := by
  obtain ⟨A, h1, h0, h2⟩ := slice_get h (i := i) (e := ptC p) (by simp [pts, he])
  have hs : (A.add (i * 4)).spot = none := by rw [add_spot h0]
  exact ⟨A, h1, h2, has_one h2 rfl hs, has_one h2 rfl hs, has_one h2 rfl hs, has_one h2 rfl hs⟩
theorem s_rsort {v : Value} {l : List Pt} (h : SliceAt H v 4 (pts l)) (hl : l.length ≤ 1000000) (k : ∀ v H', H ≤ H' → (∀ b, blockOf v = some b → H b = none) → RowAt H' v tPt 4 (pts (sortP l)) → R (.returned v) H') :
    Meets prog 14 [v] H R := by
  obtain ⟨a, n, c, e, hn⟩ := h
  subst e
  have h : SliceAt H (.slice a n c) 4 (pts l) := ⟨a, n, c, rfl, hn⟩
  have hln : l.length = n := by simpa [pts] using hn.1
  refine spec_of func14 (by kernel_rfl) (fun t h => by cases h) ?_ (vc_rsort a n c R H) ?_
  · simp [argsR, SV.rep, SC.rep, one]
  unfold nf_rsort
  simp only [true_and]
  refine ⟨fun p H' => ∃ t : Nat, p.1.1 = pts (sortP (l.take t)) ∧ p.1.2.1 = (t : Int) ∧ t ≤ n ∧ H' = H, fun p _ => (n - p.1.2.1).toNat, ⟨0, by simp [sortP, isort], rfl, by omega, rfl⟩, ?_⟩
  rintro ⟨⟨e1, i, _⟩, _⟩ H1 ⟨t, h1, hi, ht, rfl⟩
  simp only at h1 hi ⊢
  subst h1; subst hi
  refine br (fun q => ?_) fun q => ?_
  · simp only [decide_eq_true_eq] at q
    obtain ⟨x, hd, htk, hx⟩ := drop_cons (l := l) (k := t) (by omega)
    obtain ⟨A, e, g, g0, g1, g2, g3⟩ := pr_fld h (i := t) hx
    subst e
    have hs : sortP (l.take (t + 1)) = insR ltI x (sortP (l.take t)) := by rw [htk]; exact isort_snoc _ _
    have hsl : (sortP (l.take t)).length = t := by rw [sortP_len, List.length_take]; omega
    have hsr : Srtd ltI (sortP (l.take t)) := isort_srtd swo_I _
    generalize sortP (l.take t) = S at *
    refine ⟨fun p H' => ∃ j : Nat, p.1.1 = pts S ∧ p.1.2.1 = (j : Int) ∧ j ≤ t ∧ (∀ y ∈ S.drop j, ltI x y = true) ∧ H' = H1, fun p _ => p.1.2.1.toNat, ⟨t, rfl, by simp [pts, hsl], by omega, by rw [List.drop_of_length_le (by omega)]; simp, rfl⟩, ?_⟩
    rintro ⟨⟨e1, j, _⟩, _⟩ H2 ⟨j, h1, hj, hjt, hgt, rfl⟩
    simp only at h1 hj ⊢
    subst h1; subst hj
    have fin : (∀ y ∈ S.take j, ltI x y = false) → List.append (List.append (List.take ((j : Int).toNat - 0) (List.drop 0 (pts S))) [[.int .i64 x.id, .int .u32 x.x, .int .u32 x.y, .string x.data]]) (List.take ((pts S).length - (j : Int).toNat) (List.drop (j : Int).toNat (pts S))) = pts (sortP (l.take (t + 1))) := fun hlo => by
      have := insR_at x (S.take j) (S.drop j) hlo hgt
      rw [List.take_append_drop] at this
      rw [hs, this]
      have e : (pts S).length - j = (List.drop j (pts S)).length := by simp
      simp only [Int.toNat_natCast, Nat.sub_zero, List.drop_zero]
      rw [e, List.take_length]
      simp [pts]
    have lens : ((pts S).length : Int) = t := by simp [pts, hsl]
    have l1 : (List.take ((j : Int).toNat - 0) (List.drop 0 (pts S))).length = j := by simp [pts, hsl]; omega
    have l2 : (List.append (List.take ((j : Int).toNat - 0) (List.drop 0 (pts S))) [[.int .i64 x.id, .int .u32 x.x, .int .u32 x.y, .string x.data]]).length = j + 1 := by
      rw [show ∀ a b : List (List Value), List.append a b = a ++ b from fun _ _ => rfl, List.length_append, l1]; rfl
    have last : (∀ y ∈ S.take j, ltI x y = false) → (0 ≤ (t : Int) ∧ (t : Int) < n) → (List.take ((j : Int).toNat - 0) (List.drop 0 (pts S))).length * 32 ≤ 140737488355328 ∧
        (List.append (List.take ((j : Int).toNat - 0) (List.drop 0 (pts S))) [[.int .i64 x.id, .int .u32 x.x, .int .u32 x.y, .string x.data]]).length * 32 ≤ 140737488355328 ∧
        (List.append (List.append (List.take ((j : Int).toNat - 0) (List.drop 0 (pts S))) [[.int .i64 x.id, .int .u32 x.x, .int .u32 x.y, .string x.data]]) (List.take ((pts S).length - (j : Int).toNat) (List.drop (j : Int).toNat (pts S)))).length * 32 ≤ 140737488355328 := fun hlo _ => by
      rw [l1, l2, fin hlo]
      have : (pts (sortP (l.take (t + 1)))).length = t + 1 := by simp [pts, sortP_len]; omega
      rw [this]; omega
    have step : (∀ y ∈ S.take j, ltI x y = false) → ∃ t', List.append (List.append (List.take ((j : Int).toNat - 0) (List.drop 0 (pts S))) [[.int .i64 x.id, .int .u32 x.x, .int .u32 x.y, .string x.data]]) (List.take ((pts S).length - (j : Int).toNat) (List.drop (j : Int).toNat (pts S))) = pts (sortP (l.take t')) ∧ IntKind.i64.wrap ((t : Int) + 1) = (t' : Int) ∧ t' ≤ n ∧ True := fun hlo => ⟨t + 1, fin hlo, by rw [w64 (by omega)]; omega, by omega, trivial⟩
    have meas : ((n : Int) - IntKind.i64.wrap ((t : Int) + 1)).toNat < ((n : Int) - t).toNat := by rw [w64 (by omega)]; omega
    refine br (fun q1 => ?_) fun q1 => ?_
    · simp only [decide_eq_true_eq] at q1
      obtain ⟨u, rfl⟩ : ∃ u, j = u + 1 := ⟨j - 1, by omega⟩
      have hy : S[u]? = some S[u] := List.getElem?_eq_getElem (by omega)
      have hw : IntKind.i64.wrap (((u + 1 : Nat) : Int) - 1) = u := by rw [w64 (by omega)]; omega
      rw [hw]
      refine ⟨⟨by omega, by omega⟩, S[u].id, ⟨ptC S[u], ?_, rfl⟩, ⟨by omega, by omega⟩, ptr rfl (ptr rfl (ptr rfl ⟨_, g0, br (fun q2 => ?_) fun q2 => ?_⟩))⟩
      · show (pts S)[(u : Int).toNat]? = _
        simp [pts, hy]
      · simp only [decide_eq_true_eq] at q2
        refine ⟨⟨u, rfl, by omega, by omega, fun y hy' => ?_, by trivial⟩, by omega⟩
        rw [List.drop_eq_getElem_cons (by omega)] at hy'
        rcases List.mem_cons.1 hy' with rfl | hy'
        · simpa using q2
        · exact hgt y hy'
      · simp only [decide_eq_false_iff_not] at q2
        have hlo : ∀ y ∈ S.take (u + 1), ltI x y = false := fun y hy' => by
          obtain ⟨i, hi, rfl⟩ := List.mem_take_iff_getElem.1 hy'
          simp only [decide_eq_false_iff_not]
          rcases Nat.lt_or_ge i u with hlt | hge
          · have := List.pairwise_iff_getElem.1 hsr i u (by omega) (by omega) hlt
            simp at this
            omega
          · have : i = u := by omega
            subst this; omega
        refine ⟨⟨by omega, by omega⟩, ⟨by omega, by omega⟩, ptr rfl (ptr rfl ⟨_, _, _, _, g, ⟨by omega, by omega⟩, (last hlo ⟨by omega, by omega⟩).1, (last hlo ⟨by omega, by omega⟩).2.1, (last hlo ⟨by omega, by omega⟩).2.2, step hlo, meas⟩)⟩
    · simp only [decide_eq_false_iff_not] at q1
      have hj0 : j = 0 := by omega
      have hlo : ∀ y ∈ S.take j, ltI x y = false := by subst hj0; simp
      exact ⟨⟨by omega, by omega⟩, ⟨by omega, by omega⟩, ptr rfl (ptr rfl ⟨_, _, _, _, g, ⟨by omega, by omega⟩, (last hlo ⟨by omega, by omega⟩).1, (last hlo ⟨by omega, by omega⟩).2.1, (last hlo ⟨by omega, by omega⟩).2.2, step hlo, meas⟩)⟩
  · simp only [decide_eq_false_iff_not] at q
    rw [List.take_of_length_le (by omega)]
    exact fun v H' a b _ d => k v H' a b d
/-- A part of a slice. -/
theorem slice_sub {H : Heap} {a : Option Addr} {n c sz lo hi : Nat} {es : List (List Value)} (h : SliceAt H (.slice a n c) sz es) (h1 : lo ≤ hi) (h2 : hi ≤ n) : SliceAt H (.slice (subAddr a c lo sz) (hi - lo) (c - lo)) sz ((es.drop lo).take (hi - lo)) := by
  obtain ⟨a', n', c', e, hl, hc, h3, h4, h5⟩ := h
  cases e
  refine ⟨_, _, _, rfl, by rw [List.length_take, List.length_drop]; omega, by omega, fun e he => h3 e (List.mem_of_mem_drop (List.mem_of_mem_take he)), fun e he => h4 e (List.mem_of_mem_drop (List.mem_of_mem_take he)), fun i e he => ?_⟩
  have hi' : i < hi - lo := by
    have := (List.getElem?_eq_some_iff.1 he).1
    rw [List.length_take] at this; omega
  rw [List.getElem?_take_of_lt hi', List.getElem?_drop] at he
  obtain ⟨A, rfl, q2, q3⟩ := h5 (lo + i) e he
  have hlc : c ≠ lo := by omega
  refine ⟨A.add (lo * sz), by simp [subAddr, hlc], by rw [add_spot q2], ?_⟩
  have : (A.add (lo * sz)).add (i * sz) = A.add ((lo + i) * sz) := by
    rw [add_spot q2, add_spot q2, add_spot rfl]
    simp [Nat.add_mul, Nat.add_assoc]
  rw [this]; exact q3
theorem slice_suf {H : Heap} {a : Option Addr} {n c sz lo : Nat} {es : List (List Value)} (h : SliceAt H (.slice a n c) sz es) (h2 : lo ≤ n) : SliceAt H (.slice (subAddr a c lo sz) (n - lo) (c - lo)) sz (es.drop lo) := by
  have hl := (slice_len h).1
  have := slice_sub h h2 (Nat.le_refl n)
  rwa [List.take_of_length_le (by rw [List.length_drop]; omega)] at this
theorem s_sdel {v : Value} {ty : Nat} {l : List Pt} {i : Nat} (hrow : RowAt H v ty 4 (pts l)) (hi : i < l.length) (hl : l.length ≤ 1000000) (k : ∀ v' H', RowAt H' v' ty 4 (pts (l.eraseIdx i)) → blockOf v' = blockOf v → Mod v H H' → R (.returned v') H') :
    Meets prog 21 [v, vi i, vi ((i : Int) + 1)] H R := by
  obtain ⟨a, c, rfl⟩ := row_val hrow
  have hpl : (pts l).length = l.length := by simp [pts]
  rw [hpl] at hrow k ⊢
  have hcap := (row_len hrow).2
  obtain ⟨A, rfl⟩ : ∃ A, a = some A := by
    obtain ⟨A, e, _⟩ := pr_get (row_slice hrow) (i := i) (p := l[i]) (List.getElem?_eq_getElem hi)
    exact ⟨A, e⟩
  refine spec_of func21 (by kernel_rfl) (fun t h => by cases h) ?_ (vc_sdel (some A) l.length c i ((i : Int) + 1) R H) ?_
  · simp [argsR, SV.rep, SC.rep, one]
  unfold nf_sdel
  have e1 : ((i : Int) + 1).toNat = i + 1 := by omega
  rw [e1, Int.toNat_natCast, Int.toNat_natCast, Nat.sub_zero, Nat.sub_zero, Int.toNat_natCast]
  have hcz : subAddr (some A) c 0 4 = some A := by
    unfold subAddr
    split
    · rfl
    · simp
  have hsp : A.spot = none := by
    obtain ⟨A', e, h0, _⟩ := slice_get (row_slice hrow) (i := i) (e := ptC l[i]) (by simp [pts, List.getElem?_eq_getElem hi])
    cases e; exact h0
  have hlast : ∀ k : Nat, k < c → subAddr (some A) c k 4 = some (A.add (k * 4)) := fun k hk => by
    unfold subAddr
    rw [if_neg (by omega)]
    rfl
  refine ⟨⟨by omega, by omega⟩, ⟨by omega, by omega⟩, ⟨by omega, by omega⟩, br (fun q => by simp at q; omega) fun _ => ?_⟩
  refine ⟨⟨by omega, by omega⟩, ⟨by omega, by omega⟩, by omega, pts (l.drop (i + 1)), ?_, ?_⟩
  · have := slice_suf (row_slice hrow) (lo := i + 1) (by omega)
    simpa [pts] using this
  rw [hcz]
  have hn1 : i + (l.length - (i + 1)) = l.length - 1 := by omega
  rw [hn1, hlast (l.length - 1) (by omega)]
  have herase : l.eraseIdx i = l.take i ++ l.drop (i + 1) := List.eraseIdx_eq_take_drop_succ ..
  have hsub1 : l.length - (l.length - 1) = 1 := by omega
  rw [hsub1]
  have z1 : (List.replicate 1 [vi 0, .int .u32 0, .int .u32 0, .string { data := #[] }]).length = 1 := rfl
  -- the last one is cleared
  have clear : ∀ {H1 : Heap} {x : Pt}, RowAt H1 (.slice (some A) l.length c) ty 4 (pts (l.take i ++ l.drop (i + 1)) ++ pts [x]) → Mod (.slice (some A) l.length c) H H1 →
      ∃ A', ∃ (c_1 : Array Value), ∃ ty', some (A.add ((l.length - 1) * 4)) = some A' ∧ (H1 A'.block = some (.cells c_1 ty' (0, 0)) ∧ A'.spot = none ∧ A'.off + 1 * 4 ≤ c_1.size) ∧ R (.returned (.slice (some A) (l.length - 1) c)) (H1.upd A'.block (.cells (writeCells c_1 A'.off (List.replicate 1 [vi 0, .int .u32 0, .int .u32 0, .string { data := #[] }]).flatten) ty' (0, 0))) := by
    intro H1 x hr hm
    have hl1 : (pts (l.take i ++ l.drop (i + 1))).length = l.length - 1 := by simp [pts]; omega
    obtain ⟨cl, ⟨g1, g2, g3⟩, g4, g5⟩ := row_fill hr (ws := List.replicate 1 [vi 0, .int .u32 0, .int .u32 0, .string { data := #[] }]) (by simp [pts]) (by intro e he; rw [List.eq_of_mem_replicate he]; rfl) (by intro e he x hx; rw [List.eq_of_mem_replicate he] at hx; simp at hx; rcases hx with rfl | rfl | rfl | rfl <;> rfl)
    rw [hl1] at g3 g4 g5
    rw [z1] at g3
    refine ⟨_, cl, ty, rfl, ?_, ?_⟩
    · rw [add_spot hsp]
      exact ⟨g1, rfl, g3⟩
    · rw [add_spot hsp]
      have := row_prefix g4
      rw [hl1] at this
      have hb : (Value.slice (some A) (l.length - 1) c) = .slice (some A) (pts (l.eraseIdx i)).length c := by rw [herase, hl1]
      refine k _ _ ?_ rfl (hm.trans g5)
      rw [herase]; exact this
  by_cases hlt : i + 1 = l.length
  · refine .inl ⟨by rw [List.drop_of_length_le (by omega)]; rfl, ⟨by omega, by omega⟩, ⟨by omega, by omega⟩, .inr ?_⟩
    refine clear (x := l[i]) ?_ (Mod.refl _ _)
    have : pts (l.take i ++ l.drop (i + 1)) ++ pts [l[i]] = pts l := by
      rw [List.drop_of_length_le (by omega), List.append_nil, ← List.map_append]
      congr 1
      conv => rhs; rw [← List.take_append_drop i l, List.drop_eq_getElem_cons hi, List.drop_of_length_le (by omega : l.length ≤ i + 1)]
    rw [this]; exact hrow
  · have hdl : (l.drop (i + 1)).length = l.length - (i + 1) := by simp
    have hsplit : pts l = pts (l.take i) ++ pts ((l.drop i).take (l.length - (i + 1))) ++ pts [l[l.length - 1]] := by
      rw [← List.map_append, ← List.map_append]
      congr 1
      conv => lhs; rw [← List.take_append_drop i l]
      rw [List.append_assoc]
      congr 1
      conv => lhs; rw [← List.take_append_drop (l.length - (i + 1)) (l.drop i)]
      congr 1
      rw [List.drop_drop]
      have : i + (l.length - (i + 1)) = l.length - 1 := by omega
      rw [this, List.drop_eq_getElem_cons (by omega), List.drop_of_length_le (by omega)]
    rw [hsplit] at hrow
    obtain ⟨cl, ⟨g1, g2, g3⟩, g4, g5⟩ := row_mid hrow (ws := pts (l.drop (i + 1))) (by simp [pts]; omega) (by intro e he; obtain ⟨p, _, rfl⟩ := List.mem_map.1 he; rfl) (by intro e he; obtain ⟨p, _, rfl⟩ := List.mem_map.1 he; exact ptC_one p)
    have hl0 : (pts (l.take i)).length = i := by simp [pts]; omega
    rw [hl0] at g3 g4 g5
    refine .inr ⟨A, cl, ty, rfl, ⟨g1, g2, g3⟩, ⟨by omega, by omega⟩, ⟨by omega, by omega⟩, .inr ?_⟩
    refine clear (x := l[l.length - 1]) ?_ g5
    rw [show pts (l.take i ++ l.drop (i + 1)) = pts (l.take i) ++ pts (l.drop (i + 1)) from List.map_append ..]
    exact g4
end
end Cr

set_option linter.unusedVariables false
set_option linter.unusedSimpArgs false
namespace Cr
open Go Sx Stb
open Go.Proofs.Try
set_option linter.unusedSectionVars false
variable [Dr]
set_option maxRecDepth 100000
def h_cpf : Hints := { loops := [(4, ⟨[0, 1, 4], [.f 5 (.int .i64)], []⟩), (9, ⟨[0, 1, 4, 6], [.f 5 (.int .i64), .f 7 (.int .i64)], []⟩)] }
def h_dids : Hints := { give := [30], loops := [(3, ⟨[0, 2, 8, 9], [.f 10 (.int .i64), .row 3 3 1], []⟩), (6, ⟨[0, 2, 5, 8, 9, 10, 14, 15], [.f 16 (.int .i64), .row 3 3 1], []⟩)] }
def h_dbet : Hints := { eqs := [33], loops := [(4, ⟨[0, 1, 4, 19, 20], [.f 21 (.int .i64), .row 5 35 5], []⟩)] }
def h_done : Hints := { own := [45] }
def h_dapp : Hints := { loops := [(3, ⟨[0, 1, 4, 5, 13, 14], [.f 6 .slc, .f 15 (.int .i64)], []⟩)] }
def nf_cpf (a : Option Addr) (n : Nat) (c : Nat) (g : Nat) (R : Ending → Heap → Prop) (H : Heap) : Prop := Br (decide ((↑n : Int) < (2 : Int))) (R (Ending.returned (Value.slice a n c)) H) (a = a ∧ n = n ∧ c = c ∧ Value.func (Fn.func g) { toList := [] } { toList := [] } = Value.func (Fn.func g) { toList := [] } { toList := [] } ∧ (none : Option Addr) = none ∧ (0 : Nat) = (0 : Nat) ∧ (0 : Nat) = (0 : Nat) ∧ LoopP (fun (K : (Int × PUnit) × PUnit → (Nat → Option Obj) → Prop) (p : (Int × PUnit) × PUnit) (H : Nat → Option Obj) ↦ Br (decide (p.fst.fst < (↑n : Int))) (∃ (G : Nat → Option Obj), G ≤ H ∧ ((0 : Int) ≤ p.fst.fst ∧ p.fst.fst < (↑n : Int)) ∧ PtrK a fun (A : Addr) ↦ PtrK (some (Addr.add A (Int.toNat p.fst.fst * (4 : Nat)))) fun (a_1 : Addr) ↦ ∃ (n_1 : Int), ∃ (n_2 : Int), ∃ (n_3 : Int), ∃ (s : ByteArray), Heap.has G a_1 [Value.int IntKind.i64 n_1, Value.int IntKind.u32 n_2, Value.int IntKind.u32 n_3, Value.string s] ∧ ((0 : Int) ≤ IntKind.wrap IntKind.i64 (p.fst.fst - (1 : Int)) ∧ IntKind.wrap IntKind.i64 (p.fst.fst - (1 : Int)) < (↑n : Int)) ∧ PtrK a fun (A : Addr) ↦ PtrK (some (Addr.add A (Int.toNat (IntKind.wrap IntKind.i64 (p.fst.fst - (1 : Int))) * (4 : Nat)))) fun (a_2 : Addr) ↦ ∃ (n_4 : Int), ∃ (n_5 : Int), ∃ (n_6 : Int), ∃ (s_1 : ByteArray), Heap.has G a_2 [Value.int IntKind.i64 n_4, Value.int IntKind.u32 n_5, Value.int IntKind.u32 n_6, Value.string s_1] ∧ Meets prog g [Value.agg { toList := [Value.int IntKind.i64 n_1, Value.int IntKind.u32 n_2, Value.int IntKind.u32 n_3, Value.string s] }, Value.agg { toList := [Value.int IntKind.i64 n_4, Value.int IntKind.u32 n_5, Value.int IntKind.u32 n_6, Value.string s_1] }] H fun (e : Ending) (H' : Nat → Option Obj) ↦ Keep G H H H' ∧ ∃ (b : Bool), e = Ending.returned (Value.bool b) ∧ Br b (((0 : Int) ≤ p.fst.fst ∧ p.fst.fst ≤ (↑n : Int)) ∧ a = a ∧ n = n ∧ c = c ∧ Value.func (Fn.func g) { toList := [] } { toList := [] } = Value.func (Fn.func g) { toList := [] } { toList := [] } ∧ (none : Option Addr) = none ∧ (0 : Nat) = (0 : Nat) ∧ (0 : Nat) = (0 : Nat) ∧ subAddr a c (Int.toNat p.fst.fst) (4 : Nat) = subAddr a c (Int.toNat p.fst.fst) (4 : Nat) ∧ n - Int.toNat p.fst.fst = n - Int.toNat p.fst.fst ∧ c - Int.toNat p.fst.fst = c - Int.toNat p.fst.fst ∧ LoopP (fun (K : (Int × Int × PUnit) × PUnit → (Nat → Option Obj) → Prop) (p_1 : (Int × Int × PUnit) × PUnit) (H : Nat → Option Obj) ↦ Br (decide (p_1.fst.snd.fst < (↑(n - Int.toNat p.fst.fst) : Int))) (∃ (G : Nat → Option Obj), G ≤ H ∧ ((0 : Int) ≤ p_1.fst.snd.fst ∧ p_1.fst.snd.fst < (↑(n - Int.toNat p.fst.fst) : Int)) ∧ PtrK (subAddr a c (Int.toNat p.fst.fst) (4 : Nat)) fun (A : Addr) ↦ PtrK (some (Addr.add A (Int.toNat p_1.fst.snd.fst * (4 : Nat)))) fun (a_3 : Addr) ↦ ∃ (n_7 : Int), ∃ (n_8 : Int), ∃ (n_9 : Int), ∃ (s : ByteArray), Heap.has G a_3 [Value.int IntKind.i64 n_7, Value.int IntKind.u32 n_8, Value.int IntKind.u32 n_9, Value.string s] ∧ ((0 : Int) ≤ IntKind.wrap IntKind.i64 (p_1.fst.snd.fst - (1 : Int)) ∧ IntKind.wrap IntKind.i64 (p_1.fst.snd.fst - (1 : Int)) < (↑(n - Int.toNat p.fst.fst) : Int)) ∧ PtrK (subAddr a c (Int.toNat p.fst.fst) (4 : Nat)) fun (A : Addr) ↦ PtrK (some (Addr.add A (Int.toNat (IntKind.wrap IntKind.i64 (p_1.fst.snd.fst - (1 : Int))) * (4 : Nat)))) fun (a_4 : Addr) ↦ ∃ (n_10 : Int), ∃ (n_11 : Int), ∃ (n_12 : Int), ∃ (s_2 : ByteArray), Heap.has G a_4 [Value.int IntKind.i64 n_10, Value.int IntKind.u32 n_11, Value.int IntKind.u32 n_12, Value.string s_2] ∧ Meets prog g [Value.agg { toList := [Value.int IntKind.i64 n_7, Value.int IntKind.u32 n_8, Value.int IntKind.u32 n_9, Value.string s] }, Value.agg { toList := [Value.int IntKind.i64 n_10, Value.int IntKind.u32 n_11, Value.int IntKind.u32 n_12, Value.string s_2] }] H fun (e : Ending) (H' : Nat → Option Obj) ↦ Keep G H H H' ∧ ∃ (b : Bool), e = Ending.returned (Value.bool b) ∧ Br (!b) (((0 : Int) ≤ p_1.fst.snd.fst ∧ p_1.fst.snd.fst < (↑(n - Int.toNat p.fst.fst) : Int)) ∧ PtrK (subAddr a c (Int.toNat p.fst.fst) (4 : Nat)) fun (A : Addr) ↦ PtrK (some (Addr.add A (Int.toNat p_1.fst.snd.fst * (4 : Nat)))) fun (a_5 : Addr) ↦ ∃ (n_13 : Int), ∃ (n_14 : Int), ∃ (n_15 : Int), ∃ (s : ByteArray), Heap.has (delLs H' []) a_5 [Value.int IntKind.i64 n_13, Value.int IntKind.u32 n_14, Value.int IntKind.u32 n_15, Value.string s] ∧ ((0 : Int) ≤ p_1.fst.fst ∧ p_1.fst.fst < (↑n : Int)) ∧ PtrK a fun (A : Addr) ↦ PtrK (some (Addr.add A (Int.toNat p_1.fst.fst * (4 : Nat)))) fun (A : Addr) ↦ ∃ (c_1 : Array Value), ∃ (ty : Nat), (delLs H' [] A.block = some (Obj.cells c_1 ty) ∧ A.spot = none ∧ A.off + (4 : Nat) ≤ Array.size c_1) ∧ a = a ∧ n = n ∧ c = c ∧ Value.func (Fn.func g) { toList := [] } { toList := [] } = Value.func (Fn.func g) { toList := [] } { toList := [] } ∧ (none : Option Addr) = none ∧ (0 : Nat) = (0 : Nat) ∧ (0 : Nat) = (0 : Nat) ∧ subAddr a c (Int.toNat p.fst.fst) (4 : Nat) = subAddr a c (Int.toNat p.fst.fst) (4 : Nat) ∧ n - Int.toNat p.fst.fst = n - Int.toNat p.fst.fst ∧ c - Int.toNat p.fst.fst = c - Int.toNat p.fst.fst ∧ K ((IntKind.wrap IntKind.i64 (p_1.fst.fst + (1 : Int)), IntKind.wrap IntKind.i64 (p_1.fst.snd.fst + (1 : Int)), PUnit.unit), PUnit.unit) (Heap.upd (delLs H' []) A.block (Obj.cells (writeCells c_1 A.off [Value.int IntKind.i64 n_13, Value.int IntKind.u32 n_14, Value.int IntKind.u32 n_15, Value.string s]) ty))) (a = a ∧ n = n ∧ c = c ∧ Value.func (Fn.func g) { toList := [] } { toList := [] } = Value.func (Fn.func g) { toList := [] } { toList := [] } ∧ (none : Option Addr) = none ∧ (0 : Nat) = (0 : Nat) ∧ (0 : Nat) = (0 : Nat) ∧ subAddr a c (Int.toNat p.fst.fst) (4 : Nat) = subAddr a c (Int.toNat p.fst.fst) (4 : Nat) ∧ n - Int.toNat p.fst.fst = n - Int.toNat p.fst.fst ∧ c - Int.toNat p.fst.fst = c - Int.toNat p.fst.fst ∧ K ((p_1.fst.fst, IntKind.wrap IntKind.i64 (p_1.fst.snd.fst + (1 : Int)), PUnit.unit), PUnit.unit) (delLs H' []))) (((0 : Int) ≤ p_1.fst.fst ∧ p_1.fst.fst ≤ (↑n : Int)) ∧ (n - Int.toNat p_1.fst.fst = (0 : Nat) ∧ ((0 : Int) ≤ p_1.fst.fst ∧ p_1.fst.fst ≤ (↑c : Int)) ∧ R (Ending.returned (Value.slice (subAddr a c (0 : Nat) (4 : Nat)) (Int.toNat p_1.fst.fst - (0 : Nat)) (c - (0 : Nat)))) H ∨ ∃ (A : Addr), ∃ (c_1 : Array Value), ∃ (ty : Nat), subAddr a c (Int.toNat p_1.fst.fst) (4 : Nat) = some A ∧ (H A.block = some (Obj.cells c_1 ty) ∧ A.spot = none ∧ A.off + (n - Int.toNat p_1.fst.fst) * (4 : Nat) ≤ Array.size c_1) ∧ ((0 : Int) ≤ p_1.fst.fst ∧ p_1.fst.fst ≤ (↑c : Int)) ∧ R (Ending.returned (Value.slice (subAddr a c (0 : Nat) (4 : Nat)) (Int.toNat p_1.fst.fst - (0 : Nat)) (c - (0 : Nat)))) (Heap.upd H A.block (Obj.cells (writeCells c_1 A.off (List.flatten (List.replicate (n - Int.toNat p_1.fst.fst) [Value.int IntKind.i64 (0 : Int), Value.int IntKind.u32 (0 : Int), Value.int IntKind.u32 (0 : Int), Value.string { data := #[] }]))) ty))))) ((p.fst.fst, (1 : Int), PUnit.unit), PUnit.unit) (delLs H' [])) (a = a ∧ n = n ∧ c = c ∧ Value.func (Fn.func g) { toList := [] } { toList := [] } = Value.func (Fn.func g) { toList := [] } { toList := [] } ∧ (none : Option Addr) = none ∧ (0 : Nat) = (0 : Nat) ∧ (0 : Nat) = (0 : Nat) ∧ K ((IntKind.wrap IntKind.i64 (p.fst.fst + (1 : Int)), PUnit.unit), PUnit.unit) (delLs H' []))) (R (Ending.returned (Value.slice a n c)) H)) (((1 : Int), PUnit.unit), PUnit.unit) H)
theorem vc_cpf (a : Option Addr) (n : Nat) (c : Nat) (g : Nat) (R : Ending → Heap → Prop) (H : Heap) : vcFun prog h_cpf f15 [SV.c (SC.v (Value.slice a n c)), SV.c (SC.v (Value.func (Fn.func g) #[] #[]))] R H = nf_cpf a n c g R H := by kernel_rfl

def nf_dfix1 (i : Int) (x : Int) (y : Int) (d : ByteArray) (i' : Int) (x' : Int) (y' : Int) (d' : ByteArray) (R : Ending → Heap → Prop) (H : Heap) : Prop := R (Ending.returned (Value.bool (i == i'))) H
theorem vc_dfix1 (i : Int) (x : Int) (y : Int) (d : ByteArray) (i' : Int) (x' : Int) (y' : Int) (d' : ByteArray) (R : Ending → Heap → Prop) (H : Heap) : vcFun prog { } f17 [ptA i x y d, ptA i' x' y' d'] R H = nf_dfix1 i x y d i' x' y' d' R H := by kernel_rfl

def nf_dfix (a : Option Addr) (n : Nat) (c : Nat) (R : Ending → Heap → Prop) (H : Heap) : Prop := Meets prog (16 : Nat) [Value.slice a n c] H fun (e : Ending) (H' : Nat → Option Obj) ↦ ∃ (a : Option Addr), ∃ (n : Nat), ∃ (c : Nat), e = Ending.returned (Value.slice a n c) ∧ Meets prog (15 : Nat) [Value.slice a n c, Value.func (Fn.func (17 : Nat)) { toList := [] } { toList := [] }] H' fun (e : Ending) (H' : Nat → Option Obj) ↦ ∃ (a : Option Addr), ∃ (n : Nat), ∃ (c : Nat), e = Ending.returned (Value.slice a n c) ∧ R (Ending.returned (Value.slice a n c)) H'
theorem vc_dfix (a : Option Addr) (n : Nat) (c : Nat) (R : Ending → Heap → Prop) (H : Heap) : vcFun prog { } f10 [SV.c (SC.v (Value.slice a n c))] R H = nf_dfix a n c R H := by kernel_rfl

def nf_dof (a : Option Addr) (n : Nat) (c : Nat) (id : Int) (R : Ending → Heap → Prop) (H : Heap) : Prop := Meets prog (20 : Nat) [Value.slice a n c, Value.int IntKind.i64 id] H fun (e : Ending) (H' : Nat → Option Obj) ↦ ∃ (n_1 : Int), e = Ending.returned (Value.int IntKind.i64 n_1) ∧ Br (decide (n_1 < (0 : Int))) (R (Ending.returned (Value.tuple { toList := [Value.agg { toList := [Value.int IntKind.i64 (0 : Int), Value.int IntKind.u32 (0 : Int), Value.int IntKind.u32 (0 : Int), Value.string { data := #[] }] }, Value.bool false] })) H') (((0 : Int) ≤ n_1 ∧ n_1 < (↑n : Int)) ∧ PtrK a fun (A : Addr) ↦ PtrK (some (Addr.add A (Int.toNat n_1 * (4 : Nat)))) fun (a : Addr) ↦ ∃ (n : Int), ∃ (n_2 : Int), ∃ (n_3 : Int), ∃ (s : ByteArray), Heap.has H' a [Value.int IntKind.i64 n, Value.int IntKind.u32 n_2, Value.int IntKind.u32 n_3, Value.string s] ∧ R (Ending.returned (Value.tuple { toList := [Value.agg { toList := [Value.int IntKind.i64 n, Value.int IntKind.u32 n_2, Value.int IntKind.u32 n_3, Value.string s] }, Value.bool true] })) H')
theorem vc_dof (a : Option Addr) (n : Nat) (c : Nat) (id : Int) (R : Ending → Heap → Prop) (H : Heap) : vcFun prog { } f12 [SV.c (SC.v (Value.slice a n c)), SV.c (SC.v (Value.int IntKind.i64 id))] R H = nf_dof a n c id R H := by kernel_rfl

def nf_dids (a : Option Addr) (n : Nat) (c : Nat) (R : Ending → Heap → Prop) (H : Heap) : Prop := a = a ∧ n = n ∧ c = c ∧ (none : Option Addr) = none ∧ (0 : Nat) = (0 : Nat) ∧ (0 : Nat) = (0 : Nat) ∧ a = a ∧ n = n ∧ c = c ∧ (↑n : Int) = (↑n : Int) ∧ LoopP (fun (K : (Int × List (List Value) × PUnit) × PUnit → (Nat → Option Obj) → Prop) (p : (Int × List (List Value) × PUnit) × PUnit) (H : Nat → Option Obj) ↦ Br (decide (p.fst.fst < (↑n : Int))) (((0 : Int) ≤ p.fst.fst ∧ p.fst.fst < (↑n : Int)) ∧ PtrK a fun (A : Addr) ↦ PtrK (some (Addr.add A (Int.toNat p.fst.fst * (1 : Nat)))) fun (a_1 : Addr) ↦ ∃ (a_2 : Option Addr), ∃ (n_1 : Nat), ∃ (c_1 : Nat), Heap.has H a_1 [Value.slice a_2 n_1 c_1] ∧ a = a ∧ n = n ∧ c = c ∧ (none : Option Addr) = none ∧ (0 : Nat) = (0 : Nat) ∧ (0 : Nat) = (0 : Nat) ∧ a_2 = a_2 ∧ n_1 = n_1 ∧ c_1 = c_1 ∧ a = a ∧ n = n ∧ c = c ∧ (↑n : Int) = (↑n : Int) ∧ p.fst.fst = p.fst.fst ∧ a_2 = a_2 ∧ n_1 = n_1 ∧ c_1 = c_1 ∧ (↑n_1 : Int) = (↑n_1 : Int) ∧ LoopP (fun (K_1 : (Int × List (List Value) × PUnit) × PUnit → (Nat → Option Obj) → Prop) (p_1 : (Int × List (List Value) × PUnit) × PUnit) (H : Nat → Option Obj) ↦ Br (decide (p_1.fst.fst < (↑n_1 : Int))) (((0 : Int) ≤ p_1.fst.fst ∧ p_1.fst.fst < (↑n_1 : Int)) ∧ PtrK a_2 fun (A : Addr) ↦ PtrK (some (Addr.add A (Int.toNat p_1.fst.fst * (4 : Nat)))) fun (a_3 : Addr) ↦ ∃ (n_2 : Int), ∃ (n_3 : Int), ∃ (n_4 : Int), ∃ (s : ByteArray), Heap.has H a_3 [Value.int IntKind.i64 n_2, Value.int IntKind.u32 n_3, Value.int IntKind.u32 n_4, Value.string s] ∧ List.length (List.append p_1.fst.snd.fst [[Value.int IntKind.i64 n_2]]) * (8 : Nat) ≤ (140737488355328 : Nat) ∧ a = a ∧ n = n ∧ c = c ∧ (none : Option Addr) = none ∧ (0 : Nat) = (0 : Nat) ∧ (0 : Nat) = (0 : Nat) ∧ a_2 = a_2 ∧ n_1 = n_1 ∧ c_1 = c_1 ∧ a = a ∧ n = n ∧ c = c ∧ (↑n : Int) = (↑n : Int) ∧ p.fst.fst = p.fst.fst ∧ a_2 = a_2 ∧ n_1 = n_1 ∧ c_1 = c_1 ∧ (↑n_1 : Int) = (↑n_1 : Int) ∧ K_1 ((IntKind.wrap IntKind.i64 (p_1.fst.fst + (1 : Int)), List.append p_1.fst.snd.fst [[Value.int IntKind.i64 n_2]], PUnit.unit), PUnit.unit) H) (a = a ∧ n = n ∧ c = c ∧ (none : Option Addr) = none ∧ (0 : Nat) = (0 : Nat) ∧ (0 : Nat) = (0 : Nat) ∧ a = a ∧ n = n ∧ c = c ∧ (↑n : Int) = (↑n : Int) ∧ K ((IntKind.wrap IntKind.i64 (p.fst.fst + (1 : Int)), p_1.fst.snd.fst, PUnit.unit), PUnit.unit) H)) (((0 : Int), p.fst.snd.fst, PUnit.unit), PUnit.unit) H) (∀ (v : Value) (H' : Nat → Option Obj), H ≤ H' → (∀ (b : Nat), blockOf v = some b → H b = none) → (∀ (b : Nat) (o : Obj), H' b = some o → H b = some o ∨ blockOf v = some b) → RowAt H' v (3 : Nat) (1 : Nat) p.fst.snd.fst → Meets prog (18 : Nat) [v] H' fun (e : Ending) (H' : Nat → Option Obj) ↦ e = Ending.returned (Value.tuple { toList := [] }) ∧ ∃ (es : List (List Value)), RowAt H' v (3 : Nat) (1 : Nat) es ∧ ∀ (v_1 : Value) (H'_1 : Nat → Option Obj), Heap.delO H' (blockOf v) ≤ H'_1 → (∀ (b : Nat), blockOf v_1 = some b → Heap.delO H' (blockOf v) b = none) → (∀ (b : Nat) (o : Obj), H'_1 b = some o → Heap.delO H' (blockOf v) b = some o ∨ blockOf v_1 = some b) → RowAt H'_1 v_1 (3 : Nat) (1 : Nat) es → Meets prog (19 : Nat) [v_1] H'_1 fun (e : Ending) (H' : Nat → Option Obj) ↦ (fun (x : Nat) ↦ none) ≤ H' ∧ ∃ (a : Option Addr), ∃ (n : Nat), ∃ (c : Nat), e = Ending.returned (Value.slice a n c) ∧ R (Ending.returned (Value.slice a n c)) H')) (((0 : Int), [], PUnit.unit), PUnit.unit) H
theorem vc_dids (a : Option Addr) (n : Nat) (c : Nat) (R : Ending → Heap → Prop) (H : Heap) : vcFun prog h_dids f11 [SV.c (SC.v (Value.slice a n c))] R H = nf_dids a n c R H := by kernel_rfl

def nf_dbet (a : Option Addr) (n : Nat) (c : Nat) (a' : Option Addr) (n' : Nat) (c' : Nat) (R : Ending → Heap → Prop) (H : Heap) : Prop := Meets prog (10 : Nat) [Value.slice a n c] H fun (e : Ending) (H' : Nat → Option Obj) ↦ ∃ (a : Option Addr), ∃ (n : Nat), ∃ (c : Nat), e = Ending.returned (Value.slice a n c) ∧ Meets prog (10 : Nat) [Value.slice a' n' c'] H' fun (e : Ending) (H' : Nat → Option Obj) ↦ ∃ (a_1 : Option Addr), ∃ (n_1 : Nat), ∃ (c_1 : Nat), e = Ending.returned (Value.slice a_1 n_1 c_1) ∧ ∀ (v : Value) (H'_1 : Nat → Option Obj), H' ≤ H'_1 → (∀ (b : Nat), blockOf v = some b → H' b = none) → (∀ (b : Nat) (o : Obj), H'_1 b = some o → H' b = some o ∨ blockOf v = some b) → RowAt H'_1 v (22 : Nat) (1 : Nat) [[Value.slice a n c], [Value.slice a_1 n_1 c_1]] → Meets prog (11 : Nat) [v] H'_1 fun (e : Ending) (H' : Nat → Option Obj) ↦ ∃ (a_6 : Option Addr), ∃ (n_2 : Nat), ∃ (c_2 : Nat), e = Ending.returned (Value.slice a_6 n_2 c_2) ∧ ∃ (es : List (List Value)), RowAt H' v (22 : Nat) (1 : Nat) es ∧ a = a ∧ n = n ∧ c = c ∧ a_1 = a_1 ∧ n_1 = n_1 ∧ c_1 = c_1 ∧ (none : Option Addr) = none ∧ (0 : Nat) = (0 : Nat) ∧ (0 : Nat) = (0 : Nat) ∧ a_6 = a_6 ∧ n_2 = n_2 ∧ c_2 = c_2 ∧ (↑n_2 : Int) = (↑n_2 : Int) ∧ LoopP (fun (K : (Int × List (List Value) × PUnit) × PUnit → (Nat → Option Obj) → Prop) (p : (Int × List (List Value) × PUnit) × PUnit) (H : Nat → Option Obj) ↦ Br (decide (p.fst.fst < (↑n_2 : Int))) (((0 : Int) ≤ p.fst.fst ∧ p.fst.fst < (↑n_2 : Int)) ∧ PtrK a_6 fun (A : Addr) ↦ PtrK (some (Addr.add A (Int.toNat p.fst.fst * (1 : Nat)))) fun (a_7 : Addr) ↦ ∃ (n_3 : Int), Heap.has H a_7 [Value.int IntKind.i64 n_3] ∧ Meets prog (12 : Nat) [Value.slice a n c, Value.int IntKind.i64 n_3] H fun (e : Ending) (H' : Nat → Option Obj) ↦ ∃ (n_4 : Int), ∃ (n_5 : Int), ∃ (n_6 : Int), ∃ (s : ByteArray), ∃ (b : Bool), e = Ending.returned (Value.tuple { toList := [Value.agg { toList := [Value.int IntKind.i64 n_4, Value.int IntKind.u32 n_5, Value.int IntKind.u32 n_6, Value.string s] }, Value.bool b] }) ∧ Meets prog (12 : Nat) [Value.slice a_1 n_1 c_1, Value.int IntKind.i64 n_3] H' fun (e : Ending) (H' : Nat → Option Obj) ↦ ∃ (n_7 : Int), ∃ (n_8 : Int), ∃ (n_9 : Int), ∃ (s_1 : ByteArray), ∃ (b_1 : Bool), e = Ending.returned (Value.tuple { toList := [Value.agg { toList := [Value.int IntKind.i64 n_7, Value.int IntKind.u32 n_8, Value.int IntKind.u32 n_9, Value.string s_1] }, Value.bool b_1] }) ∧ Br (!b) (List.length (List.append p.fst.snd.fst [[Value.int IntKind.i64 (1 : Int), Value.int IntKind.i64 n_7, Value.int IntKind.u32 n_8, Value.int IntKind.u32 n_9, Value.string s_1]]) * (40 : Nat) ≤ (140737488355328 : Nat) ∧ a = a ∧ n = n ∧ c = c ∧ a_1 = a_1 ∧ n_1 = n_1 ∧ c_1 = c_1 ∧ (none : Option Addr) = none ∧ (0 : Nat) = (0 : Nat) ∧ (0 : Nat) = (0 : Nat) ∧ a_6 = a_6 ∧ n_2 = n_2 ∧ c_2 = c_2 ∧ (↑n_2 : Int) = (↑n_2 : Int) ∧ K ((IntKind.wrap IntKind.i64 (p.fst.fst + (1 : Int)), List.append p.fst.snd.fst [[Value.int IntKind.i64 (1 : Int), Value.int IntKind.i64 n_7, Value.int IntKind.u32 n_8, Value.int IntKind.u32 n_9, Value.string s_1]], PUnit.unit), PUnit.unit) H') (Br (!b_1) (List.length (List.append p.fst.snd.fst [[Value.int IntKind.i64 (2 : Int), Value.int IntKind.i64 n_4, Value.int IntKind.u32 n_5, Value.int IntKind.u32 n_6, Value.string s]]) * (40 : Nat) ≤ (140737488355328 : Nat) ∧ a = a ∧ n = n ∧ c = c ∧ a_1 = a_1 ∧ n_1 = n_1 ∧ c_1 = c_1 ∧ (none : Option Addr) = none ∧ (0 : Nat) = (0 : Nat) ∧ (0 : Nat) = (0 : Nat) ∧ a_6 = a_6 ∧ n_2 = n_2 ∧ c_2 = c_2 ∧ (↑n_2 : Int) = (↑n_2 : Int) ∧ K ((IntKind.wrap IntKind.i64 (p.fst.fst + (1 : Int)), List.append p.fst.snd.fst [[Value.int IntKind.i64 (2 : Int), Value.int IntKind.i64 n_4, Value.int IntKind.u32 n_5, Value.int IntKind.u32 n_6, Value.string s]], PUnit.unit), PUnit.unit) H') (Br (!andO (some (andO (some (andO (some (andO none (n_4 == n_7))) (n_5 == n_8))) (n_6 == n_9))) (s == s_1)) (List.length (List.append p.fst.snd.fst [[Value.int IntKind.i64 (3 : Int), Value.int IntKind.i64 n_7, Value.int IntKind.u32 n_8, Value.int IntKind.u32 n_9, Value.string s_1]]) * (40 : Nat) ≤ (140737488355328 : Nat) ∧ a = a ∧ n = n ∧ c = c ∧ a_1 = a_1 ∧ n_1 = n_1 ∧ c_1 = c_1 ∧ (none : Option Addr) = none ∧ (0 : Nat) = (0 : Nat) ∧ (0 : Nat) = (0 : Nat) ∧ a_6 = a_6 ∧ n_2 = n_2 ∧ c_2 = c_2 ∧ (↑n_2 : Int) = (↑n_2 : Int) ∧ K ((IntKind.wrap IntKind.i64 (p.fst.fst + (1 : Int)), List.append p.fst.snd.fst [[Value.int IntKind.i64 (3 : Int), Value.int IntKind.i64 n_7, Value.int IntKind.u32 n_8, Value.int IntKind.u32 n_9, Value.string s_1]], PUnit.unit), PUnit.unit) H') (a = a ∧ n = n ∧ c = c ∧ a_1 = a_1 ∧ n_1 = n_1 ∧ c_1 = c_1 ∧ (none : Option Addr) = none ∧ (0 : Nat) = (0 : Nat) ∧ (0 : Nat) = (0 : Nat) ∧ a_6 = a_6 ∧ n_2 = n_2 ∧ c_2 = c_2 ∧ (↑n_2 : Int) = (↑n_2 : Int) ∧ K ((IntKind.wrap IntKind.i64 (p.fst.fst + (1 : Int)), p.fst.snd.fst, PUnit.unit), PUnit.unit) H')))) (∀ (v : Value) (H' : Nat → Option Obj), H ≤ H' → (∀ (b : Nat), blockOf v = some b → H b = none) → (∀ (b : Nat) (o : Obj), H' b = some o → H b = some o ∨ blockOf v = some b) → RowAt H' v (35 : Nat) (5 : Nat) p.fst.snd.fst → R (Ending.returned v) H')) (((0 : Int), [], PUnit.unit), PUnit.unit) (Heap.delO H' (blockOf v))
theorem vc_dbet (a : Option Addr) (n : Nat) (c : Nat) (a' : Option Addr) (n' : Nat) (c' : Nat) (R : Ending → Heap → Prop) (H : Heap) : vcFun prog h_dbet f5 [SV.c (SC.v (Value.slice a n c)), SV.c (SC.v (Value.slice a' n' c'))] R H = nf_dbet a n c a' n' c' R H := by kernel_rfl

def nf_done (a : Option Addr) (n : Nat) (c : Nat) (kd : Int) (i : Int) (x : Int) (y : Int) (d : ByteArray) (R : Ending → Heap → Prop) (H : Heap) : Prop := Meets prog (20 : Nat) [Value.slice a n c, Value.int IntKind.i64 i] H fun (e : Ending) (H' : Nat → Option Obj) ↦ ∃ (n_1 : Int), e = Ending.returned (Value.int IntKind.i64 n_1) ∧ Br (decide (kd < (1 : Int))) (R (Ending.returned (Value.tuple { toList := [Value.slice none (0 : Nat) (0 : Nat), Value.int IntKind.i64 (12 : Int)] })) H') (Br (decide (kd > (3 : Int))) (R (Ending.returned (Value.tuple { toList := [Value.slice none (0 : Nat) (0 : Nat), Value.int IntKind.i64 (12 : Int)] })) H') (Br (kd == (1 : Int)) (Br (decide (n_1 ≥ (0 : Int))) (R (Ending.returned (Value.tuple { toList := [Value.slice none (0 : Nat) (0 : Nat), Value.int IntKind.i64 (22 : Int)] })) H') (Br (kd != (1 : Int)) (Br (decide (n_1 < (0 : Int))) (R (Ending.returned (Value.tuple { toList := [Value.slice none (0 : Nat) (0 : Nat), Value.int IntKind.i64 (14 : Int)] })) H') (Br (kd == (1 : Int)) (∃ (es : List (List Value)), RowAt H' (Value.slice a n c) (33 : Nat) (4 : Nat) es ∧ List.length (List.append es [[Value.int IntKind.i64 i, Value.int IntKind.u32 x, Value.int IntKind.u32 y, Value.string d]]) * (32 : Nat) ≤ (140737488355328 : Nat) ∧ ∀ (v : Value) (H'_1 : Nat → Option Obj), Heap.delO H' (blockOf (Value.slice a n c)) ≤ H'_1 → (∀ (b : Nat), blockOf v = some b → Heap.delO H' (blockOf (Value.slice a n c)) b = none) → (∀ (b : Nat) (o : Obj), H'_1 b = some o → Heap.delO H' (blockOf (Value.slice a n c)) b = some o ∨ blockOf v = some b) → RowAt H'_1 v (33 : Nat) (4 : Nat) (List.append es [[Value.int IntKind.i64 i, Value.int IntKind.u32 x, Value.int IntKind.u32 y, Value.string d]]) → Meets prog (16 : Nat) [v] H'_1 fun (e : Ending) (H' : Nat → Option Obj) ↦ ∃ (a : Option Addr), ∃ (n : Nat), ∃ (c : Nat), e = Ending.returned (Value.slice a n c) ∧ ∃ (es : List (List Value)), RowAt H' v (33 : Nat) (4 : Nat) es ∧ R (Ending.returned (Value.tuple { toList := [Value.slice a n c, Value.int IntKind.i64 (0 : Int)] })) (Heap.delO H' (blockOf v))) (Br (kd == (2 : Int)) (Meets prog (21 : Nat) [Value.slice a n c, Value.int IntKind.i64 n_1, Value.int IntKind.i64 (IntKind.wrap IntKind.i64 (n_1 + (1 : Int)))] H' fun (e : Ending) (H' : Nat → Option Obj) ↦ ∃ (a : Option Addr), ∃ (n : Nat), ∃ (c : Nat), e = Ending.returned (Value.slice a n c) ∧ R (Ending.returned (Value.tuple { toList := [Value.slice a n c, Value.int IntKind.i64 (0 : Int)] })) H') (((0 : Int) ≤ n_1 ∧ n_1 < (↑n : Int)) ∧ PtrK a fun (A : Addr) ↦ PtrK (some (Addr.add A (Int.toNat n_1 * (4 : Nat)))) fun (A : Addr) ↦ ∃ (c_1 : Array Value), ∃ (ty : Nat), (H' A.block = some (Obj.cells c_1 ty) ∧ A.spot = none ∧ A.off + (4 : Nat) ≤ Array.size c_1) ∧ R (Ending.returned (Value.tuple { toList := [Value.slice a n c, Value.int IntKind.i64 (0 : Int)] })) (Heap.upd H' A.block (Obj.cells (writeCells c_1 A.off [Value.int IntKind.i64 i, Value.int IntKind.u32 x, Value.int IntKind.u32 y, Value.string d]) ty)))))) (Br (kd == (1 : Int)) (∃ (es : List (List Value)), RowAt H' (Value.slice a n c) (33 : Nat) (4 : Nat) es ∧ List.length (List.append es [[Value.int IntKind.i64 i, Value.int IntKind.u32 x, Value.int IntKind.u32 y, Value.string d]]) * (32 : Nat) ≤ (140737488355328 : Nat) ∧ ∀ (v : Value) (H'_1 : Nat → Option Obj), Heap.delO H' (blockOf (Value.slice a n c)) ≤ H'_1 → (∀ (b : Nat), blockOf v = some b → Heap.delO H' (blockOf (Value.slice a n c)) b = none) → (∀ (b : Nat) (o : Obj), H'_1 b = some o → Heap.delO H' (blockOf (Value.slice a n c)) b = some o ∨ blockOf v = some b) → RowAt H'_1 v (33 : Nat) (4 : Nat) (List.append es [[Value.int IntKind.i64 i, Value.int IntKind.u32 x, Value.int IntKind.u32 y, Value.string d]]) → Meets prog (16 : Nat) [v] H'_1 fun (e : Ending) (H' : Nat → Option Obj) ↦ ∃ (a : Option Addr), ∃ (n : Nat), ∃ (c : Nat), e = Ending.returned (Value.slice a n c) ∧ ∃ (es : List (List Value)), RowAt H' v (33 : Nat) (4 : Nat) es ∧ R (Ending.returned (Value.tuple { toList := [Value.slice a n c, Value.int IntKind.i64 (0 : Int)] })) (Heap.delO H' (blockOf v))) (Br (kd == (2 : Int)) (Meets prog (21 : Nat) [Value.slice a n c, Value.int IntKind.i64 n_1, Value.int IntKind.i64 (IntKind.wrap IntKind.i64 (n_1 + (1 : Int)))] H' fun (e : Ending) (H' : Nat → Option Obj) ↦ ∃ (a : Option Addr), ∃ (n : Nat), ∃ (c : Nat), e = Ending.returned (Value.slice a n c) ∧ R (Ending.returned (Value.tuple { toList := [Value.slice a n c, Value.int IntKind.i64 (0 : Int)] })) H') (((0 : Int) ≤ n_1 ∧ n_1 < (↑n : Int)) ∧ PtrK a fun (A : Addr) ↦ PtrK (some (Addr.add A (Int.toNat n_1 * (4 : Nat)))) fun (A : Addr) ↦ ∃ (c_1 : Array Value), ∃ (ty : Nat), (H' A.block = some (Obj.cells c_1 ty) ∧ A.spot = none ∧ A.off + (4 : Nat) ≤ Array.size c_1) ∧ R (Ending.returned (Value.tuple { toList := [Value.slice a n c, Value.int IntKind.i64 (0 : Int)] })) (Heap.upd H' A.block (Obj.cells (writeCells c_1 A.off [Value.int IntKind.i64 i, Value.int IntKind.u32 x, Value.int IntKind.u32 y, Value.string d]) ty))))))) (Br (kd != (1 : Int)) (Br (decide (n_1 < (0 : Int))) (R (Ending.returned (Value.tuple { toList := [Value.slice none (0 : Nat) (0 : Nat), Value.int IntKind.i64 (14 : Int)] })) H') (Br (kd == (1 : Int)) (∃ (es : List (List Value)), RowAt H' (Value.slice a n c) (33 : Nat) (4 : Nat) es ∧ List.length (List.append es [[Value.int IntKind.i64 i, Value.int IntKind.u32 x, Value.int IntKind.u32 y, Value.string d]]) * (32 : Nat) ≤ (140737488355328 : Nat) ∧ ∀ (v : Value) (H'_1 : Nat → Option Obj), Heap.delO H' (blockOf (Value.slice a n c)) ≤ H'_1 → (∀ (b : Nat), blockOf v = some b → Heap.delO H' (blockOf (Value.slice a n c)) b = none) → (∀ (b : Nat) (o : Obj), H'_1 b = some o → Heap.delO H' (blockOf (Value.slice a n c)) b = some o ∨ blockOf v = some b) → RowAt H'_1 v (33 : Nat) (4 : Nat) (List.append es [[Value.int IntKind.i64 i, Value.int IntKind.u32 x, Value.int IntKind.u32 y, Value.string d]]) → Meets prog (16 : Nat) [v] H'_1 fun (e : Ending) (H' : Nat → Option Obj) ↦ ∃ (a : Option Addr), ∃ (n : Nat), ∃ (c : Nat), e = Ending.returned (Value.slice a n c) ∧ ∃ (es : List (List Value)), RowAt H' v (33 : Nat) (4 : Nat) es ∧ R (Ending.returned (Value.tuple { toList := [Value.slice a n c, Value.int IntKind.i64 (0 : Int)] })) (Heap.delO H' (blockOf v))) (Br (kd == (2 : Int)) (Meets prog (21 : Nat) [Value.slice a n c, Value.int IntKind.i64 n_1, Value.int IntKind.i64 (IntKind.wrap IntKind.i64 (n_1 + (1 : Int)))] H' fun (e : Ending) (H' : Nat → Option Obj) ↦ ∃ (a : Option Addr), ∃ (n : Nat), ∃ (c : Nat), e = Ending.returned (Value.slice a n c) ∧ R (Ending.returned (Value.tuple { toList := [Value.slice a n c, Value.int IntKind.i64 (0 : Int)] })) H') (((0 : Int) ≤ n_1 ∧ n_1 < (↑n : Int)) ∧ PtrK a fun (A : Addr) ↦ PtrK (some (Addr.add A (Int.toNat n_1 * (4 : Nat)))) fun (A : Addr) ↦ ∃ (c_1 : Array Value), ∃ (ty : Nat), (H' A.block = some (Obj.cells c_1 ty) ∧ A.spot = none ∧ A.off + (4 : Nat) ≤ Array.size c_1) ∧ R (Ending.returned (Value.tuple { toList := [Value.slice a n c, Value.int IntKind.i64 (0 : Int)] })) (Heap.upd H' A.block (Obj.cells (writeCells c_1 A.off [Value.int IntKind.i64 i, Value.int IntKind.u32 x, Value.int IntKind.u32 y, Value.string d]) ty)))))) (Br (kd == (1 : Int)) (∃ (es : List (List Value)), RowAt H' (Value.slice a n c) (33 : Nat) (4 : Nat) es ∧ List.length (List.append es [[Value.int IntKind.i64 i, Value.int IntKind.u32 x, Value.int IntKind.u32 y, Value.string d]]) * (32 : Nat) ≤ (140737488355328 : Nat) ∧ ∀ (v : Value) (H'_1 : Nat → Option Obj), Heap.delO H' (blockOf (Value.slice a n c)) ≤ H'_1 → (∀ (b : Nat), blockOf v = some b → Heap.delO H' (blockOf (Value.slice a n c)) b = none) → (∀ (b : Nat) (o : Obj), H'_1 b = some o → Heap.delO H' (blockOf (Value.slice a n c)) b = some o ∨ blockOf v = some b) → RowAt H'_1 v (33 : Nat) (4 : Nat) (List.append es [[Value.int IntKind.i64 i, Value.int IntKind.u32 x, Value.int IntKind.u32 y, Value.string d]]) → Meets prog (16 : Nat) [v] H'_1 fun (e : Ending) (H' : Nat → Option Obj) ↦ ∃ (a : Option Addr), ∃ (n : Nat), ∃ (c : Nat), e = Ending.returned (Value.slice a n c) ∧ ∃ (es : List (List Value)), RowAt H' v (33 : Nat) (4 : Nat) es ∧ R (Ending.returned (Value.tuple { toList := [Value.slice a n c, Value.int IntKind.i64 (0 : Int)] })) (Heap.delO H' (blockOf v))) (Br (kd == (2 : Int)) (Meets prog (21 : Nat) [Value.slice a n c, Value.int IntKind.i64 n_1, Value.int IntKind.i64 (IntKind.wrap IntKind.i64 (n_1 + (1 : Int)))] H' fun (e : Ending) (H' : Nat → Option Obj) ↦ ∃ (a : Option Addr), ∃ (n : Nat), ∃ (c : Nat), e = Ending.returned (Value.slice a n c) ∧ R (Ending.returned (Value.tuple { toList := [Value.slice a n c, Value.int IntKind.i64 (0 : Int)] })) H') (((0 : Int) ≤ n_1 ∧ n_1 < (↑n : Int)) ∧ PtrK a fun (A : Addr) ↦ PtrK (some (Addr.add A (Int.toNat n_1 * (4 : Nat)))) fun (A : Addr) ↦ ∃ (c_1 : Array Value), ∃ (ty : Nat), (H' A.block = some (Obj.cells c_1 ty) ∧ A.spot = none ∧ A.off + (4 : Nat) ≤ Array.size c_1) ∧ R (Ending.returned (Value.tuple { toList := [Value.slice a n c, Value.int IntKind.i64 (0 : Int)] })) (Heap.upd H' A.block (Obj.cells (writeCells c_1 A.off [Value.int IntKind.i64 i, Value.int IntKind.u32 x, Value.int IntKind.u32 y, Value.string d]) ty))))))))
theorem vc_done (a : Option Addr) (n : Nat) (c : Nat) (kd : Int) (i : Int) (x : Int) (y : Int) (d : ByteArray) (R : Ending → Heap → Prop) (H : Heap) : vcFun prog h_done f13 [SV.c (SC.v (Value.slice a n c)), SV.agg [Seg.c (SC.v (Value.int IntKind.i64 kd)), Seg.c (SC.v (Value.int IntKind.i64 i)), Seg.c (SC.v (Value.int IntKind.u32 x)), Seg.c (SC.v (Value.int IntKind.u32 y)), Seg.c (SC.v (Value.string d))]] R H = nf_done a n c kd i x y d R H := by kernel_rfl

def nf_dapp (a : Option Addr) (n : Nat) (c : Nat) (a' : Option Addr) (n' : Nat) (c' : Nat) (R : Ending → Heap → Prop) (H : Heap) : Prop := Meets prog (10 : Nat) [Value.slice a n c] H fun (e : Ending) (H' : Nat → Option Obj) ↦ ∃ (a_1 : Option Addr), ∃ (n_1 : Nat), ∃ (c_1 : Nat), e = Ending.returned (Value.slice a_1 n_1 c_1) ∧ a = a ∧ n = n ∧ c = c ∧ a' = a' ∧ n' = n' ∧ c' = c' ∧ (none : Option Addr) = none ∧ (0 : Nat) = (0 : Nat) ∧ (0 : Nat) = (0 : Nat) ∧ (0 : Int) = (0 : Int) ∧ a' = a' ∧ n' = n' ∧ c' = c' ∧ (↑n' : Int) = (↑n' : Int) ∧ LoopP (fun (K : ((Option Addr × Nat × Nat) × Int × PUnit) × PUnit → (Nat → Option Obj) → Prop) (p : ((Option Addr × Nat × Nat) × Int × PUnit) × PUnit) (H : Nat → Option Obj) ↦ Br (decide (p.fst.snd.fst < (↑n' : Int))) (((0 : Int) ≤ p.fst.snd.fst ∧ p.fst.snd.fst < (↑n' : Int)) ∧ PtrK a' fun (A : Addr) ↦ PtrK (some (Addr.add A (Int.toNat p.fst.snd.fst * (5 : Nat)))) fun (a_2 : Addr) ↦ ∃ (n_2 : Int), ∃ (n_3 : Int), ∃ (n_4 : Int), ∃ (n_5 : Int), ∃ (s : ByteArray), Heap.has H a_2 [Value.int IntKind.i64 n_2, Value.int IntKind.i64 n_3, Value.int IntKind.u32 n_4, Value.int IntKind.u32 n_5, Value.string s] ∧ Meets prog (13 : Nat) [Value.slice p.fst.fst.1 p.fst.fst.snd.fst p.fst.fst.snd.snd, Value.agg { toList := [Value.int IntKind.i64 n_2, Value.int IntKind.i64 n_3, Value.int IntKind.u32 n_4, Value.int IntKind.u32 n_5, Value.string s] }] H fun (e : Ending) (H' : Nat → Option Obj) ↦ ∃ (a_3 : Option Addr), ∃ (n_6 : Nat), ∃ (c_2 : Nat), ∃ (n_7 : Int), e = Ending.returned (Value.tuple { toList := [Value.slice a_3 n_6 c_2, Value.int IntKind.i64 n_7] }) ∧ Br (n_7 != (0 : Int)) (R (Ending.returned (Value.tuple { toList := [Value.slice none (0 : Nat) (0 : Nat), Value.int IntKind.i64 n_7] })) H') (a = a ∧ n = n ∧ c = c ∧ a' = a' ∧ n' = n' ∧ c' = c' ∧ (none : Option Addr) = none ∧ (0 : Nat) = (0 : Nat) ∧ (0 : Nat) = (0 : Nat) ∧ (0 : Int) = (0 : Int) ∧ a' = a' ∧ n' = n' ∧ c' = c' ∧ (↑n' : Int) = (↑n' : Int) ∧ K (((a_3, n_6, c_2), IntKind.wrap IntKind.i64 (p.fst.snd.fst + (1 : Int)), PUnit.unit), PUnit.unit) H')) (R (Ending.returned (Value.tuple { toList := [Value.slice p.fst.fst.1 p.fst.fst.snd.fst p.fst.fst.snd.snd, Value.int IntKind.i64 (0 : Int)] })) H)) (((a_1, n_1, c_1), (0 : Int), PUnit.unit), PUnit.unit) H'
theorem vc_dapp (a : Option Addr) (n : Nat) (c : Nat) (a' : Option Addr) (n' : Nat) (c' : Nat) (R : Ending → Heap → Prop) (H : Heap) : vcFun prog h_dapp f6 [SV.c (SC.v (Value.slice a n c)), SV.c (SC.v (Value.slice a' n' c'))] R H = nf_dapp a n c a' n' c' R H := by kernel_rfl

end Cr

set_option linter.unusedVariables false
set_option linter.unusedSimpArgs false
namespace Cr
open Go Sx Stb
open Go.Proofs.Try
set_option linter.unusedSectionVars false
variable [Dr]
set_option maxRecDepth 100000
def h_lbak : Hints := { eqs := [33], loops := [(9, ⟨[0, 1, 4, 5, 6, 7, 8, 9], [.f 10 (.int .i64)], []⟩)], cuts := [(13, ⟨[0, 1, 4, 5, 6, 7, 8, 9, 10, 11, 12], [.f 13 .bool], []⟩)], rcuts := [(85, ⟨[0, 1, 4, 5, 6, 7, 8, 9, 10, 11, 12], [.f 85 .bool], []⟩), (113, ⟨[0, 1, 4, 5, 6, 7, 8, 9, 10, 11, 12], [.f 113 .bool], []⟩)] }
def nf_lbak (a : Option Addr) (n : Nat) (c : Nat) (a' : Option Addr) (n' : Nat) (c' : Nat) (R : Ending → Heap → Prop) (H : Heap) : Prop := Meets prog (4 : Nat) [] H fun (e : Ending) (H' : Nat → Option Obj) ↦ ∃ (b : Bool), e = Ending.returned (Value.bool b) ∧ Br (!b) (R (Ending.returned (Value.bool false)) H') (Br (decide ((↑n : Int) > (30 : Int))) (R (Ending.returned (Value.bool true)) H') (Br (decide ((↑n' : Int) > (30 : Int))) (R (Ending.returned (Value.bool true)) H') (Meets prog (5 : Nat) [Value.slice a n c, Value.slice a' n' c'] H' fun (e : Ending) (H' : Nat → Option Obj) ↦ ∃ (a_1 : Option Addr), ∃ (n_1 : Nat), ∃ (c_1 : Nat), e = Ending.returned (Value.slice a_1 n_1 c_1) ∧ Meets prog (6 : Nat) [Value.slice a n c, Value.slice a_1 n_1 c_1] H' fun (e : Ending) (H' : Nat → Option Obj) ↦ ∃ (a_2 : Option Addr), ∃ (n_2 : Nat), ∃ (c_2 : Nat), ∃ (n_3 : Int), e = Ending.returned (Value.tuple { toList := [Value.slice a_2 n_2 c_2, Value.int IntKind.i64 n_3] }) ∧ Meets prog (7 : Nat) [Value.slice a n c] H' fun (e : Ending) (H' : Nat → Option Obj) ↦ ∃ (a_3 : Option Addr), ∃ (n_4 : Nat), ∃ (c_3 : Nat), e = Ending.returned (Value.slice a_3 n_4 c_3) ∧ Meets prog (7 : Nat) [Value.slice a' n' c'] H' fun (e : Ending) (H' : Nat → Option Obj) ↦ ∃ (a_4 : Option Addr), ∃ (n_5 : Nat), ∃ (c_4 : Nat), e = Ending.returned (Value.slice a_4 n_5 c_4) ∧ a = a ∧ n = n ∧ c = c ∧ a' = a' ∧ n' = n' ∧ c' = c' ∧ false = false ∧ a_1 = a_1 ∧ n_1 = n_1 ∧ c_1 = c_1 ∧ a_2 = a_2 ∧ n_2 = n_2 ∧ c_2 = c_2 ∧ n_3 = n_3 ∧ a_3 = a_3 ∧ n_4 = n_4 ∧ c_3 = c_3 ∧ a_4 = a_4 ∧ n_5 = n_5 ∧ c_4 = c_4 ∧ LoopP (fun (K : (Int × PUnit) × PUnit → (Nat → Option Obj) → Prop) (p : (Int × PUnit) × PUnit) (H : Nat → Option Obj) ↦ Br (decide (p.fst.fst < (↑n_1 : Int))) (∃ (G : Nat → Option Obj), G ≤ H ∧ ((0 : Int) ≤ p.fst.fst ∧ p.fst.fst < (↑n_1 : Int)) ∧ PtrK a_1 fun (A : Addr) ↦ PtrK (some (Addr.add A (Int.toNat p.fst.fst * (5 : Nat)))) fun (a_5 : Addr) ↦ PtrK (some (Addr.add a_5 (1 : Nat))) fun (a_6 : Addr) ↦ PtrK (some (Addr.add a_6 (0 : Nat))) fun (a_7 : Addr) ↦ ∃ (n_6 : Int), Heap.has G a_7 [Value.int IntKind.i64 n_6] ∧ ((0 : Int) ≤ p.fst.fst ∧ p.fst.fst < (↑n_1 : Int)) ∧ PtrK a_1 fun (A : Addr) ↦ PtrK (some (Addr.add A (Int.toNat p.fst.fst * (5 : Nat)))) fun (a_8 : Addr) ↦ PtrK (some (Addr.add a_8 (1 : Nat))) fun (a_9 : Addr) ↦ PtrK (some (Addr.add a_9 (0 : Nat))) fun (a_10 : Addr) ↦ ∃ (n_7 : Int), Heap.has G a_10 [Value.int IntKind.i64 n_7] ∧ Meets prog (8 : Nat) [Value.slice a_3 n_4 c_3, Value.int IntKind.i64 n_6] H fun (e : Ending) (H' : Nat → Option Obj) ↦ Keep G H H H' ∧ ∃ (n_8 : Int), e = Ending.returned (Value.int IntKind.i64 n_8) ∧ Meets prog (8 : Nat) [Value.slice a_4 n_5 c_4, Value.int IntKind.i64 n_7] (delLs H' []) fun (e : Ending) (H'_1 : Nat → Option Obj) ↦ Keep G (delLs H' []) (delLs H' []) H'_1 ∧ ∃ (n_9 : Int), e = Ending.returned (Value.int IntKind.i64 n_9) ∧ CutP (fun (I : (Bool × PUnit) × PUnit → (Nat → Option Obj) → Prop) ↦ CutP (fun (I : Bool × PUnit → (Nat → Option Obj) → Prop) ↦ ((0 : Int) ≤ p.fst.fst ∧ p.fst.fst < (↑n_1 : Int)) ∧ PtrK a_1 fun (A : Addr) ↦ PtrK (some (Addr.add A (Int.toNat p.fst.fst * (5 : Nat)))) fun (a : Addr) ↦ PtrK (some (Addr.add a (0 : Nat))) fun (a : Addr) ↦ ∃ (n : Int), Heap.has (delLs H'_1 []) a [Value.int IntKind.i64 n] ∧ Br (n == (1 : Int)) (Br (decide (n_8 < (0 : Int))) (Br (decide (n_9 ≥ (0 : Int))) (((0 : Int) ≤ n_9 ∧ n_9 < (↑n_5 : Int)) ∧ PtrK a_4 fun (A : Addr) ↦ PtrK (some (Addr.add A (Int.toNat n_9 * (4 : Nat)))) fun (a : Addr) ↦ ∃ (n : Int), ∃ (n_10 : Int), ∃ (n_11 : Int), ∃ (s : ByteArray), Heap.has (delLs H'_1 []) a [Value.int IntKind.i64 n, Value.int IntKind.u32 n_10, Value.int IntKind.u32 n_11, Value.string s] ∧ ((0 : Int) ≤ p.fst.fst ∧ p.fst.fst < (↑n_1 : Int)) ∧ PtrK a_1 fun (A : Addr) ↦ PtrK (some (Addr.add A (Int.toNat p.fst.fst * (5 : Nat)))) fun (a : Addr) ↦ PtrK (some (Addr.add a (1 : Nat))) fun (a : Addr) ↦ ∃ (n_12 : Int), ∃ (n_13 : Int), ∃ (n_14 : Int), ∃ (s_1 : ByteArray), Heap.has (delLs H'_1 []) a [Value.int IntKind.i64 n_12, Value.int IntKind.u32 n_13, Value.int IntKind.u32 n_14, Value.string s_1] ∧ I (andO (some (andO (some (andO (some (andO none (n == n_12))) (n_10 == n_13))) (n_11 == n_14))) (s == s_1), PUnit.unit) (delLs H'_1 [])) (I (false, PUnit.unit) (delLs H'_1 []))) (I (false, PUnit.unit) (delLs H'_1 []))) (I (false, PUnit.unit) (delLs H'_1 []))) fun (p_1 : Bool × PUnit) (x : Nat → Option Obj) ↦ CutP (fun (I : Bool × PUnit → (Nat → Option Obj) → Prop) ↦ Br p_1.fst (I (true, PUnit.unit) (delLs H'_1 [])) (((0 : Int) ≤ p.fst.fst ∧ p.fst.fst < (↑n_1 : Int)) ∧ PtrK a_1 fun (A : Addr) ↦ PtrK (some (Addr.add A (Int.toNat p.fst.fst * (5 : Nat)))) fun (a : Addr) ↦ PtrK (some (Addr.add a (0 : Nat))) fun (a : Addr) ↦ ∃ (n : Int), Heap.has (delLs H'_1 []) a [Value.int IntKind.i64 n] ∧ Br (n == (2 : Int)) (Br (decide (n_8 ≥ (0 : Int))) (Br (decide (n_9 < (0 : Int))) (((0 : Int) ≤ n_8 ∧ n_8 < (↑n_4 : Int)) ∧ PtrK a_3 fun (A : Addr) ↦ PtrK (some (Addr.add A (Int.toNat n_8 * (4 : Nat)))) fun (a : Addr) ↦ ∃ (n : Int), ∃ (n_10 : Int), ∃ (n_11 : Int), ∃ (s : ByteArray), Heap.has (delLs H'_1 []) a [Value.int IntKind.i64 n, Value.int IntKind.u32 n_10, Value.int IntKind.u32 n_11, Value.string s] ∧ ((0 : Int) ≤ p.fst.fst ∧ p.fst.fst < (↑n_1 : Int)) ∧ PtrK a_1 fun (A : Addr) ↦ PtrK (some (Addr.add A (Int.toNat p.fst.fst * (5 : Nat)))) fun (a : Addr) ↦ PtrK (some (Addr.add a (1 : Nat))) fun (a : Addr) ↦ ∃ (n_12 : Int), ∃ (n_13 : Int), ∃ (n_14 : Int), ∃ (s_1 : ByteArray), Heap.has (delLs H'_1 []) a [Value.int IntKind.i64 n_12, Value.int IntKind.u32 n_13, Value.int IntKind.u32 n_14, Value.string s_1] ∧ I (andO (some (andO (some (andO (some (andO none (n == n_12))) (n_10 == n_13))) (n_11 == n_14))) (s == s_1), PUnit.unit) (delLs H'_1 [])) (I (false, PUnit.unit) (delLs H'_1 []))) (I (false, PUnit.unit) (delLs H'_1 []))) (I (false, PUnit.unit) (delLs H'_1 [])))) fun (p_2 : Bool × PUnit) (x : Nat → Option Obj) ↦ Br p_2.fst (a = a ∧ n = n ∧ c = c ∧ a' = a' ∧ n' = n' ∧ c' = c' ∧ false = false ∧ a_1 = a_1 ∧ n_1 = n_1 ∧ c_1 = c_1 ∧ a_2 = a_2 ∧ n_2 = n_2 ∧ c_2 = c_2 ∧ n_3 = n_3 ∧ a_3 = a_3 ∧ n_4 = n_4 ∧ c_3 = c_3 ∧ a_4 = a_4 ∧ n_5 = n_5 ∧ c_4 = c_4 ∧ p.fst.fst = p.fst.fst ∧ n_8 = n_8 ∧ n_9 = n_9 ∧ I ((true, PUnit.unit), PUnit.unit) (delLs H'_1 [])) (((0 : Int) ≤ p.fst.fst ∧ p.fst.fst < (↑n_1 : Int)) ∧ PtrK a_1 fun (A : Addr) ↦ PtrK (some (Addr.add A (Int.toNat p.fst.fst * (5 : Nat)))) fun (a_11 : Addr) ↦ PtrK (some (Addr.add a_11 (0 : Nat))) fun (a_12 : Addr) ↦ ∃ (n_10 : Int), Heap.has (delLs H'_1 []) a_12 [Value.int IntKind.i64 n_10] ∧ Br (n_10 == (3 : Int)) (Br (decide (n_8 ≥ (0 : Int))) (Br (decide (n_9 ≥ (0 : Int))) (((0 : Int) ≤ n_9 ∧ n_9 < (↑n_5 : Int)) ∧ PtrK a_4 fun (A : Addr) ↦ PtrK (some (Addr.add A (Int.toNat n_9 * (4 : Nat)))) fun (a_13 : Addr) ↦ ∃ (n_11 : Int), ∃ (n_12 : Int), ∃ (n_13 : Int), ∃ (s : ByteArray), Heap.has (delLs H'_1 []) a_13 [Value.int IntKind.i64 n_11, Value.int IntKind.u32 n_12, Value.int IntKind.u32 n_13, Value.string s] ∧ ((0 : Int) ≤ p.fst.fst ∧ p.fst.fst < (↑n_1 : Int)) ∧ PtrK a_1 fun (A : Addr) ↦ PtrK (some (Addr.add A (Int.toNat p.fst.fst * (5 : Nat)))) fun (a_14 : Addr) ↦ PtrK (some (Addr.add a_14 (1 : Nat))) fun (a_15 : Addr) ↦ ∃ (n_14 : Int), ∃ (n_15 : Int), ∃ (n_16 : Int), ∃ (s_1 : ByteArray), Heap.has (delLs H'_1 []) a_15 [Value.int IntKind.i64 n_14, Value.int IntKind.u32 n_15, Value.int IntKind.u32 n_16, Value.string s_1] ∧ Br (andO (some (andO (some (andO (some (andO none (n_11 == n_14))) (n_12 == n_15))) (n_13 == n_16))) (s == s_1)) (((0 : Int) ≤ n_8 ∧ n_8 < (↑n_4 : Int)) ∧ PtrK a_3 fun (A : Addr) ↦ PtrK (some (Addr.add A (Int.toNat n_8 * (4 : Nat)))) fun (a_16 : Addr) ↦ ∃ (n_17 : Int), ∃ (n_18 : Int), ∃ (n_19 : Int), ∃ (s : ByteArray), Heap.has (delLs H'_1 []) a_16 [Value.int IntKind.i64 n_17, Value.int IntKind.u32 n_18, Value.int IntKind.u32 n_19, Value.string s] ∧ ((0 : Int) ≤ n_9 ∧ n_9 < (↑n_5 : Int)) ∧ PtrK a_4 fun (A : Addr) ↦ PtrK (some (Addr.add A (Int.toNat n_9 * (4 : Nat)))) fun (a_17 : Addr) ↦ ∃ (n_20 : Int), ∃ (n_21 : Int), ∃ (n_22 : Int), ∃ (s_2 : ByteArray), Heap.has (delLs H'_1 []) a_17 [Value.int IntKind.i64 n_20, Value.int IntKind.u32 n_21, Value.int IntKind.u32 n_22, Value.string s_2] ∧ a = a ∧ n = n ∧ c = c ∧ a' = a' ∧ n' = n' ∧ c' = c' ∧ false = false ∧ a_1 = a_1 ∧ n_1 = n_1 ∧ c_1 = c_1 ∧ a_2 = a_2 ∧ n_2 = n_2 ∧ c_2 = c_2 ∧ n_3 = n_3 ∧ a_3 = a_3 ∧ n_4 = n_4 ∧ c_3 = c_3 ∧ a_4 = a_4 ∧ n_5 = n_5 ∧ c_4 = c_4 ∧ p.fst.fst = p.fst.fst ∧ n_8 = n_8 ∧ n_9 = n_9 ∧ I ((!andO (some (andO (some (andO (some (andO none (n_17 == n_20))) (n_18 == n_21))) (n_19 == n_22))) (s == s_2), PUnit.unit), PUnit.unit) (delLs H'_1 [])) (a = a ∧ n = n ∧ c = c ∧ a' = a' ∧ n' = n' ∧ c' = c' ∧ false = false ∧ a_1 = a_1 ∧ n_1 = n_1 ∧ c_1 = c_1 ∧ a_2 = a_2 ∧ n_2 = n_2 ∧ c_2 = c_2 ∧ n_3 = n_3 ∧ a_3 = a_3 ∧ n_4 = n_4 ∧ c_3 = c_3 ∧ a_4 = a_4 ∧ n_5 = n_5 ∧ c_4 = c_4 ∧ p.fst.fst = p.fst.fst ∧ n_8 = n_8 ∧ n_9 = n_9 ∧ I ((false, PUnit.unit), PUnit.unit) (delLs H'_1 []))) (a = a ∧ n = n ∧ c = c ∧ a' = a' ∧ n' = n' ∧ c' = c' ∧ false = false ∧ a_1 = a_1 ∧ n_1 = n_1 ∧ c_1 = c_1 ∧ a_2 = a_2 ∧ n_2 = n_2 ∧ c_2 = c_2 ∧ n_3 = n_3 ∧ a_3 = a_3 ∧ n_4 = n_4 ∧ c_3 = c_3 ∧ a_4 = a_4 ∧ n_5 = n_5 ∧ c_4 = c_4 ∧ p.fst.fst = p.fst.fst ∧ n_8 = n_8 ∧ n_9 = n_9 ∧ I ((false, PUnit.unit), PUnit.unit) (delLs H'_1 []))) (a = a ∧ n = n ∧ c = c ∧ a' = a' ∧ n' = n' ∧ c' = c' ∧ false = false ∧ a_1 = a_1 ∧ n_1 = n_1 ∧ c_1 = c_1 ∧ a_2 = a_2 ∧ n_2 = n_2 ∧ c_2 = c_2 ∧ n_3 = n_3 ∧ a_3 = a_3 ∧ n_4 = n_4 ∧ c_3 = c_3 ∧ a_4 = a_4 ∧ n_5 = n_5 ∧ c_4 = c_4 ∧ p.fst.fst = p.fst.fst ∧ n_8 = n_8 ∧ n_9 = n_9 ∧ I ((false, PUnit.unit), PUnit.unit) (delLs H'_1 []))) (a = a ∧ n = n ∧ c = c ∧ a' = a' ∧ n' = n' ∧ c' = c' ∧ false = false ∧ a_1 = a_1 ∧ n_1 = n_1 ∧ c_1 = c_1 ∧ a_2 = a_2 ∧ n_2 = n_2 ∧ c_2 = c_2 ∧ n_3 = n_3 ∧ a_3 = a_3 ∧ n_4 = n_4 ∧ c_3 = c_3 ∧ a_4 = a_4 ∧ n_5 = n_5 ∧ c_4 = c_4 ∧ p.fst.fst = p.fst.fst ∧ n_8 = n_8 ∧ n_9 = n_9 ∧ I ((false, PUnit.unit), PUnit.unit) (delLs H'_1 [])))) fun (p_1 : (Bool × PUnit) × PUnit) (H : Nat → Option Obj) ↦ Br (!p_1.fst.fst) (R (Ending.returned (Value.bool false)) H) (Br (decide (p.fst.fst > (0 : Int))) (((0 : Int) ≤ IntKind.wrap IntKind.i64 (p.fst.fst - (1 : Int)) ∧ IntKind.wrap IntKind.i64 (p.fst.fst - (1 : Int)) < (↑n_1 : Int)) ∧ PtrK a_1 fun (A : Addr) ↦ PtrK (some (Addr.add A (Int.toNat (IntKind.wrap IntKind.i64 (p.fst.fst - (1 : Int))) * (5 : Nat)))) fun (a_11 : Addr) ↦ PtrK (some (Addr.add a_11 (1 : Nat))) fun (a_12 : Addr) ↦ PtrK (some (Addr.add a_12 (0 : Nat))) fun (a_13 : Addr) ↦ ∃ (n_10 : Int), Heap.has H a_13 [Value.int IntKind.i64 n_10] ∧ ((0 : Int) ≤ p.fst.fst ∧ p.fst.fst < (↑n_1 : Int)) ∧ PtrK a_1 fun (A : Addr) ↦ PtrK (some (Addr.add A (Int.toNat p.fst.fst * (5 : Nat)))) fun (a_14 : Addr) ↦ PtrK (some (Addr.add a_14 (1 : Nat))) fun (a_15 : Addr) ↦ PtrK (some (Addr.add a_15 (0 : Nat))) fun (a_16 : Addr) ↦ ∃ (n_11 : Int), Heap.has H a_16 [Value.int IntKind.i64 n_11] ∧ Br (decide (n_10 ≥ n_11)) (R (Ending.returned (Value.bool false)) H) (a = a ∧ n = n ∧ c = c ∧ a' = a' ∧ n' = n' ∧ c' = c' ∧ false = false ∧ a_1 = a_1 ∧ n_1 = n_1 ∧ c_1 = c_1 ∧ a_2 = a_2 ∧ n_2 = n_2 ∧ c_2 = c_2 ∧ n_3 = n_3 ∧ a_3 = a_3 ∧ n_4 = n_4 ∧ c_3 = c_3 ∧ a_4 = a_4 ∧ n_5 = n_5 ∧ c_4 = c_4 ∧ K ((IntKind.wrap IntKind.i64 (p.fst.fst + (1 : Int)), PUnit.unit), PUnit.unit) H)) (a = a ∧ n = n ∧ c = c ∧ a' = a' ∧ n' = n' ∧ c' = c' ∧ false = false ∧ a_1 = a_1 ∧ n_1 = n_1 ∧ c_1 = c_1 ∧ a_2 = a_2 ∧ n_2 = n_2 ∧ c_2 = c_2 ∧ n_3 = n_3 ∧ a_3 = a_3 ∧ n_4 = n_4 ∧ c_3 = c_3 ∧ a_4 = a_4 ∧ n_5 = n_5 ∧ c_4 = c_4 ∧ K ((IntKind.wrap IntKind.i64 (p.fst.fst + (1 : Int)), PUnit.unit), PUnit.unit) H))) (Br (n_3 == (0 : Int)) (Meets prog (9 : Nat) [Value.slice a_2 n_2 c_2, Value.slice a_4 n_5 c_4] H fun (e : Ending) (H' : Nat → Option Obj) ↦ ∃ (b : Bool), e = Ending.returned (Value.bool b) ∧ R (Ending.returned (Value.bool b)) H') (R (Ending.returned (Value.bool false)) H))) (((0 : Int), PUnit.unit), PUnit.unit) H')))
theorem vc_lbak (a : Option Addr) (n : Nat) (c : Nat) (a' : Option Addr) (n' : Nat) (c' : Nat) (R : Ending → Heap → Prop) (H : Heap) : vcFun prog h_lbak f3 [SV.c (SC.v (Value.slice a n c)), SV.c (SC.v (Value.slice a' n' c'))] R H = nf_lbak a n c a' n' c' R H := by kernel_rfl

end Cr

set_option linter.unusedVariables false
set_option linter.unusedSimpArgs false
namespace Cr
open Go Sx Go.Proofs Go.Sort
open Go.Proofs.Try
set_option linter.unusedSectionVars false
variable [Dr]
set_option maxRecDepth 100000
structure Rd where
  f : Int
  t : Int
  hi : Int
  lo : Int
  deriving Inhabited, DecidableEq
theorem cells_len (g : List Int) : (cells g).length = g.length := by simp [cells]
section
variable {H : Heap} {R : Ending → Heap → Prop}
end
end Cr

set_option linter.unusedVariables false
set_option linter.unusedSimpArgs false
namespace Cr
open Go Sx Go.Proofs
open Go.Proofs.Try
set_option linter.unusedSectionVars false
variable [Dr]
set_option maxRecDepth 100000
/-- By a road. -/
def Joi (r : List Rd) (a b : Int) : Prop := ∃ x ∈ r, (x.f = a ∧ x.t = b) ∨ (x.f = b ∧ x.t = a)
/-! ### slices.Compact of a sorted row -/
theorem compact_sorted {l : List Int} (hs : l.Pairwise (· ≤ ·)) : (Go.Lib.compact l).Pairwise (· < ·) := by
  unfold Go.Lib.compact Go.Lib.compactUpTo
  rw [List.pairwise_map]
  have h0 : ((List.range l.length).filter (Go.Lib.keeps l.toArray)).Pairwise (· < ·) := List.Pairwise.filter _ List.pairwise_lt_range
  refine h0.imp_of_mem ?_
  intro i j hi hj hij
  obtain ⟨hj1, hj2⟩ := List.mem_filter.1 hj
  have hj1 := List.mem_range.1 hj1
  have hj3 : j = 0 ∨ l.toArray[j]! ≠ l.toArray[j - 1]! := of_decide_eq_true hj2
  have g : ∀ k, k < l.length → l.toArray[k]! = l[k]! := fun k hk => by simp [hk]
  rw [g i (by omega), g j hj1]
  rw [g j hj1, g (j - 1) (by omega)] at hj3
  have hs := List.pairwise_iff_getElem.1 hs
  have le : ∀ a b (hb : b < l.length), a ≤ b → l[a]! ≤ l[b]! := fun a b hb hab => by
    by_cases e : a = b
    · subst e; exact Int.le_refl _
    · have := hs a b (by omega) hb (by omega)
      simpa [show a < l.length by omega, hb] using this
  have h1 := le i (j - 1) (by omega) (by omega)
  have h2 := le (j - 1) j hj1 (by omega)
  omega
theorem compact_mem {l : List Int} {x : Int} : x ∈ Go.Lib.compact l ↔ x ∈ l := by
  unfold Go.Lib.compact Go.Lib.compactUpTo
  have g : ∀ k, k < l.length → l.toArray[k]! = l[k]! := fun k hk => by simp [hk]
  constructor
  · intro h
    obtain ⟨j, hj, rfl⟩ := List.mem_map.1 h
    have hj1 := List.mem_range.1 (List.mem_filter.1 hj).1
    rw [g j hj1]
    simp [hj1]
  · intro h
    obtain ⟨j, hj, rfl⟩ := List.mem_iff_getElem.1 h
    have key : ∀ n, ∀ j (hj : j < l.length), j ≤ n → l[j] ∈ ((List.range l.length).filter (Go.Lib.keeps l.toArray)).map (l.toArray[·]!) := by
      intro n
      induction n with
      | zero =>
        intro j hj hn
        refine List.mem_map.2 ⟨j, List.mem_filter.2 ⟨List.mem_range.2 hj, decide_eq_true (.inl (by omega))⟩, ?_⟩
        rw [g j hj]; simp [hj]
      | succ n ih =>
        intro j hj hn
        by_cases q : j = 0 ∨ l.toArray[j]! ≠ l.toArray[j - 1]!
        · refine List.mem_map.2 ⟨j, List.mem_filter.2 ⟨List.mem_range.2 hj, decide_eq_true q⟩, ?_⟩
          rw [g j hj]; simp [hj]
        · have q0 : j ≠ 0 := fun e => q (.inl e)
          have q1 : l.toArray[j]! = l.toArray[j - 1]! := Classical.byContradiction fun e => q (.inr e)
          rw [g j hj, g (j - 1) (by omega)] at q1
          have := ih (j - 1) (by omega) (by omega)
          have e : l[j] = l[j - 1] := by simpa [hj, show j - 1 < l.length by omega] using q1
          rw [e]; exact this
    exact key j j hj (Nat.le_refl _)
/-- What is beside a place. -/
structure Bes (m : Int) (r : List Rd) (a : Int) (B : List Int) : Prop where
  up : B.Pairwise (· < ·)
  mem : ∀ b, b ∈ B ↔ (0 ≤ b ∧ b < m) ∧ Joi r a b
section
variable {H : Heap} {R : Ending → Heap → Prop}
end
end Cr
