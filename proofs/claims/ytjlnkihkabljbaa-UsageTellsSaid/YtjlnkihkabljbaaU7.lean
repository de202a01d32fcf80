/- UsageSums. -/
import Derived.Test.YtjlnkihkabljbaaU6
set_option linter.unusedVariables false
set_option linter.unusedSimpArgs false
namespace Go.Proofs.Ytjlnkihkabljbaa.Us
open Go Sx Go.RowKit Go.ChangeShapes Go.WideShapes Lay
open Go.Proofs.Try
set_option maxRecDepth 100000
def h8 : Hints := { loops := [(6, ⟨[3, 4, 5, 7], [.f 8 (.int .i64), .f 9 (.int .i64)], [.keep 3, .keep 4, .keep 5, .keep 7]⟩), (13, ⟨[3, 4, 5, 7, 8, 10], [.f 11 (.int .i64)], [.keep 3, .keep 4, .keep 5, .keep 7]⟩)] }
def nf_f8 (s : Int) (z : Int) (a : Int) (b : Int) (c : Int) (m : List Int) (R : Ending → Heap → Prop) (H : Heap) : Prop := Meets prog (19 : Nat) [] H fun (e : Ending) (H' : Nat → Option Obj) ↦ ∃ (b_1 : Bool), e = Ending.returned (Value.bool b_1) ∧ Br (!b_1) (R (Ending.returned (Value.bool false)) H') (Meets prog (20 : Nat) [Value.agg { toList := [Value.int IntKind.i64 s, Value.int IntKind.i64 z] }, Value.agg { toList := List.append (List.map (Value.int IntKind.i64) m) [] }] H' fun (e : Ending) (H' : Nat → Option Obj) ↦ ∃ (xs : List Int), List.length xs = (32 : Nat) ∧ e = Ending.returned (Value.agg { toList := List.append (List.map (Value.int IntKind.i64) xs) (flatD []) }) ∧ (0 : Nat) = (0 : Nat) ∧ (0 : Nat) = (0 : Nat) ∧ (0 : Nat) = (0 : Nat) ∧ (0 : Nat) = (0 : Nat) ∧ s = s ∧ z = z ∧ m = m ∧ a = a ∧ b = b ∧ c = c ∧ xs = xs ∧ LoopP (fun (K : (Int × Int × PUnit) × PUnit × PUnit × PUnit × PUnit × PUnit → (Nat → Option Obj) → Prop) (p : (Int × Int × PUnit) × PUnit × PUnit × PUnit × PUnit × PUnit) (H : Nat → Option Obj) ↦ Br (decide (p.fst.snd.fst < (32 : Int))) (((0 : Int) ≤ p.fst.snd.fst ∧ p.fst.snd.fst < (↑(32 : Nat) : Int)) ∧ Meets prog (23 : Nat) [Value.agg { toList := [Value.int IntKind.i64 s, Value.int IntKind.i64 z] }, Value.agg { toList := List.append (List.map (Value.int IntKind.i64) m) [] }, Value.int IntKind.i64 p.fst.snd.fst] H fun (e : Ending) (H' : Nat → Option Obj) ↦ H ≤ H' ∧ ∃ (a_1 : Option Addr), ∃ (n : Nat), ∃ (c_1 : Nat), e = Ending.returned (Value.slice a_1 n c_1) ∧ ((0 : Int) ≤ p.fst.snd.fst ∧ p.fst.snd.fst < (↑(32 : Nat) : Int)) ∧ Br ((↑n : Int) != List.getD xs (Int.toNat p.fst.snd.fst) (0 : Int)) (R (Ending.returned (Value.bool false)) (delLs H' [])) ((0 : Nat) = (0 : Nat) ∧ (0 : Nat) = (0 : Nat) ∧ (0 : Nat) = (0 : Nat) ∧ (0 : Nat) = (0 : Nat) ∧ s = s ∧ z = z ∧ m = m ∧ a = a ∧ b = b ∧ c = c ∧ xs = xs ∧ K ((IntKind.wrap IntKind.i64 (p.fst.fst + List.getD xs (Int.toNat p.fst.snd.fst) (0 : Int)), IntKind.wrap IntKind.i64 (p.fst.snd.fst + (1 : Int)), PUnit.unit), PUnit.unit, PUnit.unit, PUnit.unit, PUnit.unit, PUnit.unit) (delLs H' []))) (Meets prog (22 : Nat) [Value.agg { toList := [Value.int IntKind.i64 s, Value.int IntKind.i64 z] }, Value.agg { toList := List.append (List.map (Value.int IntKind.i64) m) [] }, Value.agg { toList := [Value.int IntKind.i64 a, Value.int IntKind.i64 b, Value.int IntKind.i64 c] }] H fun (e : Ending) (H' : Nat → Option Obj) ↦ ∃ (a_1 : Option Addr), ∃ (n : Nat), ∃ (c_1 : Nat), e = Ending.returned (Value.slice a_1 n c_1) ∧ (0 : Nat) = (0 : Nat) ∧ (0 : Nat) = (0 : Nat) ∧ (0 : Nat) = (0 : Nat) ∧ (0 : Nat) = (0 : Nat) ∧ p.fst.fst = p.fst.fst ∧ a_1 = a_1 ∧ n = n ∧ c_1 = c_1 ∧ s = s ∧ z = z ∧ m = m ∧ a = a ∧ b = b ∧ c = c ∧ xs = xs ∧ LoopP (fun (K : (Int × PUnit) × PUnit × PUnit × PUnit × PUnit × PUnit → (Nat → Option Obj) → Prop) (p_1 : (Int × PUnit) × PUnit × PUnit × PUnit × PUnit × PUnit) (H : Nat → Option Obj) ↦ Br (decide (p_1.fst.fst < (↑n : Int))) (((0 : Int) ≤ p_1.fst.fst ∧ p_1.fst.fst < (↑n : Int)) ∧ PtrK a_1 fun (A : Addr) ↦ PtrK (some (Addr.add A (Int.toNat p_1.fst.fst * (1 : Nat)))) fun (a_2 : Addr) ↦ ∃ (n_1 : Int), Heap.has (Option.getD none H) a_2 [Value.int IntKind.i64 n_1] ∧ Br (decide (n_1 < (0 : Int))) (R (Ending.returned (Value.bool false)) H) (((0 : Int) ≤ p_1.fst.fst ∧ p_1.fst.fst < (↑n : Int)) ∧ PtrK a_1 fun (A : Addr) ↦ PtrK (some (Addr.add A (Int.toNat p_1.fst.fst * (1 : Nat)))) fun (a_3 : Addr) ↦ ∃ (n_2 : Int), Heap.has (Option.getD none H) a_3 [Value.int IntKind.i64 n_2] ∧ Br (decide (n_2 > (31 : Int))) (R (Ending.returned (Value.bool false)) H) (((0 : Int) ≤ p_1.fst.fst ∧ p_1.fst.fst < (↑n : Int)) ∧ PtrK a_1 fun (A : Addr) ↦ PtrK (some (Addr.add A (Int.toNat p_1.fst.fst * (1 : Nat)))) fun (a_4 : Addr) ↦ ∃ (n_3 : Int), Heap.has (Option.getD none H) a_4 [Value.int IntKind.i64 n_3] ∧ ((0 : Int) ≤ n_3 ∧ n_3 < (↑(32 : Nat) : Int)) ∧ Br (List.getD xs (Int.toNat n_3) (0 : Int) != (0 : Int)) (R (Ending.returned (Value.bool false)) H) ((0 : Nat) = (0 : Nat) ∧ (0 : Nat) = (0 : Nat) ∧ (0 : Nat) = (0 : Nat) ∧ (0 : Nat) = (0 : Nat) ∧ p.fst.fst = p.fst.fst ∧ a_1 = a_1 ∧ n = n ∧ c_1 = c_1 ∧ s = s ∧ z = z ∧ m = m ∧ a = a ∧ b = b ∧ c = c ∧ xs = xs ∧ K ((IntKind.wrap IntKind.i64 (p_1.fst.fst + (1 : Int)), PUnit.unit), PUnit.unit, PUnit.unit, PUnit.unit, PUnit.unit, PUnit.unit) H)))) (Meets prog (24 : Nat) [Value.agg { toList := [Value.int IntKind.i64 s, Value.int IntKind.i64 z] }, Value.agg { toList := List.append (List.map (Value.int IntKind.i64) m) [] }] H fun (e : Ending) (H' : Nat → Option Obj) ↦ ∃ (n : Int), e = Ending.returned (Value.int IntKind.i64 n) ∧ R (Ending.returned (Value.bool (p.fst.fst == n))) H')) (((0 : Int), PUnit.unit), PUnit.unit, PUnit.unit, PUnit.unit, PUnit.unit, PUnit.unit) H')) (((0 : Int), (0 : Int), PUnit.unit), PUnit.unit, PUnit.unit, PUnit.unit, PUnit.unit, PUnit.unit) H')
theorem vc_f8 (s : Int) (z : Int) (a : Int) (b : Int) (c : Int) (m : List Int) (R : Ending → Heap → Prop) (H : Heap) : vcFun prog h8 f8 [SV.agg [Seg.c (SC.v (Value.int IntKind.i64 s)), Seg.c (SC.v (Value.int IntKind.i64 z))], SV.agg [Seg.ints IntKind.i64 (256 : Nat) m], SV.agg [Seg.c (SC.v (Value.int IntKind.i64 a)), Seg.c (SC.v (Value.int IntKind.i64 b)), Seg.c (SC.v (Value.int IntKind.i64 c))]] R H = nf_f8 s z a b c m R H := by kernel_rfl

theorem hit_eq (s z : Int) (j : Nat) (a : Int) : hit s z j a = decide (whr s z a = some j) := by
  unfold hit
  cases whr s z a with
  | none => simp
  | some i => rw [Bool.eq_iff_iff]; simp; omega
theorem nd_count (s z g : Int) (m : List Int) : ∀ k, k ≤ m.length → (nd s z g m k).length = ((m.take k).drop 1).countP fun a => hit s z g a
  | 0, _ => by simp [nd]
  | k + 1, h => by
    have ih := nd_count s z g m k (by omega)
    have e : m.take (k + 1) = m.take k ++ [m.getD k 0] := by
      rw [List.take_add_one]
      simp [List.getD, show k < m.length by omega]
    simp only [nd, List.length_append, ih, e]
    clear e
    generalize m.getD k 0 = x at *
    by_cases hk : 0 < k
    · rw [List.drop_append_of_le_length (by simp; omega), List.countP_append]
      cases hq : hit s z g x <;> simp [hk, hq]
    · have : k = 0 := by omega
      subst this
      simp
theorem nd_live (s z : Int) (m : List Int) (hm : m.length = 256) (j : Nat) (hj : j < 32) : (((nd s z j m 256).length : Nat) : Int) = (live s z m).getD j 0 := by
  rw [live_get s z m j hj, nd_count s z j m 256 (by omega), List.take_of_length_le (by omega)]
  simp only [hit_eq]
theorem fr_mem (s a c : Int) (l : List Int) : ∀ (k : Nat) (v : Int), v ∈ fr s a c l k → 0 ≤ v ∧ v < k ∧ l.getD v.toNat 0 = 0
  | 0, v, h => by simp [fr] at h
  | k + 1, v, h => by
    simp only [fr, List.mem_append] at h
    rcases h with h | h
    · have := fr_mem s a c l k v h; omega
    · split at h
      · rename_i hc
        simp at h
        subst h
        refine ⟨by omega, by omega, ?_⟩
        simpa using hc.2.1
      · cases h
theorem ptr {p : Option Addr} {A : Addr} {K : Addr → Prop} (e : p = some A) (h : K A) : PtrK p K := by subst e; exact h
section
variable {R : Ending → Heap → Prop} {H : Heap}
theorem s8 (s z a b c : Int) (m : List Int) (hm : m.length = 256) (h : ∀ H', H ≤ H' → R (.returned (.bool true)) H') : Meets prog 8 [geo s z, arr m, plc a b c] H R := by
  refine spec_of func8 (by kernel_rfl) (fun t h => by cases h) ?_ (vc_f8 s z a b c m R H) ?_
  · simp [argsR, SV.rep, SC.rep, SegsRep, one, hm]
  unfold nf_f8
  refine s19 fun H0 hle0 => ⟨true, rfl, ?_⟩
  simp only [Bool.not_true, br_false, true_and]
  refine s20 s z m hm ⟨live s z m, live_len s z m, rfl, ?_⟩
  have hL := live_len s z m
  have hnd := nd_live s z m hm
  have hrg := live_rng s z m hm
  have hfull : ∀ {R : Ending → Heap → Prop} {H : Heap}, R (.returned (vi (live s z m).sum)) H → Meets prog 24 [geo s z, arr m] H R := fun h => s24 s z m hm h
  have hfree : ∀ {R : Ending → Heap → Prop} {H : Heap}, R (.returned (.slice none 0 0)) H → (∀ v H', H ≤ H' → RowAt H' v 3 1 (cells (fr s a c (live s z m) 32)) → R (.returned v) H') → Meets prog 22 [geo s z, arr m, plc a b c] H R :=
    fun h1 h2 => s22 s z a b c m hm (fun _ => h1) fun _ => h2
  generalize live s z m = L at *
  refine ⟨fun p H' => (0 ≤ p.1.2.1 ∧ p.1.2.1 ≤ 32) ∧ p.1.1 = (L.take p.1.2.1.toNat).sum ∧ H0 ≤ H', fun p _ => (32 - p.1.2.1).toNat, ⟨by simp, by simp, heap_refl _⟩, ?_⟩
  rintro ⟨⟨n, k, _⟩, _, _, _, _, _⟩ H1 ⟨hk, hl, hle1⟩
  simp only at hk hl
  subst hl
  simp only
  refine br (fun q => ?_) fun q => ?_
  · simp only [decide_eq_true_eq] at q
    have hw : IntKind.i64.wrap (k + 1) = k + 1 := IntWalk.i64_in _ (by omega)
    refine ⟨⟨hk.1, by omega⟩, s23 s z k m hm fun v H2 hle2 hrow => ⟨hle2, ?_⟩⟩
    obtain ⟨a1, c1, rfl⟩ := row_len hrow
    refine ⟨a1, _, c1, rfl, ⟨hk.1, by omega⟩, ?_⟩
    have hkn : ((k.toNat : Nat) : Int) = k := by omega
    have e1 : ((↑(cells (nd s z k m 256)).length : Int) != L.getD k.toNat 0) = false := by
      have := hnd k.toNat (by omega)
      rw [hkn] at this
      simp [cells, this]
    rw [e1, br_false]
    have hg : L.take (k + 1).toNat = L.take k.toNat ++ [L.getD k.toNat 0] := by
      rw [show (k + 1).toNat = k.toNat + 1 by omega, List.take_add_one]
      simp [List.getD, show k.toNat < L.length by omega]
    have hr : ∀ x ∈ L, 0 ≤ x ∧ x ≤ 255 := by
      intro x hx
      obtain ⟨j, hj, rfl⟩ := List.getElem_of_mem hx
      have := hrg j (by omega)
      simpa [List.getD, hj] using this
    have h1 := sum_le (b := 255) (by omega) (L.take (k + 1).toNat) fun x hx => hr x (List.mem_of_mem_take hx)
    have h2 : (L.take (k + 1).toNat).length ≤ 32 := by simp; omega
    rw [hg] at h1 h2
    have hsum : (L.take k.toNat ++ [L.getD k.toNat 0]).sum = (L.take k.toNat).sum + L.getD k.toNat 0 := by simp
    refine ⟨⟨by rw [hw]; omega, ?_, heap_trans hle1 hle2⟩, by rw [hw]; omega⟩
    rw [hw, hg, hsum, IntWalk.i64_in _ (by omega)]
  · simp only [decide_eq_false_iff_not] at q
    have : k = 32 := by omega
    subst this
    have e32 : L.take (32 : Int).toNat = L := List.take_of_length_le (by omega)
    have last : ∀ H', H0 ≤ H' → Meets prog 24 [geo s z, arr m] H' fun e H' => ∃ n, e = .returned (.int .i64 n) ∧ R (.returned (.bool ((L.take (32 : Int).toNat).sum == n))) H' := by
      intro H' hle'
      refine hfull ⟨_, rfl, ?_⟩
      rw [e32]
      simpa using h H' (heap_trans hle0 hle')
    refine hfree ?_ fun v H2 hle2 hrow => ?_
    · refine ⟨none, 0, 0, rfl, fun p H' => (0 ≤ p.1.1 ∧ p.1.1 ≤ 0) ∧ H' = H1, fun p _ => 0, ⟨by simp, rfl⟩, ?_⟩
      rintro ⟨⟨i, _⟩, _, _, _, _, _⟩ H' ⟨hi, rfl⟩
      simp only at hi ⊢
      refine br (fun q => ?_) fun q => last _ hle1
      simp at q; omega
    · have hs := row_slice hrow
      have hmem := fr_mem s a c L 32
      have hfl := fr_len s a c L 32
      generalize fr s a c L 32 = l at *
      obtain ⟨pa, n, cp, rfl, hn, _, _, _, hcell⟩ := hs
      refine ⟨pa, n, cp, rfl, fun p H' => (0 ≤ p.1.1 ∧ p.1.1 ≤ n) ∧ H' = H2, fun p _ => ((n : Int) - p.1.1).toNat, ⟨by simp, rfl⟩, ?_⟩
      rintro ⟨⟨i, _⟩, _, _, _, _, _⟩ H' ⟨hi, rfl⟩
      simp only at hi ⊢
      refine br (fun q => ?_) fun q => last _ (heap_trans hle1 hle2)
      simp only [decide_eq_true_eq] at q
      have hln : l.length = n := by simpa [cells] using hn
      obtain ⟨x, hx⟩ : ∃ x, l[i.toNat]? = some x := ⟨l[i.toNat]'(by omega), by simp [show i.toNat < l.length by omega]⟩
      obtain ⟨A, hA, _, hhas⟩ := hcell i.toNat [.int .i64 x] (by simp [cells, hx])
      obtain ⟨x1, x2, x3⟩ := hmem x (List.mem_of_getElem? hx)
      have hn64 : (n : Int) ≤ 9223372036854775806 := by omega
      have hw : IntKind.i64.wrap (i + 1) = i + 1 := IntWalk.i64_in _ (by omega)
      refine ⟨⟨hi.1, q⟩, ptr hA ⟨x, hhas, ?_⟩⟩
      rw [show decide (x < 0) = false by simp; omega, br_false]
      refine ⟨⟨hi.1, q⟩, ptr hA ⟨x, hhas, ?_⟩⟩
      rw [show decide (x > 31) = false by simp; omega, br_false]
      refine ⟨⟨hi.1, q⟩, ptr hA ⟨x, hhas, ⟨x1, by omega⟩, ?_⟩⟩
      rw [show (L.getD x.toNat 0 != 0) = false by rw [x3]; rfl, br_false]
      exact ⟨⟨⟨by rw [hw]; omega, by rw [hw]; omega⟩, trivial⟩, by rw [hw]; omega⟩
end
end Go.Proofs.Ytjlnkihkabljbaa.Us
