/- Usage. -/
import Derived.Test.YtjlnkihkabljbaaL2
set_option linter.unusedVariables false
set_option linter.unusedSimpArgs false
namespace Go.Proofs.Ytjlnkihkabljbaa.Us
open Go Sx Go.RowKit Go.ChangeShapes Go.WideShapes Lay
open Go.Proofs.Try
set_option maxRecDepth 100000
def h20 : Hints := { loops := [(3, ⟨[2, 3, 4, 5, 11, 12], [.f 13 (.int .i64)], [.keep 2, .keep 3, .keep 4, .box 5 37 [.ints .i64 32]]⟩)] }
def nf_f20 (s : Int) (z : Int) (m : List Int) (R : Ending → Heap → Prop) (H : Heap) : Prop := ((0 : Int) ≤ (1 : Int) ∧ (1 : Int) ≤ (↑(256 : Nat) : Int)) ∧ (0 : Nat) = (0 : Nat) ∧ (0 : Nat) = (0 : Nat) ∧ (0 : Nat) = (0 : Nat) ∧ (0 : Nat) = (0 : Nat) ∧ SC.arr (3 : Nat) (0 : Nat) (256 : Nat) (1 : Nat) (256 : Nat) = SC.arr (3 : Nat) (0 : Nat) (256 : Nat) (1 : Nat) (256 : Nat) ∧ (↑(255 : Nat) : Int) = (↑(255 : Nat) : Int) ∧ s = s ∧ z = z ∧ m = m ∧ [(0 : Int), (0 : Int), (0 : Int), (0 : Int), (0 : Int), (0 : Int), (0 : Int), (0 : Int), (0 : Int), (0 : Int), (0 : Int), (0 : Int), (0 : Int), (0 : Int), (0 : Int), (0 : Int), (0 : Int), (0 : Int), (0 : Int), (0 : Int), (0 : Int), (0 : Int), (0 : Int), (0 : Int), (0 : Int), (0 : Int), (0 : Int), (0 : Int), (0 : Int), (0 : Int), (0 : Int), (0 : Int)] = [(0 : Int), (0 : Int), (0 : Int), (0 : Int), (0 : Int), (0 : Int), (0 : Int), (0 : Int), (0 : Int), (0 : Int), (0 : Int), (0 : Int), (0 : Int), (0 : Int), (0 : Int), (0 : Int), (0 : Int), (0 : Int), (0 : Int), (0 : Int), (0 : Int), (0 : Int), (0 : Int), (0 : Int), (0 : Int), (0 : Int), (0 : Int), (0 : Int), (0 : Int), (0 : Int), (0 : Int), (0 : Int)] ∧ LoopP (fun (K : (Int × PUnit) × PUnit × PUnit × PUnit × (List Int × PUnit) × PUnit → (Nat → Option Obj) → Prop) (p : (Int × PUnit) × PUnit × PUnit × PUnit × (List Int × PUnit) × PUnit) (H : Nat → Option Obj) ↦ Br (decide (p.fst.fst < (↑(255 : Nat) : Int))) (((0 : Int) ≤ p.fst.fst ∧ p.fst.fst < (↑(255 : Nat) : Int)) ∧ Meets prog (14 : Nat) [Value.agg { toList := [Value.int IntKind.i64 s, Value.int IntKind.i64 z] }, Value.int IntKind.i64 (List.getD m ((1 : Nat) + Int.toNat p.fst.fst) (0 : Int))] H fun (e : Ending) (H' : Nat → Option Obj) ↦ ∃ (n : Int), ∃ (n_1 : Int), ∃ (b : Bool), e = Ending.returned (Value.tuple { toList := [Value.int IntKind.i64 n, Value.int IntKind.i64 n_1, Value.bool b] }) ∧ Br b (((0 : Int) ≤ n ∧ n < (↑(32 : Nat) : Int)) ∧ ((0 : Int) ≤ n ∧ n < (↑(32 : Nat) : Int)) ∧ (0 : Nat) = (0 : Nat) ∧ (0 : Nat) = (0 : Nat) ∧ (0 : Nat) = (0 : Nat) ∧ (0 : Nat) = (0 : Nat) ∧ SC.arr (3 : Nat) (0 : Nat) (256 : Nat) (1 : Nat) (256 : Nat) = SC.arr (3 : Nat) (0 : Nat) (256 : Nat) (1 : Nat) (256 : Nat) ∧ (↑(255 : Nat) : Int) = (↑(255 : Nat) : Int) ∧ s = s ∧ z = z ∧ m = m ∧ [(0 : Int), (0 : Int), (0 : Int), (0 : Int), (0 : Int), (0 : Int), (0 : Int), (0 : Int), (0 : Int), (0 : Int), (0 : Int), (0 : Int), (0 : Int), (0 : Int), (0 : Int), (0 : Int), (0 : Int), (0 : Int), (0 : Int), (0 : Int), (0 : Int), (0 : Int), (0 : Int), (0 : Int), (0 : Int), (0 : Int), (0 : Int), (0 : Int), (0 : Int), (0 : Int), (0 : Int), (0 : Int)] = [(0 : Int), (0 : Int), (0 : Int), (0 : Int), (0 : Int), (0 : Int), (0 : Int), (0 : Int), (0 : Int), (0 : Int), (0 : Int), (0 : Int), (0 : Int), (0 : Int), (0 : Int), (0 : Int), (0 : Int), (0 : Int), (0 : Int), (0 : Int), (0 : Int), (0 : Int), (0 : Int), (0 : Int), (0 : Int), (0 : Int), (0 : Int), (0 : Int), (0 : Int), (0 : Int), (0 : Int), (0 : Int)] ∧ K ((IntKind.wrap IntKind.i64 (p.fst.fst + (1 : Int)), PUnit.unit), PUnit.unit, PUnit.unit, PUnit.unit, (List.set p.snd.snd.snd.snd.fst.fst (Int.toNat n) (IntKind.wrap IntKind.i64 (List.getD p.snd.snd.snd.snd.fst.fst (Int.toNat n) (0 : Int) + (1 : Int))), PUnit.unit), PUnit.unit) H') ((0 : Nat) = (0 : Nat) ∧ (0 : Nat) = (0 : Nat) ∧ (0 : Nat) = (0 : Nat) ∧ (0 : Nat) = (0 : Nat) ∧ SC.arr (3 : Nat) (0 : Nat) (256 : Nat) (1 : Nat) (256 : Nat) = SC.arr (3 : Nat) (0 : Nat) (256 : Nat) (1 : Nat) (256 : Nat) ∧ (↑(255 : Nat) : Int) = (↑(255 : Nat) : Int) ∧ s = s ∧ z = z ∧ m = m ∧ [(0 : Int), (0 : Int), (0 : Int), (0 : Int), (0 : Int), (0 : Int), (0 : Int), (0 : Int), (0 : Int), (0 : Int), (0 : Int), (0 : Int), (0 : Int), (0 : Int), (0 : Int), (0 : Int), (0 : Int), (0 : Int), (0 : Int), (0 : Int), (0 : Int), (0 : Int), (0 : Int), (0 : Int), (0 : Int), (0 : Int), (0 : Int), (0 : Int), (0 : Int), (0 : Int), (0 : Int), (0 : Int)] = [(0 : Int), (0 : Int), (0 : Int), (0 : Int), (0 : Int), (0 : Int), (0 : Int), (0 : Int), (0 : Int), (0 : Int), (0 : Int), (0 : Int), (0 : Int), (0 : Int), (0 : Int), (0 : Int), (0 : Int), (0 : Int), (0 : Int), (0 : Int), (0 : Int), (0 : Int), (0 : Int), (0 : Int), (0 : Int), (0 : Int), (0 : Int), (0 : Int), (0 : Int), (0 : Int), (0 : Int), (0 : Int)] ∧ K ((IntKind.wrap IntKind.i64 (p.fst.fst + (1 : Int)), PUnit.unit), PUnit.unit, PUnit.unit, PUnit.unit, (p.snd.snd.snd.snd.fst.fst, PUnit.unit), PUnit.unit) H')) (R (Ending.returned (Value.agg { toList := List.append (List.map (Value.int IntKind.i64) p.snd.snd.snd.snd.fst.fst) [] })) H)) (((0 : Int), PUnit.unit), PUnit.unit, PUnit.unit, PUnit.unit, ([(0 : Int), (0 : Int), (0 : Int), (0 : Int), (0 : Int), (0 : Int), (0 : Int), (0 : Int), (0 : Int), (0 : Int), (0 : Int), (0 : Int), (0 : Int), (0 : Int), (0 : Int), (0 : Int), (0 : Int), (0 : Int), (0 : Int), (0 : Int), (0 : Int), (0 : Int), (0 : Int), (0 : Int), (0 : Int), (0 : Int), (0 : Int), (0 : Int), (0 : Int), (0 : Int), (0 : Int), (0 : Int)], PUnit.unit), PUnit.unit) H
theorem vc_f20 (s : Int) (z : Int) (m : List Int) (R : Ending → Heap → Prop) (H : Heap) : vcFun prog h20 f20 [SV.agg [Seg.c (SC.v (Value.int IntKind.i64 s)), Seg.c (SC.v (Value.int IntKind.i64 z))], SV.agg [Seg.ints IntKind.i64 (256 : Nat) m]] R H = nf_f20 s z m R H := by kernel_rfl

abbrev arr (m : List Int) : Value := .agg ⟨m.map (.int .i64) ++ []⟩
instance (s z : Int) : Decidable (Ok s z) := by unfold Ok; infer_instance
def whr (s z a : Int) : Option Nat := if Ok s z ∧ 9 ≤ a ∧ a < 9 + s * z then some ((a - 9) / z).toNat else none
def bump (o : Option Nat) (l : List Int) : List Int := match o with
  | none => l
  | some i => l.set i (l.getD i 0 + 1)
def liv (s z : Int) : List Int → List Int → List Int
  | [], l => l
  | a :: r, l => liv s z r (bump (whr s z a) l)
def zeros : List Int := List.replicate 32 0
theorem liv_snoc (s z : Int) : ∀ (r : List Int) (a : Int) (l : List Int), liv s z (r ++ [a]) l = bump (whr s z a) (liv s z r l)
  | [], a, l => rfl
  | b :: r, a, l => by simp only [List.cons_append, liv]; exact liv_snoc s z r a _
theorem bump_len (o : Option Nat) (l : List Int) : (bump o l).length = l.length := by unfold bump; split <;> simp
theorem liv_len (s z : Int) : ∀ (r l : List Int), (liv s z r l).length = l.length
  | [], l => rfl
  | a :: r, l => by simp only [liv]; rw [liv_len s z r, bump_len]
def live (s z : Int) (m : List Int) : List Int := liv s z (m.drop 1) zeros
theorem bump_le {o : Option Nat} {l : List Int} {b : Int} (h : ∀ x ∈ l, 0 ≤ x ∧ x ≤ b) (hb : 0 ≤ b) : ∀ x ∈ bump o l, 0 ≤ x ∧ x ≤ b + 1 := by
  intro x hx
  unfold bump at hx
  split at hx
  · have := h x hx; omega
  · rename_i i
    rcases List.mem_or_eq_of_mem_set hx with hx | rfl
    · have := h x hx; omega
    · by_cases hi : i < l.length
      · have : l.getD i 0 = l[i] := by simp [hi]
        rw [this]
        have := h _ (List.getElem_mem hi); omega
      · have : l.getD i 0 = 0 := by simp [List.getD, Nat.le_of_not_lt hi]
        rw [this]; omega
theorem liv_le (s z : Int) : ∀ (r l : List Int) (b : Int), 0 ≤ b → (∀ x ∈ l, 0 ≤ x ∧ x ≤ b) → ∀ x ∈ liv s z r l, 0 ≤ x ∧ x ≤ b + r.length
  | [], l, b, hb, h => by simpa [liv] using h
  | a :: r, l, b, hb, h => by
    intro x hx
    have := liv_le s z r _ (b + 1) (by omega) (bump_le h hb) x hx
    simp only [List.length_cons]; omega
theorem whr_lt {s z a : Int} {i : Nat} (h : whr s z a = some i) : Ok s z ∧ (9 ≤ a ∧ a < 9 + s * z) ∧ (i : Int) = (a - 9) / z ∧ (i : Int) < s ∧ i < 32 := by
  unfold whr at h
  split at h
  · rename_i hc
    obtain ⟨ok, h1, h2⟩ := hc
    cases h
    have e1 : 0 ≤ (a - 9) / z := Int.ediv_nonneg (by omega) (by unfold Ok at ok; omega)
    have e2 : (a - 9) / z < s := Int.ediv_lt_of_lt_mul (by unfold Ok at ok; omega) (by omega)
    refine ⟨ok, ⟨h1, h2⟩, by omega, by omega, ?_⟩
    unfold Ok at ok
    omega
  · cases h
section
variable {R : Ending → Heap → Prop} {H : Heap}
theorem w14 (s z n : Int) (h : ∀ (i q : Int) (b : Bool), (∀ j, whr s z n = some j → b = true ∧ i = j) → (whr s z n = none → b = false ∧ i = 0 ∧ q = 0) → R (.returned (.tuple #[vi i, vi q, .bool b])) H) : Meets prog 14 [geo s z, vi n] H R := by
  refine s14 s z n (fun ok h1 h2 => h _ _ _ ?_ ?_) fun hno => h _ _ _ ?_ ?_
  · intro j hj; exact ⟨rfl, (whr_lt hj).2.2.1.symm⟩
  · intro hq; unfold whr at hq; rw [if_pos ⟨ok, h1, h2⟩] at hq; cases hq
  · intro j hj; have := whr_lt hj; exact absurd ⟨this.1, this.2.1⟩ hno
  · intro _; exact ⟨rfl, rfl, rfl⟩
theorem s20 (s z : Int) (m : List Int) (hm : m.length = 256) (h : R (.returned (arr (live s z m))) H) : Meets prog 20 [geo s z, arr m] H R := by
  refine spec_of func20 (by kernel_rfl) (fun t h => by cases h) ?_ (vc_f20 s z m R H) ?_
  · simp [argsR, SV.rep, SC.rep, SegsRep, one, hm]
  unfold nf_f20
  simp only [true_and]
  refine ⟨by decide, fun p H' => (0 ≤ p.1.1 ∧ p.1.1 ≤ 255) ∧ p.2.2.2.2.1.1 = liv s z ((m.drop 1).take p.1.1.toNat) zeros ∧ H' = H, fun p _ => (255 - p.1.1).toNat, ?_, ?_⟩
  · exact ⟨by simp, rfl, rfl⟩
  rintro ⟨⟨k, _⟩, _, _, _, ⟨l, _⟩, _⟩ H' ⟨hk, hl, rfl⟩
  simp only at hk hl
  have hlen : l.length = 32 := by rw [hl, liv_len]; rfl
  simp only
  refine br (fun a => ?_) fun a => ?_
  · simp at a
    refine ⟨⟨hk.1, by simpa using a⟩, w14 _ _ _ fun i q b h1 h2 => ⟨_, _, _, rfl, ?_⟩⟩
    have hg : (m.drop 1)[k.toNat]? = some (m.getD (1 + k.toNat) 0) := by
      rw [List.getElem?_drop]
      have : 1 + k.toNat < m.length := by omega
      simp [this]
    have hs : (m.drop 1).take (k + 1).toNat = (m.drop 1).take k.toNat ++ [m.getD (1 + k.toNat) 0] := by
      rw [show (k + 1).toNat = k.toNat + 1 by omega, List.take_add_one, hg]; rfl
    have hw : IntKind.i64.wrap (k + 1) = k + 1 := IntWalk.i64_in _ (by omega)
    have hle : ∀ x ∈ l, 0 ≤ x ∧ x ≤ 0 + ((m.drop 1).take k.toNat).length := by
      rw [hl]; exact liv_le s z _ _ 0 (by omega) (by intro x hx; rw [List.eq_of_mem_replicate hx]; omega)
    have hlt : ((m.drop 1).take k.toNat).length ≤ 255 := by simp; omega
    generalize hat : m.getD (1 + k.toNat) 0 = at' at *
    cases hq : whr s z at' with
    | none =>
      obtain ⟨rfl, rfl, rfl⟩ := h2 hq
      simp only [br_false]
      refine ⟨⟨⟨by rw [hw]; omega, by rw [hw]; omega⟩, ?_, trivial⟩, ?_⟩
      · show l = liv s z (List.take (IntKind.i64.wrap (k + 1)).toNat _) zeros
        rw [hw, hs, liv_snoc, hq, ← hl]; rfl
      · show (255 - IntKind.i64.wrap (k + 1)).toNat < (255 - k).toNat
        rw [hw]; omega
    | some j =>
      obtain ⟨rfl, rfl⟩ := h1 j hq
      have hj := (whr_lt hq).2.2.2.2
      simp only [br_true]
      have hv : IntKind.i64.wrap (l.getD j 0 + 1) = l.getD j 0 + 1 := by
        apply IntWalk.i64_in
        have : l.getD j 0 = l[j] := by simp [hlen, hj]
        rw [this]
        have := hle _ (List.getElem_mem (by omega : j < l.length))
        omega
      refine ⟨⟨by omega, by omega⟩, ⟨by omega, by omega⟩, ⟨⟨by rw [hw]; omega, by rw [hw]; omega⟩, ?_, trivial⟩, ?_⟩
      · show l.set (Int.toNat j) (IntKind.i64.wrap (l.getD (Int.toNat j) 0 + 1)) = liv s z (List.take (IntKind.i64.wrap (k + 1)).toNat _) zeros
        rw [hw, hs, liv_snoc, hq, ← hl, Int.toNat_natCast, hv]; rfl
      · show (255 - IntKind.i64.wrap (k + 1)).toNat < (255 - k).toNat
        rw [hw]; omega
  · simp at a
    have : k = 255 := by omega
    subst this
    have hd : (m.drop 1).take (255 : Int).toNat = m.drop 1 := List.take_of_length_le (by simp; omega)
    rw [hd] at hl
    subst hl
    exact h
end
end Go.Proofs.Ytjlnkihkabljbaa.Us
