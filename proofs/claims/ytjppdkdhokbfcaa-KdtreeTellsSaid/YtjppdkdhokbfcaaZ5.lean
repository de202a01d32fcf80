/- Own texts, one behind the other: E6, SxApr, E7, E8, E9, D2, A5, A16, D3, D4, E10, SxOpen, A9. -/
import Derived.Deep.Slices
import Derived.Deep.Strs
import Derived.Test.YtjppdkdhokbfcaaRows
import Derived.Test.YtjppdkdhokbfcaaChecked
import Derived.Test.YtjppdkdhokbfcaaZ4
set_option linter.unusedVariables false
set_option linter.unusedSimpArgs false
namespace Cr
open Go Sx Stb
open Go.Proofs.Try
set_option maxRecDepth 100000
def h_grw : Hints := { apr := [22] }
def h_cct : Hints := { apr := [33], loops := [(3, ⟨[0, 9, 10], [.f 3 (.int .i64), .f 11 (.int .i64)], []⟩), (11, ⟨[0, 25, 26], [.f 6 .slc, .f 27 (.int .i64)], []⟩)] }
def h_ord : Hints := { pub := [22] }
def nf_grw (a : Option Addr) (n : Nat) (c : Nat) (k : Int) (R : Ending → Heap → Prop) (H : Heap) : Prop := Br (decide (k < (0 : Int))) (R (Ending.panicked [{ v := Value.iface (9 : Nat) (Value.string { data := #[(99 : UInt8), (97 : UInt8), (110 : UInt8), (110 : UInt8), (111 : UInt8), (116 : UInt8), (32 : UInt8), (98 : UInt8), (101 : UInt8), (32 : UInt8), (110 : UInt8), (101 : UInt8), (103 : UInt8), (97 : UInt8), (116 : UInt8), (105 : UInt8), (118 : UInt8), (101 : UInt8)] }), recovered := false }]) H) (Br (decide (IntKind.wrap IntKind.i64 (k - IntKind.wrap IntKind.i64 ((↑c : Int) - (↑n : Int))) > (0 : Int))) (((0 : Int) ≤ (↑c : Int) ∧ (↑c : Int) ≤ (↑c : Int)) ∧ ∃ (es : List (List Value)), SliceAt H (Value.slice (subAddr a c (0 : Nat) (1 : Nat)) (Int.toNat (↑c : Int) - (0 : Nat)) (c - (0 : Nat))) (1 : Nat) es ∧ ((0 : Int) ≤ IntKind.wrap IntKind.i64 (k - IntKind.wrap IntKind.i64 ((↑c : Int) - (↑n : Int))) ∧ IntKind.wrap IntKind.i64 (k - IntKind.wrap IntKind.i64 ((↑c : Int) - (↑n : Int))) * (↑(8 : Nat) : Int) ≤ (↑(140737488355328 : Nat) : Int)) ∧ (Int.toNat (↑c : Int) - (0 : Nat) + List.length (List.replicate (Int.toNat (IntKind.wrap IntKind.i64 (k - IntKind.wrap IntKind.i64 ((↑c : Int) - (↑n : Int))))) [Value.int IntKind.i64 (0 : Int)]) ≤ c - (0 : Nat) → FillX (subAddr a c (0 : Nat) (1 : Nat)) (Int.toNat (↑c : Int) - (0 : Nat)) (1 : Nat) (List.replicate (Int.toNat (IntKind.wrap IntKind.i64 (k - IntKind.wrap IntKind.i64 ((↑c : Int) - (↑n : Int))))) [Value.int IntKind.i64 (0 : Int)]) H fun (H' : Nat → Option Obj) ↦ ((0 : Int) ≤ (↑n : Int) ∧ (↑n : Int) ≤ (↑(c - (0 : Nat)) : Int)) ∧ R (Ending.returned (Value.slice (subAddr (subAddr a c (0 : Nat) (1 : Nat)) (c - (0 : Nat)) (0 : Nat) (1 : Nat)) (Int.toNat (↑n : Int) - (0 : Nat)) (c - (0 : Nat) - (0 : Nat)))) H') ∧ (c - (0 : Nat) < Int.toNat (↑c : Int) - (0 : Nat) + List.length (List.replicate (Int.toNat (IntKind.wrap IntKind.i64 (k - IntKind.wrap IntKind.i64 ((↑c : Int) - (↑n : Int))))) [Value.int IntKind.i64 (0 : Int)]) → (Int.toNat (↑c : Int) - (0 : Nat) + List.length (List.replicate (Int.toNat (IntKind.wrap IntKind.i64 (k - IntKind.wrap IntKind.i64 ((↑c : Int) - (↑n : Int))))) [Value.int IntKind.i64 (0 : Int)])) * (8 : Nat) ≤ (140737488355328 : Nat) ∧ ∀ (b cap : Nat) (H' : Nat → Option Obj), H ≤ H' → H b = none → (∀ (x : Nat) (o : Obj), H' x = some o → H x = some o ∨ x = b) → RowAt H' (Value.slice (some { block := b, off := (0 : Nat) }) (Int.toNat (↑c : Int) - (0 : Nat) + List.length (List.replicate (Int.toNat (IntKind.wrap IntKind.i64 (k - IntKind.wrap IntKind.i64 ((↑c : Int) - (↑n : Int))))) [Value.int IntKind.i64 (0 : Int)])) cap) (3 : Nat) (1 : Nat) (List.append es (List.replicate (Int.toNat (IntKind.wrap IntKind.i64 (k - IntKind.wrap IntKind.i64 ((↑c : Int) - (↑n : Int))))) (Value.cells (Value.int IntKind.i64 (0 : Int))).toList)) → ((0 : Int) ≤ (↑n : Int) ∧ (↑n : Int) ≤ (↑cap : Int)) ∧ R (Ending.returned (Value.slice (subAddr (some { block := b, off := (0 : Nat) }) cap (0 : Nat) (1 : Nat)) (Int.toNat (↑n : Int) - (0 : Nat)) (cap - (0 : Nat)))) H')) (R (Ending.returned (Value.slice a n c)) H))
theorem vc_grw (a : Option Addr) (n : Nat) (c : Nat) (k : Int) (R : Ending → Heap → Prop) (H : Heap) : vcFun prog h_grw f38 [SV.c (SC.v (Value.slice a n c)), SV.c (SC.v (Value.int IntKind.i64 k))] R H = nf_grw a n c k R H := by kernel_rfl

def nf_cct (a : Option Addr) (n : Nat) (c : Nat) (R : Ending → Heap → Prop) (H : Heap) : Prop := a = a ∧ n = n ∧ c = c ∧ a = a ∧ n = n ∧ c = c ∧ (↑n : Int) = (↑n : Int) ∧ LoopP (fun (K : (Int × Int × PUnit) × PUnit → (Nat → Option Obj) → Prop) (p : (Int × Int × PUnit) × PUnit) (H : Nat → Option Obj) ↦ Br (decide (p.fst.snd.fst < (↑n : Int))) (((0 : Int) ≤ p.fst.snd.fst ∧ p.fst.snd.fst < (↑n : Int)) ∧ PtrK a fun (A : Addr) ↦ PtrK (some (Addr.add A (Int.toNat p.fst.snd.fst * (1 : Nat)))) fun (a_1 : Addr) ↦ ∃ (a_2 : Option Addr), ∃ (n_1 : Nat), ∃ (c_1 : Nat), Heap.has H a_1 [Value.slice a_2 n_1 c_1] ∧ Br (decide (IntKind.wrap IntKind.i64 (p.fst.fst + (↑n_1 : Int)) < (0 : Int))) (R (Ending.panicked [{ v := Value.iface (9 : Nat) (Value.string { data := #[(108 : UInt8), (101 : UInt8), (110 : UInt8), (32 : UInt8), (111 : UInt8), (117 : UInt8), (116 : UInt8), (32 : UInt8), (111 : UInt8), (102 : UInt8), (32 : UInt8), (114 : UInt8), (97 : UInt8), (110 : UInt8), (103 : UInt8), (101 : UInt8)] }), recovered := false }]) H) (a = a ∧ n = n ∧ c = c ∧ a = a ∧ n = n ∧ c = c ∧ (↑n : Int) = (↑n : Int) ∧ K ((IntKind.wrap IntKind.i64 (p.fst.fst + (↑n_1 : Int)), IntKind.wrap IntKind.i64 (p.fst.snd.fst + (1 : Int)), PUnit.unit), PUnit.unit) H)) (Meets prog (38 : Nat) [Value.slice none (0 : Nat) (0 : Nat), Value.int IntKind.i64 p.fst.fst] H fun (e : Ending) (H' : Nat → Option Obj) ↦ ∃ (a_1 : Option Addr), ∃ (n_1 : Nat), ∃ (c_1 : Nat), e = Ending.returned (Value.slice a_1 n_1 c_1) ∧ a = a ∧ n = n ∧ c = c ∧ a = a ∧ n = n ∧ c = c ∧ (↑n : Int) = (↑n : Int) ∧ LoopP (fun (K : ((Option Addr × Nat × Nat) × Int × PUnit) × PUnit → (Nat → Option Obj) → Prop) (p : ((Option Addr × Nat × Nat) × Int × PUnit) × PUnit) (H : Nat → Option Obj) ↦ Br (decide (p.fst.snd.fst < (↑n : Int))) (((0 : Int) ≤ p.fst.snd.fst ∧ p.fst.snd.fst < (↑n : Int)) ∧ PtrK a fun (A : Addr) ↦ PtrK (some (Addr.add A (Int.toNat p.fst.snd.fst * (1 : Nat)))) fun (a_2 : Addr) ↦ ∃ (a_3 : Option Addr), ∃ (n_2 : Nat), ∃ (c_2 : Nat), Heap.has H a_2 [Value.slice a_3 n_2 c_2] ∧ ∃ (es : List (List Value)), SliceAt H (Value.slice p.fst.fst.1 p.fst.fst.snd.fst p.fst.fst.snd.snd) (1 : Nat) es ∧ ∃ (es_1 : List (List Value)), SliceAt H (Value.slice a_3 n_2 c_2) (1 : Nat) es_1 ∧ (p.fst.fst.snd.fst + List.length es_1 ≤ p.fst.fst.snd.snd → FillX p.fst.fst.1 p.fst.fst.snd.fst (1 : Nat) es_1 H fun (H' : Nat → Option Obj) ↦ a = a ∧ n = n ∧ c = c ∧ a = a ∧ n = n ∧ c = c ∧ (↑n : Int) = (↑n : Int) ∧ K (((p.fst.fst.1, p.fst.fst.snd.fst + List.length es_1, p.fst.fst.snd.snd), IntKind.wrap IntKind.i64 (p.fst.snd.fst + (1 : Int)), PUnit.unit), PUnit.unit) H') ∧ (p.fst.fst.snd.snd < p.fst.fst.snd.fst + List.length es_1 → (p.fst.fst.snd.fst + List.length es_1) * (8 : Nat) ≤ (140737488355328 : Nat) ∧ ∀ (b cap : Nat) (H' : Nat → Option Obj), H ≤ H' → H b = none → (∀ (x : Nat) (o : Obj), H' x = some o → H x = some o ∨ x = b) → RowAt H' (Value.slice (some { block := b, off := (0 : Nat) }) (p.fst.fst.snd.fst + List.length es_1) cap) (3 : Nat) (1 : Nat) (List.append es es_1) → a = a ∧ n = n ∧ c = c ∧ a = a ∧ n = n ∧ c = c ∧ (↑n : Int) = (↑n : Int) ∧ K (((some { block := b, off := (0 : Nat) }, p.fst.fst.snd.fst + List.length es_1, cap), IntKind.wrap IntKind.i64 (p.fst.snd.fst + (1 : Int)), PUnit.unit), PUnit.unit) H')) (R (Ending.returned (Value.slice p.fst.fst.1 p.fst.fst.snd.fst p.fst.fst.snd.snd)) H)) (((a_1, n_1, c_1), (0 : Int), PUnit.unit), PUnit.unit) H')) (((0 : Int), (0 : Int), PUnit.unit), PUnit.unit) H
theorem vc_cct (a : Option Addr) (n : Nat) (c : Nat) (R : Ending → Heap → Prop) (H : Heap) : vcFun prog h_cct f26 [SV.c (SC.v (Value.slice a n c))] R H = nf_cct a n c R H := by kernel_rfl

def nf_kord (t : Option Addr) (R : Ending → Heap → Prop) (H : Heap) : Prop := Meets prog (25 : Nat) [Value.pointer t] H fun (e : Ending) (H' : Nat → Option Obj) ↦ ∃ (b : Bool), e = Ending.returned (Value.bool b) ∧ Br (!b) (R (Ending.returned (Value.slice none (0 : Nat) (0 : Nat))) H') (∃ (G : Nat → Option Obj), G ≤ H' ∧ PtrK t fun (a : Addr) ↦ PtrK (some a) fun (a : Addr) ↦ PtrK (some (Addr.add a (1 : Nat))) fun (a : Addr) ↦ PtrK (some (Addr.add a (0 : Nat))) fun (a : Addr) ↦ ∃ (n : Int), Heap.has G a [Value.int IntKind.i64 n] ∧ PtrK t fun (a : Addr) ↦ PtrK (some a) fun (a : Addr) ↦ PtrK (some (Addr.add a (5 : Nat))) fun (a : Addr) ↦ ∃ (a_1 : Option Addr), Heap.has G a [Value.pointer a_1] ∧ PtrK t fun (a : Addr) ↦ PtrK (some a) fun (a : Addr) ↦ PtrK (some (Addr.add a (6 : Nat))) fun (a : Addr) ↦ ∃ (a_2 : Option Addr), Heap.has G a [Value.pointer a_2] ∧ Meets prog (11 : Nat) [Value.pointer a_1] H' fun (e : Ending) (H'_1 : Nat → Option Obj) ↦ Keep G H' H' H'_1 ∧ ∃ (a : Option Addr), ∃ (n_1 : Nat), ∃ (c : Nat), e = Ending.returned (Value.slice a n_1 c) ∧ Meets prog (11 : Nat) [Value.pointer a_2] (delLs H'_1 []) fun (e : Ending) (H' : Nat → Option Obj) ↦ Keep G (delLs H'_1 []) (delLs H'_1 []) H' ∧ ∃ (a_3 : Option Addr), ∃ (n_2 : Nat), ∃ (c_1 : Nat), e = Ending.returned (Value.slice a_3 n_2 c_1) ∧ ∀ (v : Value) (H'_2 : Nat → Option Obj), delLs H' [] ≤ H'_2 → (∀ (b : Nat), blockOf v = some b → delLs H' [] b = none) → (∀ (b : Nat) (o : Obj), H'_2 b = some o → delLs H' [] b = some o ∨ blockOf v = some b) → RowAt H'_2 v (3 : Nat) (1 : Nat) [[Value.int IntKind.i64 n]] → ∀ (v_1 : Value) (H' : Nat → Option Obj), H'_2 ≤ H' → (∀ (b : Nat), blockOf v_1 = some b → H'_2 b = none) → (∀ (b : Nat) (o : Obj), H' b = some o → H'_2 b = some o ∨ blockOf v_1 = some b) → RowAt H' v_1 (24 : Nat) (1 : Nat) [[v], [Value.slice a n_1 c], [Value.slice a_3 n_2 c_1]] → Meets prog (26 : Nat) [v_1] H' fun (e : Ending) (H'_3 : Nat → Option Obj) ↦ Keep G H'_2 H' H'_3 ∧ ∃ (a : Option Addr), ∃ (n : Nat), ∃ (c : Nat), e = Ending.returned (Value.slice a n c) ∧ R (Ending.returned (Value.slice a n c)) (delLs H'_3 [{ site := (22 : Nat), val := v_1, kind := LK.row (24 : Nat) (1 : Nat) }]))
theorem vc_kord (t : Option Addr) (R : Ending → Heap → Prop) (H : Heap) : vcFun prog h_ord f11 [SV.c (SC.v (Value.pointer t))] R H = nf_kord t R H := by kernel_rfl

end Cr

set_option linter.unusedVariables false
set_option linter.unusedSimpArgs false
namespace Sx
open Go
/-- What may come of a row that is handed on: all else is as it was; it stands where it stood, or in new memory. -/
structure AOwn (v v' : Value) (H H' : Heap) : Prop where
  keep : ∀ b o, blockOf v ≠ some b → H b = some o → H' b = some o
  new : ∀ b, blockOf v' = some b → blockOf v = some b ∨ H b = none
theorem AOwn.refl (v : Value) (H : Heap) : AOwn v v H H := ⟨fun _ _ _ h => h, fun _ h => .inl h⟩
theorem AOwn.trans {v v' v'' : Value} {A B D : Heap} (h : AOwn v v' A B) (h' : AOwn v' v'' B D) : AOwn v v'' A D where
  keep b o hb e := h'.keep b o (fun q => by rcases h.new b q with h1 | h1
                                            · exact hb h1
                                            · rw [e] at h1; cases h1) (h.keep b o hb e)
  new b hb := by
    rcases h'.new b hb with h1 | h1
    · exact h.new b h1
    · by_cases q : blockOf v = some b
      · exact .inl q
      · right
        cases e : A b with
        | none => rfl
        | some o => rw [h.keep b o q e] at h1; cases h1
/-- Cells behind a row are written: it has more elements. -/
theorem row_tail {H : Heap} {A : Addr} {n c ty sz : Nat} {es es2 : List (List Value)} (h : RowAt H (.slice (some A) n c) ty sz es) (hc : n + es2.length ≤ c) (hw : ∀ e ∈ es2, e.length = sz) (h1 : ∀ e ∈ es2, ∀ x ∈ e, one x = true) :
    ∃ cs, (H A.block = some (.cells cs ty (0, 0)) ∧ A.spot = none ∧ A.off + n * sz + es2.length * sz ≤ cs.size) ∧ RowAt (H.upd A.block (.cells (writeCells cs (A.off + n * sz) es2.flatten) ty (0, 0))) (.slice (some A) (n + es2.length) c) ty sz (es ++ es2) := by
  rcases h with ⟨e, -⟩ | ⟨b, o, cap, cs, e, hb, hcap, hfit, hel, hfl, hon⟩
  · cases e
  have e1 := Value.slice.inj e
  obtain ⟨e2, rfl, rfl⟩ := e1
  cases e2
  have hF2 : es2.flatten.length = es2.length * sz := flatten_len hw
  have hm : (es.length + es2.length) * sz ≤ c * sz := Nat.mul_le_mul_right _ hc
  rw [Nat.add_mul] at hm
  have hroom : o + es.length * sz + es2.length * sz ≤ cs.size := by omega
  refine ⟨cs, ⟨hb, rfl, hroom⟩, .inr ⟨b, o, c, writeCells cs (o + es.length * sz) es2.flatten, by rw [List.length_append], by rw [upd_same], by rw [List.length_append]; exact hc, ?_, ?_, ?_, ?_⟩⟩
  · rw [writeCells_size _ _ _ (by rw [hF2]; exact hroom)]; exact hfit
  · intro e he
    rcases List.mem_append.1 he with he | he
    · exact hel e he
    · exact hw e he
  · rw [write_lw _ _ _ (by rw [hF2]; exact hroom), lw, List.append_assoc, List.drop_append, List.drop_take, List.length_append, Nat.add_mul]
    have e3 : o + es.length * sz - o = es.length * sz := by omega
    have e4 : (List.take (o + es.length * sz) cs.toList).length = o + es.length * sz := by simp; omega
    rw [e3, hfl, e4, show o - (o + es.length * sz) = 0 by omega, List.drop_zero, ← List.append_assoc, List.flatten_append]
    exact List.take_left' (by rw [List.length_append, flatten_len hel, hF2])
  · intro e he
    rcases List.mem_append.1 he with he | he
    · exact hon e he
    · exact h1 e he
theorem apr_row {H : Heap} {a : Option Addr} {n c ty sz : Nat} {es es2 : List (List Value)} (h : RowAt H (.slice a n c) ty sz es) (hw : ∀ e ∈ es2, e.length = sz) (h1 : ∀ e ∈ es2, ∀ x ∈ e, one x = true) {by_ : Nat} (hroom : (n + es2.length) * by_ ≤ roomMax)
    {K : Option Addr → Nat → Nat → Heap → Prop} (k : ∀ a' c' H', AOwn (.slice a n c) (.slice a' (n + es2.length) c') H H' → RowAt H' (.slice a' (n + es2.length) c') ty sz (es ++ es2) → K a' (n + es2.length) c' H') :
    (n + es2.length ≤ c → FillX a n sz es2 H fun H' => K a (n + es2.length) c H') ∧
    (c < n + es2.length → (n + es2.length) * by_ ≤ roomMax ∧ ∀ (b cap : Nat) (H' : Heap), H ≤ H' → H b = none → (∀ x o, H' x = some o → H x = some o ∨ x = b) → RowAt H' (.slice (some ⟨b, 0, none⟩) (n + es2.length) cap) ty sz (es ++ es2) → K (some ⟨b, 0, none⟩) (n + es2.length) cap H') := by
  refine ⟨fun hc => ?_, fun hc => ⟨hroom, fun b cap H' hle hb _ hrow => k _ _ _ ⟨fun x o _ e => hle x o e, fun x hx => ?_⟩ hrow⟩⟩
  · cases a with
    | none =>
      rcases h with ⟨e, rfl⟩ | ⟨b, o, cap, cs, e, _⟩
      · cases e
        have : es2 = [] := List.length_eq_zero_iff.1 (by omega)
        subst this
        exact Or.inl ⟨rfl, k none 0 H (AOwn.refl _ _) (.inl ⟨rfl, rfl⟩)⟩
      · cases e
    | some A =>
      obtain ⟨cs, g1, g2⟩ := row_tail h hc hw h1
      refine Or.inr ⟨A, cs, ty, rfl, g1, k _ _ _ ⟨fun x o hx e => ?_, fun x hx => .inl hx⟩ g2⟩
      rw [upd_ne _ _ (fun q => hx (by rw [q]; rfl))]; exact e
  · simp only [blockOf, Option.some.injEq] at hx
    subst hx
    exact .inr hb
/-- A row's first elements, as a slice that has less room. -/
theorem row_take {H : Heap} {a : Option Addr} {n c ty sz : Nat} {es : List (List Value)} (h : RowAt H (.slice a n c) ty sz es) {k : Nat} (hk : k ≤ n) : RowAt H (.slice a k c) ty sz (es.take k) := by
  rcases h with ⟨e, rfl⟩ | ⟨b, o, cap, cs, e, hb, hcap, hfit, hel, hfl, hon⟩
  · cases e
    exact .inl ⟨by rw [show k = 0 by omega], by simp⟩
  · obtain ⟨rfl, rfl, rfl⟩ := Value.slice.inj e
    have hl : (es.take k).length = k := by rw [List.length_take]; omega
    refine .inr ⟨b, o, c, cs, by rw [hl], hb, by omega, hfit, fun e he => hel e (List.mem_of_mem_take he), ?_, fun e he => hon e (List.mem_of_mem_take he)⟩
    rw [hl]
    have hF : (es.take k).flatten.length = k * sz := by rw [flatten_len fun e he => hel e (List.mem_of_mem_take he), hl]
    have h2 : es.flatten = (es.take k).flatten ++ (es.drop k).flatten := by rw [← List.flatten_append, List.take_append_drop]
    have h3 : k * sz ≤ es.length * sz := Nat.mul_le_mul_right _ hk
    have h4 : List.take (k * sz) (List.take (es.length * sz) (List.drop o cs.toList)) = List.take (k * sz) (List.drop o cs.toList) := by rw [List.take_take, Nat.min_eq_left h3]
    rw [← h4, hfl, h2]
    exact List.take_left' hF
end Sx

set_option linter.unusedVariables false
set_option linter.unusedSimpArgs false
namespace Cr
open Go Sx Go.Proofs Go.Sort
open Go.Proofs.Try
set_option maxRecDepth 100000
section
variable {H : Heap} {R : Ending → Heap → Prop}
theorem sub0 (c z : Nat) : subAddr none c 0 z = none := by unfold subAddr; split <;> rfl
theorem subA (A : Addr) (c z : Nat) : subAddr (some A) c 0 z = some A := by
  unfold subAddr
  split
  · rfl
  · cases A with | mk b o s => cases s <;> simp [Addr.add]
/-- Room for so many numbers. -/
theorem s_grw {k : Nat} (hk : k ≤ 1000000) (kk : ∀ v H', H ≤ H' → (∀ b, blockOf v = some b → H b = none) → RowAt H' v 3 1 [] → R (.returned v) H') : Meets prog 38 [.slice none 0 0, vi (k : Int)] H R := by
  refine spec_of func38 (by kernel_rfl) (fun t h => by cases h) ?_ (vc_grw none 0 0 (k : Int) R H) ?_
  · simp [argsR, SV.rep, SC.rep, Sx.one]
  unfold nf_grw
  have e0 : IntKind.wrap .i64 ((k : Int) - IntKind.wrap .i64 (((0 : Nat) : Int) - ((0 : Nat) : Int))) = (k : Int) := by
    rw [wi64 (k := ((0 : Nat) : Int) - ((0 : Nat) : Int)) (by omega), wi64 (by omega)]; omega
  refine br (fun q => by simp at q; omega) fun _ => br (fun q => ?_) fun q => ?_
  · rw [e0] at q ⊢
    simp only [sub0]
    have hk0 : 0 < k := by simpa using q
    refine ⟨by simp, [], slice_nil H, ⟨by omega, by omega⟩, fun hc => ?_, fun hc => ?_⟩
    · simp at hc; omega
    · refine ⟨by simp; omega, fun b cap H' hle hb hb2 hrow => ⟨⟨by simp, by simp⟩, ?_⟩⟩
      rw [subA]
      refine kk _ _ hle (fun x hx => ?_) ?_
      · simp only [blockOf, Option.some.injEq] at hx
        subst hx; exact hb
      · have := row_take hrow (k := 0) (by simp)
        simpa using this
  · rw [e0] at q
    have : k = 0 := by simp at q; omega
    exact kk _ _ (fun _ _ e => e) (fun b hb => by cases hb) (.inl ⟨rfl, rfl⟩)
theorem s_cct {v : Value} {vs : List Value} {ls : List (List Int)} (h : SliceAt H v 1 (vs.map fun x => [x])) (hv : ∀ (i : Nat) (x : Value) (l : List Int), vs[i]? = some x → ls[i]? = some l → SliceAt H x 1 (cells l)) (hvl : vs.length = ls.length) (hn3 : ls.length ≤ 1000) (hl : ls.flatten.length ≤ 1000000)
    (k : ∀ v' H', H ≤ H' → (∀ b, blockOf v' = some b → H b = none) → RowAt H' v' 3 1 (cells ls.flatten) → R (.returned v') H') : Meets prog 26 [v] H R := by
  obtain ⟨a, n, c, e, hn⟩ := h
  subst e
  have h : SliceAt H (.slice a n c) 1 (vs.map fun x => [x]) := ⟨a, n, c, rfl, hn⟩
  have hln : vs.length = n := by simpa using hn.1
  refine spec_of func26 (by kernel_rfl) (fun t h => by cases h) ?_ (vc_cct a n c R H) ?_
  · simp [argsR, SV.rep, SC.rep, Sx.one]
  unfold nf_cct
  have bnd : ∀ t, (ls.take t).flatten.length ≤ ls.flatten.length := fun t => by
    conv => rhs; rw [← List.take_append_drop t ls]
    rw [List.flatten_append, List.length_append]
    omega
  have nxt : ∀ t l, ls[t]? = some l → (ls.take (t + 1)).flatten = (ls.take t).flatten ++ l := fun t l hl => by
    rw [List.take_add_one, hl]; simp
  simp only [true_and]
  refine ⟨fun p H' => ∃ t : Nat, p.1.2.1 = (t : Int) ∧ t ≤ n ∧ p.1.1 = ((ls.take t).flatten.length : Int) ∧ H' = H, fun p _ => (n - p.1.2.1).toNat, ⟨0, rfl, by omega, by simp, rfl⟩, ?_⟩
  rintro ⟨⟨sz, i, _⟩, _⟩ H1 ⟨t, hi, ht, hsz, rfl⟩
  simp only at hi hsz ⊢
  subst hi hsz
  refine br (fun q1 => ?_) fun q1 => ?_
  · simp only [decide_eq_true_eq] at q1
    obtain ⟨x, _, _, hx⟩ := drop_cons (l := vs) (k := t) (by omega)
    obtain ⟨l, _, _, hll⟩ := drop_cons (l := ls) (k := t) (by omega)
    obtain ⟨a1, n1, c1, e1, hs1⟩ := hv t x l hx hll
    subst e1
    have hl1 : l.length = n1 := by simpa using hs1.1
    obtain ⟨A, e, _, g⟩ := slice_get h (i := t) (e := [.slice a1 n1 c1]) (by simp [hx])
    subst e
    have b1 := bnd (t + 1)
    rw [nxt t l hll, List.length_append] at b1
    have e2 : IntKind.wrap .i64 (((ls.take t).flatten.length : Int) + (n1 : Int)) = (((ls.take (t + 1)).flatten.length : Nat) : Int) := by
      rw [nxt t l hll, List.length_append, wi64 (by omega)]; omega
    refine ⟨⟨by omega, by omega⟩, ptr rfl (ptr rfl ⟨a1, n1, c1, g, ?_⟩)⟩
    rw [e2]
    refine br (fun q => by simp at q; omega) fun _ => ?_
    rw [wi64 (by omega)]
    exact ⟨⟨t + 1, by simp, by omega, rfl, by trivial⟩, by simp; omega⟩
  · simp only [decide_eq_false_iff_not] at q1
    rw [List.take_of_length_le (by omega)]
    refine s_grw (by omega) fun v2 H2 hle2 hf2 hrow2 => ?_
    obtain ⟨a2, c2, rfl⟩ := row_val hrow2
    refine ⟨a2, _, c2, rfl, fun p H' => ∃ t : Nat, p.1.2.1 = (t : Int) ∧ t ≤ n ∧ RowAt H' (.slice p.1.1.1 p.1.1.2.1 p.1.1.2.2) 3 1 (cells (ls.take t).flatten) ∧ H1 ≤ H' ∧ ∀ b, blockOf (.slice p.1.1.1 p.1.1.2.1 p.1.1.2.2) = some b → H1 b = none, fun p _ => (n - p.1.2.1).toNat, ⟨0, rfl, by omega, hrow2, hle2, hf2⟩, ?_⟩
    rintro ⟨⟨⟨a3, n3, c3⟩, i, _⟩, _⟩ H3 ⟨t, hi, ht, hrow3, hle3, hf3⟩
    simp only at hi hrow3 hf3 ⊢
    subst hi
    refine br (fun q1 => ?_) fun q1 => ?_
    · simp only [decide_eq_true_eq] at q1
      obtain ⟨x, _, _, hx⟩ := drop_cons (l := vs) (k := t) (by omega)
      obtain ⟨l, _, _, hll⟩ := drop_cons (l := ls) (k := t) (by omega)
      obtain ⟨A, e, _, g⟩ := slice_get (slice_le h hle3) (i := t) (e := [x]) (by simp [hx])
      subst e
      have hs3 := slice_le (hv t x l hx hll) hle3
      obtain ⟨a1, n1, c1, e1, hs1⟩ := id hs3
      subst e1
      have b1 := bnd (t + 1)
      rw [nxt t l hll, List.length_append] at b1
      have hn3 : (ls.take t).flatten.length = n3 := by have := (row_len hrow3).1; simp only [cells, List.length_map] at this; exact this
      refine ⟨⟨by omega, by omega⟩, ptr rfl (ptr rfl ⟨a1, n1, c1, g, _, row_slice hrow3, _, hs3, ?_⟩)⟩
      rw [wi64 (by omega)]
      refine apr_row (K := fun a' n' c' H' => (∃ t' : Nat, ((t : Int) + 1) = (t' : Int) ∧ t' ≤ n ∧ RowAt H' (.slice a' n' c') 3 1 (cells (ls.take t').flatten) ∧ H1 ≤ H' ∧ ∀ b, blockOf (.slice a' n' c') = some b → H1 b = none) ∧ ((n : Int) - ((t : Int) + 1)).toNat < ((n : Int) - (t : Int)).toNat) hrow3 (by simp [cells]) (by simp [cells, Sx.one]) (by_ := 8) (by simp only [cells, List.length_map]; unfold roomMax; omega) fun a' c' H' ho hr' => ⟨⟨t + 1, by simp, by omega, ?_, fun b o e => ?_, fun b hb => ?_⟩, by omega⟩
      · rw [nxt t l hll]
        simpa [cells] using hr'
      · exact ho.keep b o (fun e2 => by rw [hf3 b e2] at e; cases e) (hle3 b o e)
      · rcases ho.new b hb with q | q
        · exact hf3 b q
        · cases q2 : H1 b with
          | none => rfl
          | some o => rw [hle3 b o q2] at q; cases q
    · simp only [decide_eq_false_iff_not] at q1
      rw [List.take_of_length_le (by omega)] at hrow3
      exact k _ _ hle3 hf3 hrow3
theorem s_kord : ∀ (T : KT) {H : Heap} {R : Ending → Heap → Prop} {t : Option Addr}, KAt H T t → T.pre.length ≤ 1000 → (∀ v' H', H ≤ H' → (∀ b, blockOf v' = some b → H b = none) → RowAt H' v' 3 1 (cells T.pre) → R (.returned v') H') → Meets prog 11 [.pointer t] H R
  | .nil, H, R, t, h, hd, k => by
    refine spec_of func11 (by kernel_rfl) (fun t h => by cases h) ?_ (vc_kord t R H) ?_
    · simp [argsR, SV.rep, SC.rep, Sx.one]
    unfold nf_kord
    exact s_kis h ⟨_, rfl, br (fun _ => k _ _ (fun _ _ e => e) (fun b hb => by cases hb) (.inl ⟨rfl, rfl⟩)) fun q => by simp [KT.some] at q⟩
  | .node p l r, H, R, t, h, hd, k => by
    have h0 := h
    obtain ⟨A, a, b, rfl, g, h1, h2⟩ := h
    have hd : (l.pre ++ r.pre).length + 1 ≤ 1000 := hd
    rw [List.length_append] at hd
    refine spec_of func11 (by kernel_rfl) (fun t h => by cases h) ?_ (vc_kord (some A) R H) ?_
    · simp [argsR, SV.rep, SC.rep, Sx.one]
    unfold nf_kord
    refine s_kis h0 ⟨_, rfl, br (fun q => by simp [KT.some] at q) fun _ => ⟨H, fun _ _ e => e, ptr rfl (ptr rfl (ptr rfl (ptr rfl ⟨p.id, has_at (k := 1) g rfl, ptr rfl (ptr rfl (ptr rfl ⟨a, has_at g rfl, ptr rfl (ptr rfl (ptr rfl ⟨b, has_at g rfl, ?_⟩))⟩))⟩)))⟩⟩
    refine s_kord l h1 (by omega) fun v1 H1 hle1 hf1 hr1 => ?_
    obtain ⟨a1, c1, rfl⟩ := row_val hr1
    refine ⟨fun b o e _ => hle1 b o e, a1, _, c1, rfl, ?_⟩
    simp only [delLs_nil]
    refine s_kord r (kAt_le hle1 h2) (by omega) fun v2 H2 hle2 hf2 hr2 => ?_
    obtain ⟨a2, c2, rfl⟩ := row_val hr2
    refine ⟨fun b o e _ => hle2 b o e, a2, _, c2, rfl, ?_⟩
    intro v3 H3 hle3 hf3 hb3 hr3 v4 H4 hle4 hf4 hb4 hr4
    have hr4' : RowAt H4 v4 24 1 ([v3, .slice a1 (cells l.pre).length c1, .slice a2 (cells r.pre).length c2].map fun x => [x]) := hr4
    refine s_cct (ls := [[p.id], l.pre, r.pre]) (row_slice hr4') ?_ rfl (by simp) (by simp; omega) fun v5 H5 hle5 hf5 hr5 => ?_
    · intro i x w hx hw
      match i, hx, hw with
      | 0, hx, hw => simp at hx hw; subst hx hw; exact slice_le (row_slice hr3) hle4
      | 1, hx, hw => simp at hx hw; subst hx hw; have := slice_le (row_slice hr1) (heap_trans hle2 (heap_trans hle3 hle4)); simpa using this
      | 2, hx, hw => simp at hx hw; subst hx hw; have := slice_le (row_slice hr2) (heap_trans hle3 hle4); simpa using this
    · obtain ⟨a5, c5, rfl⟩ := row_val hr5
      refine ⟨fun b o e _ => hle5 b o e, a5, _, c5, rfl, ?_⟩
      have hle : H ≤ H3 := heap_trans hle1 (heap_trans hle2 hle3)
      have e6 : [p.id] :: [l.pre, r.pre] = [[p.id], l.pre, r.pre] := rfl
      refine k _ _ (le_delO (heap_trans hle (heap_trans hle4 hle5)) fun b hb => ?_) (fun b hb => ?_) ?_
      · cases q : H b with
        | none => rfl
        | some o => have := hf4 b hb; rw [hle b o q] at this; cases this
      · cases q : H b with
        | none => rfl
        | some o => have := hf5 b hb; rw [hle4 b o (hle b o q)] at this; cases this
      · have := row_delO hr5 (o := blockOf v4) fun b hb e => rowat_known hr4 e (hf5 b hb)
        have e7 : cells (KT.node p l r).pre = cells [[p.id], l.pre, r.pre].flatten := by simp [KT.pre]
        rw [e7]
        exact this
end
end Cr

set_option linter.unusedVariables false
set_option linter.unusedSimpArgs false
namespace Cr
open Go Sx Stb
open Go.Proofs.Try
set_option maxRecDepth 100000
def h_klo : Hints := { loops := [(5, ⟨[0, 1], [.row 6 44 4, .f 7 (.int .i64)], []⟩), (8, ⟨[0, 1, 7], [.row 6 44 4, .f 8 (.int .i64)], []⟩)], cuts := [(11, ⟨[0, 1], [.f 6 .slc], []⟩)] }
def nf_klo (a : Option Addr) (n : Nat) (c : Nat) (dp : Int) (R : Ending → Heap → Prop) (H : Heap) : Prop := Br ((↑n : Int) == (0 : Int)) (R (Ending.returned (Value.tuple { toList := [Value.slice none (0 : Nat) (0 : Nat), Value.int IntKind.i64 (0 : Int)] })) H) (CutP (fun (I : ((Option Addr × Nat × Nat) × PUnit) × PUnit → (Nat → Option Obj) → Prop) ↦ a = a ∧ n = n ∧ c = c ∧ dp = dp ∧ LoopP (fun (K : (List (List Value) × Int × PUnit) × PUnit → (Nat → Option Obj) → Prop) (p : (List (List Value) × Int × PUnit) × PUnit) (H : Nat → Option Obj) ↦ Br (decide (p.fst.snd.fst < (↑n : Int))) (a = a ∧ n = n ∧ c = c ∧ dp = dp ∧ p.fst.snd.fst = p.fst.snd.fst ∧ LoopP (fun (K_1 : (List (List Value) × Int × PUnit) × PUnit → (Nat → Option Obj) → Prop) (p_1 : (List (List Value) × Int × PUnit) × PUnit) (H : Nat → Option Obj) ↦ ∃ (G : Nat → Option Obj), G ≤ H ∧ Br (decide (p_1.fst.snd.fst > (0 : Int))) (((0 : Int) ≤ p.fst.snd.fst ∧ p.fst.snd.fst < (↑n : Int)) ∧ PtrK a fun (A : Addr) ↦ PtrK (some (Addr.add A (Int.toNat p.fst.snd.fst * (4 : Nat)))) fun (a_1 : Addr) ↦ ∃ (n_1 : Int), ∃ (n_2 : Int), ∃ (n_3 : Int), ∃ (s : ByteArray), Heap.has G a_1 [Value.int IntKind.i64 n_1, Value.int IntKind.u32 n_2, Value.int IntKind.u32 n_3, Value.string s] ∧ ((0 : Int) ≤ IntKind.wrap IntKind.i64 (p_1.fst.snd.fst - (1 : Int)) ∧ IntKind.wrap IntKind.i64 (p_1.fst.snd.fst - (1 : Int)) < (↑(List.length p_1.fst.fst) : Int)) ∧ ∃ (n_4 : Int), ∃ (n_5 : Int), ∃ (n_6 : Int), ∃ (s_1 : ByteArray), (∃ (e : List Value), List.get?Internal p_1.fst.fst (Int.toNat (IntKind.wrap IntKind.i64 (p_1.fst.snd.fst - (1 : Int)))) = some e ∧ List.take (4 : Nat) (List.drop (0 : Nat) e) = [Value.int IntKind.i64 n_4, Value.int IntKind.u32 n_5, Value.int IntKind.u32 n_6, Value.string s_1]) ∧ Meets prog (18 : Nat) [Value.agg { toList := [Value.int IntKind.i64 n_1, Value.int IntKind.u32 n_2, Value.int IntKind.u32 n_3, Value.string s] }, Value.agg { toList := [Value.int IntKind.i64 n_4, Value.int IntKind.u32 n_5, Value.int IntKind.u32 n_6, Value.string s_1] }, Value.int IntKind.i64 dp] H fun (e : Ending) (H' : Nat → Option Obj) ↦ Keep G H H H' ∧ ∃ (b : Bool), e = Ending.returned (Value.bool b) ∧ Br b (a = a ∧ n = n ∧ c = c ∧ dp = dp ∧ p.fst.snd.fst = p.fst.snd.fst ∧ K_1 ((p_1.fst.fst, IntKind.wrap IntKind.i64 (p_1.fst.snd.fst - (1 : Int)), PUnit.unit), PUnit.unit) (delLs H' [])) (((0 : Int) ≤ p_1.fst.snd.fst ∧ p_1.fst.snd.fst ≤ (↑(List.length p_1.fst.fst) : Int)) ∧ ((0 : Int) ≤ p.fst.snd.fst ∧ p.fst.snd.fst < (↑n : Int)) ∧ PtrK a fun (A : Addr) ↦ PtrK (some (Addr.add A (Int.toNat p.fst.snd.fst * (4 : Nat)))) fun (a_2 : Addr) ↦ ∃ (n_7 : Int), ∃ (n_8 : Int), ∃ (n_9 : Int), ∃ (s : ByteArray), Heap.has (delLs H' []) a_2 [Value.int IntKind.i64 n_7, Value.int IntKind.u32 n_8, Value.int IntKind.u32 n_9, Value.string s] ∧ ((0 : Int) ≤ p_1.fst.snd.fst ∧ p_1.fst.snd.fst ≤ (↑(List.length p_1.fst.fst) : Int)) ∧ List.length (List.take (Int.toNat p_1.fst.snd.fst - (0 : Nat)) (List.drop (0 : Nat) p_1.fst.fst)) * (32 : Nat) ≤ (140737488355328 : Nat) ∧ List.length (List.append (List.take (Int.toNat p_1.fst.snd.fst - (0 : Nat)) (List.drop (0 : Nat) p_1.fst.fst)) [[Value.int IntKind.i64 n_7, Value.int IntKind.u32 n_8, Value.int IntKind.u32 n_9, Value.string s]]) * (32 : Nat) ≤ (140737488355328 : Nat) ∧ List.length (List.append (List.append (List.take (Int.toNat p_1.fst.snd.fst - (0 : Nat)) (List.drop (0 : Nat) p_1.fst.fst)) [[Value.int IntKind.i64 n_7, Value.int IntKind.u32 n_8, Value.int IntKind.u32 n_9, Value.string s]]) (List.take (List.length p_1.fst.fst - Int.toNat p_1.fst.snd.fst) (List.drop (Int.toNat p_1.fst.snd.fst) p_1.fst.fst))) * (32 : Nat) ≤ (140737488355328 : Nat) ∧ a = a ∧ n = n ∧ c = c ∧ dp = dp ∧ K ((List.append (List.append (List.take (Int.toNat p_1.fst.snd.fst - (0 : Nat)) (List.drop (0 : Nat) p_1.fst.fst)) [[Value.int IntKind.i64 n_7, Value.int IntKind.u32 n_8, Value.int IntKind.u32 n_9, Value.string s]]) (List.take (List.length p_1.fst.fst - Int.toNat p_1.fst.snd.fst) (List.drop (Int.toNat p_1.fst.snd.fst) p_1.fst.fst)), IntKind.wrap IntKind.i64 (p.fst.snd.fst + (1 : Int)), PUnit.unit), PUnit.unit) (delLs H' []))) (((0 : Int) ≤ p_1.fst.snd.fst ∧ p_1.fst.snd.fst ≤ (↑(List.length p_1.fst.fst) : Int)) ∧ ((0 : Int) ≤ p.fst.snd.fst ∧ p.fst.snd.fst < (↑n : Int)) ∧ PtrK a fun (A : Addr) ↦ PtrK (some (Addr.add A (Int.toNat p.fst.snd.fst * (4 : Nat)))) fun (a_1 : Addr) ↦ ∃ (n_1 : Int), ∃ (n_2 : Int), ∃ (n_3 : Int), ∃ (s : ByteArray), Heap.has H a_1 [Value.int IntKind.i64 n_1, Value.int IntKind.u32 n_2, Value.int IntKind.u32 n_3, Value.string s] ∧ ((0 : Int) ≤ p_1.fst.snd.fst ∧ p_1.fst.snd.fst ≤ (↑(List.length p_1.fst.fst) : Int)) ∧ List.length (List.take (Int.toNat p_1.fst.snd.fst - (0 : Nat)) (List.drop (0 : Nat) p_1.fst.fst)) * (32 : Nat) ≤ (140737488355328 : Nat) ∧ List.length (List.append (List.take (Int.toNat p_1.fst.snd.fst - (0 : Nat)) (List.drop (0 : Nat) p_1.fst.fst)) [[Value.int IntKind.i64 n_1, Value.int IntKind.u32 n_2, Value.int IntKind.u32 n_3, Value.string s]]) * (32 : Nat) ≤ (140737488355328 : Nat) ∧ List.length (List.append (List.append (List.take (Int.toNat p_1.fst.snd.fst - (0 : Nat)) (List.drop (0 : Nat) p_1.fst.fst)) [[Value.int IntKind.i64 n_1, Value.int IntKind.u32 n_2, Value.int IntKind.u32 n_3, Value.string s]]) (List.take (List.length p_1.fst.fst - Int.toNat p_1.fst.snd.fst) (List.drop (Int.toNat p_1.fst.snd.fst) p_1.fst.fst))) * (32 : Nat) ≤ (140737488355328 : Nat) ∧ a = a ∧ n = n ∧ c = c ∧ dp = dp ∧ K ((List.append (List.append (List.take (Int.toNat p_1.fst.snd.fst - (0 : Nat)) (List.drop (0 : Nat) p_1.fst.fst)) [[Value.int IntKind.i64 n_1, Value.int IntKind.u32 n_2, Value.int IntKind.u32 n_3, Value.string s]]) (List.take (List.length p_1.fst.fst - Int.toNat p_1.fst.snd.fst) (List.drop (Int.toNat p_1.fst.snd.fst) p_1.fst.fst)), IntKind.wrap IntKind.i64 (p.fst.snd.fst + (1 : Int)), PUnit.unit), PUnit.unit) H)) ((p.fst.fst, (↑(List.length p.fst.fst) : Int), PUnit.unit), PUnit.unit) H) (∀ (a_1 : Option Addr) (c_1 : Nat) (H' : Nat → Option Obj), H ≤ H' → (∀ (b : Nat), blockOf (Value.slice a_1 (List.length p.fst.fst) c_1) = some b → H b = none) → (∀ (b : Nat) (o : Obj), H' b = some o → H b = some o ∨ blockOf (Value.slice a_1 (List.length p.fst.fst) c_1) = some b) → RowAt H' (Value.slice a_1 (List.length p.fst.fst) c_1) (44 : Nat) (4 : Nat) p.fst.fst → a = a ∧ n = n ∧ c = c ∧ dp = dp ∧ I (((a_1, List.length p.fst.fst, c_1), PUnit.unit), PUnit.unit) H')) (([], (0 : Int), PUnit.unit), PUnit.unit) H) fun (p : ((Option Addr × Nat × Nat) × PUnit) × PUnit) (H : Nat → Option Obj) ↦ (2 : Int) ≠ (0 : Int) ∧ ((0 : Int) ≤ IntKind.wrap IntKind.i64 (Int.tdiv (↑p.fst.fst.snd.fst : Int) (2 : Int)) ∧ IntKind.wrap IntKind.i64 (Int.tdiv (↑p.fst.fst.snd.fst : Int) (2 : Int)) ≤ (↑p.fst.fst.snd.snd : Int)) ∧ Meets prog (7 : Nat) [Value.slice (subAddr p.fst.fst.1 p.fst.fst.snd.snd (0 : Nat) (4 : Nat)) (Int.toNat (IntKind.wrap IntKind.i64 (Int.tdiv (↑p.fst.fst.snd.fst : Int) (2 : Int))) - (0 : Nat)) (p.fst.fst.snd.snd - (0 : Nat)), Value.int IntKind.i64 (IntKind.wrap IntKind.i64 (dp + (1 : Int)))] H fun (e : Ending) (H' : Nat → Option Obj) ↦ ∃ (a : Option Addr), ∃ (n : Nat), ∃ (c : Nat), ∃ (n_1 : Int), e = Ending.returned (Value.tuple { toList := [Value.slice a n c, Value.int IntKind.i64 n_1] }) ∧ ((0 : Int) ≤ IntKind.wrap IntKind.i64 (IntKind.wrap IntKind.i64 (Int.tdiv (↑p.fst.fst.snd.fst : Int) (2 : Int)) + (1 : Int)) ∧ IntKind.wrap IntKind.i64 (IntKind.wrap IntKind.i64 (Int.tdiv (↑p.fst.fst.snd.fst : Int) (2 : Int)) + (1 : Int)) ≤ (↑p.fst.fst.snd.fst : Int)) ∧ Meets prog (7 : Nat) [Value.slice (subAddr p.fst.fst.1 p.fst.fst.snd.snd (Int.toNat (IntKind.wrap IntKind.i64 (IntKind.wrap IntKind.i64 (Int.tdiv (↑p.fst.fst.snd.fst : Int) (2 : Int)) + (1 : Int)))) (4 : Nat)) (p.fst.fst.snd.fst - Int.toNat (IntKind.wrap IntKind.i64 (IntKind.wrap IntKind.i64 (Int.tdiv (↑p.fst.fst.snd.fst : Int) (2 : Int)) + (1 : Int)))) (p.fst.fst.snd.snd - Int.toNat (IntKind.wrap IntKind.i64 (IntKind.wrap IntKind.i64 (Int.tdiv (↑p.fst.fst.snd.fst : Int) (2 : Int)) + (1 : Int)))), Value.int IntKind.i64 (IntKind.wrap IntKind.i64 (dp + (1 : Int)))] H' fun (e : Ending) (H' : Nat → Option Obj) ↦ ∃ (a_1 : Option Addr), ∃ (n_2 : Nat), ∃ (c_1 : Nat), ∃ (n_3 : Int), e = Ending.returned (Value.tuple { toList := [Value.slice a_1 n_2 c_1, Value.int IntKind.i64 n_3] }) ∧ ((0 : Int) ≤ IntKind.wrap IntKind.i64 (Int.tdiv (↑p.fst.fst.snd.fst : Int) (2 : Int)) ∧ IntKind.wrap IntKind.i64 (Int.tdiv (↑p.fst.fst.snd.fst : Int) (2 : Int)) < (↑p.fst.fst.snd.fst : Int)) ∧ PtrK p.fst.fst.1 fun (A : Addr) ↦ PtrK (some (Addr.add A (Int.toNat (IntKind.wrap IntKind.i64 (Int.tdiv (↑p.fst.fst.snd.fst : Int) (2 : Int))) * (4 : Nat)))) fun (a_2 : Addr) ↦ PtrK (some (Addr.add a_2 (0 : Nat))) fun (a_3 : Addr) ↦ ∃ (n_4 : Int), Heap.has H' a_3 [Value.int IntKind.i64 n_4] ∧ ∃ (es2 : List (List Value)), SliceAt H' (Value.slice a n c) (1 : Nat) es2 ∧ List.length ([Value.int IntKind.i64 n_4] :: es2) * (8 : Nat) ≤ (140737488355328 : Nat) ∧ ∃ (es2_1 : List (List Value)), SliceAt H' (Value.slice a_1 n_2 c_1) (1 : Nat) es2_1 ∧ List.length ([Value.int IntKind.i64 n_4] :: List.append es2 es2_1) * (8 : Nat) ≤ (140737488355328 : Nat) ∧ ∀ (v : Value) (H'_1 : Nat → Option Obj), H' ≤ H'_1 → (∀ (b : Nat), blockOf v = some b → H' b = none) → (∀ (b : Nat) (o : Obj), H'_1 b = some o → H' b = some o ∨ blockOf v = some b) → RowAt H'_1 v (3 : Nat) (1 : Nat) ([Value.int IntKind.i64 n_4] :: List.append es2 es2_1) → R (Ending.returned (Value.tuple { toList := [v, Value.int IntKind.i64 (IntKind.wrap IntKind.i64 ((1 : Int) + maxI n_1 n_3))] })) H'_1)
theorem vc_klo (a : Option Addr) (n : Nat) (c : Nat) (dp : Int) (R : Ending → Heap → Prop) (H : Heap) : vcFun prog h_klo f7 [SV.c (SC.v (Value.slice a n c)), SV.c (SC.v (Value.int IntKind.i64 dp))] R H = nf_klo a n c dp R H := by kernel_rfl

end Cr

set_option linter.unusedVariables false
set_option linter.unusedSimpArgs false
namespace Cr
open Go Sx Go.Proofs Go.Sort
open Stb (isort insR Srtd isort_srtd isort_snoc isort_len insR_at)
open Go.Proofs.Try
set_option maxRecDepth 100000
theorem odd_eq {dp : Int} (h0 : 0 ≤ dp) (h1 : dp ≤ 1000000000) : odd dp = (Int.tmod dp 2 == 1) := by
  obtain ⟨n, rfl⟩ := Int.eq_ofNat_of_zero_le h0
  have e : (BitVec.ofInt 64 (n : Int) &&& BitVec.ofInt 64 1).toNat = n % 2 := by
    rw [BitVec.toNat_and, BitVec.toNat_ofInt, BitVec.toNat_ofInt]
    have e1 : ((n : Int) % ((2 ^ 64 : Nat) : Int)).toNat = n := by omega
    have e2 : ((1 : Int) % ((2 ^ 64 : Nat) : Int)).toNat = 1 := by decide
    rw [e1, e2, Nat.and_one_is_mod]
  have e3 : bitOp .and .i64 (n : Int) 1 = ((n % 2 : Nat) : Int) := by
    show IntKind.i64.wrap ((BitVec.ofInt 64 (n : Int) &&& BitVec.ofInt 64 1).toNat : Int) = _
    rw [e]
    exact wi64 (by omega)
  unfold odd
  rw [e3, show Int.tmod (n : Int) 2 = ((n % 2 : Nat) : Int) from (Int.ofNat_tmod n 2).symm]
abbrev ltD (dp : Int) : Pt → Pt → Bool := ltOf (cfK dp)
theorem insR_perm (lt : Pt → Pt → Bool) (x : Pt) : ∀ l, (insR lt x l).Perm (x :: l)
  | [] => .refl _
  | y :: l => by
    unfold insR
    split
    · exact .refl _
    · exact ((insR_perm lt x l).cons y).trans (.swap x y l)
theorem isort_perm (lt : Pt → Pt → Bool) (l : List Pt) : (isort lt l).Perm l := by
  have : ∀ (l acc : List Pt), (l.foldl (fun acc x => insR lt x acc) acc).Perm (acc ++ l) := by
    intro l
    induction l with
    | nil => intro acc; simp
    | cons x l ih =>
      intro acc
      rw [List.foldl_cons]
      refine (ih _).trans ?_
      have h1 : (insR lt x acc ++ l).Perm ((x :: acc) ++ l) := (insR_perm lt x acc).append_right l
      exact h1.trans List.perm_middle.symm
  have h := this l []
  rw [List.nil_append] at h
  exact h
/-- Points with Ids of their own. -/
def UId (l : List Pt) : Prop := (l.map Pt.id).Nodup
theorem UId.inj {l : List Pt} (h : UId l) {x y : Pt} (hx : x ∈ l) (hy : y ∈ l) (e : x.id = y.id) : x = y := by
  unfold UId at h
  induction l with
  | nil => cases hx
  | cons z l ih =>
    rw [List.map_cons, List.nodup_cons] at h
    rcases List.mem_cons.1 hx with hx | hx
    · rcases List.mem_cons.1 hy with hy | hy
      · rw [hx, hy]
      · exact absurd (List.mem_map.2 ⟨y, hy, by rw [← hx]; exact e.symm⟩) h.1
    · rcases List.mem_cons.1 hy with hy | hy
      · exact absurd (List.mem_map.2 ⟨x, hx, by rw [← hy]; exact e⟩) h.1
      · exact ih h.2 hx hy
theorem UId.perm {l l' : List Pt} (h : UId l) (p : l'.Perm l) : UId l' := (p.map _).nodup_iff.2 h
theorem UId.sub {l l' : List Pt} (h : UId l) (p : l'.Sublist l) : UId l' := List.Nodup.sublist (p.map _) h
/-- Sorted, of the same points: the same. -/
theorem sort_one {dp : Int} : ∀ {s s' : List Pt}, UId s → s'.Perm s → s.Pairwise (fun x y => ltD dp y x = false) → s'.Pairwise (fun x y => ltD dp y x = false) → s' = s
  | [], s', _, hp, _, _ => hp.eq_nil
  | x :: s, [], _, hp, _, _ => by have := hp.length_eq; simp at this
  | x :: s, y :: s', hu, hp, h1, h2 => by
    rw [List.pairwise_cons] at h1 h2
    have hxy : x = y := by
      have hy : y ∈ x :: s := hp.mem_iff.1 (List.mem_cons_self ..)
      have hx : x ∈ y :: s' := hp.mem_iff.2 (List.mem_cons_self ..)
      rcases List.mem_cons.1 hy with e | hy
      · exact e.symm
      · rcases List.mem_cons.1 hx with e | hx
        · exact e
        · have a := h1.1 y hy
          have b := h2.1 x hx
          have a : ltOf (cfK dp) y x = false := a
          have b : ltOf (cfK dp) x y = false := b
          rw [ltK, decide_eq_false_iff_not] at a b
          exact hu.inj (List.mem_cons_self ..) (List.mem_cons_of_mem _ hy) (by omega)
    subst hxy
    rw [sort_one (hu.sub (List.sublist_cons_self ..)) (List.Perm.cons_inv hp) h1.2 h2.2]
theorem Grow.det : ∀ {dp : Int} {l : List Pt} {T : KT}, Grow dp l T → ∀ {l' : List Pt} {T' : KT}, l'.Perm l → UId l → Grow dp l' T' → T' = T
  | _, _, _, .nil, l', T', hp, hu, h => by
    have := hp.eq_nil
    subst this
    cases h with
    | nil => rfl
    | node hp' hs hm _ _ =>
      have := hp'.eq_nil
      subst this
      simp at hm
  | dp, l, _, .node hp0 hs0 hm0 ha0 hb0, l', T', hp, hu, h => by
    cases h with
    | nil =>
      have := hp.symm.eq_nil
      subst this
      have := hp0.eq_nil
      subst this
      simp at hm0
    | node hp1 hs1 hm1 ha1 hb1 =>
      have e := sort_one (hu.perm hp0) ((hp1.trans hp).trans hp0.symm) hs0 hs1
      subst e
      rw [hm0] at hm1
      cases hm1
      have u := hu.perm hp0
      rw [Grow.det ha0 (.refl _) (u.sub (List.take_sublist ..)) ha1, Grow.det hb0 (.refl _) (u.sub (List.drop_sublist ..)) hb1]
theorem Grow.len : ∀ {dp : Int} {l : List Pt} {T : KT}, Grow dp l T → T.pre.length = l.length ∧ T.dep ≤ l.length
  | _, _, _, .nil => ⟨rfl, by simp [KT.dep]⟩
  | _, _, _, .node (s := s) hp hs hm ha hb => by
    obtain ⟨a1, a2⟩ := Grow.len ha
    obtain ⟨b1, b2⟩ := Grow.len hb
    have hl := hp.length_eq
    have := (List.getElem?_eq_some_iff.1 hm).1
    rw [List.length_take] at a1 a2
    rw [List.length_drop] at b1 b2
    refine ⟨?_, ?_⟩
    · simp only [KT.pre, List.length_cons, List.length_append, a1, b1]; omega
    · simp only [KT.dep]; omega
section
variable {H : Heap} {R : Ending → Heap → Prop}
theorem s_klah {dp : Int} {p q : Pt} (h0 : 0 ≤ dp) (h1 : dp ≤ 1000000000) (k : R (.returned (.bool (ltD dp p q))) H) : Meets prog 18 [ptV p, ptV q, vi dp] H R := by
  refine spec_of func18 (by kernel_rfl) (fun t h => by cases h) ?_ (vc_kahead p.id p.x p.y p.data q.id q.x q.y q.data dp R H) ?_
  · simp [argsR, SV.rep, SC.rep, Sx.one, SegsRep]
  unfold nf_kahead
  have ho := odd_eq h0 h1
  have fin : ∀ x y : Int, coK dp p = x → coK dp q = y → Br (decide (x < y)) (R (.returned (.bool true)) H) (Br (x == y) (R (.returned (.bool (decide (p.id < q.id)))) H) (R (.returned (.bool false)) H)) := fun x y hx hy => by
    have k : R (.returned (.bool (ltOf (cfK dp) p q))) H := k
    rw [ltK, hx, hy] at k
    refine br (fun q1 => ?_) fun q1 => br (fun q2 => ?_) fun q2 => ?_
    · simp at q1; rw [decide_eq_true (.inl q1)] at k; exact k
    · simp at q1 q2
      have e : decide (p.id < q.id) = decide (x < y ∨ x = y ∧ p.id < q.id) := by
        by_cases h : p.id < q.id
        · rw [decide_eq_true h, decide_eq_true (.inr ⟨q2, h⟩)]
        · rw [decide_eq_false h, decide_eq_false (by omega)]
      rw [e]; exact k
    · simp at q1 q2
      rw [decide_eq_false (by omega)] at k; exact k
  refine ⟨by decide, br (fun q1 => ?_) fun q1 => ?_⟩
  · rw [← ho] at q1
    exact fin _ _ (by unfold coK; rw [q1]; rfl) (by unfold coK; rw [q1]; rfl)
  · rw [← ho] at q1
    exact fin _ _ (by unfold coK; rw [q1]; rfl) (by unfold coK; rw [q1]; rfl)
theorem s_klo : ∀ (N : Nat) {l : List Pt} {dp : Int} {H : Heap} {R : Ending → Heap → Prop} {v : Value}, l.length ≤ N → SliceAt H v 4 (pts l) → l.length ≤ 1000 → 0 ≤ dp → dp + N ≤ 1000000 →
    (∀ T v' H', Grow dp l T → H ≤ H' → (∀ b, blockOf v' = some b → H b = none) → RowAt H' v' 3 1 (cells T.pre) → R (.returned (.tuple #[v', vi (T.dep : Int)])) H') → Meets prog 7 [v, vi dp] H R := by
  intro N
  induction N with
  | zero =>
    intro l dp H R v hN h hl h0 hd k
    obtain ⟨a, n, c, e, hn⟩ := h
    subst e
    have hln : l.length = n := by simpa using hn.1
    obtain rfl := List.eq_nil_of_length_eq_zero (show l.length = 0 by omega)
    refine spec_of func7 (by kernel_rfl) (fun t h => by cases h) ?_ (vc_klo a n c dp R H) ?_
    · simp [argsR, SV.rep, SC.rep, Sx.one]
    unfold nf_klo
    exact br (fun _ => k .nil _ H .nil (fun _ _ e => e) (fun b hb => by cases hb) (.inl ⟨rfl, rfl⟩)) fun q => by simp at q hln; omega
  | succ N ih =>
    intro l dp H R v hN h hl h0 hd k
    obtain ⟨a, n, c, e, hn⟩ := h
    subst e
    have h : SliceAt H (.slice a n c) 4 (pts l) := ⟨a, n, c, rfl, hn⟩
    have hln : l.length = n := by simpa using hn.1
    refine spec_of func7 (by kernel_rfl) (fun t h => by cases h) ?_ (vc_klo a n c dp R H) ?_
    · simp [argsR, SV.rep, SC.rep, Sx.one]
    unfold nf_klo
    refine br (fun q => ?_) fun q => ?_
    · obtain rfl := List.eq_nil_of_length_eq_zero (show l.length = 0 by simp at q; omega)
      exact k .nil _ H .nil (fun _ _ e => e) (fun b hb => by cases hb) (.inl ⟨rfl, rfl⟩)
    have hpos : 0 < l.length := by simp at q; omega
    refine ⟨fun p H' => RowAt H' (.slice p.1.1.1 p.1.1.2.1 p.1.1.2.2) 44 4 (pts (isort (ltD dp) l)) ∧ H ≤ H' ∧ (∀ b, blockOf (.slice p.1.1.1 p.1.1.2.1 p.1.1.2.2) = some b → H b = none), ?_, ?_⟩
    · -- sorted
      simp only [true_and]
      refine ⟨fun p H' => ∃ t : Nat, p.1.1 = pts (isort (ltD dp) (l.take t)) ∧ p.1.2.1 = (t : Int) ∧ t ≤ n ∧ H' = H, fun p _ => (n - p.1.2.1).toNat, ⟨0, by simp [isort], rfl, by omega, rfl⟩, ?_⟩
      rintro ⟨⟨e1, i, _⟩, _⟩ H1 ⟨t, g1, hi, ht, rfl⟩
      simp only at g1 hi ⊢
      subst g1; subst hi
      refine br (fun q => ?_) fun q => ?_
      · simp only [decide_eq_true_eq] at q
        obtain ⟨x, _, htk, hx⟩ := drop_cons (l := l) (k := t) (by omega)
        obtain ⟨A, e, g⟩ := pr_get h (i := t) hx
        subst e
        have hs : isort (ltD dp) (l.take (t + 1)) = insR (ltD dp) x (isort (ltD dp) (l.take t)) := by rw [htk]; exact isort_snoc _ _
        have hsl : (isort (ltD dp) (l.take t)).length = t := by rw [isort_len, List.length_take]; omega
        have hsr : Srtd (ltD dp) (isort (ltD dp) (l.take t)) := isort_srtd (swoK dp) _
        generalize isort (ltD dp) (l.take t) = S at *
        refine ⟨fun p H' => ∃ j : Nat, p.1.1 = pts S ∧ p.1.2.1 = (j : Int) ∧ j ≤ t ∧ (∀ y ∈ S.drop j, ltD dp x y = true) ∧ H' = H1, fun p _ => p.1.2.1.toNat, ⟨t, rfl, by simp [pts, hsl], by omega, by rw [List.drop_of_length_le (by omega)]; simp, rfl⟩, ?_⟩
        rintro ⟨⟨e1, j, _⟩, _⟩ H2 ⟨j, g1, hj, hjt, hgt, rfl⟩
        simp only at g1 hj ⊢
        subst g1; subst hj
        have fin : (∀ y ∈ S.take j, ltD dp x y = false) → List.append (List.append (List.take ((j : Int).toNat - 0) (List.drop 0 (pts S))) [[.int .i64 x.id, .int .u32 x.x, .int .u32 x.y, .string x.data]]) (List.take ((pts S).length - (j : Int).toNat) (List.drop (j : Int).toNat (pts S))) = pts (isort (ltD dp) (l.take (t + 1))) := fun hlo => by
          have := insR_at x (S.take j) (S.drop j) hlo hgt
          rw [List.take_append_drop] at this
          rw [hs, this]
          have e : (pts S).length - j = (List.drop j (pts S)).length := by simp
          simp only [Int.toNat_natCast, Nat.sub_zero, List.drop_zero]
          rw [e, List.take_length]
          simp [pts]
        have lens : ((pts S).length : Int) = t := by simp [pts, hsl]
        have l1 : (List.take ((j : Int).toNat - 0) (List.drop 0 (pts S))).length = j := by simp [pts, hsl]; omega
        have l2 : (List.append (List.take ((j : Int).toNat - 0) (List.drop 0 (pts S))) [[.int .i64 x.id, .int .u32 x.x, .int .u32 x.y, .string x.data]]).length = j + 1 := by
          rw [show ∀ a b : List (List Value), List.append a b = a ++ b from fun _ _ => rfl, List.length_append, l1]; rfl
        have last : (∀ y ∈ S.take j, ltD dp x y = false) → (List.take ((j : Int).toNat - 0) (List.drop 0 (pts S))).length * 32 ≤ 140737488355328 ∧
            (List.append (List.take ((j : Int).toNat - 0) (List.drop 0 (pts S))) [[.int .i64 x.id, .int .u32 x.x, .int .u32 x.y, .string x.data]]).length * 32 ≤ 140737488355328 ∧
            (List.append (List.append (List.take ((j : Int).toNat - 0) (List.drop 0 (pts S))) [[.int .i64 x.id, .int .u32 x.x, .int .u32 x.y, .string x.data]]) (List.take ((pts S).length - (j : Int).toNat) (List.drop (j : Int).toNat (pts S)))).length * 32 ≤ 140737488355328 := fun hlo => by
          rw [l1, l2, fin hlo]
          have : (pts (isort (ltD dp) (l.take (t + 1)))).length = t + 1 := by simp [pts, isort_len]; omega
          rw [this]; omega
        have step : (∀ y ∈ S.take j, ltD dp x y = false) → ∃ t', List.append (List.append (List.take ((j : Int).toNat - 0) (List.drop 0 (pts S))) [[.int .i64 x.id, .int .u32 x.x, .int .u32 x.y, .string x.data]]) (List.take ((pts S).length - (j : Int).toNat) (List.drop (j : Int).toNat (pts S))) = pts (isort (ltD dp) (l.take t')) ∧ IntKind.i64.wrap ((t : Int) + 1) = (t' : Int) ∧ t' ≤ n ∧ True := fun hlo => ⟨t + 1, fin hlo, by rw [wi64 (by omega)]; omega, by omega, trivial⟩
        have meas : ((n : Int) - IntKind.i64.wrap ((t : Int) + 1)).toNat < ((n : Int) - t).toNat := by rw [wi64 (by omega)]; omega
        refine ⟨H2, fun _ _ e => e, br (fun q1 => ?_) fun q1 => ?_⟩
        · simp only [decide_eq_true_eq] at q1
          obtain ⟨u, rfl⟩ : ∃ u, j = u + 1 := ⟨j - 1, by omega⟩
          have hy : S[u]? = some S[u] := List.getElem?_eq_getElem (by omega)
          have hw : IntKind.i64.wrap (((u + 1 : Nat) : Int) - 1) = u := by rw [wi64 (by omega)]; omega
          rw [hw]
          refine ⟨⟨by omega, by omega⟩, ptr rfl (ptr rfl ⟨_, _, _, _, g, ⟨by omega, by omega⟩, S[u].id, S[u].x, S[u].y, S[u].data, ⟨ptC S[u], ?_, rfl⟩, ?_⟩)⟩
          · show (pts S)[(u : Int).toNat]? = _
            simp [pts, hy]
          · refine s_klah h0 (by omega) ⟨keep_same _ _ _, _, rfl, br (fun q2 => ?_) fun q2 => ?_⟩
            · simp only [delLs_nil]
              refine ⟨⟨u, by trivial, by trivial, by omega, fun y hy' => ?_, by trivial⟩, by omega⟩
              rw [List.drop_eq_getElem_cons (by omega)] at hy'
              rcases List.mem_cons.1 hy' with rfl | hy'
              · exact q2
              · exact hgt y hy'
            · have hlo : ∀ y ∈ S.take (u + 1), ltD dp x y = false := fun y hy' => by
                obtain ⟨i, hi, rfl⟩ := List.mem_take_iff_getElem.1 hy'
                rcases Nat.lt_or_ge i u with hlt | hge
                · exact (swoK dp).ntrans _ _ _ q2 (List.pairwise_iff_getElem.1 hsr i u (by omega) (by omega) hlt)
                · have : i = u := by omega
                  subst this; exact q2
              simp only [delLs_nil]
              exact ⟨⟨by omega, by omega⟩, ⟨by omega, by omega⟩, ptr rfl (ptr rfl ⟨_, _, _, _, g, ⟨by omega, by omega⟩, (last hlo).1, (last hlo).2.1, (last hlo).2.2, step hlo, meas⟩)⟩
        · simp only [decide_eq_false_iff_not] at q1
          have hj0 : j = 0 := by omega
          have hlo : ∀ y ∈ S.take j, ltD dp x y = false := by subst hj0; simp
          exact ⟨⟨by omega, by omega⟩, ⟨by omega, by omega⟩, ptr rfl (ptr rfl ⟨_, _, _, _, g, ⟨by omega, by omega⟩, (last hlo).1, (last hlo).2.1, (last hlo).2.2, step hlo, meas⟩)⟩
      · simp only [decide_eq_false_iff_not] at q
        rw [List.take_of_length_le (by omega)]
        exact fun a' c' H' hle hf _ hrow => ⟨hrow, hle, hf⟩
    · -- halved
      rintro ⟨⟨⟨a1, n1, c1⟩, _⟩, _⟩ H1 ⟨hrow, hle1, hf1⟩
      simp only at hrow hf1 ⊢
      have hp := isort_perm (ltD dp) l
      have hsr : (isort (ltD dp) l).Pairwise (fun x y => ltD dp y x = false) := isort_srtd (swoK dp) l
      generalize isort (ltD dp) l = s at *
      have hsl : s.length = l.length := hp.length_eq
      have hn1 : s.length = n1 := by simpa using (row_len hrow).1
      have hc1 := (row_len hrow).2
      have hs3 := row_slice hrow
      obtain ⟨p, hpm⟩ : ∃ p, s[s.length / 2]? = some p := ⟨_, List.getElem?_eq_getElem (by omega)⟩
      have em : IntKind.wrap .i64 (Int.tdiv (n1 : Int) 2) = ((s.length / 2 : Nat) : Int) := by
        rw [← hn1, show Int.tdiv (s.length : Int) 2 = ((s.length / 2 : Nat) : Int) from (Int.ofNat_tdiv s.length 2).symm]
        exact wi64 (by omega)
      have em1 : IntKind.wrap .i64 (((s.length / 2 : Nat) : Int) + 1) = ((s.length / 2 : Nat) : Int) + 1 := wi64 (by omega)
      have ed : IntKind.wrap .i64 (dp + 1) = dp + 1 := wi64 (by omega)
      rw [em, em1, ed, Int.toNat_natCast, show (((s.length / 2 : Nat) : Int) + 1).toNat = s.length / 2 + 1 by omega]
      have hsa := slice_sub hs3 (lo := 0) (hi := s.length / 2) (by omega) (by omega)
      have hsb := slice_suf hs3 (lo := s.length / 2 + 1) (by omega)
      have e1 : List.take (s.length / 2 - 0) (List.drop 0 (pts s)) = pts (s.take (s.length / 2)) := by simp [pts, List.map_take]
      have e2 : List.drop (s.length / 2 + 1) (pts s) = pts (s.drop (s.length / 2 + 1)) := by simp [pts, List.map_drop]
      rw [e1] at hsa
      rw [e2] at hsb
      obtain ⟨B, e, g⟩ := pr_get hs3 (i := s.length / 2) hpm
      subst e
      refine ⟨by decide, ⟨by omega, by omega⟩, ?_⟩
      refine ih (l := s.take (s.length / 2)) (by rw [List.length_take]; omega) hsa (by rw [List.length_take]; omega) (by omega) (by omega) fun T1 v1 H2 g1 hle2 hf2 hr2 => ?_
      obtain ⟨a2, c2, rfl⟩ := row_val hr2
      refine ⟨a2, _, c2, _, rfl, ⟨by omega, by omega⟩, ?_⟩
      refine ih (l := s.drop (s.length / 2 + 1)) (by rw [List.length_drop]; omega) (slice_le hsb hle2) (by rw [List.length_drop]; omega) (by omega) (by omega) fun T2 v2 H3 g2 hle3 hf3 hr3 => ?_
      obtain ⟨a3, c3, rfl⟩ := row_val hr3
      have gl1 := g1.len
      have gl2 := g2.len
      rw [List.length_take] at gl1
      rw [List.length_drop] at gl2
      refine ⟨a3, _, c3, _, rfl, ⟨by omega, by omega⟩, ptr rfl (ptr rfl (ptr rfl ⟨p.id, has_first (has_le g (heap_trans hle2 hle3)), _, slice_le (row_slice hr2) hle3, by simp [cells]; omega, _, row_slice hr3, by simp [cells]; omega, ?_⟩))⟩
      intro v4 H4 hle4 hf4 _ hr4
      have e9 : IntKind.wrap .i64 (1 + maxI (T1.dep : Int) (T2.dep : Int)) = ((KT.node p T1 T2).dep : Int) := by
        rw [wi64 (by unfold maxI; split <;> omega)]
        unfold maxI
        simp only [KT.dep]
        split <;> omega
      rw [e9]
      have hle : H ≤ H3 := heap_trans hle1 (heap_trans hle2 hle3)
      refine k (.node p T1 T2) v4 H4 (.node hp hsr hpm g1 g2) (heap_trans hle hle4) (fun b hb => ?_) ?_
      · cases q : H b with
        | none => rfl
        | some o => have := hf4 b hb; rw [hle b o q] at this; cases this
      · have : ([vi p.id] :: List.append (cells T1.pre) (cells T2.pre)) = cells (KT.node p T1 T2).pre := by simp [cells, KT.pre]
        rw [← this]
        exact hr4
end
end Cr

set_option linter.unusedVariables false
set_option linter.unusedSimpArgs false
namespace Cr
open Go Sx Stb
open Go.Proofs.Try
set_option maxRecDepth 100000
def h_cpf : Hints := { loops := [(4, ⟨[0, 1, 4], [.f 5 (.int .i64)], []⟩), (9, ⟨[0, 1, 4, 6], [.f 5 (.int .i64), .f 7 (.int .i64)], []⟩)] }
def nf_cpf (a : Option Addr) (n : Nat) (c : Nat) (g : Nat) (R : Ending → Heap → Prop) (H : Heap) : Prop := Br (decide ((↑n : Int) < (2 : Int))) (R (Ending.returned (Value.slice a n c)) H) (a = a ∧ n = n ∧ c = c ∧ Value.func (Fn.func g) { toList := [] } { toList := [] } = Value.func (Fn.func g) { toList := [] } { toList := [] } ∧ (none : Option Addr) = none ∧ (0 : Nat) = (0 : Nat) ∧ (0 : Nat) = (0 : Nat) ∧ LoopP (fun (K : (Int × PUnit) × PUnit → (Nat → Option Obj) → Prop) (p : (Int × PUnit) × PUnit) (H : Nat → Option Obj) ↦ Br (decide (p.fst.fst < (↑n : Int))) (∃ (G : Nat → Option Obj), G ≤ H ∧ ((0 : Int) ≤ p.fst.fst ∧ p.fst.fst < (↑n : Int)) ∧ PtrK a fun (A : Addr) ↦ PtrK (some (Addr.add A (Int.toNat p.fst.fst * (4 : Nat)))) fun (a_1 : Addr) ↦ ∃ (n_1 : Int), ∃ (n_2 : Int), ∃ (n_3 : Int), ∃ (s : ByteArray), Heap.has G a_1 [Value.int IntKind.i64 n_1, Value.int IntKind.u32 n_2, Value.int IntKind.u32 n_3, Value.string s] ∧ ((0 : Int) ≤ IntKind.wrap IntKind.i64 (p.fst.fst - (1 : Int)) ∧ IntKind.wrap IntKind.i64 (p.fst.fst - (1 : Int)) < (↑n : Int)) ∧ PtrK a fun (A : Addr) ↦ PtrK (some (Addr.add A (Int.toNat (IntKind.wrap IntKind.i64 (p.fst.fst - (1 : Int))) * (4 : Nat)))) fun (a_2 : Addr) ↦ ∃ (n_4 : Int), ∃ (n_5 : Int), ∃ (n_6 : Int), ∃ (s_1 : ByteArray), Heap.has G a_2 [Value.int IntKind.i64 n_4, Value.int IntKind.u32 n_5, Value.int IntKind.u32 n_6, Value.string s_1] ∧ Meets prog g [Value.agg { toList := [Value.int IntKind.i64 n_1, Value.int IntKind.u32 n_2, Value.int IntKind.u32 n_3, Value.string s] }, Value.agg { toList := [Value.int IntKind.i64 n_4, Value.int IntKind.u32 n_5, Value.int IntKind.u32 n_6, Value.string s_1] }] H fun (e : Ending) (H' : Nat → Option Obj) ↦ Keep G H H H' ∧ ∃ (b : Bool), e = Ending.returned (Value.bool b) ∧ Br b (((0 : Int) ≤ p.fst.fst ∧ p.fst.fst ≤ (↑n : Int)) ∧ a = a ∧ n = n ∧ c = c ∧ Value.func (Fn.func g) { toList := [] } { toList := [] } = Value.func (Fn.func g) { toList := [] } { toList := [] } ∧ (none : Option Addr) = none ∧ (0 : Nat) = (0 : Nat) ∧ (0 : Nat) = (0 : Nat) ∧ subAddr a c (Int.toNat p.fst.fst) (4 : Nat) = subAddr a c (Int.toNat p.fst.fst) (4 : Nat) ∧ n - Int.toNat p.fst.fst = n - Int.toNat p.fst.fst ∧ c - Int.toNat p.fst.fst = c - Int.toNat p.fst.fst ∧ LoopP (fun (K : (Int × Int × PUnit) × PUnit → (Nat → Option Obj) → Prop) (p_1 : (Int × Int × PUnit) × PUnit) (H : Nat → Option Obj) ↦ Br (decide (p_1.fst.snd.fst < (↑(n - Int.toNat p.fst.fst) : Int))) (∃ (G : Nat → Option Obj), G ≤ H ∧ ((0 : Int) ≤ p_1.fst.snd.fst ∧ p_1.fst.snd.fst < (↑(n - Int.toNat p.fst.fst) : Int)) ∧ PtrK (subAddr a c (Int.toNat p.fst.fst) (4 : Nat)) fun (A : Addr) ↦ PtrK (some (Addr.add A (Int.toNat p_1.fst.snd.fst * (4 : Nat)))) fun (a_3 : Addr) ↦ ∃ (n_7 : Int), ∃ (n_8 : Int), ∃ (n_9 : Int), ∃ (s : ByteArray), Heap.has G a_3 [Value.int IntKind.i64 n_7, Value.int IntKind.u32 n_8, Value.int IntKind.u32 n_9, Value.string s] ∧ ((0 : Int) ≤ IntKind.wrap IntKind.i64 (p_1.fst.snd.fst - (1 : Int)) ∧ IntKind.wrap IntKind.i64 (p_1.fst.snd.fst - (1 : Int)) < (↑(n - Int.toNat p.fst.fst) : Int)) ∧ PtrK (subAddr a c (Int.toNat p.fst.fst) (4 : Nat)) fun (A : Addr) ↦ PtrK (some (Addr.add A (Int.toNat (IntKind.wrap IntKind.i64 (p_1.fst.snd.fst - (1 : Int))) * (4 : Nat)))) fun (a_4 : Addr) ↦ ∃ (n_10 : Int), ∃ (n_11 : Int), ∃ (n_12 : Int), ∃ (s_2 : ByteArray), Heap.has G a_4 [Value.int IntKind.i64 n_10, Value.int IntKind.u32 n_11, Value.int IntKind.u32 n_12, Value.string s_2] ∧ Meets prog g [Value.agg { toList := [Value.int IntKind.i64 n_7, Value.int IntKind.u32 n_8, Value.int IntKind.u32 n_9, Value.string s] }, Value.agg { toList := [Value.int IntKind.i64 n_10, Value.int IntKind.u32 n_11, Value.int IntKind.u32 n_12, Value.string s_2] }] H fun (e : Ending) (H' : Nat → Option Obj) ↦ Keep G H H H' ∧ ∃ (b : Bool), e = Ending.returned (Value.bool b) ∧ Br (!b) (((0 : Int) ≤ p_1.fst.snd.fst ∧ p_1.fst.snd.fst < (↑(n - Int.toNat p.fst.fst) : Int)) ∧ PtrK (subAddr a c (Int.toNat p.fst.fst) (4 : Nat)) fun (A : Addr) ↦ PtrK (some (Addr.add A (Int.toNat p_1.fst.snd.fst * (4 : Nat)))) fun (a_5 : Addr) ↦ ∃ (n_13 : Int), ∃ (n_14 : Int), ∃ (n_15 : Int), ∃ (s : ByteArray), Heap.has (delLs H' []) a_5 [Value.int IntKind.i64 n_13, Value.int IntKind.u32 n_14, Value.int IntKind.u32 n_15, Value.string s] ∧ ((0 : Int) ≤ p_1.fst.fst ∧ p_1.fst.fst < (↑n : Int)) ∧ PtrK a fun (A : Addr) ↦ PtrK (some (Addr.add A (Int.toNat p_1.fst.fst * (4 : Nat)))) fun (A : Addr) ↦ ∃ (c_1 : Array Value), ∃ (ty : Nat), (delLs H' [] A.block = some (Obj.cells c_1 ty) ∧ A.spot = none ∧ A.off + (4 : Nat) ≤ Array.size c_1) ∧ a = a ∧ n = n ∧ c = c ∧ Value.func (Fn.func g) { toList := [] } { toList := [] } = Value.func (Fn.func g) { toList := [] } { toList := [] } ∧ (none : Option Addr) = none ∧ (0 : Nat) = (0 : Nat) ∧ (0 : Nat) = (0 : Nat) ∧ subAddr a c (Int.toNat p.fst.fst) (4 : Nat) = subAddr a c (Int.toNat p.fst.fst) (4 : Nat) ∧ n - Int.toNat p.fst.fst = n - Int.toNat p.fst.fst ∧ c - Int.toNat p.fst.fst = c - Int.toNat p.fst.fst ∧ K ((IntKind.wrap IntKind.i64 (p_1.fst.fst + (1 : Int)), IntKind.wrap IntKind.i64 (p_1.fst.snd.fst + (1 : Int)), PUnit.unit), PUnit.unit) (Heap.upd (delLs H' []) A.block (Obj.cells (writeCells c_1 A.off [Value.int IntKind.i64 n_13, Value.int IntKind.u32 n_14, Value.int IntKind.u32 n_15, Value.string s]) ty))) (a = a ∧ n = n ∧ c = c ∧ Value.func (Fn.func g) { toList := [] } { toList := [] } = Value.func (Fn.func g) { toList := [] } { toList := [] } ∧ (none : Option Addr) = none ∧ (0 : Nat) = (0 : Nat) ∧ (0 : Nat) = (0 : Nat) ∧ subAddr a c (Int.toNat p.fst.fst) (4 : Nat) = subAddr a c (Int.toNat p.fst.fst) (4 : Nat) ∧ n - Int.toNat p.fst.fst = n - Int.toNat p.fst.fst ∧ c - Int.toNat p.fst.fst = c - Int.toNat p.fst.fst ∧ K ((p_1.fst.fst, IntKind.wrap IntKind.i64 (p_1.fst.snd.fst + (1 : Int)), PUnit.unit), PUnit.unit) (delLs H' []))) (((0 : Int) ≤ p_1.fst.fst ∧ p_1.fst.fst ≤ (↑n : Int)) ∧ (n - Int.toNat p_1.fst.fst = (0 : Nat) ∧ ((0 : Int) ≤ p_1.fst.fst ∧ p_1.fst.fst ≤ (↑c : Int)) ∧ R (Ending.returned (Value.slice (subAddr a c (0 : Nat) (4 : Nat)) (Int.toNat p_1.fst.fst - (0 : Nat)) (c - (0 : Nat)))) H ∨ ∃ (A : Addr), ∃ (c_1 : Array Value), ∃ (ty : Nat), subAddr a c (Int.toNat p_1.fst.fst) (4 : Nat) = some A ∧ (H A.block = some (Obj.cells c_1 ty) ∧ A.spot = none ∧ A.off + (n - Int.toNat p_1.fst.fst) * (4 : Nat) ≤ Array.size c_1) ∧ ((0 : Int) ≤ p_1.fst.fst ∧ p_1.fst.fst ≤ (↑c : Int)) ∧ R (Ending.returned (Value.slice (subAddr a c (0 : Nat) (4 : Nat)) (Int.toNat p_1.fst.fst - (0 : Nat)) (c - (0 : Nat)))) (Heap.upd H A.block (Obj.cells (writeCells c_1 A.off (List.flatten (List.replicate (n - Int.toNat p_1.fst.fst) [Value.int IntKind.i64 (0 : Int), Value.int IntKind.u32 (0 : Int), Value.int IntKind.u32 (0 : Int), Value.string { data := #[] }]))) ty))))) ((p.fst.fst, (1 : Int), PUnit.unit), PUnit.unit) (delLs H' [])) (a = a ∧ n = n ∧ c = c ∧ Value.func (Fn.func g) { toList := [] } { toList := [] } = Value.func (Fn.func g) { toList := [] } { toList := [] } ∧ (none : Option Addr) = none ∧ (0 : Nat) = (0 : Nat) ∧ (0 : Nat) = (0 : Nat) ∧ K ((IntKind.wrap IntKind.i64 (p.fst.fst + (1 : Int)), PUnit.unit), PUnit.unit) (delLs H' []))) (R (Ending.returned (Value.slice a n c)) H)) (((1 : Int), PUnit.unit), PUnit.unit) H)
theorem vc_cpf (a : Option Addr) (n : Nat) (c : Nat) (g : Nat) (R : Ending → Heap → Prop) (H : Heap) : vcFun prog h_cpf f22 [SV.c (SC.v (Value.slice a n c)), SV.c (SC.v (Value.func (Fn.func g) #[] #[]))] R H = nf_cpf a n c g R H := by kernel_rfl

end Cr

set_option linter.unusedVariables false
set_option linter.unusedSimpArgs false
namespace Cr
open Go Sx Go.Proofs Go.Sort
open Go.Proofs.Try
set_option maxRecDepth 100000
structure Rd where
  f : Int
  t : Int
  hi : Int
  lo : Int
  deriving Inhabited, DecidableEq
section
variable {H : Heap} {R : Ending → Heap → Prop}
end
end Cr

set_option linter.unusedVariables false
set_option linter.unusedSimpArgs false
namespace Cr
open Go Sx Go.Proofs
open Go.Proofs.Try
set_option maxRecDepth 100000
/-- By a road. -/
def Joi (r : List Rd) (a b : Int) : Prop := ∃ x ∈ r, (x.f = a ∧ x.t = b) ∨ (x.f = b ∧ x.t = a)
/-! ### slices.Compact of a sorted row -/
/-- What is beside a place. -/
structure Bes (m : Int) (r : List Rd) (a : Int) (B : List Int) : Prop where
  up : B.Pairwise (· < ·)
  mem : ∀ b, b ∈ B ↔ (0 ≤ b ∧ b < m) ∧ Joi r a b
section
variable {H : Heap} {R : Ending → Heap → Prop}
end
end Cr

set_option linter.unusedVariables false
set_option linter.unusedSimpArgs false
namespace Cr
open Go Sx Stb
open Go.Sort (SWO)
open Go.Proofs.Try
set_option maxRecDepth 100000
/-- A predicate of two points. -/
def Pred2 (g : Nat) (f : Pt → Pt → Bool) : Prop := ∀ (p q : Pt) (H : Heap) (R : Ending → Heap → Prop), R (.returned (.bool (f p q))) H → Meets prog g [ptV p, ptV q] H R
/-- What stays behind an element. -/
def cptG (f : Pt → Pt → Bool) (y : Pt) : List Pt → List Pt
  | [] => []
  | x :: r => if f x y then cptG f x r else x :: cptG f x r
def cpt (f : Pt → Pt → Bool) : List Pt → List Pt
  | [] => []
  | x :: r => x :: cptG f x r
theorem cptG_snoc (f : Pt → Pt → Bool) (x : Pt) : ∀ (r : List Pt) (y z : Pt), (y :: r).getLast? = some z → cptG f y (r ++ [x]) = cptG f y r ++ (if f x z then [] else [x])
  | [], y, z, h => by
    simp at h; subst h
    simp only [List.nil_append, cptG]
  | w :: r, y, z, h => by
    have ih := cptG_snoc f x r w z (by simpa using h)
    rw [List.cons_append, cptG, cptG, ih]
    split <;> simp
theorem cpt_snoc (f : Pt → Pt → Bool) (x z : Pt) {l : List Pt} (h : l.getLast? = some z) : cpt f (l ++ [x]) = cpt f l ++ (if f x z then [] else [x]) := by
  cases l with
  | nil => cases h
  | cons y r =>
    rw [List.cons_append, cpt, cpt, cptG_snoc f x r y z h]
    simp
theorem take_last {l : List Pt} {t : Nat} {y : Pt} (h0 : 0 < t) (h : l[t - 1]? = some y) : (l.take t).getLast? = some y := by
  have hl := (List.getElem?_eq_some_iff.1 h).1
  rw [List.getLast?_eq_getElem?, List.length_take, List.getElem?_take_of_lt (by omega), show min t l.length - 1 = t - 1 by omega]
  exact h
section
variable {H : Heap} {R : Ending → Heap → Prop}
theorem s_cpf {g : Nat} {f : Pt → Pt → Bool} (hf : Pred2 g f) {v : Value} {ty : Nat} {l : List Pt} (h : RowAt H v ty 4 (pts l)) (hl : l.length ≤ 1000000)
    (k : ∀ v' H', RowAt H' v' ty 4 (pts (cpt f l)) → blockOf v' = blockOf v → Mod v H H' → R (.returned v') H') : Meets prog 22 [v, .func (.func g) #[] #[]] H R := by
  obtain ⟨a, c, rfl⟩ := row_val h
  have hpl : (pts l).length = l.length := by simp [pts]
  rw [hpl] at h k ⊢
  refine spec_of func22 (by kernel_rfl) (fun t h => by cases h) ?_ (vc_cpf a l.length c g R H) ?_
  · simp [argsR, SV.rep, SC.rep, Sx.one]
  unfold nf_cpf
  simp only [true_and]
  refine br (fun q => ?_) fun q => ?_
  · have : cpt f l = l := by
      match l, q with
      | [], _ => rfl
      | [x], _ => rfl
      | x :: y :: r, q => simp at q; omega
    rw [this] at k
    exact k _ _ h rfl (Mod.refl _ _)
  have h2 : 2 ≤ l.length := by simp at q; omega
  obtain ⟨A, rfl⟩ : ∃ A, a = some A := by
    obtain ⟨A, e, _⟩ := pr_get (row_slice h) (i := 0) (p := l[0]) (List.getElem?_eq_getElem (by omega))
    exact ⟨A, e⟩
  have hsp : A.spot = none := by
    obtain ⟨A', e, hs, _⟩ := slice_get (row_slice h) (i := 0) (e := ptC l[0]) (by show (l.map ptC)[0]? = _; rw [List.getElem?_map, List.getElem?_eq_getElem (by omega)]; rfl)
    cases e; exact hs
  have hcap := (row_len h).2
  refine ⟨fun p H' => ∃ t : Nat, p.1.1 = (t : Int) ∧ 1 ≤ t ∧ t ≤ l.length ∧ cpt f (l.take t) = l.take t ∧ H' = H, fun p _ => (l.length - p.1.1).toNat, ⟨1, rfl, by omega, by omega, ?_, rfl⟩, ?_⟩
  · match l, h2 with
    | x :: r, _ => simp [cpt, cptG]
  rintro ⟨⟨i, _⟩, _⟩ H1 ⟨t, hi, ht1, ht, hcp, rfl⟩
  simp only at hi ⊢
  subst hi
  refine br (fun q1 => ?_) fun q1 => ?_
  rotate_left
  · simp only [decide_eq_false_iff_not] at q1
    rw [List.take_of_length_le (by omega)] at hcp
    rw [hcp] at k
    exact k _ _ h rfl (Mod.refl _ _)
  simp only [decide_eq_true_eq] at q1
  obtain ⟨x, hd, htk, hx⟩ := drop_cons (l := l) (k := t) (by omega)
  obtain ⟨y, _, _, hy⟩ := drop_cons (l := l) (k := t - 1) (by omega)
  obtain ⟨A1, e, g1⟩ := pr_get (row_slice h) (i := t) hx
  cases e
  obtain ⟨A2, e, g2⟩ := pr_get (row_slice h) (i := t - 1) hy
  cases e
  rw [wi64 (k := (t : Int) - 1) (by omega), wi64 (k := (t : Int) + 1) (by omega), show ((t : Int) - 1).toNat = t - 1 by omega]
  refine ⟨H1, fun _ _ e => e, ⟨by omega, by omega⟩, ptr rfl (ptr rfl ⟨_, _, _, _, g1, ⟨by omega, by omega⟩, ptr rfl (ptr rfl ⟨_, _, _, _, g2, hf x y _ _ ⟨keep_same _ _ _, _, rfl, ?_⟩⟩)⟩)⟩
  have hsn := cpt_snoc f x y (l := l.take t) (take_last (by omega) hy)
  rw [← htk, hcp] at hsn
  simp only [delLs_nil]
  refine br (fun q2 => ?_) fun q2 => ?_
  rotate_left
  · rw [q2] at hsn
    simp only [Bool.false_eq_true, if_false] at hsn
    exact ⟨⟨t + 1, by simp, by omega, by omega, by rw [hsn, htk], by trivial⟩, by simp; omega⟩
  rw [Int.toNat_natCast]
  have hsub : ∀ j : Nat, PtrK (subAddr (some A) c t 4) = PtrK (some ⟨A.block, A.off + t * 4, none⟩) := fun j => by
    have : subAddr (some A) c t 4 = some ⟨A.block, A.off + t * 4, none⟩ := by
      unfold subAddr
      rw [if_neg (by omega)]
      simp [add_spot hsp]
    rw [this]
  rw [hsub 0]
  have hadr : ∀ j : Nat, (⟨A.block, A.off + t * 4, none⟩ : Addr).add (j * 4) = A.add ((t + j) * 4) := fun j => by
    rw [add_spot rfl, add_spot hsp]; simp only [Addr.mk.injEq, and_true, true_and]; omega
  -- t: the first place that is told twice
  refine ⟨by omega, fun p H' => ∃ (s : Nat) (F M : List Pt) (z : Pt), p.1.2.1 = (s : Int) ∧ 1 ≤ s ∧ t + s ≤ l.length ∧ F = cpt f (l.take (t + s)) ∧ p.1.1 = (F.length : Int) ∧ l[t + s - 1]? = some z ∧ F.length + M.length + 1 = t + s ∧ RowAt H' (.slice (some A) l.length c) ty 4 (pts (F ++ M ++ [z] ++ l.drop (t + s))) ∧ Mod (.slice (some A) l.length c) H1 H', fun p _ => (l.length - p.1.2.1).toNat, ⟨1, l.take t, [], x, rfl, by omega, by omega, ?_, ?_, by rw [Nat.add_sub_cancel]; exact hx, by simp; omega, ?_, Mod.refl _ _⟩, ?_⟩
  · rw [hsn, q2]; simp
  · rw [List.length_take]; simp; omega
  · have : l.take t ++ [] ++ [x] ++ l.drop (t + 1) = l := by
      rw [List.append_nil, ← htk, List.take_append_drop]
    rw [this]; exact h
  rintro ⟨⟨w, i, _⟩, _⟩ H2 ⟨s, F, M, z, hi, hs1, hs, hF, hw, hz, hlen, hrow, hmod⟩
  simp only at hi hw ⊢
  subst hi; subst hw
  refine br (fun q3 => ?_) fun q3 => ?_
  · simp only [decide_eq_true_eq] at q3
    obtain ⟨u, hd2, htk2, hu⟩ := drop_cons (l := l) (k := t + s) (by omega)
    have gu : (F ++ M ++ [z] ++ l.drop (t + s))[t + s]? = some u := by
      rw [List.getElem?_append_right (by simp; omega)]
      simp only [List.length_append, List.length_singleton]
      rw [show t + s - (F.length + M.length + 1) = 0 by omega, hd2]; rfl
    have gz : (F ++ M ++ [z] ++ l.drop (t + s))[t + s - 1]? = some z := by
      rw [List.getElem?_append_left (by simp; omega), List.getElem?_append_right (by simp; omega)]
      simp only [List.length_append]
      rw [show t + s - 1 - (F.length + M.length) = 0 by omega]; rfl
    obtain ⟨A3, e, g3⟩ := pr_get (row_slice hrow) (i := t + s) gu
    cases e
    obtain ⟨A4, e, g4⟩ := pr_get (row_slice hrow) (i := t + s - 1) gz
    cases e
    have hsn2 := cpt_snoc f u z (l := l.take (t + s)) (take_last (by omega) hz)
    rw [← htk2, ← hF] at hsn2
    rw [wi64 (k := (s : Int) - 1) (by omega), wi64 (k := (s : Int) + 1) (by omega), show ((s : Int) - 1).toNat = s - 1 by omega, Int.toNat_natCast]
    have b1 : (0 : Int) ≤ (s : Int) ∧ (s : Int) < ((l.length - t : Nat) : Int) := ⟨by omega, by omega⟩
    have b2 : (0 : Int) ≤ (s : Int) - 1 ∧ (s : Int) - 1 < ((l.length - t : Nat) : Int) := ⟨by omega, by omega⟩
    have e3 : H2.has ((⟨A.block, A.off + t * 4, none⟩ : Addr).add (s * 4)) (ptC u) := by rw [hadr]; exact g3
    have e4 : H2.has ((⟨A.block, A.off + t * 4, none⟩ : Addr).add ((s - 1) * 4)) (ptC z) := by rw [hadr, show t + (s - 1) = t + s - 1 by omega]; exact g4
    refine ⟨H2, fun _ _ e => e, b1, ptr rfl (ptr rfl ⟨_, _, _, _, e3, b2, ptr rfl (ptr rfl ⟨_, _, _, _, e4, hf u z _ _ ⟨keep_same _ _ _, _, rfl, ?_⟩⟩)⟩)⟩
    refine br (fun q4 => ?_) fun q4 => ?_
    · have q4 : f u z = false := by simpa using q4
      rw [q4] at hsn2
      simp only [Bool.false_eq_true, if_false] at hsn2
      have hFl : F.length < l.length := by omega
      obtain ⟨c1, m1, r1, d1⟩ := pr_put hrow (i := F.length) hFl u
      have hset : ∃ M', M'.length = M.length ∧ (F ++ M ++ [z] ++ l.drop (t + s)).set F.length u = (F ++ [u]) ++ M' ++ [u] ++ l.drop (t + s + 1) := by
        rw [hd2]
        cases M with
        | nil => exact ⟨[], rfl, by simp⟩
        | cons m M' => exact ⟨M' ++ [z], by simp, by simp⟩
      obtain ⟨M', hM', hset⟩ := hset
      rw [hset] at r1
      rw [Int.toNat_natCast, wi64 (k := (F.length : Int) + 1) (by omega)]
      refine ⟨b1, ptr rfl (ptr rfl ⟨_, _, _, _, e3, ⟨by omega, by omega⟩, ptr rfl (ptr rfl ⟨_, _, m1, ⟨s + 1, F ++ [u], M', u, by simp, by omega, by omega, ?_, by simp, ?_, by simp; omega, ?_, hmod.trans d1⟩, by simp; omega⟩)⟩)⟩
      · rw [← hsn2]; rfl
      · rw [show t + (s + 1) - 1 = t + s by omega]; exact hu
      · exact r1
    · have q4 : f u z = true := by simpa using q4
      rw [q4] at hsn2
      simp only [if_true, List.append_nil] at hsn2
      refine ⟨⟨s + 1, F, M ++ [z], u, by simp, by omega, by omega, ?_, rfl, ?_, by simp; omega, ?_, hmod⟩, by simp; omega⟩
      · rw [← hsn2]; rfl
      · rw [show t + (s + 1) - 1 = t + s by omega]; exact hu
      · rw [hd2] at hrow
        have : F ++ (M ++ [z]) ++ [u] ++ l.drop (t + (s + 1)) = F ++ M ++ [z] ++ u :: l.drop (t + s + 1) := by simp [Nat.add_assoc]
        rw [this]; exact hrow
  · simp only [decide_eq_false_iff_not] at q3
    have hts : t + s = l.length := by omega
    rw [hts, List.take_length] at hF
    rw [hts, List.drop_length, List.append_nil, List.append_assoc] at hrow
    rw [← hF] at k
    have hz2 : pts (F ++ (M ++ [z])) = pts F ++ pts (M ++ [z]) := by simp [pts]
    rw [hz2] at hrow
    obtain ⟨cl, ⟨e1, e2, e3⟩, r1, d1⟩ := row_fill hrow (ws := List.replicate (l.length - F.length) [vi 0, .int .u32 0, .int .u32 0, .string { data := #[] }]) (by simp [pts]; omega) (by intro e he; rw [List.eq_of_mem_replicate he]; rfl) (by intro e he x hx; rw [List.eq_of_mem_replicate he] at hx; simp at hx; rcases hx with rfl | rfl | rfl | rfl <;> rfl)
    have hfl : (pts F).length = F.length := by simp [pts]
    have hsub2 : subAddr (some A) c F.length 4 = some ⟨A.block, A.off + F.length * 4, none⟩ := by
      unfold subAddr
      rw [if_neg (by omega)]
      simp [add_spot e2]
    have hsub0 : subAddr (some A) c 0 4 = some A := by
      unfold subAddr
      split
      · rfl
      · simp
    rw [Int.toNat_natCast, hsub0, Nat.sub_zero, Nat.sub_zero]
    rw [List.length_replicate] at e3
    refine ⟨⟨by omega, by omega⟩, .inr ⟨_, cl, ty, hsub2, ⟨e1, rfl, ?_⟩, ⟨by omega, by omega⟩, ?_⟩⟩
    · rw [hfl] at e3; exact e3
    · rw [hfl] at r1 d1
      have := row_prefix r1
      rw [hfl] at this
      exact k _ _ this rfl (hmod.trans d1)
end
end Cr

set_option linter.unusedVariables false
set_option linter.unusedSimpArgs false
namespace Cr
open Go Sx Stb
open Go.Sort (SWO)
open Go.Proofs.Try
set_option maxRecDepth 100000
/-- The point of an Id. -/
def look (L : List Pt) (id : Int) : Option Pt := L.find? fun p => p.id == id
abbrev SId (L : List Pt) : Prop := L.Pairwise fun p q => p.id < q.id
abbrev eqId (p q : Pt) : Bool := p.id == q.id
/-- The first of each Id, by Id. -/
def fixP (l : List Pt) : List Pt := cpt eqId (sortP l)
theorem look_cons (x : Pt) (r : List Pt) (id : Int) : look (x :: r) id = if x.id = id then some x else look r id := by
  unfold look
  rw [List.find?_cons]
  by_cases h : x.id = id
  · rw [if_pos h, show (x.id == id) = true by simpa using h]
  · rw [if_neg h, show (x.id == id) = false by simpa using h]
theorem look_snoc (x : Pt) (r : List Pt) (id : Int) : look (r ++ [x]) id = (look r id).or (if x.id = id then some x else none) := by
  unfold look
  rw [List.find?_append]
  congr 1
  have := look_cons x [] id
  unfold look at this
  rw [this]; rfl
theorem look_some {l : List Pt} {id : Int} {p : Pt} (h : look l id = some p) : p ∈ l ∧ p.id = id := ⟨List.mem_of_find?_eq_some h, by simpa using List.find?_some h⟩
theorem look_none {l : List Pt} {id : Int} : look l id = none ↔ ∀ p ∈ l, p.id ≠ id := by
  unfold look
  rw [List.find?_eq_none]
  simp
theorem cptG_look : ∀ (r : List Pt) (y : Pt), (y :: r).Pairwise (fun p q => p.id ≤ q.id) → SId (y :: cptG eqId y r) ∧ ∀ id, look (y :: cptG eqId y r) id = look (y :: r) id
  | [], y, _ => ⟨by simp [cptG], fun id => rfl⟩
  | x :: r, y, h => by
    obtain ⟨h1, h2⟩ := List.pairwise_cons.1 h
    obtain ⟨ih1, ih2⟩ := cptG_look r x h2
    have hxy := h1 x List.mem_cons_self
    obtain ⟨i1, i2⟩ := List.pairwise_cons.1 ih1
    unfold cptG
    by_cases e : x.id = y.id
    · have e1 : eqId x y = true := by simpa using e
      rw [if_pos e1]
      refine ⟨List.pairwise_cons.2 ⟨fun z hz => by have := i1 z hz; omega, i2⟩, fun id => ?_⟩
      have := ih2 id
      rw [look_cons, look_cons] at this
      rw [look_cons, look_cons, look_cons]
      by_cases q : y.id = id
      · rw [if_pos q, if_pos q]
      · rw [if_neg q, if_neg q]
        rw [if_neg (by omega), if_neg (by omega)] at this
        rw [if_neg (by omega)]
        exact this
    · have e1 : ¬ eqId x y = true := by simpa using e
      rw [if_neg e1]
      refine ⟨List.pairwise_cons.2 ⟨fun z hz => ?_, ih1⟩, fun id => ?_⟩
      · rcases List.mem_cons.1 hz with rfl | hz
        · omega
        · have := i1 z hz; omega
      · rw [look_cons y, look_cons y, ih2 id]
theorem sortP_le (l : List Pt) : (sortP l).Pairwise fun p q => p.id ≤ q.id := (isort_srtd swo_I l).imp fun {p q} h => by simpa using h
theorem look_sortP (l : List Pt) (id : Int) : look (sortP l) id = look l id := by
  have h := isort_stab swo_I l ⟨id, 0, 0, default⟩
  have e : eqv ltI ⟨id, 0, 0, default⟩ = fun p => p.id == id := by
    funext p
    unfold eqv
    by_cases q : p.id = id
    · subst q; simp
    · have : (p.id == id) = false := by simpa using q
      rw [this]
      by_cases q2 : id < p.id
      · simp [q2]
      · have : p.id < id := by omega
        simp [this]
  rw [e] at h
  have := congrArg List.head? h
  rw [List.head?_filter, List.head?_filter] at this
  exact this
theorem fixP_sid (l : List Pt) : SId (fixP l) := by
  unfold fixP
  have h := sortP_le l
  cases q : sortP l with
  | nil => simp [cpt]
  | cons y r => rw [q] at h; exact (cptG_look r y h).1
theorem look_fixP (l : List Pt) (id : Int) : look (fixP l) id = look l id := by
  rw [← look_sortP l id]
  unfold fixP
  have h := sortP_le l
  cases q : sortP l with
  | nil => rfl
  | cons y r => rw [q] at h; exact (cptG_look r y h).2 id
theorem cptG_len (f : Pt → Pt → Bool) : ∀ (r : List Pt) (y : Pt), (cptG f y r).length ≤ r.length
  | [], _ => by simp [cptG]
  | x :: r, y => by
    have := cptG_len f r x
    unfold cptG
    split <;> simp <;> omega
theorem fixP_len (l : List Pt) : (fixP l).length ≤ l.length := by
  rw [← sortP_len l]
  unfold fixP
  cases sortP l with
  | nil => simp [cpt]
  | cons y r => have := cptG_len eqId r y; simp [cpt]; omega
theorem sid_look {L : List Pt} (h : SId L) {p : Pt} (hp : p ∈ L) : look L p.id = some p := by
  induction L with
  | nil => cases hp
  | cons x r ih =>
    obtain ⟨h1, h2⟩ := List.pairwise_cons.1 h
    rw [look_cons]
    rcases List.mem_cons.1 hp with rfl | hp
    · rw [if_pos rfl]
    · have := h1 p hp
      rw [if_neg (by omega)]; exact ih h2 hp
theorem sid_mem {L : List Pt} (h : SId L) {p : Pt} : p ∈ L ↔ look L p.id = some p := ⟨sid_look h, fun e => (look_some e).1⟩
theorem sid_eq : ∀ {L M : List Pt}, SId L → SId M → (∀ id, look L id = look M id) → L = M
  | [], [], _, _, _ => rfl
  | [], y :: M, _, _, h => by have := h y.id; rw [look_cons, if_pos rfl] at this; cases this
  | x :: L, [], _, _, h => by have := h x.id; rw [look_cons, if_pos rfl] at this; cases this
  | x :: L, y :: M, hL, hM, h => by
    have mx : x ∈ y :: M := (sid_mem hM).2 (by rw [← h]; exact sid_look hL List.mem_cons_self)
    have my : y ∈ x :: L := (sid_mem hL).2 (by rw [h]; exact sid_look hM List.mem_cons_self)
    obtain ⟨l1, l2⟩ := List.pairwise_cons.1 hL
    obtain ⟨m1, m2⟩ := List.pairwise_cons.1 hM
    have e : x = y := by
      rcases List.mem_cons.1 mx with e | mx
      · exact e
      · rcases List.mem_cons.1 my with e | my
        · exact e.symm
        · have := m1 x mx; have := l1 y my; omega
    subst e
    rw [sid_eq l2 m2 fun id => ?_]
    by_cases q : x.id = id
    · subst q
      rw [look_none.2 fun p hp => by have := l1 p hp; omega, look_none.2 fun p hp => by have := m1 p hp; omega]
    · have := h id
      rw [look_cons, look_cons, if_neg q, if_neg q] at this
      exact this
/-- The law's way to the first of each Id. -/
def firstsP (l : List Pt) : List Pt := l.foldl (fun acc p => if look acc p.id = none then acc ++ [p] else acc) []
theorem firstsP_snoc (l : List Pt) (p : Pt) : firstsP (l ++ [p]) = if look (firstsP l) p.id = none then firstsP l ++ [p] else firstsP l := by
  unfold firstsP
  rw [List.foldl_append]
  rfl
theorem firstsP_ok (l : List Pt) : (∀ id, look (firstsP l) id = look l id) ∧ (∀ id, ((firstsP l).filter fun p => p.id == id).length ≤ 1) ∧ (firstsP l).length ≤ l.length := by
  have key : ∀ n, ∀ l : List Pt, l.length = n → (∀ id, look (firstsP l) id = look l id) ∧ (∀ id, ((firstsP l).filter fun p => p.id == id).length ≤ 1) ∧ (firstsP l).length ≤ l.length := by
    intro n
    induction n with
    | zero =>
      intro l hl
      obtain rfl := List.eq_nil_of_length_eq_zero hl
      simp [firstsP]
    | succ n ih =>
      intro l hl
      rcases List.eq_nil_or_concat l with rfl | ⟨r, p, rfl⟩
      · simp at hl
      rw [List.concat_eq_append] at hl ⊢
      obtain ⟨h1, h2, h3⟩ := ih r (by simpa using hl)
      rw [firstsP_snoc]
      by_cases q : look (firstsP r) p.id = none
      · rw [if_pos q]
        refine ⟨fun id => by rw [look_snoc, look_snoc, h1], fun id => ?_, by simp; omega⟩
        rw [List.filter_append, List.length_append]
        by_cases e : p.id = id
        · have : (firstsP r).filter (fun z => z.id == id) = [] := by
            rw [List.filter_eq_nil_iff]
            intro z hz
            have := look_none.1 q z hz
            simp; omega
          rw [this]; simp [e]
        · have := h2 id
          simp [e]; simpa using this
      · rw [if_neg q]
        refine ⟨fun id => ?_, h2, by simp; omega⟩
        rw [look_snoc, h1]
        by_cases e : p.id = id
        · subst e
          rw [h1] at q
          cases e2 : look r p.id with
          | none => exact (q e2).elim
          | some z => rfl
        · rw [if_neg e, Option.or_none]
  exact key l.length l rfl
theorem sid_of {M : List Pt} (h : M.Pairwise fun p q => p.id ≤ q.id) (h1 : ∀ id, (M.filter fun p => p.id == id).length ≤ 1) : SId M := by
  induction M with
  | nil => exact List.Pairwise.nil
  | cons x r ih =>
    obtain ⟨a, b⟩ := List.pairwise_cons.1 h
    refine List.pairwise_cons.2 ⟨fun y hy => ?_, ih b fun id => ?_⟩
    · have := a y hy
      by_cases e : x.id = y.id
      · have h2 := h1 x.id
        rw [List.filter_cons, if_pos (by simp), List.length_cons] at h2
        have : y ∈ r.filter fun p => p.id == x.id := List.mem_filter.2 ⟨hy, by simpa using e.symm⟩
        have := List.length_pos_of_mem this
        omega
      · omega
    · have h2 := h1 id
      rw [List.filter_cons] at h2
      split at h2
      · rw [List.length_cons] at h2; omega
      · exact h2
theorem lawFix (l : List Pt) : sortP (firstsP l) = fixP l := by
  obtain ⟨h1, h2, _⟩ := firstsP_ok l
  refine sid_eq (sid_of (sortP_le _) fun id => ?_) (fixP_sid l) fun id => ?_
  · have h := isort_stab swo_I (firstsP l) ⟨id, 0, 0, default⟩
    have e : eqv ltI ⟨id, 0, 0, default⟩ = fun p => p.id == id := by
      funext p
      unfold eqv
      by_cases q : p.id = id
      · subst q; simp
      · have : (p.id == id) = false := by simpa using q
        rw [this]
        by_cases q2 : id < p.id
        · simp [q2]
        · have : p.id < id := by omega
          simp [this]
    rw [e] at h
    show ((isort ltI (firstsP l)).filter fun p => p.id == id).length ≤ 1
    rw [h]; exact h2 id
  · rw [look_sortP, look_fixP, h1]
end Cr

set_option linter.unusedVariables false
set_option linter.unusedSimpArgs false
namespace Cr
open Go Sx Go.Proofs Go.Sort
open Go.Proofs.Try
set_option maxRecDepth 100000
theorem sid_uid {L : List Pt} (h : SId L) : UId L := by
  unfold UId
  rw [List.nodup_iff_pairwise_ne, List.pairwise_map]
  exact List.Pairwise.imp (fun h => by omega) h
section
variable {H : Heap} {R : Ending → Heap → Prop}
theorem pred_new : Pred2 24 eqId := fun p q H R k => by
  refine spec_of func24 (by kernel_rfl) (fun t h => by cases h) ?_ (vc_knew1 p.id p.x p.y p.data q.id q.x q.y q.data R H) ?_
  · simp [argsR, SV.rep, SC.rep, Sx.one, SegsRep]
  unfold nf_knew1
  exact k
theorem s_knew {v : Value} {l : List Pt} (h : SliceAt H v 4 (pts l)) (hl : l.length ≤ 1000) (k : ∀ T t H', Grow 0 (fixP l) T → KAt (offH H H') T t → H ≤ H' → R (.returned (.pointer t)) H') : Meets prog 9 [v] H R := by
  obtain ⟨a, n, c, e, hn⟩ := h
  subst e
  have h : SliceAt H (.slice a n c) 4 (pts l) := ⟨a, n, c, rfl, hn⟩
  refine spec_of func9 (by kernel_rfl) (fun t h => by cases h) ?_ (vc_knew a n c R H) ?_
  · simp [argsR, SV.rep, SC.rep, Sx.one]
  unfold nf_knew
  refine s_srt h (by omega) fun v1 H1 hle hf hrow => ?_
  obtain ⟨a1, c1, rfl⟩ := row_val hrow
  refine ⟨a1, _, c1, rfl, s_cpf pred_new hrow (by rw [sortP_len]; omega) fun v2 H2 hr2 hb2 hm2 => ?_⟩
  obtain ⟨a2, c2, rfl⟩ := row_val hr2
  have hle2 : H ≤ H2 := fun b o e => by
    rw [hm2 b (fun e2 => by rw [hf b e2] at e; cases e)]
    exact hle b o e
  have hfl := fixP_len l
  refine ⟨a2, _, c2, rfl, s_kgrow (fixP l).length (Nat.le_refl _) (row_slice hr2) (by omega) (by omega) (by omega) fun T t H' g ka hle3 => ⟨t, rfl, k T t H' g (kAt_le (off_mono hle2 fun _ _ e => e) ka) (heap_trans hle2 hle3)⟩⟩
theorem s_kfix {v : Value} {l : List Pt} (h : SliceAt H v 4 (pts l)) (hl : l.length ≤ 40) (k : ∀ v H', H ≤ H' → (∀ b, blockOf v = some b → H b = none) → RowAt H' v tPt 4 (pts (fixP l)) → R (.returned v) H') : Meets prog 8 [v] H R := by
  obtain ⟨a, n, c, e, hn⟩ := h
  subst e
  have h : SliceAt H (.slice a n c) 4 (pts l) := ⟨a, n, c, rfl, hn⟩
  have hln : l.length = n := by simpa using hn.1
  refine spec_of func8 (by kernel_rfl) (fun t h => by cases h) ?_ (vc_kfix a n c R H) ?_
  · simp [argsR, SV.rep, SC.rep, Sx.one]
  unfold nf_kfix
  simp only [true_and]
  refine ⟨fun p H' => ∃ t : Nat, p.1.1 = (t : Int) ∧ t ≤ n ∧ p.1.2.1 = pts (firstsP (l.take t)) ∧ p.1.2.2.1 = cells ((firstsP (l.take t)).map Pt.id) ∧ H' = H, fun p _ => (n - p.1.1).toNat, ⟨0, rfl, by omega, rfl, rfl, rfl⟩, ?_⟩
  rintro ⟨⟨i, rows, ids, _⟩, _⟩ H1 ⟨t, hi, ht, hrows, hids, rfl⟩
  simp only at hi hrows hids ⊢
  subst hi hrows hids
  have hfl := (firstsP_ok (l.take t)).2.2
  rw [List.length_take] at hfl
  have fin : t = n → ∀ (v : Value) (H' : Heap), H1 ≤ H' → (∀ b, blockOf v = some b → H1 b = none) → (∀ b (o : Obj), H' b = some o → H1 b = some o ∨ blockOf v = some b) → RowAt H' v 44 4 (pts (firstsP (l.take t))) → Meets prog 20 [v] H' fun e H' => ∃ (a : Option Addr) (n c : Nat), e = .returned (.slice a n c) ∧ ∃ es, RowAt H' v 44 4 es ∧ R (.returned (.slice a n c)) (Heap.delO H' (blockOf v)) := by
    intro htn v1 H2 hle hf hb hrow
    refine s_rsort (row_slice hrow) (by omega) fun v2 H3 hle2 hf2 hrow2 => ?_
    rw [lawFix, htn, ← hln, List.take_length] at hrow2
    have hr := row_delO hrow2 (o := blockOf v1) fun b hb e => rowat_known hrow e (hf2 b hb)
    obtain ⟨a2, c2, rfl⟩ := row_val hrow2
    exact ⟨a2, _, c2, rfl, _, row_le hrow (fun b o _ => hle2 b o), k _ _ (le_delO (heap_trans hle hle2) hf) (fun b hb => by
      cases q : H1 b with
      | none => rfl
      | some o => have := hf2 b hb; rw [hle b o q] at this; cases this) hr⟩
  refine br (fun q1 => br (fun q2 => ?_) fun q2 => by simp at q1 q2; omega) fun q1 => fin (by simp at q1; omega)
  simp only [decide_eq_true_eq] at q1
  obtain ⟨x, _, htk, hx⟩ := drop_cons (l := l) (k := t) (by omega)
  obtain ⟨A, e, g⟩ := pr_get h (i := t) hx
  subst e
  have hsn := firstsP_snoc (l.take t) x
  rw [← htk] at hsn
  refine ⟨⟨by omega, by omega⟩, ptr rfl (ptr rfl (ptr rfl ⟨x.id, has_first g, fun v2 H2 hle hf hb hrow => ?_⟩))⟩
  refine s_in (row_slice hrow) (by simp; omega) ⟨_, rfl, _, hrow, ?_⟩
  rw [lend_off hle hf hb, wi64 (by omega)]
  have hmem : x.id ∈ (firstsP (l.take t)).map Pt.id ↔ look (firstsP (l.take t)) x.id ≠ none := by
    rw [Ne, look_none, List.mem_map]
    constructor
    · rintro ⟨p, h1, h2⟩ h3; exact h3 p h1 h2
    · intro h3
      by_cases q : ∃ p ∈ firstsP (l.take t), p.id = x.id
      · obtain ⟨p, h1, h2⟩ := q; exact ⟨p, h1, h2⟩
      · exact (h3 fun p h1 h2 => q ⟨p, h1, h2⟩).elim
  refine br (fun q2 => ?_) fun q2 => ?_
  · have hno : look (firstsP (l.take t)) x.id = none := by
      by_cases q : look (firstsP (l.take t)) x.id = none
      · exact q
      · rw [decide_eq_true (hmem.2 q)] at q2; cases q2
    rw [if_pos hno] at hsn
    have e1 : List.append (pts (firstsP (l.take t))) [ptC x] = pts (firstsP (l.take (t + 1))) := by rw [hsn]; simp [pts]
    have e2 : List.append (cells ((firstsP (l.take t)).map Pt.id)) [[vi x.id]] = cells ((firstsP (l.take (t + 1))).map Pt.id) := by rw [hsn]; simp [cells]
    refine ⟨⟨by omega, by omega⟩, ptr rfl (ptr rfl ⟨_, _, _, _, g, ⟨by omega, by omega⟩, ptr rfl (ptr rfl (ptr rfl ⟨_, has_first g, ?_⟩))⟩)⟩
    show (List.append (pts (firstsP (l.take t))) [ptC x]).length * 32 ≤ _ ∧ (List.append (cells ((firstsP (l.take t)).map Pt.id)) [[vi x.id]]).length * 8 ≤ _ ∧ (∃ t' : Nat, _ ∧ _ ∧ List.append (pts (firstsP (l.take t))) [ptC x] = _ ∧ List.append (cells ((firstsP (l.take t)).map Pt.id)) [[vi x.id]] = _ ∧ _) ∧ _
    rw [e1, e2]
    have hl2 : (firstsP (l.take (t + 1))).length ≤ 41 := by rw [hsn]; simp; omega
    refine ⟨by simp [pts]; omega, by simp [cells]; omega, ⟨t + 1, by simp, by omega, rfl, rfl, by trivial⟩, by simp; omega⟩
  · have hyes : ¬ look (firstsP (l.take t)) x.id = none := fun q => by
      have : ¬ x.id ∈ (firstsP (l.take t)).map Pt.id := fun h => hmem.1 h q
      rw [decide_eq_false this] at q2; cases q2
    rw [if_neg hyes] at hsn
    exact ⟨⟨t + 1, by simp, by omega, by rw [hsn], by rw [hsn], by trivial⟩, by simp; omega⟩
theorem s_alive44 (k : ∀ H', H ≤ H' → R (.returned (.bool true)) H') : Meets prog 6 [] H R := by
  refine spec_of func6 (by kernel_rfl) (fun t h => by cases h) ?_ (vc_kal44 R H) ?_
  · simp [argsR]
  unfold nf_kal44
  intro v H1 hle1 hf1 hb1 hrow1
  have hrow : RowAt H1 v 44 4 (pts [⟨5, 0, 0, ⟨#[]⟩⟩]) := hrow1
  refine s_knew (row_slice hrow) (by simp) fun T t H2 g ka hle2 => ⟨t, rfl, _, row_le hrow (fun b o _ => hle2 b o), ?_⟩
  have gT : T = .node ⟨5, 0, 0, ⟨#[]⟩⟩ .nil .nil := by
    refine (Grow.det (l := [⟨5, 0, 0, ⟨#[]⟩⟩]) (T := .node ⟨5, 0, 0, ⟨#[]⟩⟩ .nil .nil) (.node (s := [⟨5, 0, 0, ⟨#[]⟩⟩]) (.refl _) (List.pairwise_singleton ..) rfl .nil .nil) ?_ (by simp [UId]) g)
    have : fixP [⟨5, 0, 0, ⟨#[]⟩⟩] = [⟨5, 0, 0, ⟨#[]⟩⟩] := by decide
    rw [this]
  subst gT
  have ka' := kAt_le (off_del (o := blockOf v) fun b hb => rowat_known hrow hb) ka
  refine s_kdep _ ka' (by simp [KT.dep]) ⟨_, rfl, br (fun _ => ?_) fun q => by simp [KT.dep] at q⟩
  refine s_kord _ ka' (by simp [KT.pre]) fun v3 H3 hle3 hf3 hr3 => ?_
  obtain ⟨a3, c3, rfl⟩ := row_val hr3
  refine ⟨a3, _, c3, rfl, fun v4 H4 hle4 hf4 hb4 hr4 => ?_⟩
  have hr4 : RowAt H4 v4 3 1 (cells [5]) := hr4
  refine s_ints (slice_le (row_slice hr3) hle4) (row_slice hr4) (by simp [KT.pre]) ⟨_, rfl, _, hr4, ?_⟩
  rw [lend_off hle4 hf4 hb4]
  have e : decide ((KT.node ⟨5, 0, 0, ⟨#[]⟩⟩ .nil .nil).pre = [5]) = true := by simp [KT.pre]
  rw [e]
  exact k _ (heap_trans (le_delO (heap_trans hle1 hle2) hf1) hle3)
theorem s_ltel {v : Value} {l : List Pt} (h : SliceAt H v 4 (pts l)) (hl : l.length ≤ 10000000000000) (k : ∀ H', H ≤ H' → R (.returned (.bool true)) H') : Meets prog 3 [v] H R := by
  obtain ⟨a, n, c, e, hn⟩ := h
  subst e
  have h : SliceAt H (.slice a n c) 4 (pts l) := ⟨a, n, c, rfl, hn⟩
  have hln : l.length = n := by simpa using hn.1
  refine spec_of func3 (by kernel_rfl) (fun t h => by cases h) ?_ (vc_kltel a n c R H) ?_
  · simp [argsR, SV.rep, SC.rep, Sx.one]
  unfold nf_kltel
  have hnc : n ≤ c := hn.2.1
  -- of at most forty
  have main : ∀ {v : Value} {l : List Pt} {H1 : Heap}, SliceAt H1 v 4 (pts l) → l.length ≤ 40 → H ≤ H1 → Meets prog 8 [v] H1 fun e H' => ∃ (a_1 : Option Addr) (n c_1 : Nat), e = .returned (.slice a_1 n c_1) ∧
      Meets prog 7 [.slice a_1 n c_1, vi 0] H' fun e H' => ∃ (a_2 : Option Addr) (n c_2 : Nat) (n_1 : Int), e = .returned (.tuple #[.slice a_2 n c_2, vi n_1]) ∧
        Meets prog 9 [v] H' fun e H' => ∃ a : Option Addr, e = .returned (.pointer a) ∧
          Meets prog 11 [.pointer a] H' fun e H' => ∃ (a_3 : Option Addr) (n_2 c : Nat), e = .returned (.slice a_3 n_2 c) ∧
            Meets prog 10 [.slice a_3 n_2 c, .slice a_2 n c_2] H' fun e H' => ∃ b : Bool, e = .returned (.bool b) ∧
              Br b (Meets prog 12 [.pointer a] H' fun e H' => ∃ n : Int, e = .returned (vi n) ∧ R (.returned (.bool (n == n_1))) H') (R (.returned (.bool false)) H') := by
    intro v l H1 h hl hle1
    have hfl := fixP_len l
    refine s_kfix h hl fun v2 H2 hle2 hf2 hr2 => ?_
    have hs2 := row_slice hr2
    obtain ⟨a2, c2, rfl⟩ := row_val hr2
    refine ⟨a2, _, c2, rfl, s_klo (fixP l).length (Nat.le_refl _) hs2 (by omega) (by omega) (by omega) fun T v3 H3 g3 hle3 hf3 hr3 => ?_⟩
    have hs3 := row_slice hr3
    obtain ⟨a3, c3, rfl⟩ := row_val hr3
    refine ⟨a3, _, c3, _, rfl, s_knew (slice_le h (heap_trans hle2 hle3)) (by omega) fun T' t H4 g4 ka hle4 => ⟨t, rfl, ?_⟩⟩
    have : T' = T := Grow.det g3 (.refl _) (sid_uid (fixP_sid l)) g4
    subst this
    have gl := g4.len
    have ka := kAt_le off_le ka
    refine s_kord _ ka (by omega) fun v5 H5 hle5 hf5 hr5 => ?_
    have hs5 := row_slice hr5
    obtain ⟨a5, c5, rfl⟩ := row_val hr5
    refine ⟨a5, _, c5, rfl, s_ints hs5 (slice_le hs3 (heap_trans hle4 hle5)) (by omega) ⟨_, rfl, br (fun _ => ?_) fun q => by simp at q⟩⟩
    refine s_kdep _ (kAt_le hle5 ka) (by omega) ⟨_, rfl, ?_⟩
    rw [beq_self_eq_true]
    exact k _ (heap_trans hle1 (heap_trans hle2 (heap_trans hle3 (heap_trans hle4 hle5))))
  refine s_alive44 fun H1 hle1 => ⟨true, rfl, br (fun q => by cases q) fun _ => br (fun q => ?_) fun q => ?_⟩
  · simp only [decide_eq_true_eq] at q
    have hs := slice_sub (slice_le h hle1) (lo := 0) (hi := 40) (by omega) (by omega)
    have e1 : List.take (40 - 0) (List.drop 0 (pts l)) = pts (l.take 40) := by simp [pts, List.map_take]
    rw [e1] at hs
    exact ⟨⟨by omega, by omega⟩, main hs (by rw [List.length_take]; omega) hle1⟩
  · simp only [decide_eq_false_iff_not] at q
    exact main (slice_le h hle1) (by omega) hle1
end
end Cr

set_option linter.unusedVariables false
set_option linter.unusedSimpArgs false
namespace Sx
open Go
section
variable {P : Program} {H : Type} {enc : TypeId × Value → H} {W : World}
theorem open_sl {E : Type} [Inhabited E] {tS tE sz by_ : Nat} {cell : E → List Value} {Q : E → Prop} (hS : P.underlying tS = some (.slice tE)) (hc : P.cellsOf tE = sz) (hby : P.bytesOf tE = by_) (hsz : 0 < sz) (hcl : ∀ e, (cell e).length = sz)
    (hon : ∀ e, ∀ x ∈ cell e, one x = true)
    (op : ∀ (fuel : Nat) (cs : List Value) (y : DataW H × List MemPlace), DataW.trod enc P W 0 (fun _ => true) true fuel tE cs = some y → ∃ e, cs = cell e ∧ Q e)
    {v : Value} {d : DataW H} {ps : List MemPlace} {base : Nat} (hv : Value.okWide P W .any base tS v) (h : DataW.Trod enc P W 0 (fun _ => true) true tS v d ps) :
    ∃ l : List E, SliceAt (full W) v sz (l.map cell) ∧ (∀ e ∈ l, Q e) ∧ ((d.weights P tS).all (· ≤ reachBytes) = true → l.length * by_ ≤ reachBytes) := by
  obtain ⟨a, len, cap, rfl⟩ := Go.WideShapes.okWide_slice hS hv
  obtain ⟨fuel, hf⟩ := h
  rcases Go.Deep.open_slice hS hf with ⟨e, e2⟩ | ⟨A, ln, cp, m, n, D, Pl, e, hb, hl, hm, hmm, e2, hx⟩
  · cases e
    exact ⟨[], ⟨none, 0, 0, rfl, rfl, Nat.le_refl _, by simp, by simp, by simp⟩, by simp, by simp⟩
  · cases e
    obtain ⟨rfl, -⟩ := Prod.mk.inj e2
    simp only [if_true] at hmm
    subst hmm
    have a0 : A.add (0 * sz) = A := by rw [Nat.zero_mul]; rfl
    have a1 : ∀ B : Addr, B.add 0 = B := fun B => rfl
    have pick : ∀ i, ∃ p : E, i < len → Q p ∧ (full W).has (A.add (i * sz)) (cell p) ∧ A.spot = none := fun i => by
      by_cases hi : i < len
      · obtain ⟨cs', h1, h2⟩ := hx i (by omega)
        rw [hc] at h1
        obtain ⟨p, rfl, hp⟩ := op _ _ _ h2
        obtain ⟨_, h3, h4⟩ := World.cells?_some h1
        refine ⟨p, fun _ => ⟨hp, ?_, ?_⟩⟩
        · intro j x hj
          have hj4 : j < sz := by have := (List.getElem?_eq_some_iff.1 hj).1; rw [hcl] at this; exact this
          have := h4 j hj4
          rw [hj] at this
          exact this
        · obtain ⟨cs0, k1, k2⟩ := hx 0 (by omega)
          rw [hc] at k1
          obtain ⟨k5, k3, k4⟩ := World.cells?_some k1
          have := k4 0 hsz
          rw [a0, a1, List.getElem?_eq_getElem (by omega)] at this
          unfold World.cell? at this
          split at this
          · split at this
            · cases this
            · rename_i hs
              simpa using hs
          · cases this
      · exact ⟨default, fun h => absurd h hi⟩
    obtain ⟨f, hf⟩ := Classical.axiomOfChoice pick
    refine ⟨(List.range len).map f, ⟨some A, len, _, rfl, by simp, hl, ?_, ?_, fun i e he => ?_⟩, ?_, fun hw => ?_⟩
    · intro e he
      obtain ⟨p, _, rfl⟩ := List.mem_map.1 he
      exact hcl p
    · intro e he
      obtain ⟨p, _, rfl⟩ := List.mem_map.1 he
      exact hon p
    · simp only [List.getElem?_map] at he
      obtain ⟨p, hp, rfl⟩ := Option.map_eq_some_iff.1 he
      obtain ⟨i', hi', rfl⟩ := Option.map_eq_some_iff.1 hp
      have hlt := (List.getElem?_eq_some_iff.1 hi').1
      have hii : i' = i := by have := (List.getElem?_eq_some_iff.1 hi').2; simp at this; omega
      subst hii
      obtain ⟨_, g1, g2⟩ := hf i' (by simpa using hlt)
      exact ⟨A, rfl, g2, g1⟩
    · intro p hp
      obtain ⟨i, hi, rfl⟩ := List.mem_map.1 hp
      exact (hf i (List.mem_range.1 hi)).1
    · simp only [DataW.weights, hS, List.all_cons, Bool.and_eq_true, decide_eq_true_eq, List.length_map, List.length_range, hby] at hw
      simp only [List.length_map, List.length_range]
      have h0 := hw.1
      exact Nat.le_trans (Nat.mul_le_mul_right _ (Nat.le_add_right _ _)) h0
theorem weigh_of {t : TypeId} {ts : List TypeId} {d : DataW H} {ds : List (DataW H)} {p : Nat → Bool} (h : (DataW.weightsEach P (t :: ts) (d :: ds)).all p = true) : (d.weights P t).all p = true ∧ (DataW.weightsEach P ts ds).all p = true := by
  simp only [DataW.weightsEach, List.all_append, Bool.and_eq_true] at h
  exact h
end
end Sx

set_option linter.unusedVariables false
set_option linter.unusedSimpArgs false
namespace Cr
open Go Sx
open Go.Proofs.Try
set_option maxRecDepth 100000
theorem own : ownKnob Go.Proofs.Try.prog.godebug = none := by kernel_rfl
theorem laidOut : laidOutB Go.Proofs.Try.prog = true := by kernel_rfl
section
variable {H : Type} {enc : TypeId × Value → H} {W : World}
theorem u32_wf {b : Int} (w : (Lit.int .u32 b).wf = true) : U32 b := by simp [Lit.wf, IntKind.min, IntKind.max, IntKind.bits, IntKind.signed] at w; omega
theorem i64_wf {b : Int} (w : (Lit.int .i64 b).wf = true) : -9223372036854775808 ≤ b ∧ b ≤ 9223372036854775807 := by simp [Lit.wf, IntKind.min, IntKind.max, IntKind.bits, IntKind.signed] at w; omega
abbrev I64 (x : Int) : Prop := -9223372036854775808 ≤ x ∧ x ≤ 9223372036854775807
theorem openPt {fuel : Nat} {cs : List Value} {y : DataW H × List MemPlace} (h : DataW.trod enc prog W 0 (fun _ => true) true fuel 44 cs = some y) : ∃ p : Pt, cs = ptC p ∧ (U32 p.x ∧ U32 p.y) ∧ I64 p.id := by
  obtain ⟨y0, y1, y2, y3, n, _, hl, h0, h1, h2, h3⟩ := Go.Joins.trod_struct4 Go.Proofs.Try.underlying44 h
  obtain ⟨a, e0, _, w0⟩ := DataW.trod_int Go.Proofs.Try.underlying3 h0
  obtain ⟨b, e1, _, w1⟩ := DataW.trod_int Go.Proofs.Try.underlying34 h1
  obtain ⟨c, e2, _, w2⟩ := DataW.trod_int Go.Proofs.Try.underlying34 h2
  obtain ⟨s, e3, _, _⟩ := DataW.trod_string Go.Proofs.Try.underlying9 h3
  have c4 : prog.cellsOf 44 = 4 := by kernel_rfl
  have c1 : prog.cellsOf 3 = 1 := by kernel_rfl
  have c2 : prog.cellsOf 34 = 1 := by kernel_rfl
  have c3 : prog.cellsOf 9 = 1 := by kernel_rfl
  rw [c4] at hl
  match cs, hl with
  | [q0, q1, q2, q3], _ =>
    simp only [c1, c2, c3, List.drop_zero, List.drop_succ_cons, List.take_succ_cons, List.take_zero] at e0 e1 e2 e3
    cases e0; cases e1; cases e2; cases e3
    exact ⟨⟨a, b, c, s⟩, rfl, ⟨u32_wf w1, u32_wf w2⟩, i64_wf w0⟩
theorem openPts {v : Value} {d : DataW H} {ps : List MemPlace} {base : Nat} (hv : Value.okWide prog W .any base 22 v) (h : DataW.Trod enc prog W 0 (fun _ => true) true 22 v d ps) :
    ∃ l : List Pt, SliceAt (full W) v 4 (pts l) ∧ (∀ p ∈ l, (U32 p.x ∧ U32 p.y) ∧ I64 p.id) ∧ ((d.weights prog 22).all (· ≤ reachBytes) = true → l.length ≤ 10000000000000) := by
  obtain ⟨l, h1, h2, h3⟩ := open_sl (P := prog) (cell := ptC) (Q := fun p => (U32 p.x ∧ U32 p.y) ∧ I64 p.id) (sz := 4) (by_ := 32) Go.Proofs.Try.underlying22 (by kernel_rfl) (by kernel_rfl) (by omega) (fun _ => rfl) ptC_one (fun _ _ _ h => openPt h) hv h
  refine ⟨l, h1, h2, fun hw => ?_⟩
  have := h3 hw
  unfold reachBytes at this
  omega
end
end Cr
