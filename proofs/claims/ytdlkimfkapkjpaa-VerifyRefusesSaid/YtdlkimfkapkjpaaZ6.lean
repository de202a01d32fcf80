/- Own texts, one behind the other: G5, G6, T1, G7, G8, SxMapS, SxSort, SxKeys, X2, X3, X4, X6, X7, X8, X9, T2, SxZ, H1, H2, H3, H4, H5, X10, X11, X12. -/
import Derived.Maps.Own
import Derived.Lib.SlKeysI
import Derived.Shelf.SlSortCmp.NoneTotal
import Derived.Shelf.Sort.Plain
import Derived.Shelf.Slices.In.SortNone
import Derived.Shelf.Slices.CompactI
import Derived.Shelf.SlIterI.Sorted
import Derived.Test.YtdlkimfkapkjpaaProg
import Derived.Recover
import Derived.Test.YtdlkimfkapkjpaaZ5
set_option linter.unusedVariables false
set_option linter.unusedSimpArgs false
namespace Cr
open Go Sx Stb Bt
open Go.Sort (SWO)
open Go.Proofs.Try
set_option linter.unusedSectionVars false
variable [Dr]
set_option maxRecDepth 100000
def h_once : Hints := { loops := [(4, ⟨[0, 1, 4], [.row 5 51 4, .row 6 3 1, .f 7 (.int .i64)], []⟩)] }
def nf_once (a : Option Addr) (n : Nat) (c : Nat) (most : Int) (R : Ending → Heap → Prop) (H : Heap) : Prop := a = a ∧ n = n ∧ c = c ∧ most = most ∧ (none : Option Addr) = none ∧ (0 : Nat) = (0 : Nat) ∧ (0 : Nat) = (0 : Nat) ∧ LoopP (fun (K : (List (List Value) × List (List Value) × Int × PUnit) × PUnit → (Nat → Option Obj) → Prop) (p : (List (List Value) × List (List Value) × Int × PUnit) × PUnit) (H : Nat → Option Obj) ↦ Br (decide (p.fst.snd.snd.fst < (↑n : Int))) (Br (decide ((↑(List.length p.fst.fst) : Int) < most)) (((0 : Int) ≤ p.fst.snd.snd.fst ∧ p.fst.snd.snd.fst < (↑n : Int)) ∧ PtrK a fun (A : Addr) ↦ PtrK (some (Addr.add A (Int.toNat p.fst.snd.snd.fst * (4 : Nat)))) fun (a_1 : Addr) ↦ PtrK (some (Addr.add a_1 (0 : Nat))) fun (a_2 : Addr) ↦ ∃ (n_1 : Int), Heap.has H a_2 [Value.int IntKind.i64 n_1] ∧ Br (decide (n_1 ≥ (1 : Int))) (((0 : Int) ≤ p.fst.snd.snd.fst ∧ p.fst.snd.snd.fst < (↑n : Int)) ∧ PtrK a fun (A : Addr) ↦ PtrK (some (Addr.add A (Int.toNat p.fst.snd.snd.fst * (4 : Nat)))) fun (a_3 : Addr) ↦ PtrK (some (Addr.add a_3 (0 : Nat))) fun (a_4 : Addr) ↦ ∃ (n_2 : Int), Heap.has H a_4 [Value.int IntKind.i64 n_2] ∧ Br (decide (n_2 < (2147483648 : Int))) (((0 : Int) ≤ p.fst.snd.snd.fst ∧ p.fst.snd.snd.fst < (↑n : Int)) ∧ PtrK a fun (A : Addr) ↦ PtrK (some (Addr.add A (Int.toNat p.fst.snd.snd.fst * (4 : Nat)))) fun (a_5 : Addr) ↦ PtrK (some (Addr.add a_5 (3 : Nat))) fun (a_6 : Addr) ↦ ∃ (s : ByteArray), Heap.has H a_6 [Value.string s] ∧ Br (decide ((↑(ByteArray.size s) : Int) ≤ (16 : Int))) (((0 : Int) ≤ p.fst.snd.snd.fst ∧ p.fst.snd.snd.fst < (↑n : Int)) ∧ PtrK a fun (A : Addr) ↦ PtrK (some (Addr.add A (Int.toNat p.fst.snd.snd.fst * (4 : Nat)))) fun (a_7 : Addr) ↦ PtrK (some (Addr.add a_7 (0 : Nat))) fun (a_8 : Addr) ↦ ∃ (n_3 : Int), Heap.has H a_8 [Value.int IntKind.i64 n_3] ∧ ∀ (v : Value) (H' : Nat → Option Obj), H ≤ H' → (∀ (b : Nat), blockOf v = some b → H b = none) → (∀ (b : Nat) (o : Obj), H' b = some o → H b = some o ∨ blockOf v = some b) → RowAt H' v (3 : Nat) (1 : Nat) p.fst.snd.fst → Meets prog (29 : Nat) [v, Value.int IntKind.i64 n_3] H' fun (e : Ending) (H' : Nat → Option Obj) ↦ ∃ (b : Bool), e = Ending.returned (Value.bool b) ∧ ∃ (es : List (List Value)), RowAt H' v (3 : Nat) (1 : Nat) es ∧ Br (!b) (((0 : Int) ≤ p.fst.snd.snd.fst ∧ p.fst.snd.snd.fst < (↑n : Int)) ∧ PtrK a fun (A : Addr) ↦ PtrK (some (Addr.add A (Int.toNat p.fst.snd.snd.fst * (4 : Nat)))) fun (a_13 : Addr) ↦ ∃ (n_4 : Int), ∃ (n_5 : Int), ∃ (n_6 : Int), ∃ (s : ByteArray), Heap.has (Heap.delO H' (blockOf v)) a_13 [Value.int IntKind.i64 n_4, Value.int IntKind.u32 n_5, Value.int IntKind.u32 n_6, Value.string s] ∧ ((0 : Int) ≤ p.fst.snd.snd.fst ∧ p.fst.snd.snd.fst < (↑n : Int)) ∧ PtrK a fun (A : Addr) ↦ PtrK (some (Addr.add A (Int.toNat p.fst.snd.snd.fst * (4 : Nat)))) fun (a_14 : Addr) ↦ PtrK (some (Addr.add a_14 (0 : Nat))) fun (a_15 : Addr) ↦ ∃ (n_7 : Int), Heap.has (Heap.delO H' (blockOf v)) a_15 [Value.int IntKind.i64 n_7] ∧ List.length (List.append p.fst.fst [[Value.int IntKind.i64 n_4, Value.int IntKind.u32 n_5, Value.int IntKind.u32 n_6, Value.string s]]) * (32 : Nat) ≤ (140737488355328 : Nat) ∧ List.length (List.append es [[Value.int IntKind.i64 n_7]]) * (8 : Nat) ≤ (140737488355328 : Nat) ∧ a = a ∧ n = n ∧ c = c ∧ most = most ∧ (none : Option Addr) = none ∧ (0 : Nat) = (0 : Nat) ∧ (0 : Nat) = (0 : Nat) ∧ K ((List.append p.fst.fst [[Value.int IntKind.i64 n_4, Value.int IntKind.u32 n_5, Value.int IntKind.u32 n_6, Value.string s]], List.append es [[Value.int IntKind.i64 n_7]], IntKind.wrap IntKind.i64 (p.fst.snd.snd.fst + (1 : Int)), PUnit.unit), PUnit.unit) (Heap.delO H' (blockOf v))) (a = a ∧ n = n ∧ c = c ∧ most = most ∧ (none : Option Addr) = none ∧ (0 : Nat) = (0 : Nat) ∧ (0 : Nat) = (0 : Nat) ∧ K ((p.fst.fst, es, IntKind.wrap IntKind.i64 (p.fst.snd.snd.fst + (1 : Int)), PUnit.unit), PUnit.unit) (Heap.delO H' (blockOf v)))) (a = a ∧ n = n ∧ c = c ∧ most = most ∧ (none : Option Addr) = none ∧ (0 : Nat) = (0 : Nat) ∧ (0 : Nat) = (0 : Nat) ∧ K ((p.fst.fst, p.fst.snd.fst, IntKind.wrap IntKind.i64 (p.fst.snd.snd.fst + (1 : Int)), PUnit.unit), PUnit.unit) H)) (a = a ∧ n = n ∧ c = c ∧ most = most ∧ (none : Option Addr) = none ∧ (0 : Nat) = (0 : Nat) ∧ (0 : Nat) = (0 : Nat) ∧ K ((p.fst.fst, p.fst.snd.fst, IntKind.wrap IntKind.i64 (p.fst.snd.snd.fst + (1 : Int)), PUnit.unit), PUnit.unit) H)) (a = a ∧ n = n ∧ c = c ∧ most = most ∧ (none : Option Addr) = none ∧ (0 : Nat) = (0 : Nat) ∧ (0 : Nat) = (0 : Nat) ∧ K ((p.fst.fst, p.fst.snd.fst, IntKind.wrap IntKind.i64 (p.fst.snd.snd.fst + (1 : Int)), PUnit.unit), PUnit.unit) H)) (∀ (v : Value) (H' : Nat → Option Obj), H ≤ H' → (∀ (b : Nat), blockOf v = some b → H b = none) → (∀ (b : Nat) (o : Obj), H' b = some o → H b = some o ∨ blockOf v = some b) → RowAt H' v (51 : Nat) (4 : Nat) p.fst.fst → R (Ending.returned v) H')) (∀ (v : Value) (H' : Nat → Option Obj), H ≤ H' → (∀ (b : Nat), blockOf v = some b → H b = none) → (∀ (b : Nat) (o : Obj), H' b = some o → H b = some o ∨ blockOf v = some b) → RowAt H' v (51 : Nat) (4 : Nat) p.fst.fst → R (Ending.returned v) H')) (([], [], (0 : Int), PUnit.unit), PUnit.unit) H
theorem vc_once (a : Option Addr) (n : Nat) (c : Nat) (most : Int) (R : Ending → Heap → Prop) (H : Heap) : vcFun prog h_once f8 [SV.c (SC.v (Value.slice a n c)), SV.c (SC.v (Value.int IntKind.i64 most))] R H = nf_once a n c most R H := by kernel_rfl

theorem le_delO {H H' : Heap} {v : Value} (h : H ≤ H') (hn : ∀ b, blockOf v = some b → H b = none) : H ≤ H'.delO (blockOf v) := fun b o e => by
  cases hb : blockOf v with
  | none => exact h b o e
  | some b' =>
    show (if b = b' then none else H' b) = some o
    rw [if_neg (by rintro rfl; rw [hn b hb] at e; cases e)]
    exact h b o e
theorem fresh_le {H H' : Heap} {v : Value} (h : H ≤ H') (hn : ∀ b, blockOf v = some b → H' b = none) : ∀ b, blockOf v = some b → H b = none := fun b hb => by
  cases e : H b with
  | none => rfl
  | some o => have := h b o e; rw [hn b hb] at this; cases this
instance (p : Pt) : Decidable (ptOK p) := by unfold ptOK; infer_instance
/-- Points that may be, the first of each Id, at most so many. -/
def onceStep (most : Int) (acc : List Pt) (p : Pt) : List Pt := if (acc.length : Int) < most ∧ ptOK p ∧ p.id ∉ acc.map Pt.id then acc ++ [p] else acc
def onceP (most : Int) (l : List Pt) : List Pt := l.foldl (onceStep most) []
structure OnceOK (most : Int) (l acc : List Pt) : Prop where
  ok : ∀ p ∈ acc, ptOK p
  dist : (acc.map Pt.id).Nodup
  few : acc = [] ∨ (acc.length : Int) ≤ most
  mem : ∀ p ∈ acc, p ∈ l
theorem onceP_snoc (most : Int) (l : List Pt) (p : Pt) : onceP most (l ++ [p]) = onceStep most (onceP most l) p := by simp [onceP, List.foldl_append]
theorem once_step {most : Int} {l acc : List Pt} (h : OnceOK most l acc) (p : Pt) : OnceOK most (l ++ [p]) (onceStep most acc p) := by
  unfold onceStep
  split
  · rename_i hc
    refine ⟨fun q hq => ?_, ?_, .inr (by simp; omega), fun q hq => ?_⟩
    · rcases List.mem_append.1 hq with hq | hq
      · exact h.ok q hq
      · simp at hq; subst hq; exact hc.2.1
    · rw [List.map_append, List.nodup_append]
      exact ⟨h.dist, by simp, fun a ha b hb => by simp at hb; subst hb; rintro rfl; exact hc.2.2 ha⟩
    · rcases List.mem_append.1 hq with hq | hq
      · exact List.mem_append_left _ (h.mem q hq)
      · exact List.mem_append_right _ hq
  · exact ⟨h.ok, h.dist, h.few, fun q hq => List.mem_append_left _ (h.mem q hq)⟩
theorem once_ok (most : Int) (l : List Pt) : OnceOK most l (onceP most l) := by
  suffices H : ∀ (r l acc : List Pt), OnceOK most l acc → OnceOK most (l ++ r) (r.foldl (onceStep most) acc) by
    have := H l [] [] ⟨by simp, by simp, .inl rfl, by simp⟩
    simpa [onceP] using this
  intro r
  induction r with
  | nil => intro l acc h; simpa using h
  | cons p r ih =>
    intro l acc h
    have := ih (l ++ [p]) _ (once_step h p)
    simpa using this
theorem once_full {most : Int} {acc : List Pt} (h : most ≤ acc.length) (r : List Pt) : r.foldl (onceStep most) acc = acc := by
  induction r with
  | nil => rfl
  | cons p r ih => rw [List.foldl_cons]; unfold onceStep; rw [if_neg (by omega)]; exact ih
theorem has_first {H : Heap} {A : Addr} {x : Value} {l : List Value} (g : H.has A (x :: l)) : H.has A [x] := fun j y hj => g j y (by
  cases j with
  | zero => simpa using hj
  | succ j => simp at hj)
theorem has_one {H : Heap} {A : Addr} {l : List Value} {k : Nat} {x : Value} (g : H.has A l) (h : l[k]? = some x) (hs : A.spot = none) : H.has (A.add k) [x] := fun j y hj => by
  cases j with
  | zero => simp at hj; subst hj; rw [add0]; exact g k _ h
  | succ j => simp at hj
section
variable {R : Ending → Heap → Prop} {H : Heap}
theorem pr_fld {a : Option Addr} {n c : Nat} {l : List Pt} (h : SliceAt H (.slice a n c) 4 (pts l)) {i : Nat} {p : Pt} (he : l[i]? = some p) :
    ∃ A, a = some A ∧ H.has (A.add (i * 4)) (ptC p) ∧ H.has ((A.add (i * 4)).add 0) [vi p.id] ∧ H.has ((A.add (i * 4)).add 1) [.int .u32 p.x] ∧ H.has ((A.add (i * 4)).add 2) [.int .u32 p.y] ∧ H.has ((A.add (i * 4)).add 3) [.string p.data] := by
  obtain ⟨A, h1, h0, h2⟩ := slice_get h (i := i) (e := ptC p) (by simp [pts, he])
  have hs : (A.add (i * 4)).spot = none := by rw [add_spot h0]
  exact ⟨A, h1, h2, has_one h2 rfl hs, has_one h2 rfl hs, has_one h2 rfl hs, has_one h2 rfl hs⟩
theorem s_once {v : Value} {l : List Pt} {most : Int} (h : SliceAt H v 4 (pts l)) (hm : most ≤ 1000000) (hl : l.length ≤ 10000000000000) (k : ∀ v H', H ≤ H' → (∀ b, blockOf v = some b → H b = none) → RowAt H' v tPt 4 (pts (onceP most l)) → R (.returned v) H') :
    Meets prog 8 [v, vi most] H R := by
  obtain ⟨a, n, c, e, hn⟩ := h
  subst e
  have h : SliceAt H (.slice a n c) 4 (pts l) := ⟨a, n, c, rfl, hn⟩
  have hln : l.length = n := by simpa [pts] using hn.1
  refine spec_of func8 (by kernel_rfl) (fun t h => by cases h) ?_ (vc_once a n c most R H) ?_
  · simp [argsR, SV.rep, SC.rep, one]
  unfold nf_once
  simp only [true_and]
  refine ⟨fun p H' => ∃ t : Nat, p.1.1 = pts (onceP most (l.take t)) ∧ p.1.2.1 = cells ((onceP most (l.take t)).map Pt.id) ∧ p.1.2.2.1 = (t : Int) ∧ t ≤ n ∧ H ≤ H', fun p _ => (n - p.1.2.2.1).toNat, ⟨0, by simp [onceP], by simp [onceP], rfl, by omega, heap_refl _⟩, ?_⟩
  rintro ⟨⟨e1, e2, i, _⟩, _⟩ H1 ⟨t, h1, h2, hi, ht, hle⟩
  simp only at h1 h2 hi ⊢
  subst h1; subst h2; subst hi
  have hok := once_ok most (l.take t)
  generalize hacc : onceP most (l.take t) = acc at *
  have hpl : (pts acc).length = acc.length := by simp [pts]
  have hfew : acc.length ≤ 1000000 := by rcases hok.few with h | h; simp [h]; omega
  have h' := slice_le h hle
  have fin : onceP most l = acc → ∀ (v : Value) (H' : Heap), H1 ≤ H' → (∀ b, blockOf v = some b → H1 b = none) → (∀ (b : Nat) (o : Obj), H' b = some o → H1 b = some o ∨ blockOf v = some b) → RowAt H' v tPt 4 (pts acc) → R (.returned v) H' := fun e v H' a b _ d => by
    rw [e] at k
    exact k v H' (heap_trans hle a) (fresh_le hle b) d
  refine br (fun q => br (fun q1 => ?_) fun q1 => ?_) fun q => ?_
  · simp only [decide_eq_true_eq] at q q1
    obtain ⟨x, hd, htk, hx⟩ := drop_cons (l := l) (k := t) (by omega)
    obtain ⟨A, e, g, g0, g1, g2, g3⟩ := pr_fld h' (i := t) hx
    subst e
    have hs : onceP most (l.take (t + 1)) = onceStep most acc x := by rw [htk, onceP_snoc, hacc]
    rw [w64 (k := (t : Int) + 1) (by omega), Int.toNat_natCast]
    have skip : ¬ ((acc.length : Int) < most ∧ ptOK x ∧ x.id ∉ acc.map Pt.id) → onceP most (l.take (t + 1)) = acc := fun h => by
      rw [hs]; unfold onceStep; rw [if_neg h]
    refine ⟨⟨by omega, by omega⟩, ptr rfl (ptr rfl (ptr rfl ⟨_, g0, br (fun q2 => ?_) fun q2 => ?_⟩))⟩
    · refine ⟨⟨by omega, by omega⟩, ptr rfl (ptr rfl (ptr rfl ⟨_, g0, br (fun q3 => ?_) fun q3 => ?_⟩))⟩
      · refine ⟨⟨by omega, by omega⟩, ptr rfl (ptr rfl (ptr rfl ⟨_, g3, br (fun q4 => ?_) fun q4 => ?_⟩))⟩
        · refine ⟨⟨by omega, by omega⟩, ptr rfl (ptr rfl (ptr rfl ⟨_, g0, fun v H2 f1 f2 f3 f4 => ?_⟩))⟩
          refine s_in (row_slice f4) (by simpa using hfew) ⟨_, rfl, _, f4, ?_⟩
          have hle2 := le_delO (heap_trans hle f1) (fresh_le hle f2)
          have h2 := slice_le h hle2
          obtain ⟨A', e, g', g0', _⟩ := pr_fld h2 (i := t) hx
          cases e
          simp only [decide_eq_true_eq] at q2 q3 q4
          refine br (fun q5 => ?_) fun q5 => ?_
          · have e : onceP most (l.take (t + 1)) = acc ++ [x] := by
              rw [hs]; unfold onceStep
              rw [if_pos ⟨by simpa [pts] using q1, ⟨by omega, by omega, by omega⟩, by simpa using q5⟩]
            refine ⟨⟨by omega, by omega⟩, ptr rfl (ptr rfl ⟨_, _, _, _, g', ⟨by omega, by omega⟩, ptr rfl (ptr rfl (ptr rfl ⟨_, g0', ?_, ?_, ⟨t + 1, ?_, ?_, by omega, by omega, hle2⟩, by omega⟩))⟩)⟩
            · simp [pts]; omega
            · simp [cells]; omega
            · rw [e]; simp [pts]
            · rw [e]; simp [cells]
          · have e := skip (by simp at q5 ⊢; intros; exact q5)
            exact ⟨⟨t + 1, by rw [e], by rw [e], by omega, by omega, hle2⟩, by omega⟩
        · have e := skip (by simp [ptOK] at q4 ⊢; intros; omega)
          exact ⟨⟨t + 1, by rw [e], by rw [e], by omega, by omega, hle⟩, by omega⟩
      · have e := skip (by simp [ptOK] at q3 ⊢; intros; omega)
        exact ⟨⟨t + 1, by rw [e], by rw [e], by omega, by omega, hle⟩, by omega⟩
    · have e := skip (by simp [ptOK] at q2 ⊢; intros; omega)
      exact ⟨⟨t + 1, by rw [e], by rw [e], by omega, by omega, hle⟩, by omega⟩
  · simp only [decide_eq_false_iff_not] at q1
    refine fin ?_
    have : onceP most l = (l.drop t).foldl (onceStep most) acc := by
      rw [← hacc]; unfold onceP; rw [← List.foldl_append, List.take_append_drop]
    rw [this, once_full (by simpa [pts] using q1)]
  · simp only [decide_eq_false_iff_not] at q
    refine fin ?_
    rw [← hacc, List.take_of_length_le (by omega)]
end
end Cr

set_option linter.unusedVariables false
set_option linter.unusedSimpArgs false
namespace Cr
open Go Sx Stb Bt
open Go.Sort (SWO)
open Go.Proofs.Try
set_option linter.unusedSectionVars false
variable [Dr]
set_option maxRecDepth 100000
abbrev grA (g : Option Addr) : SV := .agg [.c (.v (.pointer g))]
def h_pan : Hints := { pan := true }
def h_grow : Hints := { pan := true, loops := [(5, ⟨[1, 3, 4, 6, 8], [.f 23 (.int .i64)], [.keep 4, .keep 6, .box 8 37 [.f .bool, .f .slc, .f (.int .i64), .ints .i64 4, .ints .i64 4]]⟩)] }
def nf_need (b : Bool) (e : Int) (R : Ending → Heap → Prop) (H : Heap) : Prop := Br (!b) (R (Ending.panicked [{ v := Value.iface (87 : Nat) (Value.agg { toList := [Value.int IntKind.i64 e] }), recovered := false }]) H) (R (Ending.returned (Value.tuple { toList := [] })) H)
theorem vc_need (b : Bool) (e : Int) (R : Ending → Heap → Prop) (H : Heap) : vcFun prog h_pan f61 [SV.c (SC.v (Value.bool b)), SV.c (SC.v (Value.int IntKind.i64 e))] R H = nf_need b e R H := by kernel_rfl

def nf_gput (g : Option Addr) (id : Int) (lf : Bool) (a : Option Addr) (n : Nat) (c : Nat) (nx : Int) (ks : List Int) (cs : List Int) (R : Ending → Heap → Prop) (H : Heap) : Prop := Meets prog (16 : Nat) [Value.pointer g, Value.int IntKind.i64 id, Value.agg { toList := Value.bool lf :: Value.slice a n c :: Value.int IntKind.i64 nx :: List.append (List.map (Value.int IntKind.i64) ks) (List.map (Value.int IntKind.i64) cs ++ []) }] H fun (e : Ending) (H' : Nat → Option Obj) ↦ (∃ (n : Int), e = Ending.returned (Value.int IntKind.i64 n) ∧ Meets prog (61 : Nat) [Value.bool (n == (0 : Int)), Value.int IntKind.i64 (21 : Int)] H' fun (e : Ending) (H' : Nat → Option Obj) ↦ e = Ending.returned (Value.tuple { toList := [] }) ∧ R (Ending.returned (Value.tuple { toList := [] })) H' ∨ ∃ (c : List PanicEntry), e = Ending.panicked c ∧ R (Ending.panicked c) H') ∨ ∃ (c : List PanicEntry), e = Ending.panicked c ∧ R (Ending.panicked c) H'
theorem vc_gput (g : Option Addr) (id : Int) (lf : Bool) (a : Option Addr) (n : Nat) (c : Nat) (nx : Int) (ks : List Int) (cs : List Int) (R : Ending → Heap → Prop) (H : Heap) : vcFun prog h_pan f48 [grA g, SV.c (SC.v (Value.int IntKind.i64 id)), ndA lf a n c nx ks cs] R H = nf_gput g id lf a n c nx ks cs R H := by kernel_rfl

def nf_gfresh (g : Option Addr) (R : Ending → Heap → Prop) (H : Heap) : Prop := Meets prog (14 : Nat) [Value.pointer g] H fun (e : Ending) (H' : Nat → Option Obj) ↦ (∃ (n : Int), ∃ (n_1 : Int), e = Ending.returned (Value.tuple { toList := [Value.int IntKind.i64 n, Value.int IntKind.i64 n_1] }) ∧ Meets prog (61 : Nat) [Value.bool (n_1 == (0 : Int)), Value.int IntKind.i64 n_1] H' fun (e : Ending) (H' : Nat → Option Obj) ↦ (e = Ending.returned (Value.tuple { toList := [] }) ∧ Meets prog (48 : Nat) [Value.agg { toList := [Value.pointer g] }, Value.int IntKind.i64 n, Value.agg { toList := [Value.bool true, Value.slice none (0 : Nat) (0 : Nat), Value.int IntKind.i64 (0 : Int), Value.int IntKind.i64 (0 : Int), Value.int IntKind.i64 (0 : Int), Value.int IntKind.i64 (0 : Int), Value.int IntKind.i64 (0 : Int), Value.int IntKind.i64 (0 : Int), Value.int IntKind.i64 (0 : Int), Value.int IntKind.i64 (0 : Int), Value.int IntKind.i64 (0 : Int)] }] H' fun (e : Ending) (H' : Nat → Option Obj) ↦ e = Ending.returned (Value.tuple { toList := [] }) ∧ R (Ending.returned (Value.int IntKind.i64 n)) H' ∨ ∃ (c : List PanicEntry), e = Ending.panicked c ∧ R (Ending.panicked c) H') ∨ ∃ (c : List PanicEntry), e = Ending.panicked c ∧ R (Ending.panicked c) H') ∨ ∃ (c : List PanicEntry), e = Ending.panicked c ∧ R (Ending.panicked c) H'
theorem vc_gfresh (g : Option Addr) (R : Ending → Heap → Prop) (H : Heap) : vcFun prog h_pan f46 [grA g] R H = nf_gfresh g R H := by kernel_rfl

def nf_chain (g : Option Addr) (id : Int) (a : Option Addr) (n : Nat) (c : Nat) (R : Ending → Heap → Prop) (H : Heap) : Prop := ((0 : Int) ≤ minI (↑n : Int) (4 : Int) ∧ minI (↑n : Int) (4 : Int) ≤ (↑c : Int)) ∧ ((0 : Int) ≤ (↑(Int.toNat (minI (↑n : Int) (4 : Int)) - (0 : Nat)) : Int) ∧ (↑(Int.toNat (minI (↑n : Int) (4 : Int)) - (0 : Nat)) : Int) ≤ (↑n : Int)) ∧ Br (decide ((↑(n - Int.toNat (↑(Int.toNat (minI (↑n : Int) (4 : Int)) - (0 : Nat)) : Int)) : Int) > (0 : Int))) (Meets prog (46 : Nat) [Value.agg { toList := [Value.pointer g] }] H fun (e : Ending) (H' : Nat → Option Obj) ↦ (∃ (n_1 : Int), e = Ending.returned (Value.int IntKind.i64 n_1) ∧ Meets prog (42 : Nat) [Value.agg { toList := [Value.pointer g] }, Value.int IntKind.i64 n_1, Value.slice (subAddr a c (Int.toNat (↑(Int.toNat (minI (↑n : Int) (4 : Int)) - (0 : Nat)) : Int)) (4 : Nat)) (n - Int.toNat (↑(Int.toNat (minI (↑n : Int) (4 : Int)) - (0 : Nat)) : Int)) (c - Int.toNat (↑(Int.toNat (minI (↑n : Int) (4 : Int)) - (0 : Nat)) : Int))] H' fun (e : Ending) (H' : Nat → Option Obj) ↦ (e = Ending.returned (Value.tuple { toList := [] }) ∧ Meets prog (48 : Nat) [Value.agg { toList := [Value.pointer g] }, Value.int IntKind.i64 id, Value.agg { toList := [Value.bool true, Value.slice (subAddr a c (0 : Nat) (4 : Nat)) (Int.toNat (minI (↑n : Int) (4 : Int)) - (0 : Nat)) (c - (0 : Nat)), Value.int IntKind.i64 n_1, Value.int IntKind.i64 (0 : Int), Value.int IntKind.i64 (0 : Int), Value.int IntKind.i64 (0 : Int), Value.int IntKind.i64 (0 : Int), Value.int IntKind.i64 (0 : Int), Value.int IntKind.i64 (0 : Int), Value.int IntKind.i64 (0 : Int), Value.int IntKind.i64 (0 : Int)] }] H' fun (e : Ending) (H' : Nat → Option Obj) ↦ e = Ending.returned (Value.tuple { toList := [] }) ∧ R (Ending.returned (Value.tuple { toList := [] })) H' ∨ ∃ (c : List PanicEntry), e = Ending.panicked c ∧ R (Ending.panicked c) H') ∨ ∃ (c : List PanicEntry), e = Ending.panicked c ∧ R (Ending.panicked c) H') ∨ ∃ (c : List PanicEntry), e = Ending.panicked c ∧ R (Ending.panicked c) H') (Meets prog (48 : Nat) [Value.agg { toList := [Value.pointer g] }, Value.int IntKind.i64 id, Value.agg { toList := [Value.bool true, Value.slice (subAddr a c (0 : Nat) (4 : Nat)) (Int.toNat (minI (↑n : Int) (4 : Int)) - (0 : Nat)) (c - (0 : Nat)), Value.int IntKind.i64 (0 : Int), Value.int IntKind.i64 (0 : Int), Value.int IntKind.i64 (0 : Int), Value.int IntKind.i64 (0 : Int), Value.int IntKind.i64 (0 : Int), Value.int IntKind.i64 (0 : Int), Value.int IntKind.i64 (0 : Int), Value.int IntKind.i64 (0 : Int), Value.int IntKind.i64 (0 : Int)] }] H fun (e : Ending) (H' : Nat → Option Obj) ↦ e = Ending.returned (Value.tuple { toList := [] }) ∧ R (Ending.returned (Value.tuple { toList := [] })) H' ∨ ∃ (c : List PanicEntry), e = Ending.panicked c ∧ R (Ending.panicked c) H')
theorem vc_chain (g : Option Addr) (id : Int) (a : Option Addr) (n : Nat) (c : Nat) (R : Ending → Heap → Prop) (H : Heap) : vcFun prog h_pan f42 [grA g, SV.c (SC.v (Value.int IntKind.i64 id)), SV.c (SC.v (Value.slice a n c))] R H = nf_chain g id a n c R H := by kernel_rfl

def nf_grow1 (b1 : Addr) (b2 : Addr) (i : Int) (x : Int) (y : Int) (d : ByteArray) (R : Ending → Heap → Prop) (H : Heap) : Prop := ∃ (G : Nat → Option Obj), G ≤ H ∧ PtrK (some b1) fun (a : Addr) ↦ ∃ (n : Int), ∃ (n_1 : Int), ∃ (n_2 : Int), Heap.has G a [Value.int IntKind.u32 n, Value.int IntKind.u32 n_1, Value.int IntKind.i64 n_2] ∧ PtrK (some b2) fun (a : Addr) ↦ ∃ (n_3 : Int), Heap.has G a [Value.int IntKind.i64 n_3] ∧ Meets prog (45 : Nat) [Value.agg { toList := [Value.int IntKind.u32 n, Value.int IntKind.u32 n_1, Value.int IntKind.i64 n_2] }, Value.int IntKind.u32 x, Value.int IntKind.u32 y] H fun (e : Ending) (H' : Nat → Option Obj) ↦ Keep G H H H' ∧ ∃ (n : Int), e = Ending.returned (Value.int IntKind.i64 n) ∧ R (Ending.returned (Value.bool (n != n_3))) (delLs H' [])
theorem vc_grow1 (b1 : Addr) (b2 : Addr) (i : Int) (x : Int) (y : Int) (d : ByteArray) (R : Ending → Heap → Prop) (H : Heap) : vcFun prog { } f44 [ptA i x y d, SV.c (SC.v (Value.pointer (some b1))), SV.c (SC.v (Value.pointer (some b2)))] R H = nf_grow1 b1 b2 i x y d R H := by kernel_rfl

def nf_grow (g : Option Addr) (id : Int) (x : Int) (y : Int) (lv : Int) (a : Option Addr) (n : Nat) (c : Nat) (R : Ending → Heap → Prop) (H : Heap) : Prop := Br (decide ((↑n : Int) ≤ (4 : Int))) (Meets prog (42 : Nat) [Value.agg { toList := [Value.pointer g] }, Value.int IntKind.i64 id, Value.slice a n c] H fun (e : Ending) (H' : Nat → Option Obj) ↦ e = Ending.returned (Value.tuple { toList := [] }) ∧ R (Ending.returned (Value.tuple { toList := [] })) H' ∨ ∃ (c : List PanicEntry), e = Ending.panicked c ∧ R (Ending.panicked c) H') (Br (lv == (32 : Int)) (Meets prog (42 : Nat) [Value.agg { toList := [Value.pointer g] }, Value.int IntKind.i64 id, Value.slice a n c] H fun (e : Ending) (H' : Nat → Option Obj) ↦ e = Ending.returned (Value.tuple { toList := [] }) ∧ R (Ending.returned (Value.tuple { toList := [] })) H' ∨ ∃ (c : List PanicEntry), e = Ending.panicked c ∧ R (Ending.panicked c) H') (id = id ∧ a = a ∧ n = n ∧ c = c ∧ (0 : Nat) = (0 : Nat) ∧ (0 : Nat) = (0 : Nat) ∧ (0 : Nat) = (0 : Nat) ∧ g = g ∧ x = x ∧ y = y ∧ lv = lv ∧ LoopP (fun (K : (Int × PUnit) × PUnit × PUnit × (Bool × (Option Addr × Nat × Nat) × Int × List Int × List Int × PUnit) × PUnit → (Nat → Option Obj) → Prop) (p : (Int × PUnit) × PUnit × PUnit × (Bool × (Option Addr × Nat × Nat) × Int × List Int × List Int × PUnit) × PUnit) (H : Nat → Option Obj) ↦ Br (decide (p.fst.fst < (4 : Int))) (Meets prog (38 : Nat) [Value.slice a n c] H fun (e : Ending) (H' : Nat → Option Obj) ↦ (∃ (a_1 : Option Addr), ∃ (n_1 : Nat), ∃ (c_1 : Nat), e = Ending.returned (Value.slice a_1 n_1 c_1) ∧ ∀ (b : Nat), H' b = none → ∀ (b_1 : Nat), Heap.upd H' b (Obj.cells { toList := [Value.int IntKind.u32 x, Value.int IntKind.u32 y, Value.int IntKind.i64 lv] } (61 : Nat)) b_1 = none → Meets prog (43 : Nat) [Value.slice a_1 n_1 c_1, Value.func (Fn.func (44 : Nat)) { toList := [] } { toList := [Value.pointer (some { block := b, off := (0 : Nat) }), Value.pointer (some { block := b_1, off := (0 : Nat) })] }] (Heap.upd (Heap.upd H' b (Obj.cells { toList := [Value.int IntKind.u32 x, Value.int IntKind.u32 y, Value.int IntKind.i64 lv] } (61 : Nat))) b_1 (Obj.cells { toList := [Value.int IntKind.i64 p.fst.fst] } (3 : Nat))) fun (e : Ending) (H' : Nat → Option Obj) ↦ (∃ (a_4 : Option Addr), ∃ (n_2 : Nat), ∃ (c_2 : Nat), e = Ending.returned (Value.slice a_4 n_2 c_2) ∧ ∃ (n_3 : Int), ∃ (n_4 : Int), ∃ (n_5 : Int), (∃ (b_2 : Nat), blockOf (Value.pointer (some { block := b, off := (0 : Nat) })) = some b_2 ∧ H' b_2 = some (Obj.cells { toList := [Value.int IntKind.u32 n_3, Value.int IntKind.u32 n_4, Value.int IntKind.i64 n_5] } (61 : Nat))) ∧ ∃ (n_6 : Int), (∃ (b_2 : Nat), blockOf (Value.pointer (some { block := b_1, off := (0 : Nat) })) = some b_2 ∧ Heap.delO H' (blockOf (Value.pointer (some { block := b, off := (0 : Nat) }))) b_2 = some (Obj.cells { toList := [Value.int IntKind.i64 n_6] } (3 : Nat))) ∧ Br (decide ((↑n_2 : Int) > (0 : Int))) (∃ (G : Nat → Option Obj), G ≤ Heap.delO (Heap.delO H' (blockOf (Value.pointer (some { block := b, off := (0 : Nat) })))) (blockOf (Value.pointer (some { block := b_1, off := (0 : Nat) }))) ∧ Meets prog (46 : Nat) [Value.agg { toList := [Value.pointer g] }] (Heap.delO (Heap.delO H' (blockOf (Value.pointer (some { block := b, off := (0 : Nat) })))) (blockOf (Value.pointer (some { block := b_1, off := (0 : Nat) })))) fun (e : Ending) (H'_1 : Nat → Option Obj) ↦ (Keep G (Heap.delO (Heap.delO H' (blockOf (Value.pointer (some { block := b, off := (0 : Nat) })))) (blockOf (Value.pointer (some { block := b_1, off := (0 : Nat) })))) (Heap.delO (Heap.delO H' (blockOf (Value.pointer (some { block := b, off := (0 : Nat) })))) (blockOf (Value.pointer (some { block := b_1, off := (0 : Nat) })))) H'_1 ∧ ∃ (n_7 : Int), e = Ending.returned (Value.int IntKind.i64 n_7) ∧ ((0 : Int) ≤ n_6 ∧ n_6 < (↑(4 : Nat) : Int)) ∧ ((0 : Int) ≤ n_6 ∧ n_6 < (↑(4 : Nat) : Int)) ∧ ∃ (G : Nat → Option Obj), G ≤ delLs H'_1 [] ∧ ((0 : Int) ≤ n_6 ∧ n_6 < (↑(4 : Nat) : Int)) ∧ Meets prog (47 : Nat) [Value.agg { toList := [Value.int IntKind.u32 n_3, Value.int IntKind.u32 n_4, Value.int IntKind.i64 n_5] }, Value.int IntKind.i64 n_6] (delLs H'_1 []) fun (e : Ending) (H' : Nat → Option Obj) ↦ (Keep G (delLs H'_1 []) (delLs H'_1 []) H' ∧ ∃ (n_8 : Int), ∃ (n_9 : Int), ∃ (n_10 : Int), e = Ending.returned (Value.agg { toList := [Value.int IntKind.u32 n_8, Value.int IntKind.u32 n_9, Value.int IntKind.i64 n_10] }) ∧ Meets prog (27 : Nat) [Value.agg { toList := [Value.pointer g] }, Value.int IntKind.i64 (List.getD (List.set p.snd.snd.snd.fst.snd.snd.snd.fst (Int.toNat n_6) n_7) (Int.toNat n_6) (0 : Int)), Value.agg { toList := [Value.int IntKind.u32 n_8, Value.int IntKind.u32 n_9, Value.int IntKind.i64 n_10] }, Value.slice a_4 n_2 c_2] (delLs H' []) fun (e : Ending) (H'_2 : Nat → Option Obj) ↦ Keep G (delLs H' []) (delLs H' []) H'_2 ∧ e = Ending.returned (Value.tuple { toList := [] }) ∧ id = id ∧ a = a ∧ n = n ∧ c = c ∧ (0 : Nat) = (0 : Nat) ∧ (0 : Nat) = (0 : Nat) ∧ (0 : Nat) = (0 : Nat) ∧ g = g ∧ n_3 = x ∧ n_4 = y ∧ n_5 = lv ∧ K ((IntKind.wrap IntKind.i64 (p.fst.fst + (1 : Int)), PUnit.unit), PUnit.unit, PUnit.unit, (p.snd.snd.snd.fst.fst, (p.snd.snd.snd.fst.snd.fst.1, p.snd.snd.snd.fst.snd.fst.snd.fst, p.snd.snd.snd.fst.snd.fst.snd.snd), p.snd.snd.snd.fst.snd.snd.fst, List.set p.snd.snd.snd.fst.snd.snd.snd.fst (Int.toNat n_6) n_7, List.set p.snd.snd.snd.fst.snd.snd.snd.snd.fst (Int.toNat n_6) (↑n_2 : Int), PUnit.unit), PUnit.unit) (delLs H'_2 []) ∨ ∃ (c : List PanicEntry), e = Ending.panicked c ∧ R (Ending.panicked c) H'_2) ∨ ∃ (c : List PanicEntry), e = Ending.panicked c ∧ R (Ending.panicked c) H') ∨ ∃ (c : List PanicEntry), e = Ending.panicked c ∧ R (Ending.panicked c) H'_1) (id = id ∧ a = a ∧ n = n ∧ c = c ∧ (0 : Nat) = (0 : Nat) ∧ (0 : Nat) = (0 : Nat) ∧ (0 : Nat) = (0 : Nat) ∧ g = g ∧ n_3 = x ∧ n_4 = y ∧ n_5 = lv ∧ K ((IntKind.wrap IntKind.i64 (p.fst.fst + (1 : Int)), PUnit.unit), PUnit.unit, PUnit.unit, (p.snd.snd.snd.fst.fst, (p.snd.snd.snd.fst.snd.fst.1, p.snd.snd.snd.fst.snd.fst.snd.fst, p.snd.snd.snd.fst.snd.fst.snd.snd), p.snd.snd.snd.fst.snd.snd.fst, p.snd.snd.snd.fst.snd.snd.snd.fst, p.snd.snd.snd.fst.snd.snd.snd.snd.fst, PUnit.unit), PUnit.unit) (Heap.delO (Heap.delO H' (blockOf (Value.pointer (some { block := b, off := (0 : Nat) })))) (blockOf (Value.pointer (some { block := b_1, off := (0 : Nat) })))))) ∨ ∃ (c : List PanicEntry), e = Ending.panicked c ∧ R (Ending.panicked c) H') ∨ ∃ (c : List PanicEntry), e = Ending.panicked c ∧ R (Ending.panicked c) H') (Meets prog (48 : Nat) [Value.agg { toList := [Value.pointer g] }, Value.int IntKind.i64 id, Value.agg { toList := Value.bool p.snd.snd.snd.fst.fst :: Value.slice p.snd.snd.snd.fst.snd.fst.1 p.snd.snd.snd.fst.snd.fst.snd.fst p.snd.snd.snd.fst.snd.fst.snd.snd :: Value.int IntKind.i64 p.snd.snd.snd.fst.snd.snd.fst :: List.append (List.map (Value.int IntKind.i64) p.snd.snd.snd.fst.snd.snd.snd.fst) (List.map (Value.int IntKind.i64) p.snd.snd.snd.fst.snd.snd.snd.snd.fst ++ []) }] H fun (e : Ending) (H' : Nat → Option Obj) ↦ e = Ending.returned (Value.tuple { toList := [] }) ∧ R (Ending.returned (Value.tuple { toList := [] })) H' ∨ ∃ (c : List PanicEntry), e = Ending.panicked c ∧ R (Ending.panicked c) H')) (((0 : Int), PUnit.unit), PUnit.unit, PUnit.unit, (false, (none, (0 : Nat), (0 : Nat)), (0 : Int), [(0 : Int), (0 : Int), (0 : Int), (0 : Int)], [(0 : Int), (0 : Int), (0 : Int), (0 : Int)], PUnit.unit), PUnit.unit) H))
theorem vc_grow (g : Option Addr) (id : Int) (x : Int) (y : Int) (lv : Int) (a : Option Addr) (n : Nat) (c : Nat) (R : Ending → Heap → Prop) (H : Heap) : vcFun prog h_grow f27 [grA g, SV.c (SC.v (Value.int IntKind.i64 id)), ceA x y lv, SV.c (SC.v (Value.slice a n c))] R H = nf_grow g id x y lv a n c R H := by kernel_rfl

end Cr

set_option linter.unusedVariables false
set_option linter.unusedSimpArgs false
namespace Cr
open Go Sx Stb Bt
open Go.Sort (SWO)
set_option linter.unusedSectionVars false
variable [Dr]
abbrev M := Int → Option Nd
@[reducible] def nd1 : Nd := ⟨true, [], 0, z4, z4⟩
abbrev numsL : List Int := (List.range 255).map fun i : Nat => ((i : Int) + 1)
/-- The numbers without a node, rising. -/
def freeL (m : M) : List Int := numsL.filter fun i => (m i).isNone
theorem mem_numsL {i : Int} : i ∈ numsL ↔ 1 ≤ i ∧ i ≤ 255 := by
  rw [List.mem_map]
  constructor
  · rintro ⟨j, h, rfl⟩
    have := List.mem_range.1 h
    omega
  · rintro ⟨h1, h2⟩
    exact ⟨(i - 1).toNat, List.mem_range.2 (by omega), by omega⟩
theorem numsL_rise : numsL.Pairwise (· < ·) := by
  rw [List.pairwise_map]
  exact List.pairwise_lt_range.imp fun h => by omega
theorem mem_freeL {m : M} {i : Int} : i ∈ freeL m ↔ 1 ≤ i ∧ i ≤ 255 ∧ m i = none := by
  unfold freeL
  rw [List.mem_filter, mem_numsL, Option.isNone_iff_eq_none]
  constructor <;> rintro h <;> simp_all
theorem freeL_rise (m : M) : (freeL m).Pairwise (· < ·) := numsL_rise.filter _
/-- Rising lists with the same numbers are one. -/
theorem rise_ext : ∀ {l l' : List Int}, l.Pairwise (· < ·) → l'.Pairwise (· < ·) → (∀ x, x ∈ l ↔ x ∈ l') → l = l'
  | [], [], _, _, _ => rfl
  | [], y :: l', _, _, h => by have := (h y).2 (List.mem_cons_self ..); cases this
  | x :: l, [], _, _, h => by have := (h x).1 (List.mem_cons_self ..); cases this
  | x :: l, y :: l', h1, h2, h => by
    rw [List.pairwise_cons] at h1 h2
    have hxy : x = y := by
      rcases List.mem_cons.1 ((h x).1 (List.mem_cons_self ..)) with e | e
      · exact e
      · rcases List.mem_cons.1 ((h y).2 (List.mem_cons_self ..)) with e' | e'
        · exact e'.symm
        · have a := h2.1 x e
          have b := h1.1 y e'
          omega
    subst hxy
    rw [rise_ext h1.2 h2.2 fun z => ?_]
    have hz := h z
    simp only [List.mem_cons] at hz
    constructor
    · intro hm
      rcases hz.1 (.inr hm) with e | e
      · subst e; have := h1.1 z hm; omega
      · exact e
    · intro hm
      rcases hz.2 (.inr hm) with e | e
      · subst e; have := h2.1 z hm; omega
      · exact e
theorem freeL_set {m : M} {i : Int} {d : Nd} (h : m i ≠ none) : freeL (setM m i d) = freeL m := by
  refine rise_ext (freeL_rise _) (freeL_rise _) fun x => ?_
  rw [mem_freeL, mem_freeL]
  unfold setM
  split
  · subst_vars; simp [h]
  · rfl
theorem freeL_take {m : M} {i : Int} {r : List Int} {d : Nd} (h : freeL m = i :: r) : freeL (setM m i d) = r := by
  have hr := freeL_rise m
  rw [h, List.pairwise_cons] at hr
  refine rise_ext (freeL_rise _) hr.2 fun x => ?_
  have hx : x ∈ freeL m ↔ x = i ∨ x ∈ r := by rw [h, List.mem_cons]
  rw [mem_freeL] at hx ⊢
  unfold setM
  split
  · rename_i e
    subst e
    simp only [reduceCtorEq, and_false, false_iff]
    intro hm
    have := hr.1 x hm
    omega
  · rename_i e
    rw [hx]
    simp [e]
theorem setM_same {m : M} {i : Int} {d : Nd} : setM m i d i = some d := by simp [setM]
theorem setM_ne {m : M} {i j : Int} {d : Nd} (h : j ≠ i) : setM m i d j = m j := by simp [setM, h]
/-! ### Growing -/
def chainF (m : M) (id : Int) (L : List Pt) : Option M :=
  if h : L.length ≤ 4 then some (setM m id ⟨true, L, 0, z4, z4⟩)
  else match (freeL m).head? with
    | none => none
    | some nx => (chainF (setM m nx nd1) nx (L.drop 4)).map fun m' => setM m' id ⟨true, L.take 4, nx, z4, z4⟩
termination_by L.length
decreasing_by simp; omega
abbrev quarter (h : Nat) (q : Nat) (L : List Pt) : List Pt := L.filter fun p => qt h p == (q : Int)
/-- One quarter of a cell is grown. -/
def stepF (g : M → Int → List Pt → Option M) (h : Nat) (L : List Pt) (q : Nat) (s : M × List Int × List Int) : Option (M × List Int × List Int) :=
  if quarter h q L = [] then some s
  else match (freeL s.1).head? with
    | none => none
    | some k => (g (setM s.1 k nd1) k (quarter h q L)).map fun m' => (m', s.2.1.set q k, s.2.2.set q (quarter h q L).length)
def stepsF (g : M → Int → List Pt → Option M) (h : Nat) (L : List Pt) : Nat → M → Option (M × List Int × List Int)
  | 0, m => some (m, z4, z4)
  | q + 1, m => (stepsF g h L q m).bind (stepF g h L q)
def growF : Nat → M → Int → List Pt → Option M
  | 0, m, id, L => chainF m id L
  | h + 1, m, id, L => if L.length ≤ 4 then chainF m id L
    else (stepsF (growF h) h L 4 m).map fun s => setM s.1 id ⟨false, [], 0, s.2.1, s.2.2⟩
/-! ### What a tree is -/
/-- Points at one place, four by four. -/
def ChP (m : M) : List Int → List Pt → Prop
  | [], _ => False
  | [id], L => L.length ≤ 4 ∧ m id = some ⟨true, L, 0, z4, z4⟩
  | id :: nx :: r, L => 4 < L.length ∧ m id = some ⟨true, L.take 4, nx, z4, z4⟩ ∧ ChP m (nx :: r) (L.drop 4)
def SubP (T : Int → List Pt → List Int → Prop) (k c : Int) (L : List Pt) (I : List Int) : Prop :=
  (L = [] ∧ k = 0 ∧ c = 0 ∧ I = []) ∨ (L ≠ [] ∧ 1 ≤ k ∧ c = L.length ∧ T k L I)
/-- The tree of points below a node of a cell of height h; the numbers of its nodes. -/
def TrP (m : M) : Nat → Int → List Pt → List Int → Prop
  | 0, id, L, I => I.head? = some id ∧ ChP m I L
  | h + 1, id, L, I => if L.length ≤ 4 then I = [id] ∧ ChP m I L
    else ∃ (ks cs : List Int) (J : Nat → List Int), m id = some ⟨false, [], 0, ks, cs⟩ ∧ ks.length = 4 ∧ cs.length = 4 ∧ I = id :: (J 0 ++ (J 1 ++ (J 2 ++ J 3))) ∧
      ∀ q : Nat, q < 4 → SubP (TrP m h) (ks.getD q 0) (cs.getD q 0) (quarter h q L) (J q)
def nch (n : Nat) : Nat := if n ≤ 4 then 1 else (n + 3) / 4
def nq (f : List Pt → Nat) (L : List Pt) : Nat := if L = [] then 0 else f L
/-- How many nodes a tree has. -/
def nds : Nat → List Pt → Nat
  | 0, L => nch L.length
  | h + 1, L => if L.length ≤ 4 then 1 else 1 + (nq (nds h) (quarter h 0 L) + (nq (nds h) (quarter h 1 L) + (nq (nds h) (quarter h 2 L) + nq (nds h) (quarter h 3 L))))
theorem nch_pos (n : Nat) : 1 ≤ nch n := by unfold nch; split <;> omega
theorem nch_step {n : Nat} (h : 4 < n) : nch n = nch (n - 4) + 1 := by
  unfold nch
  rw [if_neg (by omega)]
  split <;> omega
theorem nds_pos : ∀ (h : Nat) (L : List Pt), 1 ≤ nds h L
  | 0, L => nch_pos _
  | h + 1, L => by unfold nds; split <;> omega
/-- Some nodes are new, at the least numbers that were free. -/
structure Grew (m m' : M) (T : List Int) : Prop where
  nodup : T.Nodup
  mem : ∀ i, i ∈ T ↔ i ∈ (freeL m).take T.length
  free : freeL m' = (freeL m).drop T.length
  few : T.length ≤ (freeL m).length
  same : ∀ i, i ∉ T → m' i = m i
  there : ∀ i ∈ T, m' i ≠ none
theorem Grew.refl (m : M) : Grew m m [] := ⟨by simp, by simp, by simp, by simp, fun _ _ => rfl, by simp⟩
theorem Grew.was {m m' : M} {T : List Int} (h : Grew m m' T) {i : Int} (hi : i ∈ T) : m i = none := (mem_freeL.1 (List.mem_of_mem_take ((h.mem i).1 hi))).2.2
theorem Grew.range {m m' : M} {T : List Int} (h : Grew m m' T) {i : Int} (hi : i ∈ T) : 1 ≤ i ∧ i ≤ 255 :=
  have := mem_freeL.1 (List.mem_of_mem_take ((h.mem i).1 hi)); ⟨this.1, this.2.1⟩
theorem Grew.off {m m' : M} {T : List Int} (h : Grew m m' T) {i : Int} (hi : m i ≠ none) : i ∉ T := fun hm => hi (h.was hm)
theorem Grew.keep {m m' : M} {T : List Int} (h : Grew m m' T) {i : Int} (hi : m i ≠ none) : m' i = m i := h.same i (h.off hi)
theorem Grew.trans {m m1 m2 : M} {A B : List Int} (h : Grew m m1 A) (h' : Grew m1 m2 B) : Grew m m2 (A ++ B) where
  nodup := List.nodup_append.2 ⟨h.nodup, h'.nodup, fun a ha b hb e => by subst e; exact h.there a ha (h'.was hb)⟩
  mem := fun i => by
    have h2 := h'.mem i
    rw [h.free] at h2
    rw [List.mem_append, h.mem, h2, List.length_append, List.take_add, List.mem_append]
  free := by rw [h'.free, h.free, List.drop_drop, List.length_append]
  few := by
    have := h'.few
    rw [h.free, List.length_drop] at this
    have := h.few
    rw [List.length_append]; omega
  same := fun i hi => by
    rw [List.mem_append, not_or] at hi
    rw [h'.same i hi.2, h.same i hi.1]
  there := fun i hi => by
    rcases List.mem_append.1 hi with hi | hi
    · rw [h'.keep (h.there i hi)]; exact h.there i hi
    · exact h'.there i hi
theorem take_tail {m : M} {i : Int} {r : List Int} (h : freeL m = i :: r) : m i = none ∧ 1 ≤ i ∧ i ≤ 255 ∧ i ∉ r := by
  have h1 := (mem_freeL (m := m) (i := i)).1 (by rw [h]; exact List.mem_cons_self ..)
  have hr := freeL_rise m
  rw [h, List.pairwise_cons] at hr
  exact ⟨h1.2.2, h1.1, h1.2.1, fun hm => by have := hr.1 i hm; omega⟩
/-- A fresh number, and what grows there. -/
theorem Grew.fresh {m m1 : M} {k : Int} {r T : List Int} {d : Nd} (hf : freeL m = k :: r) (h : Grew (setM m k nd1) m1 T) : Grew m (setM m1 k d) (k :: T) := by
  have hfr : freeL (setM m k nd1) = r := freeL_take hf
  obtain ⟨hk, _, _, hkr⟩ := take_tail hf
  have hkT : k ∉ T := h.off (by rw [setM_same]; simp)
  have hk1 : m1 k ≠ none := by rw [h.same k hkT, setM_same]; simp
  refine ⟨List.nodup_cons.2 ⟨hkT, h.nodup⟩, fun i => ?_, ?_, ?_, fun i hi => ?_, fun i hi => ?_⟩
  · have := h.mem i
    rw [hfr] at this
    rw [hf, List.length_cons, List.take_succ_cons, List.mem_cons, List.mem_cons, this]
  · rw [freeL_set hk1, h.free, hfr, hf]; rfl
  · have := h.few
    rw [hfr] at this
    rw [hf, List.length_cons, List.length_cons]; omega
  · rw [List.mem_cons, not_or] at hi
    rw [setM_ne hi.1, h.same i hi.2, setM_ne hi.1]
  · by_cases e : i = k
    · subst e; rw [setM_same]; simp
    · rw [setM_ne e]
      rcases List.mem_cons.1 hi with e' | hi
      · exact absurd e' e
      · exact h.there i hi
theorem ChP_congr {m m' : M} : ∀ {I : List Int} {L : List Pt}, (∀ i ∈ I, m' i = m i) → ChP m I L → ChP m' I L
  | [], _, _, h => h
  | [id], L, e, h => ⟨h.1, by rw [e id (List.mem_cons_self ..)]; exact h.2⟩
  | id :: nx :: r, L, e, h => ⟨h.1, by rw [e id (List.mem_cons_self ..)]; exact h.2.1, ChP_congr (fun i hi => e i (List.mem_cons_of_mem _ hi)) h.2.2⟩
theorem ChP_len {m : M} : ∀ {I : List Int} {L : List Pt}, ChP m I L → I.length = nch L.length
  | [id], L, h => by unfold nch; rw [if_pos h.1]; rfl
  | id :: nx :: r, L, h => by
    have := ChP_len h.2.2
    rw [nch_step h.1]
    simp at this ⊢
    exact this
theorem SubP_congr {T T' : Int → List Pt → List Int → Prop} {k c : Int} {L : List Pt} {I : List Int} (h : T k L I → T' k L I) (hs : SubP T k c L I) : SubP T' k c L I := by
  rcases hs with hs | ⟨h1, h2, h3, h4⟩
  · exact .inl hs
  · exact .inr ⟨h1, h2, h3, h h4⟩
theorem mem_four {α : Type} {J : Nat → List α} {x : α} {q : Nat} (hq : q < 4) (h : x ∈ J q) : x ∈ J 0 ++ (J 1 ++ (J 2 ++ J 3)) := by
  simp only [List.mem_append]
  have : q = 0 ∨ q = 1 ∨ q = 2 ∨ q = 3 := by omega
  rcases this with rfl | rfl | rfl | rfl <;> simp [h]
theorem TrP_congr {m m' : M} : ∀ {h : Nat} {id : Int} {L : List Pt} {I : List Int}, (∀ i ∈ I, m' i = m i) → TrP m h id L I → TrP m' h id L I
  | 0, id, L, I, e, h => ⟨h.1, ChP_congr e h.2⟩
  | n + 1, id, L, I, e, h => by
    unfold TrP at h ⊢
    split
    · rename_i hl
      rw [if_pos hl] at h
      exact ⟨h.1, ChP_congr e h.2⟩
    · rename_i hl
      rw [if_neg hl] at h
      obtain ⟨ks, cs, J, h1, h2, h3, rfl, h4⟩ := h
      refine ⟨ks, cs, J, by rw [e id (List.mem_cons_self ..)]; exact h1, h2, h3, rfl, fun q hq => SubP_congr (TrP_congr fun i hi => e i (List.mem_cons_of_mem _ (mem_four hq hi))) (h4 q hq)⟩
theorem nq_nil (f : List Pt → Nat) : nq f [] = 0 := rfl
theorem nq_some {f : List Pt → Nat} {L : List Pt} (h : L ≠ []) : nq f L = f L := if_neg h
theorem TrP_len {m : M} : ∀ {h : Nat} {id : Int} {L : List Pt} {I : List Int}, TrP m h id L I → I.length = nds h L
  | 0, id, L, I, h => ChP_len h.2
  | n + 1, id, L, I, h => by
    unfold TrP at h
    unfold nds
    split at h
    · rename_i hl
      rw [if_pos hl, h.1]; rfl
    · rename_i hl
      rw [if_neg hl]
      obtain ⟨ks, cs, J, h1, h2, h3, rfl, h4⟩ := h
      have sub : ∀ q, q < 4 → (J q).length = nq (nds n) (quarter n q L) := fun q hq => by
        rcases h4 q hq with ⟨e1, _, _, e4⟩ | ⟨e1, _, _, e4⟩
        · rw [e1, e4]; rfl
        · rw [nq_some e1]; exact TrP_len e4
      simp only [List.length_cons, List.length_append, sub 0 (by omega), sub 1 (by omega), sub 2 (by omega), sub 3 (by omega)]
      omega
theorem TrP_head {m : M} {h : Nat} {id : Int} {L : List Pt} {I : List Int} (ht : TrP m h id L I) : ∃ T, I = id :: T := by
  cases h with
  | zero =>
    have := ht.1
    cases I with
    | nil => simp at this
    | cons a b => simp at this; exact ⟨b, by rw [this]⟩
  | succ n =>
    unfold TrP at ht
    split at ht
    · exact ⟨[], ht.1⟩
    · obtain ⟨ks, cs, J, h1, h2, h3, e, h4⟩ := ht
      exact ⟨_, e⟩
/-- What becomes of growing: it's there, or there are too few numbers. -/
def GrowOK (F : Option M) (m : M) (id : Int) (T : M → List Int → Prop) (n : Nat) : Prop :=
  (n - 1 ≤ (freeL m).length → ∃ m1 d I, F = some (setM m1 id d) ∧ Grew m m1 I ∧ I.length = n - 1 ∧ T (setM m1 id d) (id :: I)) ∧ ((freeL m).length < n - 1 → F = none)
theorem chainF_spec : ∀ (n : Nat) (m : M) (id : Int) (L : List Pt), L.length ≤ n → m id ≠ none → GrowOK (chainF m id L) m id (fun m' I => ChP m' I L) (nch L.length) := by
  intro n
  induction n with
  | zero =>
    intro m id L hn hid
    have hL : L.length ≤ 4 := by omega
    unfold chainF
    rw [dif_pos hL]
    have h1 : nch L.length = 1 := by unfold nch; rw [if_pos hL]
    rw [h1]
    exact ⟨fun _ => ⟨m, _, [], rfl, Grew.refl m, rfl, hL, setM_same⟩, fun h => by omega⟩
  | succ n ih =>
    intro m id L hn hid
    by_cases hL : L.length ≤ 4
    · unfold chainF
      rw [dif_pos hL]
      have h1 : nch L.length = 1 := by unfold nch; rw [if_pos hL]
      rw [h1]
      exact ⟨fun _ => ⟨m, _, [], rfl, Grew.refl m, rfl, hL, setM_same⟩, fun h => by omega⟩
    · have hs := nch_step (n := L.length) (by omega)
      have hp := nch_pos (L.length - 4)
      have hd : (L.drop 4).length = L.length - 4 := by simp
      unfold chainF
      rw [dif_neg hL]
      cases hf : freeL m with
      | nil =>
        refine ⟨fun h => ?_, fun _ => rfl⟩
        rw [hf] at h
        simp at h; omega
      | cons k r =>
        obtain ⟨hk1, hk2, hk3, hk4⟩ := take_tail hf
        have hkid : id ≠ k := fun e => hid (e ▸ hk1)
        have hfr : freeL (setM m k nd1) = r := freeL_take hf
        obtain ⟨ih1, ih2⟩ := ih (setM m k nd1) k (L.drop 4) (by omega) (by rw [setM_same]; simp)
        rw [hfr, hd] at ih1 ih2
        unfold GrowOK
        rw [hf]
        simp only [List.head?_cons, List.length_cons]
        constructor
        · intro h
          obtain ⟨m1, d, I, e1, e2, e3, e4⟩ := ih1 (by omega)
          rw [e1]
          have g := e2.fresh (d := d) hf
          have hoff := g.off hid
          refine ⟨_, _, k :: I, rfl, g, by rw [List.length_cons, e3]; omega, by omega, setM_same, ChP_congr (fun i hi => setM_ne ?_) e4⟩
          rintro rfl
          exact hoff hi
        · intro h
          rw [ih2 (by omega)]
          rfl
theorem getD_set {l : List Int} {q k : Nat} {x : Int} (hq : q < l.length) : (l.set q x).getD k 0 = if q = k then x else l.getD k 0 := by
  simp only [List.getD_eq_getElem?_getD, List.getElem?_set]
  by_cases h : q = k
  · subst h; simp [hq]
  · simp [h]
theorem growF_spec : ∀ (h : Nat) (m : M) (id : Int) (L : List Pt), m id ≠ none → GrowOK (growF h m id L) m id (fun m' I => TrP m' h id L I) (nds h L) := by
  intro h
  induction h with
  | zero =>
    intro m id L hid
    obtain ⟨h1, h2⟩ := chainF_spec _ m id L (Nat.le_refl _) hid
    refine ⟨fun hn => ?_, h2⟩
    obtain ⟨m1, d, I, e1, e2, e3, e4⟩ := h1 hn
    exact ⟨m1, d, I, e1, e2, e3, rfl, e4⟩
  | succ h ih =>
    intro m id L hid
    by_cases hL : L.length ≤ 4
    · obtain ⟨h1, h2⟩ := chainF_spec _ m id L (Nat.le_refl _) hid
      have e : nds (h + 1) L = nch L.length := by unfold nds nch; rw [if_pos hL, if_pos hL]
      unfold growF
      rw [if_pos hL, e]
      refine ⟨fun hn => ?_, h2⟩
      obtain ⟨m1, d, I, e1, e2, e3, e4⟩ := h1 hn
      refine ⟨m1, d, I, e1, e2, e3, ?_⟩
      show TrP _ _ _ _ _
      unfold TrP
      rw [if_pos hL]
      have h1 : nch L.length = 1 := by unfold nch; rw [if_pos hL]
      have : I = [] := List.length_eq_zero_iff.1 (by omega)
      subst this
      exact ⟨rfl, e4⟩
    · -- quarter by quarter
      let ns : Nat → Nat := fun q => ((List.range q).map fun i => nq (nds h) (quarter h i L)).sum
      have hns : ∀ q, ns (q + 1) = ns q + nq (nds h) (quarter h q L) := fun q => by
        show ((List.range (q + 1)).map _).sum = _
        rw [List.range_succ, List.map_append, List.sum_append]
        simp [ns]
      have steps : ∀ q, q ≤ 4 → (ns q ≤ (freeL m).length → ∃ m1 ks cs J, stepsF (growF h) h L q m = some (m1, ks, cs) ∧ ks.length = 4 ∧ cs.length = 4 ∧ Grew m m1 ((List.range q).map J).flatten ∧ ((List.range q).map J).flatten.length = ns q ∧
          (∀ i, i < q → SubP (TrP m1 h) (ks.getD i 0) (cs.getD i 0) (quarter h i L) (J i)) ∧ ∀ i, q ≤ i → ks.getD i 0 = 0 ∧ cs.getD i 0 = 0) ∧ ((freeL m).length < ns q → stepsF (growF h) h L q m = none) := by
        intro q
        induction q with
        | zero =>
          intro _
          refine ⟨fun _ => ⟨m, z4, z4, fun _ => [], rfl, rfl, rfl, by simpa using Grew.refl m, rfl, by simp, fun i _ => ?_⟩, fun hn => by simp [ns] at hn⟩
          match i with
          | 0 | 1 | 2 | 3 => exact ⟨rfl, rfl⟩
          | i + 4 => exact ⟨rfl, rfl⟩
        | succ q ihq =>
          intro hq
          obtain ⟨h1, h2⟩ := ihq (by omega)
          rw [hns q]
          by_cases hle : ns q ≤ (freeL m).length
          · obtain ⟨m1, ks, cs, J, e1, e2, e3, e4, e5, e6, e7⟩ := h1 hle
            simp only [stepsF, e1, Option.bind_some]
            unfold stepF
            by_cases hQ : quarter h q L = []
            · rw [if_pos hQ, hQ, nq_nil, Nat.add_zero]
              refine ⟨fun _ => ⟨m1, ks, cs, fun i => if i = q then [] else J i, rfl, e2, e3, ?_, ?_, fun i hi => ?_, fun i hi => e7 i (by omega)⟩, fun hn => by omega⟩
              · rw [List.range_succ, List.map_append, List.flatten_append, List.map_congr_left (g := J) (fun i hi => by rw [if_neg]; have := List.mem_range.1 hi; omega)]
                simpa using e4
              · rw [List.range_succ, List.map_append, List.flatten_append, List.map_congr_left (g := J) (fun i hi => by rw [if_neg]; have := List.mem_range.1 hi; omega)]
                simpa using e5
              · show SubP _ _ _ _ (if i = q then [] else J i)
                by_cases hi' : i = q
                · subst hi'
                  have := e7 i (by omega)
                  rw [if_pos rfl]
                  exact .inl ⟨hQ, this.1, this.2, rfl⟩
                · rw [if_neg hi']; exact e6 i (by omega)
            · rw [if_neg hQ, nq_some hQ]
              have hpos := nds_pos h (quarter h q L)
              have hfree := e4.free
              rw [e5] at hfree
              have hfl : (freeL m1).length = (freeL m).length - ns q := by rw [hfree, List.length_drop]
              cases hf : freeL m1 with
              | nil =>
                rw [hf] at hfl
                simp only [List.length_nil] at hfl
                exact ⟨fun hn => by omega, fun _ => rfl⟩
              | cons k r =>
                simp only [List.head?_cons]
                have hfr : freeL (setM m1 k nd1) = r := freeL_take hf
                have hrl : r.length + 1 = (freeL m).length - ns q := by rw [← hfl, hf]; rfl
                obtain ⟨ih1, ih2⟩ := ih (setM m1 k nd1) k (quarter h q L) (by rw [setM_same]; simp)
                rw [hfr] at ih1 ih2
                constructor
                · intro hn
                  obtain ⟨m2, d, I, f1, f2, f3, f4⟩ := ih1 (by omega)
                  rw [f1]
                  have g := f2.fresh (d := d) hf
                  have hk := take_tail hf
                  refine ⟨_, _, _, fun i => if i = q then k :: I else J i, rfl, by simpa using e2, by simpa using e3, ?_, ?_, fun i hi => ?_, fun i hi => ?_⟩
                  · rw [List.range_succ, List.map_append, List.flatten_append, List.map_congr_left (g := J) (fun i hi => by rw [if_neg]; have := List.mem_range.1 hi; omega)]
                    simpa using e4.trans g
                  · rw [List.range_succ, List.map_append, List.flatten_append, List.map_congr_left (g := J) (fun i hi => by rw [if_neg]; have := List.mem_range.1 hi; omega), List.length_append, e5]
                    simp; omega
                  · show SubP _ _ _ _ (if i = q then k :: I else J i)
                    rw [getD_set (by omega), getD_set (by omega)]
                    by_cases hi' : q = i
                    · subst hi'
                      rw [if_pos rfl, if_pos rfl, if_pos rfl]
                      exact .inr ⟨hQ, hk.2.1, rfl, f4⟩
                    · rw [if_neg hi', if_neg hi', if_neg (Ne.symm hi')]
                      refine SubP_congr (TrP_congr fun j hj => ?_) (e6 i (by omega))
                      refine g.keep (e4.there j ?_)
                      exact List.mem_flatten.2 ⟨J i, List.mem_map.2 ⟨i, List.mem_range.2 (by omega), rfl⟩, hj⟩
                  · rw [getD_set (by omega), getD_set (by omega), if_neg (by omega), if_neg (by omega)]
                    exact e7 i (by omega)
                · intro hn
                  have hlt : r.length < nds h (quarter h q L) - 1 := by clear ih1 ih2 h1 h2 ihq; omega
                  rw [ih2 hlt]
                  rfl
          · have : stepsF (growF h) h L (q + 1) m = none := by
              simp only [stepsF, h2 (by omega), Option.bind_none]
            exact ⟨fun hn => by omega, fun _ => this⟩
      have hn4 : nds (h + 1) L - 1 = ns 4 := by
        unfold nds
        rw [if_neg hL]
        simp [ns, List.range_succ]
      obtain ⟨h1, h2⟩ := steps 4 (by omega)
      unfold growF
      rw [if_neg hL]
      unfold GrowOK
      rw [hn4]
      constructor
      · intro hn
        obtain ⟨m1, ks, cs, J, e1, e2, e3, e4, e5, e6, e7⟩ := h1 hn
        rw [e1]
        have hoff := e4.off hid
        have hfl : ((List.range 4).map J).flatten = J 0 ++ (J 1 ++ (J 2 ++ J 3)) := by simp [List.range_succ]
        rw [hfl] at e4 e5 hoff
        refine ⟨m1, _, _, rfl, e4, e5, ?_⟩
        show TrP _ _ _ _ _
        unfold TrP
        rw [if_neg hL]
        refine ⟨ks, cs, J, setM_same, e2, e3, rfl, fun q hq => SubP_congr (TrP_congr fun i hi => setM_ne ?_) (e6 q hq)⟩
        rintro rfl
        exact hoff (mem_four hq hi)
      · intro hn
        rw [h2 hn]
        rfl
end Cr

set_option linter.unusedVariables false
set_option linter.unusedSimpArgs false
namespace Cr
open Go Sx Stb Bt
open Go.Sort (SWO)
open Go.Proofs.Try
set_option linter.unusedSectionVars false
variable [Dr]
set_option maxRecDepth 100000
abbrev grV (g : Option Addr) : Value := .agg { toList := [.pointer g] }
abbrev unitV : Value := .tuple { toList := [] }
abbrev stopE (e : Int) : List PanicEntry := [{ v := .iface 87 (.agg { toList := [vi e] }), recovered := false }]
theorem keep_none (H H' : Heap) : Keep (fun _ => none) H H H' := fun b o h h' => by
  rcases h' with h' | h'
  · rw [h'] at h; cases h
  · cases h'
theorem none_le (H : Heap) : (fun _ => none : Heap) ≤ H := fun _ _ e => by cases e
theorem has_gmod {H H' : Heap} {r : Nat} {es : Array MapEntry} {clk : Nat} (hr : H r = some (.map es clk)) {a : Addr} {l : List Value} (h : H.has a l) (hm : GMod r H H') : H'.has a l := by
  intro j x hx
  have := h j x hx
  unfold Heap.cell? at *
  split at this
  · rename_i c ty q e
    have hne : (a.add j).block ≠ r := by intro e'; rw [e', hr] at e; cases e
    rw [hm _ _ hne e]
    exact this
  · cases this
theorem slice_gmod {H H' : Heap} {r : Nat} {es : Array MapEntry} {clk : Nat} (hr : H r = some (.map es clk)) {v : Value} {sz : Nat} {ls : List (List Value)} (h : SliceAt H v sz ls) (hm : GMod r H H') : SliceAt H' v sz ls := by
  obtain ⟨a, n, c, e, h1, h2, h3, h4, h5⟩ := h
  refine ⟨a, n, c, e, h1, h2, h3, h4, fun i e he => ?_⟩
  obtain ⟨A, q1, q2, q3⟩ := h5 i e he
  exact ⟨A, q1, q2, has_gmod hr q3 hm⟩
theorem GroveAt.isMap {H : Heap} {g : Addr} {r : Nat} {m : M} (h : GroveAt H g r m) : ∃ es clk, H r = some (.map es clk) := by
  obtain ⟨_, l, ⟨es, clk, h, _⟩, _⟩ := h
  exact ⟨es, clk, h⟩
theorem GroveAt.slice {H H' : Heap} {g : Addr} {r : Nat} {m : M} (h : GroveAt H g r m) {v : Value} {sz : Nat} {ls : List (List Value)} (hs : SliceAt H v sz ls) (hm : GMod r H H') : SliceAt H' v sz ls := by
  obtain ⟨es, clk, hr⟩ := h.isMap
  exact slice_gmod hr hs hm
/-- A part of a slice. -/
theorem slice_sub {H : Heap} {a : Option Addr} {n c sz lo hi : Nat} {es : List (List Value)} (h : SliceAt H (.slice a n c) sz es) (h1 : lo ≤ hi) (h2 : hi ≤ n) : SliceAt H (.slice (subAddr a c lo sz) (hi - lo) (c - lo)) sz ((es.drop lo).take (hi - lo)) := by
  obtain ⟨a', n', c', e, hl, hc, h3, h4, h5⟩ := h
  cases e
  refine ⟨_, _, _, rfl, by rw [List.length_take, List.length_drop]; omega, by omega, fun e he => h3 e (List.mem_of_mem_drop (List.mem_of_mem_take he)), fun e he => h4 e (List.mem_of_mem_drop (List.mem_of_mem_take he)), fun i e he => ?_⟩
  have hi' : i < hi - lo := by
    have := (List.getElem?_eq_some_iff.1 he).1
    rw [List.length_take] at this; omega
  rw [List.getElem?_take_of_lt hi', List.getElem?_drop] at he
  obtain ⟨A, rfl, q2, q3⟩ := h5 (lo + i) e he
  have hlc : c ≠ lo := by omega
  refine ⟨A.add (lo * sz), by simp [subAddr, hlc], by rw [add_spot q2], ?_⟩
  have : (A.add (lo * sz)).add (i * sz) = A.add ((lo + i) * sz) := by
    rw [add_spot q2, add_spot q2, add_spot rfl]
    simp [Nat.add_mul, Nat.add_assoc]
  rw [this]; exact q3
theorem slice_pre {H : Heap} {a : Option Addr} {n c sz hi : Nat} {es : List (List Value)} (h : SliceAt H (.slice a n c) sz es) (h2 : hi ≤ n) : SliceAt H (.slice (subAddr a c 0 sz) (hi - 0) (c - 0)) sz (es.take hi) := by
  simpa using slice_sub h (Nat.zero_le hi) h2
theorem slice_suf {H : Heap} {a : Option Addr} {n c sz lo : Nat} {es : List (List Value)} (h : SliceAt H (.slice a n c) sz es) (h2 : lo ≤ n) : SliceAt H (.slice (subAddr a c lo sz) (n - lo) (c - lo)) sz (es.drop lo) := by
  have hl := (slice_len h).1
  have := slice_sub h h2 (Nat.le_refl n)
  rwa [List.take_of_length_le (by rw [List.length_drop]; omega)] at this
/-- Points that may be, rising. -/
structure LOK (L : List Pt) : Prop where
  ok : ∀ p ∈ L, ptOK p
  rise : L.Pairwise fun p q => p.id < q.id
  range : ∀ p ∈ L, PtR p
theorem LOK.sub {L L' : List Pt} (h : LOK L) (hs : L'.Sublist L) : LOK L' := ⟨fun p hp => h.ok p (hs.subset hp), h.rise.sublist hs, fun p hp => h.range p (hs.subset hp)⟩
theorem LOK.pts {L : List Pt} (h : LOK L) (hl : L.length ≤ 4) : PtsOK L where
  each := fun i p hp => h.ok p (List.mem_of_getElem? hp)
  rise := fun i p q hp hq => by
    obtain ⟨h1, rfl⟩ := List.getElem?_eq_some_iff.1 hp
    obtain ⟨h2, rfl⟩ := List.getElem?_eq_some_iff.1 hq
    exact List.pairwise_iff_getElem.1 h.rise i (i + 1) h1 h2 (by omega)
  few := hl
theorem leafOK {L : List Pt} (h : LOK L) (hl : L.length ≤ 4) {nx : Int} (hn : 0 ≤ nx ∧ nx ≤ 255) : NdOK ⟨true, L, nx, z4, z4⟩ := by
  unfold NdOK
  rw [if_pos rfl]
  exact ⟨h.pts hl, hn.1, hn.2, rfl, rfl⟩
theorem LOK.nil : LOK [] := ⟨by simp, by simp, by simp⟩
theorem freeL_least {m : M} {id : Int} (h1 : 1 ≤ id) (h2 : id ≤ 255) (h3 : m id = none) (h4 : ∀ j, 1 ≤ j → j < id → (m j).isSome) : ∃ r, freeL m = id :: r := by
  have hm : id ∈ freeL m := mem_freeL.2 ⟨h1, h2, h3⟩
  have hr := freeL_rise m
  cases hf : freeL m with
  | nil => rw [hf] at hm; cases hm
  | cons k r =>
    rw [hf] at hm hr
    have hk := mem_freeL.1 (show k ∈ freeL m by rw [hf]; exact List.mem_cons_self ..)
    rcases List.mem_cons.1 hm with e | e
    · subst e; exact ⟨r, rfl⟩
    · have := (List.pairwise_cons.1 hr).1 id e
      have := h4 k hk.1 this
      rw [hk.2.2] at this; cases this
section
variable {R : Ending → Heap → Prop} {H : Heap}
theorem s_need {b : Bool} {e : Int} (k1 : b = true → R (.returned unitV) H) (k2 : b = false → R (.panicked (stopE e)) H) : Meets prog 61 [.bool b, vi e] H R := by
  refine spec_of func61 (by kernel_rfl) (fun t h => by cases h) ?_ (vc_need b e R H) ?_
  · simp [argsR, SV.rep, SC.rep, one]
  unfold nf_need
  exact br (fun q => k2 (by simpa using q)) fun q => k1 (by simpa using q)
theorem s_gput {g : Addr} {r : Nat} {m : M} {id : Int} {v : Value} {d : Nd} (h : GroveAt H g r m) (hv : NdAt H v d) (hok : NdOK d) (hid : 1 ≤ id ∧ id ≤ 255) (hl : d.pts.length ≤ 1000000)
    (k : ∀ H', GroveAt H' g r (setM m id d) → GMod r H H' → R (.returned unitV) H') : Meets prog 48 [grV (some g), vi id, v] H R := by
  have hv0 := hv
  obtain ⟨a, n, c, rfl, hs1, hk, hc⟩ := hv
  refine spec_of func48 (by kernel_rfl) (fun t h => by cases h) ?_ (vc_gput (some g) id d.leaf a n c d.next d.kids d.counts R H) ?_
  · simp [argsR, SV.rep, SegsRep, SC.rep, one, hk, hc]
  unfold nf_gput
  refine s_put h hv0 hl (fun no => (no hok).elim) (fun _ no => (no hid).elim) fun _ _ H' h1 h2 => .inl ⟨_, rfl, s_need (fun _ => .inl ⟨rfl, k H' h1 h2⟩) fun q => by simp at q⟩
theorem s_gfresh {g : Addr} {r : Nat} {m : M} (h : GroveAt H g r m) (k1 : ∀ id l, freeL m = id :: l → ∀ H', GroveAt H' g r (setM m id nd1) → GMod r H H' → R (.returned (vi id)) H') (k2 : freeL m = [] → R (.panicked (stopE 10)) H) :
    Meets prog 46 [grV (some g)] H R := by
  refine spec_of func46 (by kernel_rfl) (fun t h => by cases h) ?_ (vc_gfresh (some g) R H) ?_
  · simp [argsR, SV.rep, SegsRep, SC.rep, one]
  unfold nf_gfresh
  refine s_fresh h (fun id h1 h2 h3 h4 => ?_) fun h1 => ?_
  · obtain ⟨l, hl⟩ := freeL_least h1 h2 h3 h4
    refine .inl ⟨_, _, rfl, s_need (fun _ => .inl ⟨rfl, ?_⟩) fun q => by simp at q⟩
    exact s_gput (d := nd1) h ⟨none, 0, 0, rfl, slice_nil _, rfl, rfl⟩ (leafOK LOK.nil (by simp) (by omega)) ⟨h1, h2⟩ (by simp) fun H' g1 g2 => .inl ⟨rfl, k1 id l hl H' g1 g2⟩
  · refine .inl ⟨_, _, rfl, s_need (fun q => by simp at q) fun _ => .inr ⟨_, rfl, k2 ?_⟩⟩
    cases hf : freeL m with
    | nil => rfl
    | cons x l =>
      have := mem_freeL.1 (show x ∈ freeL m by rw [hf]; exact List.mem_cons_self ..)
      have h2 := h1 x this.1 this.2.1
      rw [this.2.2] at h2; cases h2
theorem min4 (n : Nat) : minI (n : Int) 4 = ((min n 4 : Nat) : Int) := by
  unfold minI
  split <;> omega
theorem s_chain : ∀ (N : Nat) {g : Addr} {r : Nat} {m : M} {id : Int} {v : Value} {L : List Pt} {H : Heap} {R : Ending → Heap → Prop}, L.length ≤ N → L.length ≤ 1000000 → GroveAt H g r m → Dom m → LOK L → SliceAt H v 4 (pts L) → 1 ≤ id ∧ id ≤ 255 →
    (∀ m' H', chainF m id L = some m' → Dom m' → GroveAt H' g r m' → GMod r H H' → R (.returned unitV) H') → (chainF m id L = none → ∀ H', GMod r H H' → R (.panicked (stopE 10)) H') →
    Meets prog 42 [grV (some g), vi id, v] H R := by
  intro N
  induction N with
  | zero =>
    intro g r m id v L H R hN hbig h hD hL hs hid k1 k2
    obtain ⟨a, n, c, rfl, hn⟩ := hs
    have hs : SliceAt H (.slice a n c) 4 (pts L) := ⟨a, n, c, rfl, hn⟩
    have hln : L.length = n := by simpa [pts] using hn.1
    have hnc := hn.2.1
    refine spec_of func42 (by kernel_rfl) (fun t h => by cases h) ?_ (vc_chain (some g) id a n c R H) ?_
    · simp [argsR, SV.rep, SegsRep, SC.rep, one]
    unfold nf_chain
    rw [min4, Nat.min_eq_left (by omega), Int.toNat_natCast, Nat.sub_zero, Int.toNat_natCast]
    refine ⟨⟨by omega, by omega⟩, ⟨by omega, by omega⟩, br (fun q => by simp at q) fun _ => ?_⟩
    have hp := slice_pre hs (hi := n) (Nat.le_refl n)
    have e : chainF m id L = some (setM m id ⟨true, L, 0, z4, z4⟩) := by unfold chainF; rw [dif_pos (by omega)]
    have ok := leafOK hL (by omega) (nx := 0) (by omega)
    refine s_gput (d := ⟨true, L, 0, z4, z4⟩) h ⟨subAddr a c 0 4, n, c - 0, rfl, ?_, rfl, rfl⟩ ok hid (by simp; omega) fun H' g1 g2 => .inl ⟨rfl, k1 _ H' e (hD.set hid ok) g1 g2⟩
    rw [List.take_of_length_le (by simp [pts]; omega)] at hp
    exact hp
  | succ N ih =>
    intro g r m id v L H R hN hbig h hD hL hs hid k1 k2
    obtain ⟨a, n, c, rfl, hn⟩ := hs
    have hs : SliceAt H (.slice a n c) 4 (pts L) := ⟨a, n, c, rfl, hn⟩
    have hln : L.length = n := by simpa [pts] using hn.1
    have hnc := hn.2.1
    refine spec_of func42 (by kernel_rfl) (fun t h => by cases h) ?_ (vc_chain (some g) id a n c R H) ?_
    · simp [argsR, SV.rep, SegsRep, SC.rep, one]
    unfold nf_chain
    rw [min4]
    by_cases h4 : n ≤ 4
    · rw [Nat.min_eq_left (by omega), Int.toNat_natCast, Nat.sub_zero, Int.toNat_natCast]
      refine ⟨⟨by omega, by omega⟩, ⟨by omega, by omega⟩, br (fun q => by simp at q) fun _ => ?_⟩
      have hp := slice_pre hs (hi := n) (Nat.le_refl n)
      have e : chainF m id L = some (setM m id ⟨true, L, 0, z4, z4⟩) := by unfold chainF; rw [dif_pos (by omega)]
      have ok := leafOK hL (by omega) (nx := 0) (by omega)
      refine s_gput (d := ⟨true, L, 0, z4, z4⟩) h ⟨subAddr a c 0 4, n, c - 0, rfl, ?_, rfl, rfl⟩ ok hid (by simp; omega) fun H' g1 g2 => .inl ⟨rfl, k1 _ H' e (hD.set hid ok) g1 g2⟩
      rw [List.take_of_length_le (by simp [pts]; omega)] at hp
      exact hp
    · rw [Nat.min_eq_right (by omega)]
      have hp := slice_pre hs (hi := 4) (by omega)
      have hq := slice_suf hs (lo := 4) (by omega)
      have e4 : ((4 : Nat) : Int).toNat = 4 := rfl
      have e4' : ((4 - 0 : Nat) : Int).toNat = 4 := rfl
      rw [e4, e4']
      refine ⟨⟨by omega, by omega⟩, ⟨by omega, by omega⟩, br (fun _ => ?_) fun q => by simp at q; omega⟩
      refine s_gfresh h (fun nx l hf H1 g1 m1 => .inl ⟨_, rfl, ?_⟩) fun hf => .inr ⟨_, rfl, k2 ?_ _ (GMod.refl _ _)⟩
      · have hx := take_tail hf
        have ok1 : NdOK nd1 := leafOK LOK.nil (by simp) (by omega)
        have hLd : LOK (L.drop 4) := hL.sub (List.drop_sublist _ _)
        have hq1 := h.slice hq m1
        have e0 : chainF m id L = (chainF (setM m nx nd1) nx (L.drop 4)).map fun m' => setM m' id ⟨true, L.take 4, nx, z4, z4⟩ := by
          conv => lhs; unfold chainF
          rw [dif_neg (by omega), hf]
          rfl
        refine ih (L := L.drop 4) (by simp; omega) (by simp; omega) g1 (hD.set ⟨hx.2.1, hx.2.2.1⟩ ok1) hLd (by simpa [pts] using hq1) ⟨hx.2.1, hx.2.2.1⟩ (fun m' H2 e D2 g2 m2 => .inl ⟨rfl, ?_⟩) fun e H2 m2 => .inr ⟨_, rfl, k2 ?_ H2 (m1.trans m2)⟩
        · have ok := leafOK (hL.sub (List.take_sublist 4 L)) (by simp; omega) (nx := nx) (by omega)
          refine s_gput (d := ⟨true, L.take 4, nx, z4, z4⟩) g2 ⟨subAddr a c 0 4, 4, c - 0, rfl, ?_, rfl, rfl⟩ ok hid (by simp; omega) fun H' g3 m3 => .inl ⟨rfl, k1 _ H' ?_ (D2.set hid ok) g3 ((m1.trans m2).trans m3)⟩
          · have := h.slice hp (m1.trans m2)
            simpa [pts] using this
          · rw [e0, e]; rfl
        · rw [e0, e]; rfl
      · unfold chainF
        rw [dif_neg (by omega), hf]
        rfl
end
end Cr

set_option linter.unusedVariables false
set_option linter.unusedSimpArgs false
namespace Cr
open Go Sx Stb Bt
open Go.Sort (SWO)
open Go.Proofs.Try
set_option linter.unusedSectionVars false
variable [Dr]
set_option maxRecDepth 100000
theorem stepsF_none {g : M → Int → List Pt → Option M} {h : Nat} {L : List Pt} {m : M} {q : Nat} (h0 : stepsF g h L q m = none) : ∀ k, stepsF g h L (q + k) m = none
  | 0 => h0
  | k + 1 => by
    show (stepsF g h L (q + k) m).bind _ = none
    rw [stepsF_none h0 k]; rfl
theorem quaOK_z : QuaOK z4 z4 := fun q hq => by
  match q, hq with
  | 0, _ | 1, _ | 2, _ | 3, _ => exact ⟨by decide, by decide, by decide, by decide, by decide⟩
  | q + 4, hq => omega
theorem quaOK_set {ks cs : List Int} (h : QuaOK ks cs) (hk : ks.length = 4) (hc : cs.length = 4) {q : Nat} (hq : q < 4) {k c : Int} (h1 : 0 ≤ k ∧ k ≤ 255 ∧ 0 ≤ c ∧ c ≤ 65535 ∧ (k = 0 ↔ c = 0)) : QuaOK (ks.set q k) (cs.set q c) := fun j hj => by
  rw [getD_set (by omega), getD_set (by omega)]
  by_cases e : q = j
  · rw [if_pos e, if_pos e]; exact h1
  · rw [if_neg e, if_neg e]; exact h j hj
theorem innerOK {ks cs : List Int} (h : QuaOK ks cs) : NdOK ⟨false, [], 0, ks, cs⟩ := by
  unfold NdOK
  rw [if_neg (by simp)]
  exact ⟨rfl, rfl, h⟩
theorem delO_ptr (H : Heap) (b : Nat) : H.delO (blockOf (.pointer (some ⟨b, 0, none⟩))) = H.del b := rfl
theorem del_ne (H : Heap) {b b' : Nat} (h : b' ≠ b) : H.del b b' = H b' := by unfold Heap.del; rw [if_neg h]
theorem has_cells {H : Heap} {b : Nat} {l : List Value} {ty : Nat} (h : H b = some (.cells l.toArray ty (0, 0))) : H.has ⟨b, 0, none⟩ l := fun j x hx => by
  rw [add_spot rfl]
  unfold Heap.cell?
  simp only [h]
  simpa using hx
section
variable {R : Ending → Heap → Prop} {H : Heap}
/-- The points of a quarter are told. -/
theorem pred_grow1 {b b1 : Nat} {x y : Int} {h q : Nat} (hh : h < 32) (hx : Cor (h + 1) x) (hy : Cor (h + 1) y) :
    PredOK PtR (fun H => H b = some (.cells #[.int .u32 x, .int .u32 y, vi (32 - ((h + 1 : Nat) : Int))] 61 (0, 0)) ∧ H b1 = some (.cells #[vi q] 3 (0, 0))) 44 #[.pointer (some ⟨b, 0, none⟩), .pointer (some ⟨b1, 0, none⟩)] fun p => qt h p != (q : Int) := by
  intro p H R hp hI k
  refine spec_of func44 (by kernel_rfl) (fun t h => by cases h) ?_ (vc_grow1 ⟨b, 0, none⟩ ⟨b1, 0, none⟩ p.id p.x p.y p.data R H) ?_
  · simp [argsR, SV.rep, SegsRep, SC.rep, one]
  unfold nf_grow1
  have lx := hx.lt (by omega)
  have ly := hy.lt (by omega)
  refine ⟨H, heap_refl _, ptr rfl ⟨_, _, _, has_cells hI.1, ptr rfl ⟨_, has_cells hI.2, s_quar hh lx ly ⟨hp.1, hp.2.1⟩ ⟨hp.2.2.1, hp.2.2.2⟩ ⟨keep_same _ _ _, _, rfl, k⟩⟩⟩⟩
theorem s_grow : ∀ (h : Nat) {g : Addr} {r : Nat} {m : M} {id x y lv : Int} {v : Value} {L : List Pt} {H : Heap} {R : Ending → Heap → Prop}, h ≤ 32 → lv = 32 - (h : Int) → Cor h x → Cor h y → L.length ≤ 60000 → GroveAt H g r m → Dom m → LOK L → SliceAt H v 4 (pts L) → 1 ≤ id ∧ id ≤ 255 →
    (∀ m' H', growF h m id L = some m' → Dom m' → GroveAt H' g r m' → GMod r H H' → R (.returned unitV) H') → (growF h m id L = none → ∀ H', GMod r H H' → R (.panicked (stopE 10)) H') →
    Meets prog 27 [grV (some g), vi id, ceV x y lv, v] H R := by
  intro h
  induction h with
  | zero =>
    intro g r m id x y lv v L H R hh hlv hx hy hbig hg hD hL hs hid k1 k2
    obtain ⟨a, n, c, rfl, hn⟩ := hs
    have hs : SliceAt H (.slice a n c) 4 (pts L) := ⟨a, n, c, rfl, hn⟩
    refine spec_of func27 (by kernel_rfl) (fun t h => by cases h) ?_ (vc_grow (some g) id x y lv a n c R H) ?_
    · simp [argsR, SV.rep, SegsRep, SC.rep, one]
    unfold nf_grow
    have ch := s_chain _ (R := fun e H' => e = .returned unitV ∧ R (.returned unitV) H' ∨ ∃ c, e = .panicked c ∧ R (.panicked c) H') (Nat.le_refl _) (by omega) hg hD hL hs hid (fun m' H' e1 e2 e3 e4 => .inl ⟨rfl, k1 m' H' e1 e2 e3 e4⟩) fun e1 H' e2 => .inr ⟨_, rfl, k2 e1 H' e2⟩
    exact br (fun _ => ch) fun _ => br (fun _ => ch) fun q => by simp at q; omega
  | succ h ih =>
    intro g r m id x y lv v L H R hh hlv hx hy hbig hg hD hL hs hid k1 k2
    obtain ⟨a, n, c, rfl, hn⟩ := hs
    have hs : SliceAt H (.slice a n c) 4 (pts L) := ⟨a, n, c, rfl, hn⟩
    have hln : L.length = n := by simpa [pts] using hn.1
    refine spec_of func27 (by kernel_rfl) (fun t h => by cases h) ?_ (vc_grow (some g) id x y lv a n c R H) ?_
    · simp [argsR, SV.rep, SegsRep, SC.rep, one]
    unfold nf_grow
    refine br (fun q => ?_) fun q => br (fun q1 => by simp at q1; omega) fun _ => ?_
    · simp only [decide_eq_true_eq] at q
      have e : growF (h + 1) m id L = chainF m id L := by conv => lhs; unfold growF
                                                          rw [if_pos (by omega)]
      rw [e] at k1 k2
      exact s_chain _ (Nat.le_refl _) (by omega) hg hD hL hs hid (fun m' H' e1 e2 e3 e4 => .inl ⟨rfl, k1 m' H' e1 e2 e3 e4⟩) fun e1 H' e2 => .inr ⟨_, rfl, k2 e1 H' e2⟩
    simp only [decide_eq_false_iff_not] at q
    have eF : growF (h + 1) m id L = (stepsF (growF h) h L 4 m).map fun s => setM s.1 id ⟨false, [], 0, s.2.1, s.2.2⟩ := by
      conv => lhs; unfold growF
      rw [if_neg (by omega)]
    simp only [true_and, delLs_nil]
    refine ⟨fun p H' => ∃ (q : Nat) (mq : M), q ≤ 4 ∧ p.1.1 = q ∧ p.2.2.2.1.1 = false ∧ p.2.2.2.1.2.1 = (none, 0, 0) ∧ p.2.2.2.1.2.2.1 = 0 ∧ stepsF (growF h) h L q m = some (mq, p.2.2.2.1.2.2.2.1, p.2.2.2.1.2.2.2.2.1) ∧ p.2.2.2.1.2.2.2.1.length = 4 ∧ p.2.2.2.1.2.2.2.2.1.length = 4 ∧
      QuaOK p.2.2.2.1.2.2.2.1 p.2.2.2.1.2.2.2.2.1 ∧ GroveAt H' g r mq ∧ Dom mq ∧ GMod r H H', fun p _ => (4 - p.1.1).toNat, ⟨0, m, by omega, rfl, rfl, rfl, rfl, rfl, rfl, rfl, quaOK_z, hg, hD, GMod.refl _ _⟩, ?_⟩
    rintro ⟨⟨i, _⟩, u1, u2, ⟨lf, ⟨sa, sn, sc⟩, nx, ks, cs, u3⟩, u4⟩ H0 ⟨q0, mq, hq, hi, h1, h2, h3, hst, hk, hc, hqa, hg0, hD0, hm0⟩
    simp only at hi h1 h2 h3 hst hk hc hqa ⊢
    subst hi; subst h1; subst h3
    cases h2
    refine br (fun q1 => ?_) fun q1 => ?_
    · simp only [decide_eq_true_eq] at q1
      have hs0 := hg.slice hs hm0
      refine s_clone hs0 (by omega) fun v1 H1 hle1 hfr1 hrow1 => ?_
      obtain ⟨a1, c1, rfl⟩ := row_val hrow1
      refine .inl ⟨_, _, _, rfl, fun b hb b1 hb1 => ?_⟩
      have hbb : b1 ≠ b := by rintro rfl; rw [upd_same] at hb1; cases hb1
      rw [upd_ne _ _ hbb] at hb1
      -- the two variables are apart from the clone
      have hv1 : ∀ b', blockOf (.slice a1 (pts L).length c1) = some b' → H1 b' ≠ none := fun b' e => by
        rcases hrow1 with ⟨e1, _⟩ | ⟨b2, o, cap, cc, e1, e2, _⟩
        · rw [e1] at e; cases e
        · rw [e1] at e; cases e; rw [e2]; simp
      have ne : ∀ b', blockOf (.slice a1 (pts L).length c1) = some b' → b' ≠ b ∧ b' ≠ b1 := fun b' e => ⟨by rintro rfl; exact hv1 _ e hb, by rintro rfl; exact hv1 _ e hb1⟩
      have hrow2 : RowAt ((H1.upd b (.cells #[.int .u32 x, .int .u32 y, vi lv] 61 (0, 0))).upd b1 (.cells #[vi q0] 3 (0, 0))) (.slice a1 (pts L).length c1) tPt 4 (pts L) := row_le hrow1 fun b' o e e2 => by
        rw [upd_ne _ _ (ne b' e).2, upd_ne _ _ (ne b' e).1]; exact e2
      subst hlv
      refine s_del (pred_grow1 (b := b) (b1 := b1) (q := q0) (by omega) hx hy) hrow2 ⟨by rw [upd_ne _ _ (Ne.symm hbb), upd_same], upd_same _ _ _⟩ (fun H' H'' hI hM => ?_) hL.range (by omega) fun v' H2 hrow3 hbl hM => ?_
      · exact ⟨by rw [hM b fun e => (ne b e).1 rfl]; exact hI.1, by rw [hM b1 fun e => (ne b1 e).2 rfl]; exact hI.2⟩
      have hfil : (L.filter fun p => !(qt h p != (q0 : Int))) = quarter h q0 L := List.filter_congr fun p _ => by simp [bne]
      rw [hfil] at hrow3
      obtain ⟨a4, c4, hv4⟩ := row_val hrow3
      have hplen : (pts (quarter h q0 L)).length = (quarter h q0 L).length := by simp [pts]
      have hI2 : H2 b = some (.cells #[.int .u32 x, .int .u32 y, vi (32 - ((h + 1 : Nat) : Int))] 61 (0, 0)) ∧ H2 b1 = some (.cells #[vi q0] 3 (0, 0)) :=
        ⟨by rw [hM b fun e => (ne b e).1 rfl, upd_ne _ _ (Ne.symm hbb), upd_same], by rw [hM b1 fun e => (ne b1 e).2 rfl, upd_same]⟩
      subst hv4
      refine .inl ⟨_, _, _, rfl, x, y, _, ⟨b, rfl, hI2.1⟩, q0, ⟨b1, rfl, ?_⟩, ?_⟩
      · rw [delO_ptr, del_ne _ hbb]; exact hI2.2
      rw [delO_ptr, delO_ptr]
      have hle3 : H0 ≤ (H2.del b).del b1 := fun b' o e => by
        have e1 := hle1 b' o e
        have n1 : b' ≠ b := by rintro rfl; rw [hb] at e1; cases e1
        have n2 : b' ≠ b1 := by rintro rfl; rw [hb1] at e1; cases e1
        rw [del_ne _ n2, del_ne _ n1, hM b' fun q => by rw [hfr1 b' q] at e; cases e]
        rw [upd_ne _ _ n2, upd_ne _ _ n1]; exact e1
      have hrow4 : RowAt ((H2.del b).del b1) (.slice a4 (pts (quarter h q0 L)).length c4) tPt 4 (pts (quarter h q0 L)) := row_le hrow3 fun b' o e e2 => by
        rw [hbl] at e
        rw [del_ne _ (ne b' e).2, del_ne _ (ne b' e).1]; exact e2
      have hg3 := hg0.le hle3
      have hm3 := hm0.trans (GMod.of_le (r := r) hle3)
      generalize (H2.del b).del b1 = H3 at *
      have hw : IntKind.i64.wrap ((q0 : Int) + 1) = ((q0 + 1 : Nat) : Int) := by rw [w64 (by omega)]; omega
      have hstep : stepsF (growF h) h L (q0 + 1) m = stepF (growF h) h L q0 (mq, ks, cs) := by
        show (stepsF (growF h) h L q0 m).bind _ = _
        rw [hst]; rfl
      rw [hplen, hw, Int.toNat_natCast]
      have bad : stepsF (growF h) h L (q0 + 1) m = none → growF (h + 1) m id L = none := fun e => by
        rw [eF, show 4 = q0 + 1 + (3 - q0) by omega, stepsF_none e]; rfl
      refine br (fun q2 => ?_) fun q2 => ?_
      · simp only [decide_eq_true_eq] at q2
        have hQ : quarter h q0 L ≠ [] := fun e => by rw [e] at q2; simp at q2
        refine ⟨_, none_le _, ?_⟩
        refine s_gfresh hg3 (fun k l hf H4 g4 m4 => .inl ⟨keep_none _ _, k, rfl, ⟨by omega, by omega⟩, ⟨by omega, by omega⟩, _, none_le _, ⟨by omega, by omega⟩, ?_⟩) fun hf => .inr ⟨_, rfl, k2 (bad ?_) _ hm3⟩
        · have hx4 := take_tail hf
          have ok1 : NdOK nd1 := leafOK LOK.nil (by simp) (by omega)
          have hgt : (List.set ks q0 k).getD q0 0 = k := by rw [getD_set (by omega), if_pos rfl]
          rw [hgt]
          refine s_kid (h := h) (by omega) hx hy (by omega) ?_
          refine .inl ⟨keep_none _ _, _, _, _, rfl, ?_⟩
          have hsf : stepF (growF h) h L q0 (mq, ks, cs) = (growF h (setM mq k nd1) k (quarter h q0 L)).map fun m' => (m', ks.set q0 k, cs.set q0 (quarter h q0 L).length) := by
            unfold stepF
            rw [if_neg hQ, hf]
            rfl
          have hs4 := hg3.slice (row_slice hrow4) m4
          rw [hplen] at hs4
          have hlQ : (quarter h q0 L).length ≤ L.length := List.length_filter_le _ _
          refine ih (L := quarter h q0 L) (by omega) rfl (hx.kid (by omega) (by omega)) (hy.kid (by omega) (by omega)) (by omega) g4 (hD0.set ⟨hx4.2.1, hx4.2.2.1⟩ ok1) (hL.sub List.filter_sublist) hs4 ⟨hx4.2.1, hx4.2.2.1⟩ (fun m' H5 e5 D5 g5 m5 =>   .inl ⟨keep_none _ _, rfl, rfl, rfl, rfl, ⟨q0 + 1, m', by omega, rfl, rfl, rfl, rfl, ?_, by simpa using hk, by simpa using hc, ?_, g5, D5, (hm3.trans m4).trans m5⟩, by omega⟩) fun e5 H5 m5 => .inr ⟨_, rfl, k2 (bad ?_) _ ((hm3.trans m4).trans m5)⟩
          · rw [hstep, hsf, e5]; rfl
          · exact quaOK_set hqa hk hc (by omega) ⟨by omega, by omega, by omega, by omega, by omega⟩
          · rw [hstep, hsf, e5]; rfl
        · rw [hstep]
          unfold stepF
          rw [if_neg hQ, hf]
          rfl
      · simp only [decide_eq_false_iff_not] at q2
        have hQ : quarter h q0 L = [] := List.length_eq_zero_iff.1 (by omega)
        refine ⟨rfl, rfl, rfl, ⟨q0 + 1, mq, by omega, rfl, rfl, rfl, rfl, ?_, hk, hc, hqa, hg3, hD0, hm3⟩, by omega⟩
        rw [hstep]
        unfold stepF
        rw [if_pos hQ]
    · simp only [decide_eq_false_iff_not] at q1
      have : q0 = 4 := by omega
      subst this
      have e : growF (h + 1) m id L = some (setM mq id ⟨false, [], 0, ks, cs⟩) := by rw [eF, hst]; rfl
      refine s_gput (d := ⟨false, [], 0, ks, cs⟩) hg0 ⟨none, 0, 0, rfl, slice_nil _, hk, hc⟩ (innerOK hqa) hid (by simp) fun H' g1 m1 => .inl ⟨rfl, k1 _ H' e (hD0.set hid (innerOK hqa)) g1 (hm0.trans m1)⟩
end
end Cr

set_option linter.unusedVariables false
set_option linter.unusedSimpArgs false
namespace Sx
open Go
set_option linter.unusedSectionVars false
variable [Dr]
/-- A map in memory, its keys and what stands there, the oldest first; its stamps are in order. -/
def MapS (H : Heap) (r : Nat) (k : IntKind) (l : List (Int × Value)) : Prop :=
  ∃ es clk, H r = some (.map es clk) ∧ IntKeys k es.toList ∧ es.toList.map entN = l ∧ (l.map Prod.fst).Nodup ∧ (∀ x ∈ es.toList, x.born < clk) ∧ (es.toList.map (·.born)).Nodup
theorem MapS.at {H : Heap} {r : Nat} {k : IntKind} {l : List (Int × Value)} (h : MapS H r k l) : MapAt H r k l := by
  obtain ⟨es, clk, h1, h2, h3, h4, _⟩ := h
  exact ⟨es, clk, h1, h2, h3, h4⟩
theorem maps_new (H : Heap) (r : Nat) (k : IntKind) : MapS (H.upd r (.map #[] 0)) r k [] := ⟨#[], 0, upd_same _ _ _, by intro e he; simp at he, rfl, by simp, by simp, by simp⟩
theorem maps_same {H H' : Heap} {r : Nat} {k : IntKind} {l : List (Int × Value)} (h : MapS H r k l) (e : ∀ o, H r = some o → H' r = some o) : MapS H' r k l := by
  obtain ⟨es, clk, h1, h2⟩ := h
  exact ⟨es, clk, e _ h1, h2⟩
theorem maps_put {H : Heap} {r : Nat} {k : IntKind} {l : List (Int × Value)} (h : MapS H r k l) (x : Int) (v : Value) :
    ∃ es clk, (H r = some (.map es clk) ∧ IntKeys k es.toList) ∧ MapS (H.upd r (mapPut es clk k x v)) r k (putL l x v) := by
  obtain ⟨es, clk, h1, h2, h3, h4, h5, h6⟩ := h
  have hm : MapAt H r k l := ⟨es, clk, h1, h2, h3, h4⟩
  obtain ⟨es', clk', ⟨e1, _⟩, e2⟩ := map_put hm x v
  rw [h1] at e1
  injection e1 with e1
  injection e1 with ea eb
  subst ea; subst eb
  refine ⟨es, clk, ⟨h1, h2⟩, ?_⟩
  obtain ⟨fs, c2, f1, f2, f3, f4⟩ := e2
  refine ⟨fs, c2, f1, f2, f3, f4, ?_⟩
  rw [upd_same] at f1
  injection f1 with f1
  unfold mapPut at f1
  split at f1
  · rename_i i hi
    injection f1 with g1 g2
    subst g1; subst g2
    have hb : ∀ l : List MapEntry, ∀ i, (l.modify i fun e => { e with key := .int k x, val := v }).map (·.born) = l.map (·.born) := by
      intro l
      induction l with
      | nil => intro i; cases i <;> simp
      | cons a r ih =>
        intro i
        cases i with
        | zero => simp
        | succ i => simp [ih]
    rw [Array.toList_modify]
    refine ⟨fun y hy => ?_, by rw [hb]; exact h6⟩
    have : y.born ∈ (es.toList.modify i fun e => { e with key := .int k x, val := v }).map (·.born) := List.mem_map_of_mem hy
    rw [hb] at this
    obtain ⟨z, hz, e⟩ := List.mem_map.1 this
    rw [← e]; exact h5 z hz
  · injection f1 with g1 g2
    subst g1; subst g2
    simp only [Array.toList_push]
    refine ⟨fun y hy => ?_, ?_⟩
    · rw [List.mem_append, List.mem_singleton] at hy
      rcases hy with hy | rfl
      · exact Nat.lt_succ_of_lt (h5 y hy)
      · exact Nat.lt_succ_self _
    · rw [List.map_append, List.nodup_append]
      refine ⟨h6, by simp, fun a ha b hb => ?_⟩
      simp only [List.map_cons, List.map_nil, List.mem_singleton] at hb
      obtain ⟨z, hz, e⟩ := List.mem_map.1 ha
      have := h5 z hz
      omega
/-- How a value of such a map reads for the library's walk: it never looks. -/
def anyV (v : Value) : Option (DataW Unit × List MemPlace) := some (.nil, [])
/-- .. is what the kit's laws on maps ask. -/
theorem owns_maps {P : Program} {k : TypeId} (hk : P.underlying k = some (.int .i64)) {H : Heap} {w : World} (hw : H.sub w) {r : Nat} {l : List (Int × Value)} (h : MapS H r .i64 l) (hr : ∀ p ∈ l, (Lit.int .i64 p.1).wf = true) (hl : l.length ≤ maxLen) :
    ∃ D : DataW Unit, w.ownsMap P k anyV r l.length D ∧ Maps.size D = l.length ∧ (intKeys D).Perm (l.map Prod.fst) := by
  obtain ⟨es, clk, h1, h2, h3, h4, h5, h6⟩ := h
  have hlen : es.size = l.length := by rw [← h3]; simp
  have hkey : ∀ x ∈ es.toList, ∃ n, x.key = .int .i64 n ∧ (Lit.int .i64 n).wf = true ∧ entN x = (n, x.val) := by
    intro x hx
    obtain ⟨n, hn⟩ := h2 x hx
    have hen : entN x = (n, x.val) := by simp [entN, keyN, hn]
    refine ⟨n, hn, ?_, hen⟩
    have := hr (entN x) (by rw [← h3]; exact List.mem_map_of_mem hx)
    rw [hen] at this
    exact this
  have hrd : ∀ x ∈ es.toList, WideElems.rd P k anyV x = some (.int .i64 (entN x).1, .nil) := by
    intro x hx
    obtain ⟨n, hn, hwf, hen⟩ := hkey x hx
    unfold WideElems.rd
    rw [hn, Maps.keyOf_int_mk hk hwf, hen]
    rfl
  have hks : (es.toList.map (·.key)).Nodup := by
    have e1 : es.toList.map (·.key) = (l.map Prod.fst).map (fun n => Value.int .i64 n) := by
      rw [← h3, List.map_map, List.map_map]
      apply List.map_congr_left
      intro x hx
      obtain ⟨n, hn, _, hen⟩ := hkey x hx
      simp [hen, hn]
    rw [e1]
    exact List.Pairwise.map _ (fun a b hab e => hab (by injection e)) h4
  refine ⟨.map ((es.toList.map (WideElems.rg P k anyV)).foldr DataW.insert []), ⟨es, clk, hw _ _ h1, ⟨by omega, ⟨h5, h6, hks⟩, fun x hx => ⟨_, hrd x hx⟩⟩, by omega, rfl⟩, ?_, ?_⟩
  · rw [Maps.size_eq, (WideShapes.sorted_perm _).length_eq]; simp [hlen]
  · unfold intKeys
    refine ((WideShapes.sorted_perm _).map _).trans ?_
    rw [← h3, List.map_map, List.map_map]
    refine List.Perm.of_eq (List.map_congr_left fun x hx => ?_)
    have := hrd x hx
    simp [WideElems.rg, this, intOf]
end Sx

set_option linter.unusedVariables false
set_option linter.unusedSimpArgs false
namespace Sx
open Go Go.Proofs Go.Shelf Go.RowKit Go.Lib Go.Sort
set_option linter.unusedSectionVars false
variable [Dr]
section
variable {P : Program} {ρ : Ren} {α : Type} [Inhabited α]
theorem callable_enters {g : Nat} (h : callable P g = true) : ∀ args w, (callFunc g args).run P w = .ok (.enter g args) w := fun args w => callable_run h args
theorem flat_ints {k : IntKind} (l : List Int) : (l.map fun x => [Value.int k x]).flatten = l.map (Value.int k) := by
  induction l with
  | nil => rfl
  | cons x r ih => simp [ih]
end
end Sx

set_option linter.unusedVariables false
set_option linter.unusedSimpArgs false
namespace Sx
open Go Go.Proofs Go.Shelf Go.RowKit Go.Maps Go.Sort
set_option linter.unusedSectionVars false
variable [Dr]
section
variable {P : Program} {ρ ρ' : Ren}
/-- **maps.Keys**: the map is kept in a variable of its own. -/
theorem meets_keys (L : SlLaysZI.n7 P ρ) (hc : callable P (ρ.f 7) = true) (mb : Option Nat) {H : Heap} {R : Ending → Heap → Prop}
    (K : ∀ a, H a = none → R (.returned (.func (.func (ρ.f 10)) #[] #[.pointer (some ⟨a, 0, none⟩)])) (H.upd a (.cells #[.map mb] (ρ.t 23) (0, 0)))) : Meets P (ρ.f 7) [.map mb] H R := by
  refine ⟨hc, fun w hw => ?_⟩
  have hn : H w.heap.size = none := by
    cases e : H w.heap.size with
    | none => rfl
    | some o => have := hw _ _ e; simp at this
  refine ((callsIn_wide (n := 5)).1 (AnyZI.keys_in L Fence.wide 5 trivial rfl mb w)).mono ?_
  rintro e w' ⟨rfl, rfl⟩
  refine ⟨_, ⟨?_, rfl, ⟨rfl, fun _ => Nat.le_refl _⟩, rfl, by simp, ?_, ?_⟩, K w.heap.size hn⟩
  · intro b o e
    by_cases q : b = w.heap.size
    · subst q
      rw [upd_same] at e
      injection e with e
      subst e
      exact (MapKept.heap_alloc w _).1
    · rw [upd_ne _ _ q] at e
      rw [Below.heap_alloc _ _ b (Array.getElem?_eq_some_iff.1 (hw _ _ e)).1]
      exact hw _ _ e
  · intro b hb _
    exact Below.heap_alloc _ _ b hb
  · intro b hb e
    rw [upd_ne _ _ (by omega)]
    exact e
/-- slices.Sort at ints serves slices.Sorted. -/
theorem sortsIn_of {σ : Ren} (L : Lays.n189 P σ) (e : σ.f 189 = ρ.f 9) : AnyZI.SortsIn P ρ Fence.wide 5 := by
  unfold AnyZI.SortsIn
  rw [← e]
  exact ⟨fun blk off cap ss W hH hblk hsz => callsIn_wide.2 (Any.slices_Sort_int L blk off cap ss W hH hblk hsz), fun p cap W => callsIn_wide.2 (Any.slices_Sort_int_none L p cap W)⟩
/-- **slices.Sorted** of a map's keys: a new row. -/
theorem meets_sorted (hD : ¬ Dr.on) (L : SlLaysZI.n6 P ρ) (L' : SlLaysZI.n7 P ρ') (hc : callable P (ρ.f 6) = true) (h9 : callable P (ρ.f 9) = true) (h10 : callable P (ρ'.f 10) = true) (hs : AnyZI.SortsIn P ρ Fence.wide 5)
    {H : Heap} {R : Ending → Heap → Prop} {a r : Nat} {l : List (Int × Value)} (hbox : H a = some (.cells #[.map (some r)] (ρ'.t 23) (0, 0))) (hm : MapS H r .i64 l) (hr : ∀ p ∈ l, (Lit.int .i64 p.1).wf = true) (hl : l.length * 8 ≤ 140737488355328)
    (K : ∀ (v : Value) (zs : List Int) (H' : Heap), zs.Perm (l.map Prod.fst) → zs.Pairwise (· ≤ ·) → RowAt H' v (ρ.t 26) 1 (zs.map fun x => [.int .i64 x]) → H ≤ H' → (∀ b, blockOf v = some b → H b = none) → (∀ b o, H' b = some o → H b = some o ∨ blockOf v = some b) → R (.returned v) H') :
    Meets P (ρ.f 6) [.func (.func (ρ'.f 10)) #[] #[.pointer (some ⟨a, 0, none⟩)]] H R := by
  refine ⟨hc, fun w hw => ?_⟩
  have hlm : l.length ≤ maxLen := by unfold maxLen; omega
  obtain ⟨D, hown, hsz, hks⟩ := owns_maps (P := P) L'.t26 hw hm hr hlm
  have hba := hw _ _ hbox
  have hseq := AnyZI.keys_gives (ρ := ρ') { L' with } Fence.wide 3 trivial rfl (by omega) a r l.length D w (Array.getElem?_eq_some_iff.1 hba).1 (by simp [World.cell?, hba]) hown
  have h := AnyZI.sorted_in L Fence.wide 6 trivial trivial trivial trivial rfl (by omega) hs (callable_enters h9) (ρ'.f 10) #[.pointer (some ⟨a, 0, none⟩)] trivial (callable_enters h10) _ _ (by rw [hsz]; exact hlm) (by rw [hsz]; exact hl) w hseq
  refine ((callsIn_wide (n := 6)).1 h).mono ?_
  rintro e w' ⟨v, ss, rfl, hS, hrow, hnil, hb⟩
  have hp : (ss.mergeSort fun x y => decide (x ≤ y)).Perm (l.map Prod.fst) := (List.mergeSort_perm _ _).trans (hS.trans hks)
  have hsorted : (ss.mergeSort fun x y => decide (x ≤ y)).Pairwise (· ≤ ·) := by
    have := List.pairwise_mergeSort (le := fun x y : Int => decide (x ≤ y)) (fun a b c h1 h2 => by simp at *; omega) (fun a b => by simp; omega) ss
    exact this.imp (fun h => by simpa using h)
  have hlen : (ss.mergeSort fun x y => decide (x ≤ y)).length = ss.length := List.length_mergeSort _
  generalize (ss.mergeSort fun x y => decide (x ≤ y)) = zs at hp hsorted hlen hrow
  have hkeep : ∀ b o, H b = some o → w'.heap[b]? = some o := fun b o e => by
    rw [hb.block b (Array.getElem?_eq_some_iff.1 (hw _ _ e)).1]; exact hw _ _ e
  rcases hrow.2 with ⟨rfl, hz⟩ | ⟨g, cap, cur, rfl, hbase, hg, hle, hcm, hcs, htk⟩
  · have hz0 : zs = [] := List.eq_nil_of_length_eq_zero (by omega)
    subst hz0
    exact ⟨H, ⟨hkeep, hb.os, ⟨hb.tape, fun q => (hD q).elim⟩, hb.output, hb.size, fun b hlt _ => hb.block b hlt, fun _ _ e => e⟩,
      K _ [] H hp hsorted (.inl ⟨rfl, rfl⟩) (fun _ _ e => e) (by simp [blockOf]) (fun b o e => .inl e)⟩
  · have hgn : H g = none := by
      cases e : H g with
      | none => rfl
      | some o => have := (Array.getElem?_eq_some_iff.1 (hw _ _ e)).1; omega
    refine ⟨H.upd g (.cells cur (ρ.t 26) (0, 0)), ⟨?_, hb.os, ⟨hb.tape, fun q => (hD q).elim⟩, hb.output, hb.size, fun b hlt _ => hb.block b hlt, ?_⟩,
      K _ zs _ hp hsorted (.inr ⟨g, 0, cap, cur, by simp [hlen], upd_same _ _ _, by simp; omega, by omega, ?_, ?_, ?_⟩) ?_ ?_ ?_⟩
    · intro b o e
      by_cases q : b = g
      · subst q; rw [upd_same] at e; injection e with e; subst e; exact hg
      · rw [upd_ne _ _ q] at e; exact hkeep b o e
    · intro b hlt e
      rw [upd_ne _ _ (by omega)]; exact e
    · intro e he; simp at he; obtain ⟨y, _, rfl⟩ := he; rfl
    · rw [List.drop_zero, flat_ints]
      simpa [hlen, encZ] using htk
    · intro e he x hx; simp at he; obtain ⟨y, _, rfl⟩ := he; simp at hx; subst hx; rfl
    · intro b o e
      by_cases q : b = g
      · subst q; rw [hgn] at e; cases e
      · rw [upd_ne _ _ q]; exact e
    · intro b e; simp [blockOf] at e; subst e; exact hgn
    · intro b o e
      by_cases q : b = g
      · exact .inr (by simp [blockOf, q])
      · rw [upd_ne _ _ q] at e; exact .inl e
end
end Sx

set_option linter.unusedVariables false
set_option linter.unusedSimpArgs false
set_option maxRecDepth 100000
namespace Go.Proofs
open Go.Shelf
def keysInt_ren : Go.Shelf.Ren := ⟨fun | 7 => 33 | 10 => 55 | n => n, fun | 23 => 65 | 26 => 3 | 3 => 4 | 28 => 72 | 0 => 0 | 27 => 71 | 33 => 46 | 4 => 4 | n => n, fun | n => n⟩
theorem keysInt : Go.Proofs.SlLaysZI.n7 Try.prog keysInt_ren := {
  mixed := by kernel_rfl,
  f7 := ⟨Try.f33.name, by decide, Try.func33.trans (congrArg some (by kernel_rfl))⟩,
  f10 := ⟨Try.f55.name, by decide, Try.func55.trans (congrArg some (by kernel_rfl))⟩,
  t0 := Try.underlying0,
  a0 := Try.isAgg0,
  z0 := Try.sizeOf0,
  v0 := Try.zeroValue0,
  t4 := Try.underlying4,
  a4 := Try.isAgg4,
  z4 := Try.sizeOf4,
  v4 := Try.zeroValue4,
  t23 := Try.underlying65,
  a23 := Try.isAgg65,
  z23 := Try.sizeOf65,
  v23 := Try.zeroValue65,
  t26 := Try.underlying3,
  a26 := Try.isAgg3,
  z26 := Try.sizeOf3,
  v26 := Try.zeroValue3,
  t27 := Try.underlying71,
  a27 := Try.isAgg71,
  z27 := Try.sizeOf71,
  v27 := Try.zeroValue71,
  t28 := Try.underlying72,
  a28 := Try.isAgg72,
  z28 := Try.sizeOf72,
  v28 := Try.zeroValue72,
  t33 := Try.underlying46,
  a33 := Try.isAgg46,
  z33 := Try.sizeOf46,
  v33 := Try.zeroValue46 }

def sortedInt_ren : Go.Shelf.Ren := ⟨fun | 6 => 32 | 8 => 53 | 9 => 54 | 11 => 64 | 13 => 66 | 12 => 65 | 23 => 81 | 24 => 82 | 14 => 72 | 15 => 73 | 16 => 74 | 17 => 75 | 18 => 76 | 19 => 77 | 20 => 78 | 21 => 79 | 22 => 80 | 25 => 85 | 26 => 86 | 27 => 87 | 28 => 88 | 29 => 89 | 30 => 58 | 31 => 91 | n => n, fun | 26 => 3 | 28 => 72 | 24 => 31 | 0 => 0 | 3 => 3 | 37 => 104 | 48 => 49 | 50 => 125 | 4 => 4 | 40 => 116 | 39 => 115 | 45 => 121 | 5 => 5 | 9 => 9 | 51 => 127 | 55 => 131 | 57 => 133 | 58 => 134 | 33 => 46 | n => n, fun | n => n⟩
theorem sortedInt : Go.Proofs.SlLaysZI.n6 Try.prog sortedInt_ren := {
  mixed := by kernel_rfl,
  f6 := ⟨Try.f32.name, by decide, Try.func32.trans (congrArg some (by kernel_rfl))⟩,
  f8 := ⟨Try.f53.name, by decide, Try.func53.trans (congrArg some (by kernel_rfl))⟩,
  f11 := ⟨Try.f64.name, by decide, Try.func64.trans (congrArg some (by kernel_rfl))⟩,
  t0 := Try.underlying0,
  a0 := Try.isAgg0,
  z0 := Try.sizeOf0,
  v0 := Try.zeroValue0,
  t24 := Try.underlying31,
  a24 := Try.isAgg31,
  z24 := Try.sizeOf31,
  v24 := Try.zeroValue31,
  t26 := Try.underlying3,
  a26 := Try.isAgg3,
  z26 := Try.sizeOf3,
  v26 := Try.zeroValue3,
  t28 := Try.underlying72,
  a28 := Try.isAgg72,
  z28 := Try.sizeOf72,
  v28 := Try.zeroValue72,
  i26 := by kernel_rfl }

def sortInt_ren : Go.Shelf.Ren := ⟨fun | 189 => 54 | 125 => 66 | 257 => 65 | 128 => 81 | 129 => 82 | 294 => 72 | 295 => 73 | 296 => 74 | 297 => 75 | 298 => 76 | 299 => 77 | 216 => 78 | 300 => 79 | 301 => 80 | 328 => 85 | 329 => 86 | 330 => 87 | 331 => 88 | 332 => 89 | 215 => 58 | 343 => 91 | n => n, fun | 28 => 31 | 3 => 3 | 46 => 104 | 0 => 0 | 51 => 49 | 53 => 125 | 4 => 4 | 183 => 116 | 182 => 115 | 131 => 121 | 5 => 5 | 9 => 9 | 218 => 127 | 222 => 131 | 228 => 133 | 229 => 134 | n => n, fun | n => n⟩
theorem sortInt : Go.Proofs.Lays.n189 Try.prog sortInt_ren := {
  mixed := by kernel_rfl,
  f125 := Try.func66.trans (congrArg some (by kernel_rfl)),
  f128 := Try.func81.trans (congrArg some (by kernel_rfl)),
  f129 := Try.func82.trans (congrArg some (by kernel_rfl)),
  f189 := Try.func54.trans (congrArg some (by kernel_rfl)),
  f215 := Try.func58.trans (congrArg some (by kernel_rfl)),
  f216 := Try.func78.trans (congrArg some (by kernel_rfl)),
  f257 := Try.func65.trans (congrArg some (by kernel_rfl)),
  f294 := Try.func72.trans (congrArg some (by kernel_rfl)),
  f295 := Try.func73.trans (congrArg some (by kernel_rfl)),
  f296 := Try.func74.trans (congrArg some (by kernel_rfl)),
  f297 := Try.func75.trans (congrArg some (by kernel_rfl)),
  f298 := Try.func76.trans (congrArg some (by kernel_rfl)),
  f299 := Try.func77.trans (congrArg some (by kernel_rfl)),
  f300 := Try.func79.trans (congrArg some (by kernel_rfl)),
  f301 := Try.func80.trans (congrArg some (by kernel_rfl)),
  f328 := Try.func85.trans (congrArg some (by kernel_rfl)),
  f329 := Try.func86.trans (congrArg some (by kernel_rfl)),
  f330 := Try.func87.trans (congrArg some (by kernel_rfl)),
  f331 := Try.func88.trans (congrArg some (by kernel_rfl)),
  f332 := Try.func89.trans (congrArg some (by kernel_rfl)),
  f343 := Try.func91.trans (congrArg some (by kernel_rfl)),
  t0 := Try.underlying0,
  a0 := Try.isAgg0,
  z0 := Try.sizeOf0,
  v0 := Try.zeroValue0,
  t3 := Try.underlying3,
  a3 := Try.isAgg3,
  z3 := Try.sizeOf3,
  v3 := Try.zeroValue3,
  t4 := Try.underlying4,
  a4 := Try.isAgg4,
  z4 := Try.sizeOf4,
  v4 := Try.zeroValue4,
  t5 := Try.underlying5,
  a5 := Try.isAgg5,
  z5 := Try.sizeOf5,
  v5 := Try.zeroValue5,
  t9 := Try.underlying9,
  a9 := Try.isAgg9,
  z9 := Try.sizeOf9,
  v9 := Try.zeroValue9,
  t28 := Try.underlying31,
  a28 := Try.isAgg31,
  z28 := Try.sizeOf31,
  v28 := Try.zeroValue31,
  t46 := Try.underlying104,
  a46 := Try.isAgg104,
  z46 := Try.sizeOf104,
  v46 := Try.zeroValue104,
  t51 := Try.underlying49,
  a51 := Try.isAgg49,
  z51 := Try.sizeOf49,
  v51 := Try.zeroValue49,
  t53 := Try.underlying125,
  a53 := Try.isAgg125,
  z53 := Try.sizeOf125,
  v53 := Try.zeroValue125,
  t131 := Try.underlying121,
  a131 := Try.isAgg121,
  z131 := Try.sizeOf121,
  v131 := Try.zeroValue121,
  t182 := Try.underlying115,
  a182 := Try.isAgg115,
  z182 := Try.sizeOf115,
  v182 := Try.zeroValue115,
  t183 := Try.underlying116,
  a183 := Try.isAgg116,
  z183 := Try.sizeOf116,
  v183 := Try.zeroValue116,
  t218 := Try.underlying127,
  a218 := Try.isAgg127,
  z218 := Try.sizeOf127,
  v218 := Try.zeroValue127,
  t222 := Try.underlying131,
  a222 := Try.isAgg131,
  z222 := Try.sizeOf131,
  v222 := Try.zeroValue131,
  t228 := Try.underlying133,
  a228 := Try.isAgg133,
  z228 := Try.sizeOf133,
  v228 := Try.zeroValue133,
  t229 := Try.underlying134,
  a229 := Try.isAgg134,
  z229 := Try.sizeOf134,
  v229 := Try.zeroValue134 }

end Go.Proofs
namespace Cr
open Go Sx Stb Go.Proofs
open Go.Proofs.Try
set_option linter.unusedSectionVars false
variable [Dr]
theorem s_keys (mb : Option Nat) {H : Heap} {R : Ending → Heap → Prop}
    (K : ∀ a, H a = none → R (.returned (.func (.func (keysInt_ren.f 10)) #[] #[.pointer (some ⟨a, 0, none⟩)])) (H.upd a (.cells #[.map mb] (keysInt_ren.t 23) (0, 0)))) : Meets prog 33 [.map mb] H R :=
  meets_keys keysInt (by kernel_rfl) mb K
theorem s_sorted (hD : ¬ Dr.on) {H : Heap} {R : Ending → Heap → Prop} {a r : Nat} {l : List (Int × Value)} (hbox : H a = some (.cells #[.map (some r)] (keysInt_ren.t 23) (0, 0))) (hm : MapS H r .i64 l) (hr : ∀ p ∈ l, (Lit.int .i64 p.1).wf = true) (hl : l.length * 8 ≤ 140737488355328)
    (K : ∀ (v : Value) (zs : List Int) (H' : Heap), zs.Perm (l.map Prod.fst) → zs.Pairwise (· ≤ ·) → RowAt H' v (sortedInt_ren.t 26) 1 (zs.map fun x => [.int .i64 x]) → H ≤ H' → (∀ b, blockOf v = some b → H b = none) → (∀ b o, H' b = some o → H b = some o ∨ blockOf v = some b) → R (.returned v) H') :
    Meets prog 32 [.func (.func (keysInt_ren.f 10)) #[] #[.pointer (some ⟨a, 0, none⟩)]] H R :=
  meets_sorted hD sortedInt keysInt (by kernel_rfl) (by kernel_rfl) (by kernel_rfl) (sortsIn_of sortInt rfl) hbox hm hr hl K
end Cr

set_option linter.unusedVariables false
set_option linter.unusedSimpArgs false
namespace Cr
open Go Sx Stb
open Go.Proofs.Try
set_option linter.unusedSectionVars false
variable [Dr]
set_option maxRecDepth 100000
def h_vreach : Hints := { loops := [(4, ⟨[0, 1, 2, 30, 31], [.f 32 (.int .i64)], [.keep 30]⟩)] }
def h_vreached : Hints := {}
def nf_vreach (g : Option Addr) (id : Int) (r : Nat) (R : Ending → Heap → Prop) (H : Heap) : Prop := Meets prog (13 : Nat) [Value.pointer g, Value.int IntKind.i64 id] H fun (e : Ending) (H' : Nat → Option Obj) ↦ ∃ (b : Bool), ∃ (a : Option Addr), ∃ (n : Nat), ∃ (c : Nat), ∃ (n_1 : Int), ∃ (xs : List Int), List.length xs = (4 : Nat) ∧ ∃ (xs_1 : List Int), List.length xs_1 = (4 : Nat) ∧ ∃ (b_1 : Bool), e = Ending.returned (Value.tuple { toList := [Value.agg { toList := Value.bool b :: Value.slice a n c :: Value.int IntKind.i64 n_1 :: List.append (List.map (Value.int IntKind.i64) xs) (flatD [Seg.ints IntKind.i64 (4 : Nat) xs_1]) }, Value.bool b_1] }) ∧ Br (!b_1) (R (Ending.returned (Value.tuple { toList := [] })) H') (∃ (b : Bool), (∃ (b_2 : Bool), LookAt H' (some r) IntKind.i64 id (Value.bool false) (Value.bool b) b_2) ∧ Br b (R (Ending.returned (Value.tuple { toList := [] })) H') (MapK (some r) fun (r_1 : Nat) ↦ ∃ (es : Array MapEntry), ∃ (clk : Nat), (H' r_1 = some (Obj.map es clk) ∧ IntKeys IntKind.i64 es.toList) ∧ List.length (List.append (List.map (fun (v : Int) ↦ [Value.int IntKind.i64 v]) xs) [[Value.int IntKind.i64 n_1]]) * (8 : Nat) ≤ (140737488355328 : Nat) ∧ g = g ∧ id = id ∧ some r = some r ∧ (↑(List.length (List.append (List.map (fun (v : Int) ↦ [Value.int IntKind.i64 v]) xs) [[Value.int IntKind.i64 n_1]])) : Int) = (↑(List.length (List.append (List.map (fun (v : Int) ↦ [Value.int IntKind.i64 v]) xs) [[Value.int IntKind.i64 n_1]])) : Int) ∧ List.append (List.map (fun (v : Int) ↦ [Value.int IntKind.i64 v]) xs) [[Value.int IntKind.i64 n_1]] = List.append (List.map (fun (v : Int) ↦ [Value.int IntKind.i64 v]) xs) [[Value.int IntKind.i64 n_1]] ∧ LoopP (fun (K : (Int × PUnit) × PUnit × PUnit → (Nat → Option Obj) → Prop) (p : (Int × PUnit) × PUnit × PUnit) (H : Nat → Option Obj) ↦ Br (decide (p.fst.fst < (↑(List.length (List.append (List.map (fun (v : Int) ↦ [Value.int IntKind.i64 v]) xs) [[Value.int IntKind.i64 n_1]])) : Int))) (((0 : Int) ≤ p.fst.fst ∧ p.fst.fst < (↑(List.length (List.append (List.map (fun (v : Int) ↦ [Value.int IntKind.i64 v]) xs) [[Value.int IntKind.i64 n_1]])) : Int)) ∧ ∃ (n : Int), (∃ (e : List Value), List.get?Internal (List.append (List.map (fun (v : Int) ↦ [Value.int IntKind.i64 v]) xs) [[Value.int IntKind.i64 n_1]]) (Int.toNat p.fst.fst) = some e ∧ List.take (1 : Nat) (List.drop (0 : Nat) e) = [Value.int IntKind.i64 n]) ∧ Meets prog (31 : Nat) [Value.pointer g, Value.int IntKind.i64 n, Value.map (some r)] H fun (e : Ending) (H' : Nat → Option Obj) ↦ e = Ending.returned (Value.tuple { toList := [] }) ∧ g = g ∧ id = id ∧ some r = some r ∧ (↑(List.length (List.append (List.map (fun (v : Int) ↦ [Value.int IntKind.i64 v]) xs) [[Value.int IntKind.i64 n_1]])) : Int) = (↑(List.length (List.append (List.map (fun (v : Int) ↦ [Value.int IntKind.i64 v]) xs) [[Value.int IntKind.i64 n_1]])) : Int) ∧ List.append (List.map (fun (v : Int) ↦ [Value.int IntKind.i64 v]) xs) [[Value.int IntKind.i64 n_1]] = List.append (List.map (fun (v : Int) ↦ [Value.int IntKind.i64 v]) xs) [[Value.int IntKind.i64 n_1]] ∧ K ((IntKind.wrap IntKind.i64 (p.fst.fst + (1 : Int)), PUnit.unit), PUnit.unit, PUnit.unit) H') (R (Ending.returned (Value.tuple { toList := [] })) H)) (((0 : Int), PUnit.unit), PUnit.unit, PUnit.unit) (Heap.upd H' r_1 (mapPut es clk IntKind.i64 id (Value.bool true)))))
theorem vc_vreach (g : Option Addr) (id : Int) (r : Nat) (R : Ending → Heap → Prop) (H : Heap) : vcFun prog h_vreach f31 [SV.c (SC.v (Value.pointer g)), SV.c (SC.v (Value.int IntKind.i64 id)), SV.c (SC.v (Value.map (some r)))] R H = nf_vreach g id r R H := by kernel_rfl

def nf_vreached (g : Option Addr) (R : Ending → Heap → Prop) (H : Heap) : Prop := ∀ (r : Nat), H r = none → Meets prog (31 : Nat) [Value.pointer g, Value.int IntKind.i64 (1 : Int), Value.map (some r)] (Heap.upd H r (Obj.map #[] (0 : Nat))) fun (e : Ending) (H' : Nat → Option Obj) ↦ e = Ending.returned (Value.tuple { toList := [] }) ∧ Meets prog (33 : Nat) [Value.map (some r)] H' fun (e : Ending) (H' : Nat → Option Obj) ↦ ∃ (f : Value), one f = true ∧ e = Ending.returned f ∧ Meets prog (32 : Nat) [f] H' fun (e : Ending) (H' : Nat → Option Obj) ↦ ∃ (a : Option Addr), ∃ (n : Nat), ∃ (c : Nat), e = Ending.returned (Value.slice a n c) ∧ R (Ending.returned (Value.slice a n c)) H'
theorem vc_vreached (g : Option Addr) (R : Ending → Heap → Prop) (H : Heap) : vcFun prog h_vreached f11 [SV.c (SC.v (Value.pointer g))] R H = nf_vreached g R H := by kernel_rfl

end Cr

set_option linter.unusedVariables false
set_option linter.unusedSimpArgs false
namespace Cr
open Go Sx Stb
open Go.Proofs.Try
set_option linter.unusedSectionVars false
variable [Dr]
set_option maxRecDepth 100000
def nf_vneed (c : Option Addr) (ok : Bool) (R : Ending → Heap → Prop) (H : Heap) : Prop := PtrK c fun (a : Addr) ↦ PtrK (some a) fun (a : Addr) ↦ PtrK (some (Addr.add a (3 : Nat))) fun (a : Addr) ↦ ∃ (b : Bool), Heap.has H a [Value.bool b] ∧ Br b (PtrK c fun (a : Addr) ↦ PtrK (some a) fun (a : Addr) ↦ PtrK (some (Addr.add a (3 : Nat))) fun (A : Addr) ↦ ∃ (c : Array Value), ∃ (ty : Nat), (H A.block = some (Obj.cells c ty) ∧ A.spot = none ∧ A.off + (1 : Nat) ≤ Array.size c) ∧ R (Ending.returned (Value.tuple { toList := [] })) (Heap.upd H A.block (Obj.cells (writeCells c A.off [Value.bool true]) ty))) (PtrK c fun (a : Addr) ↦ PtrK (some a) fun (a : Addr) ↦ PtrK (some (Addr.add a (3 : Nat))) fun (A : Addr) ↦ ∃ (c : Array Value), ∃ (ty : Nat), (H A.block = some (Obj.cells c ty) ∧ A.spot = none ∧ A.off + (1 : Nat) ≤ Array.size c) ∧ R (Ending.returned (Value.tuple { toList := [] })) (Heap.upd H A.block (Obj.cells (writeCells c A.off [Value.bool !ok]) ty)))
theorem vc_vneed (c : Option Addr) (ok : Bool) (R : Ending → Heap → Prop) (H : Heap) : vcFun prog { } f51 [SV.c (SC.v (Value.pointer c)), SV.c (SC.v (Value.bool ok))] R H = nf_vneed c ok R H := by kernel_rfl

def nf_vget (c : Option Addr) (id : Int) (R : Ending → Heap → Prop) (H : Heap) : Prop := PtrK c fun (a : Addr) ↦ PtrK (some a) fun (a : Addr) ↦ PtrK (some (Addr.add a (0 : Nat))) fun (a : Addr) ↦ ∃ (a_1 : Option Addr), Heap.has H a [Value.pointer a_1] ∧ Meets prog (13 : Nat) [Value.pointer a_1, Value.int IntKind.i64 id] H fun (e : Ending) (H' : Nat → Option Obj) ↦ ∃ (b : Bool), ∃ (a : Option Addr), ∃ (n : Nat), ∃ (c_1 : Nat), ∃ (n_1 : Int), ∃ (xs : List Int), List.length xs = (4 : Nat) ∧ ∃ (xs_1 : List Int), List.length xs_1 = (4 : Nat) ∧ ∃ (b_1 : Bool), e = Ending.returned (Value.tuple { toList := [Value.agg { toList := Value.bool b :: Value.slice a n c_1 :: Value.int IntKind.i64 n_1 :: List.append (List.map (Value.int IntKind.i64) xs) (flatD [Seg.ints IntKind.i64 (4 : Nat) xs_1]) }, Value.bool b_1] }) ∧ Br (!b_1) (Meets prog (51 : Nat) [Value.pointer c, Value.bool false] H' fun (e : Ending) (H' : Nat → Option Obj) ↦ e = Ending.returned (Value.tuple { toList := [] }) ∧ R (Ending.returned (Value.tuple { toList := [Value.agg { toList := [Value.bool false, Value.slice none (0 : Nat) (0 : Nat), Value.int IntKind.i64 (0 : Int), Value.int IntKind.i64 (0 : Int), Value.int IntKind.i64 (0 : Int), Value.int IntKind.i64 (0 : Int), Value.int IntKind.i64 (0 : Int), Value.int IntKind.i64 (0 : Int), Value.int IntKind.i64 (0 : Int), Value.int IntKind.i64 (0 : Int), Value.int IntKind.i64 (0 : Int)] }, Value.bool false] })) H') (PtrK c fun (a_2 : Addr) ↦ PtrK (some a_2) fun (a_3 : Addr) ↦ PtrK (some (Addr.add a_3 (1 : Nat))) fun (a_4 : Addr) ↦ ∃ (r : Option Nat), Heap.has H' a_4 [Value.map r] ∧ ∃ (b_2 : Bool), (∃ (b : Bool), LookAt H' r IntKind.i64 id (Value.bool false) (Value.bool b_2) b) ∧ Br b_2 (Meets prog (51 : Nat) [Value.pointer c, Value.bool false] H' fun (e : Ending) (H' : Nat → Option Obj) ↦ e = Ending.returned (Value.tuple { toList := [] }) ∧ R (Ending.returned (Value.tuple { toList := [Value.agg { toList := [Value.bool false, Value.slice none (0 : Nat) (0 : Nat), Value.int IntKind.i64 (0 : Int), Value.int IntKind.i64 (0 : Int), Value.int IntKind.i64 (0 : Int), Value.int IntKind.i64 (0 : Int), Value.int IntKind.i64 (0 : Int), Value.int IntKind.i64 (0 : Int), Value.int IntKind.i64 (0 : Int), Value.int IntKind.i64 (0 : Int), Value.int IntKind.i64 (0 : Int)] }, Value.bool false] })) H') (PtrK c fun (a_5 : Addr) ↦ PtrK (some a_5) fun (a_6 : Addr) ↦ PtrK (some (Addr.add a_6 (1 : Nat))) fun (a_7 : Addr) ↦ ∃ (r : Option Nat), Heap.has H' a_7 [Value.map r] ∧ MapK r fun (r : Nat) ↦ ∃ (es : Array MapEntry), ∃ (clk : Nat), (H' r = some (Obj.map es clk) ∧ IntKeys IntKind.i64 es.toList) ∧ R (Ending.returned (Value.tuple { toList := [Value.agg { toList := Value.bool b :: Value.slice a n c_1 :: Value.int IntKind.i64 n_1 :: List.append (List.map (Value.int IntKind.i64) xs) (List.map (Value.int IntKind.i64) xs_1 ++ []) }, Value.bool true] })) (Heap.upd H' r (mapPut es clk IntKind.i64 id (Value.bool true)))))
theorem vc_vget (c : Option Addr) (id : Int) (R : Ending → Heap → Prop) (H : Heap) : vcFun prog { } f49 [SV.c (SC.v (Value.pointer c)), SV.c (SC.v (Value.int IntKind.i64 id))] R H = nf_vget c id R H := by kernel_rfl

def nf_vCheck (g : Option Addr) (R : Ending → Heap → Prop) (H : Heap) : Prop := ∀ (r : Nat), H r = none → ∀ (r_1 : Nat), Heap.upd H r (Obj.map #[] (0 : Nat)) r_1 = none → Meets prog (28 : Nat) [] (Heap.upd (Heap.upd H r (Obj.map #[] (0 : Nat))) r_1 (Obj.map #[] (0 : Nat))) fun (e : Ending) (H' : Nat → Option Obj) ↦ ∃ (n : Int), ∃ (n_1 : Int), ∃ (n_2 : Int), e = Ending.returned (Value.agg { toList := [Value.int IntKind.u32 n, Value.int IntKind.u32 n_1, Value.int IntKind.i64 n_2] }) ∧ ∀ (b : Nat), H' b = none → Meets prog (30 : Nat) [Value.pointer (some { block := b, off := (0 : Nat) }), Value.int IntKind.i64 (1 : Int), Value.agg { toList := [Value.int IntKind.u32 n, Value.int IntKind.u32 n_1, Value.int IntKind.i64 n_2] }] (Heap.upd H' b (Obj.cells { toList := [Value.pointer g, Value.map (some r), Value.map (some r_1), Value.bool false] } (67 : Nat))) fun (e : Ending) (H' : Nat → Option Obj) ↦ ∃ (n : Int), e = Ending.returned (Value.int IntKind.i64 n) ∧ ∃ (a : Option Addr), ∃ (r : Option Nat), ∃ (r_2 : Option Nat), ∃ (b_1 : Bool), (∃ (b_2 : Nat), blockOf (Value.pointer (some { block := b, off := (0 : Nat) })) = some b_2 ∧ H' b_2 = some (Obj.cells { toList := [Value.pointer a, Value.map r, Value.map r_2, Value.bool b_1] } (67 : Nat))) ∧ Br b_1 (R (Ending.returned (Value.int IntKind.i64 (21 : Int))) (Heap.delO H' (blockOf (Value.pointer (some { block := b, off := (0 : Nat) }))))) (MapK r fun (r : Nat) ↦ ∃ (es : Array MapEntry), ∃ (clk : Nat), Heap.delO H' (blockOf (Value.pointer (some { block := b, off := (0 : Nat) }))) r = some (Obj.map es clk) ∧ Meets prog (12 : Nat) [Value.pointer g] (Heap.delO H' (blockOf (Value.pointer (some { block := b, off := (0 : Nat) })))) fun (e : Ending) (H' : Nat → Option Obj) ↦ ∃ (a : Option Addr), ∃ (n : Nat), ∃ (c : Nat), e = Ending.returned (Value.slice a n c) ∧ Br ((↑(Array.size es) : Int) != (↑n : Int)) (R (Ending.returned (Value.int IntKind.i64 (21 : Int))) H') (R (Ending.returned (Value.int IntKind.i64 (0 : Int))) H'))
theorem vc_vCheck (g : Option Addr) (R : Ending → Heap → Prop) (H : Heap) : vcFun prog { } f9 [SV.c (SC.v (Value.pointer g))] R H = nf_vCheck g R H := by kernel_rfl

end Cr

set_option linter.unusedVariables false
set_option linter.unusedSimpArgs false
namespace Cr
open Go Sx Stb
open Go.Proofs.Try
set_option linter.unusedSectionVars false
variable [Dr]
set_option maxRecDepth 100000
/-- The checker: its grove, what was met, the points' ids, whether it is odd. -/
abbrev ckO (g : Option Addr) (rm ri : Nat) (odd : Bool) : Obj := .cells #[.pointer g, .map (some rm), .map (some ri), .bool odd] 67 (0, 0)
def CkAt (H : Heap) (b : Nat) (g : Option Addr) (rm ri : Nat) (odd : Bool) : Prop := H b = some (ckO g rm ri odd)
variable {H : Heap} {R : Ending → Heap → Prop} {b : Nat} {g : Option Addr} {rm ri : Nat} {odd : Bool}
theorem ck_has (h : CkAt H b g rm ri odd) {k : Nat} {x : Value} (e : (#[Value.pointer g, .map (some rm), .map (some ri), .bool odd] : Array Value)[k]? = some x) : H.has ⟨b, k, none⟩ [x] := by
  intro j y e'
  cases j with
  | zero =>
    simp only [List.getElem?_cons_zero, Option.some.injEq] at e'
    subst e'
    show (match H b with | some (.cells c _ _) => if (none : Option _).isSome then none else c[k + 0]? | _ => none) = some x
    rw [show H b = _ from h]
    exact e
  | succ j => simp at e'
theorem s_vneed {ok : Bool} (h : CkAt H b g rm ri odd) (k : R (.returned unitV) (H.upd b (ckO g rm ri (odd || !ok)))) : Meets prog 51 [.pointer (some ⟨b, 0, none⟩), .bool ok] H R := by
  refine spec_of func51 (by kernel_rfl) (fun t h => by cases h) (by simp [argsR, SV.rep, SC.rep, one]) (vc_vneed (some ⟨b, 0, none⟩) ok R H) ?_
  unfold nf_vneed
  refine ptr rfl (ptr rfl (ptr rfl ⟨odd, ck_has (k := 3) h rfl, br (fun q => ?_) fun q => ?_⟩))
  · subst q
    exact ptr rfl (ptr rfl (ptr rfl ⟨_, _, ⟨h, rfl, by simp [Addr.add]⟩, k⟩))
  · subst q
    exact ptr rfl (ptr rfl (ptr rfl ⟨_, _, ⟨h, rfl, by simp [Addr.add]⟩, k⟩))
theorem ck_upd (o : Bool) : CkAt (H.upd b (ckO g rm ri o)) b g rm ri o := upd_same _ _ _
theorem ck_le {H H' : Heap} (h : CkAt H b g rm ri odd) (hle : H ≤ H') : CkAt H' b g rm ri odd := hle _ _ h
abbrev nd0V : Value := ndV false none 0 0 0 z4 z4
theorem s_vget {ga : Addr} {r : Nat} {m : Int → Option Nd} {id : Int} {met : List (Int × Value)} (h : CkAt H b (some ga) rm ri odd) (hg : GroveAt H ga r m) (hs : ∀ d, m id = some d → d.pts.length ≤ 1000000) (hm : MapS H rm .i64 met)
    (hb : ∀ v, getL met id = some v → v = .bool true)
    (k1 : ∀ H', H ≤ H' → (m id = none ∨ (getL met id).isSome) → R (.returned (.tuple #[nd0V, .bool false])) (H'.upd b (ckO (some ga) rm ri true)))
    (k2 : ∀ v d H' es clk, H ≤ H' → m id = some d → getL met id = none → NdAt H' v d → H' rm = some (.map es clk) → MapS (H'.upd rm (mapPut es clk .i64 id (.bool true))) rm .i64 (putL met id (.bool true)) → R (.returned (.tuple #[v, .bool true])) (H'.upd rm (mapPut es clk .i64 id (.bool true)))) :
    Meets prog 49 [.pointer (some ⟨b, 0, none⟩), vi id] H R := by
  refine spec_of func49 (by kernel_rfl) (fun t h => by cases h) (by simp [argsR, SV.rep, SC.rep, one]) (vc_vget (some ⟨b, 0, none⟩) id R H) ?_
  unfold nf_vget
  refine ptr rfl (ptr rfl (ptr rfl ⟨some ga, ck_has (k := 0) h rfl, ?_⟩))
  refine s_get hg hs fun v H' hle hv => ?_
  have hv0 := hv
  obtain ⟨a, n, c, rfl, hs1, hk, hc⟩ := hv
  refine ⟨_, a, n, c, _, _, hk, _, hc, _, rfl, br (fun q => ?_) fun q => ?_⟩
  · refine s_vneed (ck_le h hle) ⟨rfl, ?_⟩
    have hn : m id = none := by cases e : m id with | none => rfl | some d => rw [e] at q; simp at q
    rw [show (odd || !false) = true by simp]
    exact k1 H' hle (.inl hn)
  · obtain ⟨d, hd⟩ : ∃ d, m id = some d := by cases e : m id with | none => rw [e] at q; simp at q | some d => exact ⟨d, rfl⟩
    have hm' := maps_same hm (fun o e => hle _ _ e)
    have hlk := map_look hm'.at id (.bool false)
    refine ptr rfl (ptr rfl (ptr rfl ⟨some rm, ck_has (k := 1) (ck_le h hle) rfl, ?_⟩))
    cases e : getL met id with
    | some x =>
      have hx := hb x e
      subst hx
      rw [e] at hlk
      refine ⟨true, ⟨_, hlk⟩, br (fun _ => ?_) fun q => by simp at q⟩
      refine s_vneed (ck_le h hle) ⟨rfl, ?_⟩
      rw [show (odd || !false) = true by simp]
      exact k1 H' hle (.inr (by rw [e]; rfl))
    | none =>
      rw [e] at hlk
      refine ⟨false, ⟨_, hlk⟩, br (fun q => by simp at q) fun _ => ?_⟩
      obtain ⟨es, clk, ⟨h1, h2⟩, h3⟩ := maps_put hm' id (.bool true)
      refine ptr rfl (ptr rfl (ptr rfl ⟨some rm, ck_has (k := 1) (ck_le h hle) rfl, es, clk, ⟨h1, h2⟩, ?_⟩))
      rw [hd] at hv0 ⊢
      have := k2 _ d H' es clk hle hd e hv0 h1 h3
      simp only [ndV, ndL, List.append_nil, Option.getD_some, Option.isSome_some, List.append_eq, List.cons_append, List.nil_append, List.append_assoc] at this ⊢
      exact this
end Cr

set_option linter.unusedVariables false
set_option linter.unusedSimpArgs false
namespace Cr
open Go Sx Stb
open Go.Proofs.Try
set_option linter.unusedSectionVars false
variable [Dr]
set_option maxRecDepth 100000
def h_chas : Hints := { eqs := [61] }
def nf_chas (x : Int) (y : Int) (lv : Int) (px : Int) (py : Int) (R : Ending → Heap → Prop) (H : Heap) : Prop := Meets prog (60 : Nat) [Value.agg { toList := [Value.int IntKind.u32 x, Value.int IntKind.u32 y, Value.int IntKind.i64 lv] }] H fun (e : Ending) (H' : Nat → Option Obj) ↦ ∃ (n : Int), ∃ (n_1 : Int), ∃ (n_2 : Int), e = Ending.returned (Value.agg { toList := [Value.int IntKind.u32 n, Value.int IntKind.u32 n_1, Value.int IntKind.i64 n_2] }) ∧ ∃ (G : Nat → Option Obj), G ≤ H' ∧ Meets prog (84 : Nat) [Value.int IntKind.u32 px, Value.int IntKind.u32 py, Value.int IntKind.i64 n_2] H' fun (e : Ending) (H'_1 : Nat → Option Obj) ↦ Keep G H' H' H'_1 ∧ ∃ (n_3 : Int), ∃ (n_4 : Int), ∃ (n_5 : Int), e = Ending.returned (Value.agg { toList := [Value.int IntKind.u32 n_3, Value.int IntKind.u32 n_4, Value.int IntKind.i64 n_5] }) ∧ R (Ending.returned (Value.bool (andO (some (andO (some (andO none (n_3 == n))) (n_4 == n_1))) (n_5 == n_2)))) (delLs H'_1 [])
theorem vc_chas (x : Int) (y : Int) (lv : Int) (px : Int) (py : Int) (R : Ending → Heap → Prop) (H : Heap) : vcFun prog h_chas f71 [ceA x y lv, SV.c (SC.v (Value.int IntKind.u32 px)), SV.c (SC.v (Value.int IntKind.u32 py))] R H = nf_chas x y lv px py R H := by kernel_rfl

def nf_cat (x : Int) (y : Int) (lv : Int) (R : Ending → Heap → Prop) (H : Heap) : Prop := Meets prog (60 : Nat) [Value.agg { toList := [Value.int IntKind.u32 x, Value.int IntKind.u32 y, Value.int IntKind.i64 lv] }] H fun (e : Ending) (H' : Nat → Option Obj) ↦ ∃ (n : Int), ∃ (n_1 : Int), ∃ (n_2 : Int), e = Ending.returned (Value.agg { toList := [Value.int IntKind.u32 n, Value.int IntKind.u32 n_1, Value.int IntKind.i64 n_2] }) ∧ R (Ending.returned (Value.agg { toList := [Value.int IntKind.u32 n, Value.int IntKind.u32 n_1, Value.int IntKind.i64 n_2] })) H'
theorem vc_cat (x : Int) (y : Int) (lv : Int) (R : Ending → Heap → Prop) (H : Heap) : vcFun prog { } f84 [SV.c (SC.v (Value.int IntKind.u32 x)), SV.c (SC.v (Value.int IntKind.u32 y)), SV.c (SC.v (Value.int IntKind.i64 lv))] R H = nf_cat x y lv R H := by kernel_rfl

variable {H : Heap} {R : Ending → Heap → Prop}
theorem s_cat {x y lv : Int} {h : Nat} (hh : h ≤ 32) (hl : minI (maxI lv 0) 32 = 32 - (h : Int)) (hx : 0 ≤ x ∧ x < 4294967296) (hy : 0 ≤ y ∧ y < 4294967296) (k : R (.returned (ceV (x / 2 ^ h * 2 ^ h) (y / 2 ^ h * 2 ^ h) (32 - h))) H) :
    Meets prog 84 [.int .u32 x, .int .u32 y, vi lv] H R := by
  refine spec_of func84 (by kernel_rfl) (fun t h => by cases h) (by simp [argsR, SV.rep, SegsRep, SC.rep, one]) (vc_cat x y lv R H) ?_
  unfold nf_cat
  exact s_fix hh hl hx hy ⟨_, _, _, rfl, k⟩
/-- Whether a point lies in a cell of size 2^h. -/
def inCe (x y : Int) (h : Nat) (px py : Int) : Bool := px / 2 ^ h * 2 ^ h == x / 2 ^ h * 2 ^ h && py / 2 ^ h * 2 ^ h == y / 2 ^ h * 2 ^ h
theorem s_chas {x y px py : Int} {h : Nat} (hh : h ≤ 32) (hx : 0 ≤ x ∧ x < 4294967296) (hy : 0 ≤ y ∧ y < 4294967296) (hpx : 0 ≤ px ∧ px < 4294967296) (hpy : 0 ≤ py ∧ py < 4294967296)
    (k : R (.returned (.bool (inCe x y h px py))) H) : Meets prog 71 [ceV x y (32 - (h : Int)), .int .u32 px, .int .u32 py] H R := by
  refine spec_of func71 (by kernel_rfl) ?_ (by simp [argsR, SV.rep, SegsRep, SC.rep, one]) (vc_chas x y (32 - (h : Int)) px py R H) ?_
  · intro t ht
    have : t = 61 := memN_one ht
    subst this
    exact eqOK_of (by kernel_rfl) (by kernel_rfl) (by kernel_rfl)
  unfold nf_chas
  refine s_fix hh (by unfold minI maxI; split <;> split <;> omega) hx hy ⟨_, _, _, rfl, H, heap_refl _, ?_⟩
  refine s_cat hh (by unfold minI maxI; split <;> split <;> omega) hpx hpy ⟨fun b o e _ => e, _, _, _, rfl, ?_⟩
  have : (andO (some (andO (some (andO none (px / 2 ^ h * 2 ^ h == x / 2 ^ h * 2 ^ h))) (py / 2 ^ h * 2 ^ h == y / 2 ^ h * 2 ^ h))) ((32 - (h : Int)) == 32 - (h : Int))) = inCe x y h px py := by simp [andO, inCe]
  rw [this]
  exact k
end Cr

set_option linter.unusedVariables false
set_option linter.unusedSimpArgs false
namespace Cr
open Go Sx Stb
open Go.Proofs.Try
set_option linter.unusedSectionVars false
variable [Dr]
set_option maxRecDepth 100000
variable {H : Heap} {R : Ending → Heap → Prop} {b : Nat} {g : Option Addr} {rm ri : Nat} {odd : Bool}
theorem has_off {H1 : Heap} {r : Nat} {es : Array MapEntry} {clk : Nat} (hr : H r = some (.map es clk)) (e : ∀ c, c ≠ r → H1 c = H c) {a : Addr} {l : List Value} (h : H.has a l) : H1.has a l := by
  intro j x hj
  have h0 := h j x hj
  unfold Heap.cell? at h0 ⊢
  by_cases q : (a.add j).block = r
  · rw [q, hr] at h0; simp at h0
  · rw [e _ q]; exact h0
end Cr

set_option linter.unusedVariables false
set_option linter.unusedSimpArgs false
namespace Cr
open Go Sx Stb
open Go.Proofs.Try
set_option linter.unusedSectionVars false
variable [Dr]
set_option maxRecDepth 100000
def h_vpt2 : Hints := { late := [51], deep := true, loops := [(2, ⟨[0, 1, 5, 8, 9], [.f 10 (.int .i64)], [.keep 5]⟩)] }
def nf_vpt2 (c : Option Addr) (a : Option Addr) (n : Nat) (k : Nat) (x : Int) (y : Int) (lv : Int) (R : Ending → Heap → Prop) (H : Heap) : Prop := c = c ∧ a = a ∧ n = n ∧ k = k ∧ (0 : Nat) = (0 : Nat) ∧ a = a ∧ n = n ∧ k = k ∧ (↑n : Int) = (↑n : Int) ∧ x = x ∧ y = y ∧ lv = lv ∧ LoopP (fun (K : (Int × PUnit) × PUnit × PUnit → (Nat → Option Obj) → Prop) (p : (Int × PUnit) × PUnit × PUnit) (H : Nat → Option Obj) ↦ Br (decide (p.fst.fst < (↑n : Int))) (((0 : Int) ≤ p.fst.fst ∧ p.fst.fst < (↑n : Int)) ∧ PtrK a fun (A : Addr) ↦ PtrK (some (Addr.add A (Int.toNat p.fst.fst * (4 : Nat)))) fun (a_1 : Addr) ↦ ∃ (n_1 : Int), ∃ (n_2 : Int), ∃ (n_3 : Int), ∃ (s : ByteArray), Heap.has H a_1 [Value.int IntKind.i64 n_1, Value.int IntKind.u32 n_2, Value.int IntKind.u32 n_3, Value.string s] ∧ ∃ (G : Nat → Option Obj), G ≤ H ∧ Meets prog (71 : Nat) [Value.agg { toList := [Value.int IntKind.u32 x, Value.int IntKind.u32 y, Value.int IntKind.i64 lv] }, Value.int IntKind.u32 n_2, Value.int IntKind.u32 n_3] H fun (e : Ending) (H' : Nat → Option Obj) ↦ Keep G H H H' ∧ ∃ (b : Bool), e = Ending.returned (Value.bool b) ∧ Br b (PtrK c fun (a_2 : Addr) ↦ PtrK (some a_2) fun (a_3 : Addr) ↦ PtrK (some (Addr.add a_3 (2 : Nat))) fun (a_4 : Addr) ↦ ∃ (r : Option Nat), Heap.has G a_4 [Value.map r] ∧ ∃ (b : Bool), (∃ (b_1 : Bool), LookAt G r IntKind.i64 n_1 (Value.bool false) (Value.bool b) b_1) ∧ Meets prog (51 : Nat) [Value.pointer c, Value.bool !b] (delLs H' []) fun (e : Ending) (H' : Nat → Option Obj) ↦ e = Ending.returned (Value.tuple { toList := [] }) ∧ PtrK c fun (a_5 : Addr) ↦ PtrK (some a_5) fun (a_6 : Addr) ↦ PtrK (some (Addr.add a_6 (2 : Nat))) fun (a_7 : Addr) ↦ ∃ (r : Option Nat), Heap.has H' a_7 [Value.map r] ∧ MapK r fun (r : Nat) ↦ ∃ (es : Array MapEntry), ∃ (clk : Nat), (H' r = some (Obj.map es clk) ∧ IntKeys IntKind.i64 es.toList) ∧ c = c ∧ a = a ∧ n = n ∧ k = k ∧ (0 : Nat) = (0 : Nat) ∧ a = a ∧ n = n ∧ k = k ∧ (↑n : Int) = (↑n : Int) ∧ x = x ∧ y = y ∧ lv = lv ∧ K ((IntKind.wrap IntKind.i64 (p.fst.fst + (1 : Int)), PUnit.unit), PUnit.unit, PUnit.unit) (Heap.upd H' r (mapPut es clk IntKind.i64 n_1 (Value.bool true)))) (Meets prog (51 : Nat) [Value.pointer c, Value.bool false] (delLs H' []) fun (e : Ending) (H' : Nat → Option Obj) ↦ e = Ending.returned (Value.tuple { toList := [] }) ∧ PtrK c fun (a_2 : Addr) ↦ PtrK (some a_2) fun (a_3 : Addr) ↦ PtrK (some (Addr.add a_3 (2 : Nat))) fun (a_4 : Addr) ↦ ∃ (r : Option Nat), Heap.has H' a_4 [Value.map r] ∧ MapK r fun (r : Nat) ↦ ∃ (es : Array MapEntry), ∃ (clk : Nat), (H' r = some (Obj.map es clk) ∧ IntKeys IntKind.i64 es.toList) ∧ c = c ∧ a = a ∧ n = n ∧ k = k ∧ (0 : Nat) = (0 : Nat) ∧ a = a ∧ n = n ∧ k = k ∧ (↑n : Int) = (↑n : Int) ∧ x = x ∧ y = y ∧ lv = lv ∧ K ((IntKind.wrap IntKind.i64 (p.fst.fst + (1 : Int)), PUnit.unit), PUnit.unit, PUnit.unit) (Heap.upd H' r (mapPut es clk IntKind.i64 n_1 (Value.bool true))))) (R (Ending.returned (Value.tuple { toList := [] })) H)) (((0 : Int), PUnit.unit), PUnit.unit, PUnit.unit) H
theorem vc_vpt2 (c : Option Addr) (a : Option Addr) (n : Nat) (k : Nat) (x : Int) (y : Int) (lv : Int) (R : Ending → Heap → Prop) (H : Heap) : vcFun prog h_vpt2 f63 [SV.c (SC.v (Value.pointer c)), SV.c (SC.v (Value.slice a n k)), ceA x y lv] R H = nf_vpt2 c a n k x y lv R H := by kernel_rfl

def h_vcha2 : Hints := { late := [51], deep := true, cuts := [(5, ⟨[0, 4, 5, 7], [], [.keep 4, .keep 5]⟩), (7, ⟨[0, 4, 5, 7, 8], [], [.keep 4, .keep 5, .keep 8]⟩)], loops := [(3, ⟨[0, 4, 5], [.f 7 (.int .i64)], [.keep 5, .box 4 37 [.f .bool, .f .slc, .f (.int .i64), .ints .i64 4, .ints .i64 4]]⟩)] }
def nf_vcha2 (c : Option Addr) (lf : Bool) (a : Option Addr) (n : Nat) (k : Nat) (nx : Int) (ks : List Int) (cs : List Int) (x : Int) (y : Int) (lv : Int) (R : Ending → Heap → Prop) (H : Heap) : Prop := Meets prog (63 : Nat) [Value.pointer c, Value.slice a n k, Value.agg { toList := [Value.int IntKind.u32 x, Value.int IntKind.u32 y, Value.int IntKind.i64 lv] }] H fun (e : Ending) (H' : Nat → Option Obj) ↦ e = Ending.returned (Value.tuple { toList := [] }) ∧ c = c ∧ (0 : Nat) = (0 : Nat) ∧ (0 : Nat) = (0 : Nat) ∧ x = x ∧ y = y ∧ lv = lv ∧ LoopP (fun (K : (Int × PUnit) × PUnit × (Bool × (Option Addr × Nat × Nat) × Int × List Int × List Int × PUnit) × PUnit → (Nat → Option Obj) → Prop) (p : (Int × PUnit) × PUnit × (Bool × (Option Addr × Nat × Nat) × Int × List Int × List Int × PUnit) × PUnit) (H : Nat → Option Obj) ↦ Br (decide (p.snd.snd.fst.snd.snd.fst > (0 : Int))) (PtrK c fun (a : Addr) ↦ PtrK (some a) fun (a : Addr) ↦ PtrK (some (Addr.add a (3 : Nat))) fun (a : Addr) ↦ ∃ (b : Bool), Heap.has H a [Value.bool b] ∧ Br (!b) (CutP (fun (I : PUnit × PUnit × PUnit × PUnit → (Nat → Option Obj) → Prop) ↦ Br (lv == (32 : Int)) (Meets prog (51 : Nat) [Value.pointer c, Value.bool ((↑p.snd.snd.fst.snd.fst.snd.fst : Int) == (4 : Int))] H fun (e : Ending) (H' : Nat → Option Obj) ↦ e = Ending.returned (Value.tuple { toList := [] }) ∧ c = c ∧ (0 : Nat) = (0 : Nat) ∧ (0 : Nat) = (0 : Nat) ∧ p.fst.fst = p.fst.fst ∧ p.snd.snd.fst.fst = p.snd.snd.fst.fst ∧ p.snd.snd.fst.snd.fst.1 = p.snd.snd.fst.snd.fst.1 ∧ p.snd.snd.fst.snd.fst.snd.fst = p.snd.snd.fst.snd.fst.snd.fst ∧ p.snd.snd.fst.snd.fst.snd.snd = p.snd.snd.fst.snd.fst.snd.snd ∧ p.snd.snd.fst.snd.snd.fst = p.snd.snd.fst.snd.snd.fst ∧ p.snd.snd.fst.snd.snd.snd.fst = p.snd.snd.fst.snd.snd.snd.fst ∧ p.snd.snd.fst.snd.snd.snd.snd.fst = p.snd.snd.fst.snd.snd.snd.snd.fst ∧ x = x ∧ y = y ∧ lv = lv ∧ I (PUnit.unit, PUnit.unit, PUnit.unit, PUnit.unit) H') (Meets prog (51 : Nat) [Value.pointer c, Value.bool false] H fun (e : Ending) (H' : Nat → Option Obj) ↦ e = Ending.returned (Value.tuple { toList := [] }) ∧ c = c ∧ (0 : Nat) = (0 : Nat) ∧ (0 : Nat) = (0 : Nat) ∧ p.fst.fst = p.fst.fst ∧ p.snd.snd.fst.fst = p.snd.snd.fst.fst ∧ p.snd.snd.fst.snd.fst.1 = p.snd.snd.fst.snd.fst.1 ∧ p.snd.snd.fst.snd.fst.snd.fst = p.snd.snd.fst.snd.fst.snd.fst ∧ p.snd.snd.fst.snd.fst.snd.snd = p.snd.snd.fst.snd.fst.snd.snd ∧ p.snd.snd.fst.snd.snd.fst = p.snd.snd.fst.snd.snd.fst ∧ p.snd.snd.fst.snd.snd.snd.fst = p.snd.snd.fst.snd.snd.snd.fst ∧ p.snd.snd.fst.snd.snd.snd.snd.fst = p.snd.snd.fst.snd.snd.snd.snd.fst ∧ x = x ∧ y = y ∧ lv = lv ∧ I (PUnit.unit, PUnit.unit, PUnit.unit, PUnit.unit) H')) fun (p_1 : PUnit × PUnit × PUnit × PUnit) (H : Nat → Option Obj) ↦ Meets prog (49 : Nat) [Value.pointer c, Value.int IntKind.i64 p.snd.snd.fst.snd.snd.fst] H fun (e : Ending) (H' : Nat → Option Obj) ↦ ∃ (b : Bool), ∃ (a : Option Addr), ∃ (n : Nat), ∃ (c_1 : Nat), ∃ (n_1 : Int), ∃ (xs : List Int), List.length xs = (4 : Nat) ∧ ∃ (xs_1 : List Int), List.length xs_1 = (4 : Nat) ∧ ∃ (b_1 : Bool), e = Ending.returned (Value.tuple { toList := [Value.agg { toList := Value.bool b :: Value.slice a n c_1 :: Value.int IntKind.i64 n_1 :: List.append (List.map (Value.int IntKind.i64) xs) (flatD [Seg.ints IntKind.i64 (4 : Nat) xs_1]) }, Value.bool b_1] }) ∧ CutP (fun (I : PUnit × PUnit × PUnit × PUnit × PUnit → (Nat → Option Obj) → Prop) ↦ Br b_1 (Br b (Br (decide ((↑n : Int) > (0 : Int))) (((0 : Int) ≤ (0 : Int) ∧ (0 : Int) < (↑n : Int)) ∧ PtrK a fun (A : Addr) ↦ PtrK (some (Addr.add A (0 : Nat))) fun (a_1 : Addr) ↦ PtrK (some (Addr.add a_1 (0 : Nat))) fun (a_2 : Addr) ↦ ∃ (n_2 : Int), Heap.has H' a_2 [Value.int IntKind.i64 n_2] ∧ ((0 : Int) ≤ IntKind.wrap IntKind.i64 ((↑p.snd.snd.fst.snd.fst.snd.fst : Int) - (1 : Int)) ∧ IntKind.wrap IntKind.i64 ((↑p.snd.snd.fst.snd.fst.snd.fst : Int) - (1 : Int)) < (↑p.snd.snd.fst.snd.fst.snd.fst : Int)) ∧ PtrK p.snd.snd.fst.snd.fst.1 fun (A : Addr) ↦ PtrK (some (Addr.add A (Int.toNat (IntKind.wrap IntKind.i64 ((↑p.snd.snd.fst.snd.fst.snd.fst : Int) - (1 : Int))) * (4 : Nat)))) fun (a_3 : Addr) ↦ PtrK (some (Addr.add a_3 (0 : Nat))) fun (a_4 : Addr) ↦ ∃ (n_3 : Int), Heap.has H' a_4 [Value.int IntKind.i64 n_3] ∧ Meets prog (51 : Nat) [Value.pointer c, Value.bool (decide (n_2 > n_3))] H' fun (e : Ending) (H' : Nat → Option Obj) ↦ e = Ending.returned (Value.tuple { toList := [] }) ∧ c = c ∧ (0 : Nat) = (0 : Nat) ∧ (0 : Nat) = (0 : Nat) ∧ p.fst.fst = p.fst.fst ∧ (0 : Nat) = (0 : Nat) ∧ p.snd.snd.fst.fst = p.snd.snd.fst.fst ∧ p.snd.snd.fst.snd.fst.1 = p.snd.snd.fst.snd.fst.1 ∧ p.snd.snd.fst.snd.fst.snd.fst = p.snd.snd.fst.snd.fst.snd.fst ∧ p.snd.snd.fst.snd.fst.snd.snd = p.snd.snd.fst.snd.fst.snd.snd ∧ p.snd.snd.fst.snd.snd.fst = p.snd.snd.fst.snd.snd.fst ∧ p.snd.snd.fst.snd.snd.snd.fst = p.snd.snd.fst.snd.snd.snd.fst ∧ p.snd.snd.fst.snd.snd.snd.snd.fst = p.snd.snd.fst.snd.snd.snd.snd.fst ∧ x = x ∧ y = y ∧ lv = lv ∧ b = b ∧ a = a ∧ n = n ∧ c_1 = c_1 ∧ n_1 = n_1 ∧ xs = xs ∧ xs_1 = xs_1 ∧ I (PUnit.unit, PUnit.unit, PUnit.unit, PUnit.unit, PUnit.unit) H') (Meets prog (51 : Nat) [Value.pointer c, Value.bool false] H' fun (e : Ending) (H' : Nat → Option Obj) ↦ e = Ending.returned (Value.tuple { toList := [] }) ∧ c = c ∧ (0 : Nat) = (0 : Nat) ∧ (0 : Nat) = (0 : Nat) ∧ p.fst.fst = p.fst.fst ∧ (0 : Nat) = (0 : Nat) ∧ p.snd.snd.fst.fst = p.snd.snd.fst.fst ∧ p.snd.snd.fst.snd.fst.1 = p.snd.snd.fst.snd.fst.1 ∧ p.snd.snd.fst.snd.fst.snd.fst = p.snd.snd.fst.snd.fst.snd.fst ∧ p.snd.snd.fst.snd.fst.snd.snd = p.snd.snd.fst.snd.fst.snd.snd ∧ p.snd.snd.fst.snd.snd.fst = p.snd.snd.fst.snd.snd.fst ∧ p.snd.snd.fst.snd.snd.snd.fst = p.snd.snd.fst.snd.snd.snd.fst ∧ p.snd.snd.fst.snd.snd.snd.snd.fst = p.snd.snd.fst.snd.snd.snd.snd.fst ∧ x = x ∧ y = y ∧ lv = lv ∧ b = b ∧ a = a ∧ n = n ∧ c_1 = c_1 ∧ n_1 = n_1 ∧ xs = xs ∧ xs_1 = xs_1 ∧ I (PUnit.unit, PUnit.unit, PUnit.unit, PUnit.unit, PUnit.unit) H')) (Meets prog (51 : Nat) [Value.pointer c, Value.bool false] H' fun (e : Ending) (H' : Nat → Option Obj) ↦ e = Ending.returned (Value.tuple { toList := [] }) ∧ c = c ∧ (0 : Nat) = (0 : Nat) ∧ (0 : Nat) = (0 : Nat) ∧ p.fst.fst = p.fst.fst ∧ (0 : Nat) = (0 : Nat) ∧ p.snd.snd.fst.fst = p.snd.snd.fst.fst ∧ p.snd.snd.fst.snd.fst.1 = p.snd.snd.fst.snd.fst.1 ∧ p.snd.snd.fst.snd.fst.snd.fst = p.snd.snd.fst.snd.fst.snd.fst ∧ p.snd.snd.fst.snd.fst.snd.snd = p.snd.snd.fst.snd.fst.snd.snd ∧ p.snd.snd.fst.snd.snd.fst = p.snd.snd.fst.snd.snd.fst ∧ p.snd.snd.fst.snd.snd.snd.fst = p.snd.snd.fst.snd.snd.snd.fst ∧ p.snd.snd.fst.snd.snd.snd.snd.fst = p.snd.snd.fst.snd.snd.snd.snd.fst ∧ x = x ∧ y = y ∧ lv = lv ∧ b = b ∧ a = a ∧ n = n ∧ c_1 = c_1 ∧ n_1 = n_1 ∧ xs = xs ∧ xs_1 = xs_1 ∧ I (PUnit.unit, PUnit.unit, PUnit.unit, PUnit.unit, PUnit.unit) H')) (Meets prog (51 : Nat) [Value.pointer c, Value.bool false] H' fun (e : Ending) (H' : Nat → Option Obj) ↦ e = Ending.returned (Value.tuple { toList := [] }) ∧ c = c ∧ (0 : Nat) = (0 : Nat) ∧ (0 : Nat) = (0 : Nat) ∧ p.fst.fst = p.fst.fst ∧ (0 : Nat) = (0 : Nat) ∧ p.snd.snd.fst.fst = p.snd.snd.fst.fst ∧ p.snd.snd.fst.snd.fst.1 = p.snd.snd.fst.snd.fst.1 ∧ p.snd.snd.fst.snd.fst.snd.fst = p.snd.snd.fst.snd.fst.snd.fst ∧ p.snd.snd.fst.snd.fst.snd.snd = p.snd.snd.fst.snd.fst.snd.snd ∧ p.snd.snd.fst.snd.snd.fst = p.snd.snd.fst.snd.snd.fst ∧ p.snd.snd.fst.snd.snd.snd.fst = p.snd.snd.fst.snd.snd.snd.fst ∧ p.snd.snd.fst.snd.snd.snd.snd.fst = p.snd.snd.fst.snd.snd.snd.snd.fst ∧ x = x ∧ y = y ∧ lv = lv ∧ b = b ∧ a = a ∧ n = n ∧ c_1 = c_1 ∧ n_1 = n_1 ∧ xs = xs ∧ xs_1 = xs_1 ∧ I (PUnit.unit, PUnit.unit, PUnit.unit, PUnit.unit, PUnit.unit) H')) fun (p_2 : PUnit × PUnit × PUnit × PUnit × PUnit) (H : Nat → Option Obj) ↦ Meets prog (63 : Nat) [Value.pointer c, Value.slice a n c_1, Value.agg { toList := [Value.int IntKind.u32 x, Value.int IntKind.u32 y, Value.int IntKind.i64 lv] }] H fun (e : Ending) (H' : Nat → Option Obj) ↦ e = Ending.returned (Value.tuple { toList := [] }) ∧ c = c ∧ (0 : Nat) = (0 : Nat) ∧ (0 : Nat) = (0 : Nat) ∧ x = x ∧ y = y ∧ lv = lv ∧ K ((IntKind.wrap IntKind.i64 (p.fst.fst + (↑n : Int)), PUnit.unit), PUnit.unit, (b, (a, n, c_1), n_1, xs, xs_1, PUnit.unit), PUnit.unit) H') (R (Ending.returned (Value.int IntKind.i64 p.fst.fst)) H)) (R (Ending.returned (Value.int IntKind.i64 p.fst.fst)) H)) (((↑n : Int), PUnit.unit), PUnit.unit, (lf, (a, n, k), nx, ks, cs, PUnit.unit), PUnit.unit) H'
theorem vc_vcha2 (c : Option Addr) (lf : Bool) (a : Option Addr) (n : Nat) (k : Nat) (nx : Int) (ks : List Int) (cs : List Int) (x : Int) (y : Int) (lv : Int) (R : Ending → Heap → Prop) (H : Heap) : vcFun prog h_vcha2 f50 [SV.c (SC.v (Value.pointer c)), ndA lf a n k nx ks cs, ceA x y lv] R H = nf_vcha2 c lf a n k nx ks cs x y lv R H := by kernel_rfl

def h_vchk2 : Hints := { late := [51], deep := true, cuts := [(7, ⟨[0, 5, 7], [], [.keep 5, .keep 7]⟩)], loops := [(8, ⟨[0, 5, 7, 44], [.f 45 (.int .i64)], [.keep 5, .keep 7]⟩)] }
def nf_vchk2 (c : Option Addr) (id : Int) (x : Int) (y : Int) (lv : Int) (R : Ending → Heap → Prop) (H : Heap) : Prop := Meets prog (49 : Nat) [Value.pointer c, Value.int IntKind.i64 id] H fun (e : Ending) (H' : Nat → Option Obj) ↦ ∃ (b : Bool), ∃ (a : Option Addr), ∃ (n : Nat), ∃ (c_1 : Nat), ∃ (n_1 : Int), ∃ (xs : List Int), List.length xs = (4 : Nat) ∧ ∃ (xs_1 : List Int), List.length xs_1 = (4 : Nat) ∧ ∃ (b_1 : Bool), e = Ending.returned (Value.tuple { toList := [Value.agg { toList := Value.bool b :: Value.slice a n c_1 :: Value.int IntKind.i64 n_1 :: List.append (List.map (Value.int IntKind.i64) xs) (flatD [Seg.ints IntKind.i64 (4 : Nat) xs_1]) }, Value.bool b_1] }) ∧ Br (!b_1) (R (Ending.returned (Value.int IntKind.i64 (0 : Int))) H') (PtrK c fun (a_1 : Addr) ↦ PtrK (some a_1) fun (a_2 : Addr) ↦ PtrK (some (Addr.add a_2 (3 : Nat))) fun (a_3 : Addr) ↦ ∃ (b_2 : Bool), Heap.has H' a_3 [Value.bool b_2] ∧ Br b_2 (R (Ending.returned (Value.int IntKind.i64 (0 : Int))) H') (Br b (Meets prog (50 : Nat) [Value.pointer c, Value.agg { toList := Value.bool b :: Value.slice a n c_1 :: Value.int IntKind.i64 n_1 :: List.append (List.map (Value.int IntKind.i64) xs) (List.map (Value.int IntKind.i64) xs_1 ++ []) }, Value.agg { toList := [Value.int IntKind.u32 x, Value.int IntKind.u32 y, Value.int IntKind.i64 lv] }] H' fun (e : Ending) (H' : Nat → Option Obj) ↦ ∃ (n : Int), e = Ending.returned (Value.int IntKind.i64 n) ∧ R (Ending.returned (Value.int IntKind.i64 n)) H') (CutP (fun (I : PUnit × PUnit × PUnit × PUnit → (Nat → Option Obj) → Prop) ↦ Br (decide (lv < (32 : Int))) (Meets prog (52 : Nat) [Value.agg { toList := Value.bool b :: Value.slice a n c_1 :: Value.int IntKind.i64 n_1 :: List.append (List.map (Value.int IntKind.i64) xs) (List.map (Value.int IntKind.i64) xs_1 ++ []) }] H' fun (e : Ending) (H' : Nat → Option Obj) ↦ ∃ (n_2 : Int), e = Ending.returned (Value.int IntKind.i64 n_2) ∧ Meets prog (51 : Nat) [Value.pointer c, Value.bool (decide (n_2 > (4 : Int)))] H' fun (e : Ending) (H' : Nat → Option Obj) ↦ e = Ending.returned (Value.tuple { toList := [] }) ∧ c = c ∧ (0 : Nat) = (0 : Nat) ∧ (0 : Nat) = (0 : Nat) ∧ x = x ∧ y = y ∧ lv = lv ∧ b = b ∧ a = a ∧ n = n ∧ c_1 = c_1 ∧ n_1 = n_1 ∧ xs = xs ∧ xs_1 = xs_1 ∧ I (PUnit.unit, PUnit.unit, PUnit.unit, PUnit.unit) H') (Meets prog (51 : Nat) [Value.pointer c, Value.bool false] H' fun (e : Ending) (H' : Nat → Option Obj) ↦ e = Ending.returned (Value.tuple { toList := [] }) ∧ c = c ∧ (0 : Nat) = (0 : Nat) ∧ (0 : Nat) = (0 : Nat) ∧ x = x ∧ y = y ∧ lv = lv ∧ b = b ∧ a = a ∧ n = n ∧ c_1 = c_1 ∧ n_1 = n_1 ∧ xs = xs ∧ xs_1 = xs_1 ∧ I (PUnit.unit, PUnit.unit, PUnit.unit, PUnit.unit) H')) fun (p : PUnit × PUnit × PUnit × PUnit) (H : Nat → Option Obj) ↦ c = c ∧ (0 : Nat) = (0 : Nat) ∧ (0 : Nat) = (0 : Nat) ∧ xs = xs ∧ x = x ∧ y = y ∧ lv = lv ∧ b = b ∧ a = a ∧ n = n ∧ c_1 = c_1 ∧ n_1 = n_1 ∧ xs = xs ∧ xs_1 = xs_1 ∧ LoopP (fun (K : (Int × PUnit) × PUnit × PUnit × PUnit → (Nat → Option Obj) → Prop) (p : (Int × PUnit) × PUnit × PUnit × PUnit) (H : Nat → Option Obj) ↦ Br (decide (p.fst.fst < (4 : Int))) (((0 : Int) ≤ p.fst.fst ∧ p.fst.fst < (↑(4 : Nat) : Int)) ∧ Br (decide (List.getD xs (Int.toNat p.fst.fst) (0 : Int) > (0 : Int))) (PtrK c fun (a_4 : Addr) ↦ PtrK (some a_4) fun (a_5 : Addr) ↦ PtrK (some (Addr.add a_5 (3 : Nat))) fun (a_6 : Addr) ↦ ∃ (b_3 : Bool), Heap.has H a_6 [Value.bool b_3] ∧ Br (!b_3) (∃ (G : Nat → Option Obj), G ≤ H ∧ ((0 : Int) ≤ p.fst.fst ∧ p.fst.fst < (↑(4 : Nat) : Int)) ∧ Meets prog (47 : Nat) [Value.agg { toList := [Value.int IntKind.u32 x, Value.int IntKind.u32 y, Value.int IntKind.i64 lv] }, Value.int IntKind.i64 p.fst.fst] H fun (e : Ending) (H' : Nat → Option Obj) ↦ Keep G H H H' ∧ ∃ (n_2 : Int), ∃ (n_3 : Int), ∃ (n_4 : Int), e = Ending.returned (Value.agg { toList := [Value.int IntKind.u32 n_2, Value.int IntKind.u32 n_3, Value.int IntKind.i64 n_4] }) ∧ Meets prog (30 : Nat) [Value.pointer c, Value.int IntKind.i64 (List.getD xs (Int.toNat p.fst.fst) (0 : Int)), Value.agg { toList := [Value.int IntKind.u32 n_2, Value.int IntKind.u32 n_3, Value.int IntKind.i64 n_4] }] (delLs H' []) fun (e : Ending) (H'_1 : Nat → Option Obj) ↦ Keep G (delLs H' []) (delLs H' []) H'_1 ∧ ∃ (n_5 : Int), e = Ending.returned (Value.int IntKind.i64 n_5) ∧ Meets prog (51 : Nat) [Value.pointer c, Value.bool (n_5 == List.getD xs_1 (Int.toNat p.fst.fst) (0 : Int))] (delLs H'_1 []) fun (e : Ending) (H' : Nat → Option Obj) ↦ e = Ending.returned (Value.tuple { toList := [] }) ∧ c = c ∧ (0 : Nat) = (0 : Nat) ∧ (0 : Nat) = (0 : Nat) ∧ xs = xs ∧ x = x ∧ y = y ∧ lv = lv ∧ b = b ∧ a = a ∧ n = n ∧ c_1 = c_1 ∧ n_1 = n_1 ∧ xs = xs ∧ xs_1 = xs_1 ∧ K ((IntKind.wrap IntKind.i64 (p.fst.fst + (1 : Int)), PUnit.unit), PUnit.unit, PUnit.unit, PUnit.unit) H') (c = c ∧ (0 : Nat) = (0 : Nat) ∧ (0 : Nat) = (0 : Nat) ∧ xs = xs ∧ x = x ∧ y = y ∧ lv = lv ∧ b = b ∧ a = a ∧ n = n ∧ c_1 = c_1 ∧ n_1 = n_1 ∧ xs = xs ∧ xs_1 = xs_1 ∧ K ((IntKind.wrap IntKind.i64 (p.fst.fst + (1 : Int)), PUnit.unit), PUnit.unit, PUnit.unit, PUnit.unit) H)) (c = c ∧ (0 : Nat) = (0 : Nat) ∧ (0 : Nat) = (0 : Nat) ∧ xs = xs ∧ x = x ∧ y = y ∧ lv = lv ∧ b = b ∧ a = a ∧ n = n ∧ c_1 = c_1 ∧ n_1 = n_1 ∧ xs = xs ∧ xs_1 = xs_1 ∧ K ((IntKind.wrap IntKind.i64 (p.fst.fst + (1 : Int)), PUnit.unit), PUnit.unit, PUnit.unit, PUnit.unit) H)) (Meets prog (52 : Nat) [Value.agg { toList := Value.bool b :: Value.slice a n c_1 :: Value.int IntKind.i64 n_1 :: List.append (List.map (Value.int IntKind.i64) xs) (List.map (Value.int IntKind.i64) xs_1 ++ []) }] H fun (e : Ending) (H' : Nat → Option Obj) ↦ ∃ (n : Int), e = Ending.returned (Value.int IntKind.i64 n) ∧ R (Ending.returned (Value.int IntKind.i64 n)) H')) (((0 : Int), PUnit.unit), PUnit.unit, PUnit.unit, PUnit.unit) H)))
theorem vc_vchk2 (c : Option Addr) (id : Int) (x : Int) (y : Int) (lv : Int) (R : Ending → Heap → Prop) (H : Heap) : vcFun prog h_vchk2 f30 [SV.c (SC.v (Value.pointer c)), SV.c (SC.v (Value.int IntKind.i64 id)), ceA x y lv] R H = nf_vchk2 c id x y lv R H := by kernel_rfl

def nf_al26 (R : Ending → Heap → Prop) (H : Heap) : Prop := Meets prog (21 : Nat) [] H fun (e : Ending) (H' : Nat → Option Obj) ↦ ∃ (a : Option Addr), e = Ending.returned (Value.pointer a) ∧ Meets prog (9 : Nat) [Value.pointer a] H' fun (e : Ending) (H' : Nat → Option Obj) ↦ ∃ (n : Int), e = Ending.returned (Value.int IntKind.i64 n) ∧ Br (n == (21 : Int)) (Meets prog (22 : Nat) [] H' fun (e : Ending) (H' : Nat → Option Obj) ↦ ∃ (a : Option Addr), e = Ending.returned (Value.pointer a) ∧ Meets prog (9 : Nat) [Value.pointer a] H' fun (e : Ending) (H' : Nat → Option Obj) ↦ ∃ (n : Int), e = Ending.returned (Value.int IntKind.i64 n) ∧ Br (n == (0 : Int)) (Meets prog (22 : Nat) [] H' fun (e : Ending) (H' : Nat → Option Obj) ↦ ∃ (a : Option Addr), e = Ending.returned (Value.pointer a) ∧ Meets prog (11 : Nat) [Value.pointer a] H' fun (e : Ending) (H' : Nat → Option Obj) ↦ ∃ (a : Option Addr), ∃ (n : Nat), ∃ (c : Nat), e = Ending.returned (Value.slice a n c) ∧ ∀ (v : Value) (H'_1 : Nat → Option Obj), H' ≤ H'_1 → (∀ (b : Nat), blockOf v = some b → H' b = none) → (∀ (b : Nat) (o : Obj), H'_1 b = some o → H' b = some o ∨ blockOf v = some b) → RowAt H'_1 v (3 : Nat) (1 : Nat) [[Value.int IntKind.i64 (1 : Int)]] → Meets prog (10 : Nat) [Value.slice a n c, v] H'_1 fun (e : Ending) (H' : Nat → Option Obj) ↦ ∃ (b : Bool), e = Ending.returned (Value.bool b) ∧ ∃ (es : List (List Value)), RowAt H' v (3 : Nat) (1 : Nat) es ∧ R (Ending.returned (Value.bool b)) (Heap.delO H' (blockOf v))) (R (Ending.returned (Value.bool false)) H')) (R (Ending.returned (Value.bool false)) H')
theorem vc_al26 (R : Ending → Heap → Prop) (H : Heap) : vcFun prog { } f6 [] R H = nf_al26 R H := by kernel_rfl

end Cr

set_option linter.unusedVariables false
set_option linter.unusedSimpArgs false
namespace Cr
open Go Sx Stb Bt
open Go.Sort (SWO)
set_option linter.unusedSectionVars false
variable [Dr]
/-! ### Points in order -/
theorem insR_perm {lt : Pt → Pt → Bool} (x : Pt) : ∀ L : List Pt, (insR lt x L).Perm (x :: L)
  | [] => List.Perm.refl _
  | y :: L => by
    unfold insR
    split
    · exact List.Perm.refl _
    · exact ((insR_perm x L).cons y).trans (List.Perm.swap ..)
theorem isort_perm {lt : Pt → Pt → Bool} (L : List Pt) : (isort lt L).Perm L := by
  suffices H : ∀ (L acc : List Pt), (L.foldl (fun acc x => insR lt x acc) acc).Perm (acc ++ L) by simpa [isort] using H L []
  intro L
  induction L with
  | nil => intro acc; simp
  | cons x L ih =>
    intro acc
    rw [List.foldl_cons]
    refine (ih _).trans ?_
    refine ((insR_perm x acc).append_right L).trans ?_
    exact List.perm_middle.symm
theorem perm_sortP (L : List Pt) : (sortP L).Perm L := isort_perm L
theorem sortP_rise {L : List Pt} (h : (L.map Pt.id).Nodup) : (sortP L).Pairwise fun p q => p.id < q.id := by
  have h1 : Srtd ltI (sortP L) := isort_srtd swo_I L
  have h2 : ((sortP L).map Pt.id).Nodup := ((perm_sortP L).map Pt.id).nodup_iff.2 h
  rw [List.Nodup, List.pairwise_map] at h2
  refine (h1.and h2).imp fun ⟨h1, h2⟩ => ?_
  simp only [decide_eq_false_iff_not] at h1
  omega
theorem rise_nodup {L : List Pt} (h : L.Pairwise fun p q => p.id < q.id) : (L.map Pt.id).Nodup := by
  rw [List.Nodup, List.pairwise_map]
  exact h.imp fun h => by omega
/-! ### Felling -/
def delsM (m : M) (I : List Int) : M := fun i => if i ∈ I then none else m i
inductive FTs (m : M) : List Int → List Pt → List Int → Prop
  | nil : FTs m [] [] []
  | zero {r : List Int} {L : List Pt} {I : List Int} : FTs m r L I → FTs m (0 :: r) L I
  | cons {k : Int} {r : List Int} {d : Nd} {L1 L : List Pt} {I1 I : List Int} : 0 < k → m k = some d → FTs m (d.kids ++ [d.next]) L1 I1 → FTs m r L I → FTs m (k :: r) (d.pts ++ L1 ++ L) (k :: I1 ++ I)
/-- A node and all below it: its points, its nodes. -/
def FT (m : M) (id : Int) (L : List Pt) (I : List Int) : Prop := ∃ d L1 I1, m id = some d ∧ FTs m (d.kids ++ [d.next]) L1 I1 ∧ L = d.pts ++ L1 ∧ I = id :: I1
theorem FTs.congr {m m' : M} {r : List Int} {L : List Pt} {I : List Int} (h : FTs m r L I) : (∀ i ∈ I, m' i = m i) → FTs m' r L I := by
  induction h with
  | nil => exact fun _ => .nil
  | zero _ ih => exact fun e => .zero (ih e)
  | cons hk hd _ _ ih1 ih2 =>
    intro e
    refine .cons hk (by rw [e _ (List.mem_cons_self ..)]; exact hd) (ih1 fun i hi => e i ?_) (ih2 fun i hi => e i ?_)
    · exact List.mem_append_left _ (List.mem_cons_of_mem _ hi)
    · exact List.mem_append_right _ hi
theorem FT.congr {m m' : M} {id : Int} {L : List Pt} {I : List Int} (h : FT m id L I) (e : ∀ i ∈ I, m' i = m i) : FT m' id L I := by
  obtain ⟨d, L1, I1, h1, h2, h3, rfl⟩ := h
  exact ⟨d, L1, I1, by rw [e _ (List.mem_cons_self ..)]; exact h1, h2.congr fun i hi => e i (List.mem_cons_of_mem _ hi), h3, rfl⟩
theorem FTs.one {m : M} {k : Int} {L : List Pt} {I : List Int} (hk : 0 < k) (h : FT m k L I) {r : List Int} {L' : List Pt} {I' : List Int} (h' : FTs m r L' I') : FTs m (k :: r) (L ++ L') (I ++ I') := by
  obtain ⟨d, L1, I1, h1, h2, rfl, rfl⟩ := h
  exact .cons hk h1 h2 h'
theorem quarters_perm {h : Nat} {L : List Pt} (hr : ∀ p ∈ L, PtR p) : (quarter h 0 L ++ (quarter h 1 L ++ (quarter h 2 L ++ quarter h 3 L))).Perm L := by
  induction L with
  | nil => simp [quarter]
  | cons p L ih =>
    have ih := ih fun q hq => hr q (List.mem_cons_of_mem _ hq)
    have hp := hr p (List.mem_cons_self ..)
    have h4 : qt h p = 0 ∨ qt h p = 1 ∨ qt h p = 2 ∨ qt h p = 3 := by
      unfold qt
      omega
    have e : ∀ q : Nat, quarter h q (p :: L) = if qt h p = (q : Int) then p :: quarter h q L else quarter h q L := fun q => by
      unfold quarter
      rw [List.filter_cons]
      by_cases e : qt h p = (q : Int) <;> simp [e]
    rw [e 0, e 1, e 2, e 3]
    rcases h4 with h4 | h4 | h4 | h4 <;> simp only [h4]
    · simpa using ih
    · simp only [show ¬ ((1 : Int) = ((0 : Nat) : Int)) by omega, show ((1 : Int) = ((1 : Nat) : Int)) by omega, show ¬ ((1 : Int) = ((2 : Nat) : Int)) by omega, show ¬ ((1 : Int) = ((3 : Nat) : Int)) by omega, if_true, if_false]
      exact List.perm_middle.trans (ih.cons p)
    · simp only [show ¬ ((2 : Int) = ((0 : Nat) : Int)) by omega, show ¬ ((2 : Int) = ((1 : Nat) : Int)) by omega, show ((2 : Int) = ((2 : Nat) : Int)) by omega, show ¬ ((2 : Int) = ((3 : Nat) : Int)) by omega, if_true, if_false]
      refine ((List.perm_middle (l₁ := quarter h 1 L)).append_left _).trans ?_
      exact List.perm_middle.trans (ih.cons p)
    · simp only [show ¬ ((3 : Int) = ((0 : Nat) : Int)) by omega, show ¬ ((3 : Int) = ((1 : Nat) : Int)) by omega, show ¬ ((3 : Int) = ((2 : Nat) : Int)) by omega, show ((3 : Int) = ((3 : Nat) : Int)) by omega, if_true, if_false]
      refine (((List.perm_middle (l₁ := quarter h 2 L)).append_left _).append_left _).trans ?_
      refine ((List.perm_middle (l₁ := quarter h 1 L)).append_left _).trans ?_
      exact List.perm_middle.trans (ih.cons p)
/-! ### What becomes of a tree -/
theorem freeL_dels {m : M} {I : List Int} (hn : I.Nodup) (hI : ∀ i ∈ I, m i ≠ none) (hr : ∀ i ∈ I, 1 ≤ i ∧ i ≤ 255) : (freeL (delsM m I)).length = (freeL m).length + I.length := by
  have hp : (freeL (delsM m I)).Perm (freeL m ++ I) := by
    refine (List.perm_ext_iff_of_nodup ((freeL_rise _).imp fun h => by omega) ?_).2 fun x => ?_
    · exact List.nodup_append.2 ⟨(freeL_rise _).imp fun h => by omega, hn, fun a ha b hb e => by subst e; exact hI a hb (mem_freeL.1 ha).2.2⟩
    · rw [mem_freeL, List.mem_append, mem_freeL]
      unfold delsM
      by_cases h : x ∈ I
      · simp [h, hr x h]
      · simp [h]
  rw [hp.length_eq, List.length_append]
/-- The numbers A are given up for the numbers B. -/
structure Rpl (m m' : M) (A B : List Int) : Prop where
  same : ∀ i, i ∉ A → i ∉ B → m' i = m i
  gone : ∀ i ∈ A, i ∉ B → m' i = none
  new : ∀ i ∈ B, i ∉ A → m i = none
  nodup : B.Nodup
  there : ∀ i ∈ B, m' i ≠ none
  count : (freeL m').length + B.length = (freeL m).length + A.length
theorem Rpl.trans {m m1 m2 : M} {A B D : List Int} (h : Rpl m m1 A B) (h' : Rpl m1 m2 B D) : Rpl m m2 A D where
  same := fun i ha hd => by
    by_cases hb : i ∈ B
    · rw [h'.gone i hb hd, h.new i hb ha]
    · rw [h'.same i hb hd, h.same i ha hb]
  gone := fun i ha hd => by
    by_cases hb : i ∈ B
    · exact h'.gone i hb hd
    · rw [h'.same i hb hd, h.gone i ha hb]
  new := fun i hd ha => by
    by_cases hb : i ∈ B
    · exact h.new i hb ha
    · rw [← h.same i ha hb]; exact h'.new i hd hb
  nodup := h'.nodup
  there := h'.there
  count := by have := h.count; have := h'.count; omega
theorem Rpl.off {m m' : M} {A B : List Int} (h : Rpl m m' A B) {i : Int} (hi : m i ≠ none) (ha : i ∉ A) : i ∉ B := fun hb => hi (h.new i hb ha)
theorem Rpl.keep {m m' : M} {A B : List Int} (h : Rpl m m' A B) {i : Int} (hi : m i ≠ none) (ha : i ∉ A) : m' i = m i := h.same i ha (h.off hi ha)
theorem Rpl.fresh {m : M} {k : Int} {r : List Int} {d : Nd} (hf : freeL m = k :: r) : Rpl m (setM m k d) [] [k] where
  same := fun i _ hi => setM_ne (by simpa using hi)
  gone := fun i hi => by cases hi
  new := fun i hi _ => by simp at hi; subst hi; exact (take_tail hf).1
  nodup := by simp
  there := fun i hi => by simp at hi; subst hi; rw [setM_same]; simp
  count := by rw [freeL_take hf, hf]; simp
theorem Rpl.drop {m : M} {k : Int} (h : m k ≠ none) (hr : 1 ≤ k ∧ k ≤ 255) : Rpl m (delM m k) [k] [] where
  same := fun i hi _ => by unfold delM; rw [if_neg (by simpa using hi)]
  gone := fun i hi _ => by simp at hi; subst hi; simp [delM]
  new := fun i hi => by cases hi
  nodup := by simp
  there := fun i hi => by cases hi
  count := by
    have e : delM m k = delsM m [k] := by funext i; simp [delM, delsM]
    rw [e, freeL_dels (by simp) (fun i hi => by simp at hi; subst hi; exact h) (fun i hi => by simp at hi; subst hi; exact hr)]
    simp
/-- Below numbers that are free there are just nodes. -/
def Low (m : M) : Prop := ∀ i j, m i ≠ none → j ∈ freeL m → i < j
/-- At most so many nodes are other ones. -/
def Chg (m m' : M) (n : Nat) : Prop := ∃ C : List Int, C.length ≤ n ∧ ∀ i, i ∉ C → m i ≠ none → m' i ≠ none → m' i = m i
theorem TrP_there {m : M} : ∀ {h : Nat} {id : Int} {L : List Pt} {I : List Int}, TrP m h id L I → ∀ i ∈ I, m i ≠ none
  | 0, id, L, I, h => by
    have : ∀ {I : List Int} {L : List Pt}, ChP m I L → ∀ i ∈ I, m i ≠ none := by
      intro I
      induction I with
      | nil => intro L h; exact h.elim
      | cons a r ih =>
        intro L h i hi
        cases r with
        | nil => simp at hi; subst hi; rw [h.2]; simp
        | cons b r =>
          rcases List.mem_cons.1 hi with rfl | hi
          · rw [h.2.1]; simp
          · exact ih h.2.2 i hi
    exact this h.2
  | n + 1, id, L, I, h => by
    unfold TrP at h
    split at h
    · obtain ⟨rfl, h⟩ := h
      intro i hi
      simp at hi; subst hi
      rw [h.2]; simp
    · obtain ⟨ks, cs, J, h1, h2, h3, rfl, h4⟩ := h
      intro i hi
      rcases List.mem_cons.1 hi with rfl | hi
      · rw [h1]; simp
      · have sub : ∀ q, q < 4 → i ∈ J q → m i ≠ none := fun q hq hm => by
          rcases h4 q hq with ⟨_, _, _, e⟩ | ⟨_, _, _, e⟩
          · rw [e] at hm; cases hm
          · exact TrP_there e i hm
        simp only [List.mem_append] at hi
        rcases hi with hi | hi | hi | hi
        · exact sub 0 (by omega) hi
        · exact sub 1 (by omega) hi
        · exact sub 2 (by omega) hi
        · exact sub 3 (by omega) hi
theorem nodup_len {α : Type} [DecidableEq α] : ∀ {a b : List α}, a.Nodup → (∀ x ∈ a, x ∈ b) → a.length ≤ b.length
  | [], b, _, _ => Nat.zero_le _
  | x :: a, b, hn, h => by
    rw [List.nodup_cons] at hn
    have hx := h x (List.mem_cons_self ..)
    have := nodup_len (b := b.erase x) hn.2 fun y hy => (List.mem_erase_of_ne (by rintro rfl; exact hn.1 hy)).2 (h y (List.mem_cons_of_mem _ hy))
    rw [List.length_erase_of_mem hx] at this
    have := List.length_pos_of_mem hx
    simp only [List.length_cons]; omega
end Cr

set_option linter.unusedVariables false
set_option linter.unusedSimpArgs false
namespace Sx
open Go
set_option linter.unusedSectionVars false
variable [Dr]
/-- What recover gives, and the mode of the function that is left. -/
def recU (u : FrameMode) : Value × FrameMode := match u with
  | .panicking ({ v, recovered := false, goexit := false } :: older) => (v, .panicking ({ v, recovered := true } :: older))
  | u => (.nilIface, u)
def retD (fn : Func) (R : Ending → FrameMode → Heap → Prop) (u' : FrameMode) (s : St) (H : Heap) : Prop := match s.dfr, fn.results.toList with
  | [], [] => R (.returned (.tuple #[])) u' H
  | _, _ => False
theorem retD_eq {fn : Func} {R : Ending → FrameMode → Heap → Prop} {u' : FrameMode} {s : St} {H : Heap} (h : retD fn R u' s H) : s.dfr = [] ∧ fn.results.toList = [] ∧ R (.returned (.tuple #[])) u' H := by
  unfold retD at h
  split at h
  · exact ⟨by assumption, by assumption, h⟩
  · exact h.elim
def retQD (fn : Func) (R : Ending → FrameMode → Heap → Prop) (u' : FrameMode) : Exit → St → Heap → Prop
  | .ret, s, H => retD fn R u' s H
  | .normal, s, H => retD fn R u' s H
  | _, _, _ => False
/-- A function whose first operation is recover. -/
def vcFunD (P : Program) (hs : Hints) (fn : Func) (args : List SV) (u : FrameMode) (R : Ending → FrameMode → Heap → Prop) (H : Heap) : Prop :=
  match fn.body with
  | some (.seq (.region _ ops false) rest) => match ops.toList with
    | o :: os => match o.op, o.dst, o.guard with
      | .call { callee := .builtin .recover, args := _, argTypes := _ }, some d, none => one (recU u).1 = true ∧
        opsK P hs (seqQ (fun s' H' => vc P hs rest (retQD fn R (recU u).2) s' H') (retQD fn R (recU u).2)) ops.toList os (St.set ⟨args ++ badN (fn.ntmps - args.length), [], []⟩ d (.c (.v (recU u).1))) H
      | _, _, _ => False
    | [] => False
  | _ => False
section
variable {P : Program}
theorem upon_mono {o : Oper} {a : Act} {next next' : Act → World → Prop} {Q Q' : Exit → Act → World → Prop} (hn : ∀ a w, next a w → next' a w) (hQ : ∀ e a w, Q e a w → Q' e a w) {r : Result Next} (h : o.upon P a next Q r) : o.upon P a next' Q' r := by
  unfold Oper.upon at *
  split at h
  · exact hn _ _ h
  · exact hn _ _ h
  · exact hn _ _ h
  · refine Calls.mono h fun e w' he => ?_
    cases e with
    | returned v => exact hn _ _ he
    | panicked c => exact hQ _ _ _ he
    | outgrown => exact he.imp fun a he => he.imp fun w he => hQ _ _ _ he
  · obtain h := h
    exact fun a b => let ⟨v, w', h1, h2⟩ := h a b; ⟨v, w', hn _ _ h1, h2⟩
  · exact hQ _ _ _ h
  · exact h.elim
/-- Where nothing recovers, callers stay as they are. -/
theorem wpOpsS_of {ops : Array Oper} {Q : Exit → Act → World → Prop} (hout : ∀ a w, ¬ Q .outgrown a w) {cs : List Frame} : ∀ (l : List Nat) (a : Act) (w : World), wpOps P ops Q l a w → wpOpsS P ops (fun e a cs' w => cs' = cs ∧ Q e a w) l a cs w
  | [], a, w, h => ⟨rfl, h⟩
  | i :: r, a, w, h => by
    simp only [wpOps] at h
    simp only [wpOpsS]
    cases ho : ops[i]? with
    | none => simp only [ho] at h; exact wpOpsS_of hout r _ _ h
    | some o =>
      simp only [ho] at h ⊢
      by_cases hw : Region.wanted o (yielded ops a.tmps) = true
      · rw [if_pos hw] at h ⊢
        have h : o.wp P a w (wpOps P ops Q r) Q := h.resolve_right fun ⟨_, a', w', q⟩ => hout a' w' q
        unfold Oper.wp at h
        generalize (execOp a.eval o).run P w = res at h
        split
        · exact h.elim
        · exact upon_mono (fun a w h => wpOpsS_of hout r a w h) (fun e a w h => ⟨trivial, h⟩) h
      · rw [if_neg hw] at h ⊢
        exact wpOpsS_of hout r _ _ h
theorem wpOpsS_mono {ops : Array Oper} {Q Q' : Exit → Act → List Frame → World → Prop} (hQ : ∀ e a cs w, Q e a cs w → Q' e a cs w) : ∀ {l : List Nat} {a : Act} {cs : List Frame} {w : World}, wpOpsS P ops Q l a cs w → wpOpsS P ops Q' l a cs w
  | [], a, cs, w, h => hQ _ _ _ _ h
  | i :: r, a, cs, w, h => by
    simp only [wpOpsS] at h ⊢
    cases ho : ops[i]? with
    | none => simp only [ho] at h; exact wpOpsS_mono hQ h
    | some o =>
      simp only [ho] at h ⊢
      by_cases hw : Region.wanted o (yielded ops a.tmps) = true
      · rw [if_pos hw] at h ⊢
        split at h
        · split at h
          · exact wpOpsS_mono hQ h
          · exact wpOpsS_mono hQ h
        · exact upon_mono (fun a w h => wpOpsS_mono hQ h) (fun e a w h => hQ _ _ _ _ h) h
      · rw [if_neg hw] at h ⊢
        exact wpOpsS_mono hQ h
theorem recoverD_eq {c : Frame} {cs : List Frame} {u : FrameMode} (hu : c.mode = u) : recoverD (c :: cs) = some ((recU u).1, { c with mode := (recU u).2 } :: cs) ∨ (recoverD (c :: cs) = none ∧ (recU u).1 = .nilIface ∧ { c with mode := (recU u).2 } :: cs = c :: cs) := by
  have same : ∀ m, c.mode = m → { c with mode := m } = c := fun m e => by subst e; rfl
  cases u with
  | run => exact .inr ⟨by simp only [recoverD, hu], rfl, by rw [show (recU .run).2 = .run from rfl, same _ hu]⟩
  | returning => exact .inr ⟨by simp only [recoverD, hu], rfl, by rw [show (recU .returning).2 = .returning from rfl, same _ hu]⟩
  | panicking l =>
    cases l with
    | nil => exact .inr ⟨by simp only [recoverD, hu], rfl, by rw [show (recU (.panicking [])).2 = .panicking [] from rfl, same _ hu]⟩
    | cons e older =>
      obtain ⟨v, rc, ge⟩ := e
      cases rc <;> cases ge
      · exact .inl (by simp only [recoverD, hu, recU])
      all_goals exact .inr ⟨by simp only [recoverD, hu], rfl, by simp only [recU]; rw [same _ hu]⟩
theorem meetsD_of_vc {f : FuncId} {fn : Func} {hs : Hints} {args : List SV} {vs : List Value} {u : FrameMode} {H : Heap} {R : Ending → FrameMode → Heap → Prop} (hf : P.funcs[f]? = some fn) (hc : callable P f = true)
    (hE : ∀ t, memN hs.eqs t = true → EqOK P t) (ha : argsR args vs) (h : vcFunD P hs fn args u R H) : MeetsD P f vs u H R := by
  refine ⟨hc, fun w hH => ?_⟩
  unfold vcFunD at h
  split at h
  · rename_i id ops rest hb
    split at h
    · rename_i o os hops
      split at h
      · rename_i ra rt d hop hd hg
        obtain ⟨hlen, hargs⟩ := argsR_get ha
        refine callsD_of_wpS hf hb fun c₀ cs hcm => ?_
        let C : Ctx := ⟨w, H⟩
        have hrep : Rep C ⟨fun _ => 0, fun _ => undef⟩ ⟨args ++ badN (fn.ntmps - args.length), [], []⟩ H { tmps := vs.toArray ++ Array.replicate (fn.ntmps - vs.toArray.size) undef, defers := [] } w := by
          refine { env := ?_, len := ?_, dfr := rfl, sub := hH, objs := by simp [look], priv := by simp [look], dist := by simp [look], os := rfl, tape := Tp.refl _, output := rfl, size := Nat.le_refl _, other := fun b _ e => ⟨rfl, e⟩ }
          · intro t x hx
            rw [nth_eq] at hx
            by_cases ht : t < args.length
            · rw [List.getElem?_append_left ht] at hx
              have ht' : t < vs.length := by omega
              refine hargs _ t x _ hx ?_
              rw [Array.getD_eq_getD_getElem?, Array.getElem?_append_left (by simpa using ht')]
              simp [ht']
            · rw [List.getElem?_append_right (by omega)] at hx
              have := badN_get _ _ _ hx
              subst this
              trivial
          · simp [badN_len]; omega
        generalize ({ tmps := vs.toArray ++ Array.replicate (fn.ntmps - vs.toArray.size) undef, defers := [] } : Act) = a0 at hrep
        obtain ⟨hone, h⟩ := h
        have hrep1 := hrep.put (x := .c (.v (recU u).1)) (y := (recU u).1) ⟨rfl, hone⟩ (some d)
        refine wpS_seq (wpS_region ?_)
        have hsz : List.range ops.size = 0 :: List.range' 1 os.length := by
          rw [List.range_eq_range', ← Array.length_toList, hops, List.length_cons, List.range'_succ]
        rw [hsz]
        have h0 : ops[0]? = some o := by rw [← Array.getElem?_toList, hops]; rfl
        have hrun : (execOp a0.eval o).run P w = .ok .recover w := by
          unfold execOp
          rw [hop]
          rfl
        have fin : wpOpsS P ops (Exit.thenS (rest.wpS P (bodyPostS P fn c₀ cs fun e u' w' => ∃ H', Step H w H' w' ∧ R e u' H')) (bodyPostS P fn c₀ cs fun e u' w' => ∃ H', Step H w H' w' ∧ R e u' H')) (List.range' 1 os.length) (a0.put (some d) (recU u).1) ({ c₀ with mode := (recU u).2 } :: cs) w := by
          have hl := opsK_sound hE os hrep1 h
          rw [← wpOps_eq_wpList os 1 (fun j => by rw [← Array.getElem?_toList, hops, Nat.add_comm]; rfl)] at hl
          have hs' := wpOpsS_of (cs := { c₀ with mode := (recU u).2 } :: cs) (fun a w ⟨V, s, H, _, q⟩ => q) _ _ _ hl
          have post : ∀ (e : Exit) (a : Act) (w' : World), GamQ C (retQD fn R (recU u).2) e a w' → bodyPostS P fn c₀ cs (fun e u' w' => ∃ H', Step H w H' w' ∧ R e u' H') e a ({ c₀ with mode := (recU u).2 } :: cs) w' := by
            rintro e a w' ⟨V, s, H', hr, hq⟩
            have done : (s.dfr = [] ∧ fn.results.toList = [] ∧ R (.returned (.tuple #[])) (recU u).2 H') → a.defers = [] ∧ ∃ u', ({ c₀ with mode := (recU u).2 } :: cs : List Frame) = { c₀ with mode := u' } :: cs ∧ ∃ v, (results fn a.tmps).run P w' = .ok v w' ∧ ∃ H', Step H w H' w' ∧ R (.returned v) u' H' := by
              rintro ⟨q1, q2, q3⟩
              refine ⟨by rw [hr.dfr, q1]; rfl, _, rfl, .tuple #[], ?_, H', rep_ends hr, q3⟩
              exact results_run (ys := []) (by rw [q2]; rfl)
            cases e with
            | ret => exact done (retD_eq hq)
            | normal => exact done (retD_eq hq)
            | panic ch => exact hq.elim
            | exit i => exact hq.elim
            | goto i => exact hq.elim
            | outgrown => exact hq.elim
          refine wpOpsS_mono ?_ hs'
          rintro e a cs' w' ⟨rfl, V, s, H', hr, hq⟩
          cases e with
          | normal =>
            refine wpS_of_wp (wp_mono (vc_sound hE rest hr hq) fun e a w' hg => post e a w' hg)
          | ret => exact post .ret a w' ⟨V, s, H', hr, hq⟩
          | panic ch => exact hq.elim
          | exit i => exact hq.elim
          | goto i => exact hq.elim
          | outgrown => exact hq.elim
        simp only [wpOpsS, h0]
        rw [if_pos (by simp [Region.wanted, hg]), hrun]
        simp only [hd]
        rcases recoverD_eq (cs := cs) hcm with e | ⟨e, e2, e3⟩
        · rw [e]; exact fin
        · rw [e]
          simp only
          rw [e2, e3] at fin
          exact fin
      · exact h.elim
    · exact h.elim
  · exact h.elim
end
end Sx

set_option linter.unusedVariables false
set_option linter.unusedSimpArgs false
namespace Cr
open Go Sx Stb Bt
open Go.Sort (SWO)
open Go.Proofs.Try
set_option linter.unusedSectionVars false
variable [Dr]
set_option maxRecDepth 100000
def nf_caught0 (A : Addr) (B : Addr) (R : Ending → FrameMode → Heap → Prop) (H : Heap) : Prop := one Value.nilIface = true ∧ R (Ending.returned (Value.tuple { toList := [] })) (recU FrameMode.returning).snd H
theorem vc_caught0 (A : Addr) (B : Addr) (R : Ending → FrameMode → Heap → Prop) (H : Heap) : vcFunD prog { } f26 [SV.c (SC.v (Value.pointer (some A))), SV.c (SC.v (Value.pointer (some B)))] FrameMode.returning R H = nf_caught0 A B R H := by kernel_rfl

def nf_caught1 (A : Addr) (B : Addr) (e : Int) (R : Ending → FrameMode → Heap → Prop) (H : Heap) : Prop := one (Value.iface (87 : Nat) (Value.agg { toList := [Value.int IntKind.i64 e] })) = true ∧ ∃ (G : Nat → Option Obj), G ≤ H ∧ PtrK (some A) fun (a : Addr) ↦ PtrK (some a) fun (A : Addr) ↦ ∃ (c : Array Value), ∃ (ty : Nat), (H A.block = some (Obj.cells c ty) ∧ A.spot = none ∧ A.off + (1 : Nat) ≤ Array.size c) ∧ G A.block = none ∧ PtrK (some B) fun (a : Addr) ↦ PtrK (some a) fun (A_1 : Addr) ↦ ∃ (c_1 : Array Value), ∃ (ty_1 : Nat), (Heap.upd H A.block (Obj.cells (writeCells c A.off [Value.pointer none]) ty) A_1.block = some (Obj.cells c_1 ty_1) ∧ A_1.spot = none ∧ A_1.off + (1 : Nat) ≤ Array.size c_1) ∧ G A_1.block = none ∧ R (Ending.returned (Value.tuple { toList := [] })) (recU (FrameMode.panicking [{ v := Value.iface (87 : TypeId) (Value.agg { toList := [Value.int IntKind.i64 e] }), recovered := false }])).snd (Heap.upd (Heap.upd H A.block (Obj.cells (writeCells c A.off [Value.pointer none]) ty)) A_1.block (Obj.cells (writeCells c_1 A_1.off [Value.int IntKind.i64 e]) ty_1))
theorem vc_caught1 (A : Addr) (B : Addr) (e : Int) (R : Ending → FrameMode → Heap → Prop) (H : Heap) : vcFunD prog { } f26 [SV.c (SC.v (Value.pointer (some A))), SV.c (SC.v (Value.pointer (some B)))] (FrameMode.panicking [{ v := Value.iface (87 : TypeId) (Value.agg { toList := [Value.int IntKind.i64 e] }), recovered := false }]) R H = nf_caught1 A B e R H := by kernel_rfl

section
variable {R : Ending → Heap → Prop} {H : Heap}
theorem append_eq {α : Type} (a b : List α) : List.append a b = a ++ b := rfl
theorem Chg.mono {m m' : M} {a b : Nat} (h : Chg m m' a) (hab : a ≤ b) : Chg m m' b := by
  obtain ⟨D, h1, h2⟩ := h
  exact ⟨D, by omega, h2⟩
theorem Low.fresh {m : M} {k : Int} {r : List Int} {d : Nd} (h : Low m) (hf : freeL m = k :: r) : Low (setM m k d) := fun i j hi hj => by
  rw [freeL_take hf] at hj
  by_cases e : i = k
  · subst e
    have := freeL_rise m
    rw [hf, List.pairwise_cons] at this
    exact this.1 j hj
  · rw [setM_ne e] at hi
    exact h i j hi (by rw [hf]; exact List.mem_cons_of_mem _ hj)
end
end Cr

set_option linter.unusedVariables false
set_option linter.unusedSimpArgs false
namespace Cr
open Go Sx Stb Bt
open Go.Sort (SWO)
open Go.Proofs.Try
set_option linter.unusedSectionVars false
variable [Dr]
set_option maxRecDepth 100000
section
variable {R : Ending → Heap → Prop} {H : Heap}
theorem s_total {v : Value} {d : Nd} (h : NdAt H v d) (hl : d.pts.length ≤ 1000000) (hs : d.leaf = false → QuaOK d.kids d.counts) (k : R (.returned (vi (if d.leaf then (d.pts.length : Int) else d.counts.getD 0 0 + d.counts.getD 1 0 + d.counts.getD 2 0 + d.counts.getD 3 0))) H) :
    Meets prog 52 [v] H R := by
  obtain ⟨a, n, c, rfl, h1, h2, h3⟩ := h
  have hln : d.pts.length = n := by simpa [pts] using (slice_len h1).1
  refine spec_of func52 (by kernel_rfl) (fun t h => by cases h) ?_ (vc_total d.leaf a n c d.next d.kids d.counts R H) ?_
  · simp [argsR, SV.rep, SegsRep, SC.rep, one, h2, h3]
  unfold nf_total
  refine br (fun q => ?_) fun q => ?_
  · rw [if_pos q, hln] at k; exact k
  · rw [if_neg (by simp [q])] at k
    have hq := hs q
    have := hq 0 (by omega); have := hq 1 (by omega); have := hq 2 (by omega); have := hq 3 (by omega)
    rw [w64 (k := d.counts.getD 0 0 + d.counts.getD 1 0) (by omega), w64 (k := d.counts.getD 0 0 + d.counts.getD 1 0 + d.counts.getD 2 0) (by omega), w64 (by omega)]
    exact ⟨⟨by omega, by omega⟩, ⟨by omega, by omega⟩, ⟨by omega, by omega⟩, ⟨by omega, by omega⟩, k⟩
end
end Cr

set_option linter.unusedVariables false
set_option linter.unusedSimpArgs false
namespace Cr
open Go Sx Stb Bt
open Go.Proofs.Try
set_option linter.unusedSectionVars false
variable [Dr]
set_option maxRecDepth 100000
def h_build : Hints := { pan := true, pk := some [2, 3], loops := [(2, ⟨[0, 2, 3, 8, 9], [.f 10 (.int .i64)], [.keep 2, .keep 3]⟩)] }
def nf_build (a : Option Addr) (n : Nat) (c : Nat) (R : Ending → Heap → Prop) (H : Heap) : Prop := a = a ∧ n = n ∧ c = c ∧ (0 : Nat) = (0 : Nat) ∧ (0 : Nat) = (0 : Nat) ∧ a = a ∧ n = n ∧ c = c ∧ (↑n : Int) = (↑n : Int) ∧ (none : Option Addr) = none ∧ (0 : Int) = (0 : Int) ∧ LoopP (fun (K : (Int × PUnit) × PUnit × PUnit × PUnit → (Nat → Option Obj) → Prop) (p : (Int × PUnit) × PUnit × PUnit × PUnit) (H : Nat → Option Obj) ↦ Br (decide (p.fst.fst < (↑n : Int))) (((0 : Int) ≤ p.fst.fst ∧ p.fst.fst < (↑n : Int)) ∧ PtrK a fun (A : Addr) ↦ PtrK (some (Addr.add A (Int.toNat p.fst.fst * (4 : Nat)))) fun (a_1 : Addr) ↦ ∃ (n_1 : Int), ∃ (n_2 : Int), ∃ (n_3 : Int), ∃ (s : ByteArray), Heap.has H a_1 [Value.int IntKind.i64 n_1, Value.int IntKind.u32 n_2, Value.int IntKind.u32 n_3, Value.string s] ∧ Meets prog (23 : Nat) [Value.agg { toList := [Value.int IntKind.i64 n_1, Value.int IntKind.u32 n_2, Value.int IntKind.u32 n_3, Value.string s] }] H fun (e : Ending) (H' : Nat → Option Obj) ↦ (∃ (n_4 : Int), e = Ending.returned (Value.int IntKind.i64 n_4) ∧ Br (n_4 != (0 : Int)) (R (Ending.returned (Value.tuple { toList := [Value.pointer none, Value.int IntKind.i64 n_4] })) H') (a = a ∧ n = n ∧ c = c ∧ (0 : Nat) = (0 : Nat) ∧ (0 : Nat) = (0 : Nat) ∧ a = a ∧ n = n ∧ c = c ∧ (↑n : Int) = (↑n : Int) ∧ (none : Option Addr) = none ∧ (0 : Int) = (0 : Int) ∧ K ((IntKind.wrap IntKind.i64 (p.fst.fst + (1 : Int)), PUnit.unit), PUnit.unit, PUnit.unit, PUnit.unit) H')) ∨ ∃ (c : List PanicEntry), e = Ending.panicked c ∧ R (Ending.panicked c) H') (Meets prog (24 : Nat) [Value.slice a n c] H fun (e : Ending) (H' : Nat → Option Obj) ↦ (∃ (a : Option Addr), ∃ (n : Nat), ∃ (c : Nat), e = Ending.returned (Value.slice a n c) ∧ Meets prog (25 : Nat) [Value.slice a n c] H' fun (e : Ending) (H' : Nat → Option Obj) ↦ (∃ (b : Bool), e = Ending.returned (Value.bool b) ∧ Br b (R (Ending.returned (Value.tuple { toList := [Value.pointer none, Value.int IntKind.i64 (22 : Int)] })) H') (Meets prog (22 : Nat) [] H' fun (e : Ending) (H' : Nat → Option Obj) ↦ (∃ (a_1 : Option Addr), e = Ending.returned (Value.pointer a_1) ∧ ∃ (G : Nat → Option Obj), G ≤ H' ∧ Meets prog (28 : Nat) [] H' fun (e : Ending) (H'_1 : Nat → Option Obj) ↦ (Keep G H' H' H'_1 ∧ ∃ (n_1 : Int), ∃ (n_2 : Int), ∃ (n_3 : Int), e = Ending.returned (Value.agg { toList := [Value.int IntKind.u32 n_1, Value.int IntKind.u32 n_2, Value.int IntKind.i64 n_3] }) ∧ Meets prog (27 : Nat) [Value.agg { toList := [Value.pointer a_1] }, Value.int IntKind.i64 (1 : Int), Value.agg { toList := [Value.int IntKind.u32 n_1, Value.int IntKind.u32 n_2, Value.int IntKind.i64 n_3] }, Value.slice a n c] (delLs H'_1 []) fun (e : Ending) (H' : Nat → Option Obj) ↦ (Keep G (delLs H'_1 []) (delLs H'_1 []) H' ∧ e = Ending.returned (Value.tuple { toList := [] }) ∧ ∀ (b : Nat), delLs H' [] b = none → ∀ (b_1 : Nat), Heap.upd (delLs H' ([] ++ [] ++ ([] ++ ([] ++ ([] ++ ([] ++ [])) ++ ([] ++ []))))) b (Obj.cells { toList := [Value.pointer a_1] } (24 : Nat)) b_1 = none → MeetsD prog (26 : Nat) [Value.pointer (some { block := b, off := (0 : Nat) }), Value.pointer (some { block := b_1, off := (0 : Nat) })] FrameMode.returning (Heap.upd (Heap.upd (delLs H' []) b (Obj.cells { toList := [Value.pointer a_1] } (24 : Nat))) b_1 (Obj.cells { toList := [Value.int IntKind.i64 (0 : Int)] } (25 : Nat))) fun (e : Ending) (u : FrameMode) (H' : Nat → Option Obj) ↦ (∃ (v : Value), e = Ending.returned v) ∧ settle u = FrameMode.returning ∧ ∃ (a : Option Addr), (∃ (b_2 : Nat), blockOf (Value.pointer (some { block := b, off := (0 : Nat) })) = some b_2 ∧ H' b_2 = some (Obj.cells { toList := [Value.pointer a] } (24 : Nat))) ∧ ∃ (n : Int), (∃ (b_2 : Nat), blockOf (Value.pointer (some { block := b_1, off := (0 : Nat) })) = some b_2 ∧ Heap.delO H' (blockOf (Value.pointer (some { block := b, off := (0 : Nat) }))) b_2 = some (Obj.cells { toList := [Value.int IntKind.i64 n] } (25 : Nat))) ∧ R (Ending.returned (Value.tuple { toList := [Value.pointer a, Value.int IntKind.i64 n] })) (Heap.delO (Heap.delO H' (blockOf (Value.pointer (some { block := b, off := (0 : Nat) })))) (blockOf (Value.pointer (some { block := b_1, off := (0 : Nat) }))))) ∨ ∃ (c : List PanicEntry), e = Ending.panicked c ∧ ∀ (b : Nat), H' b = none → ∀ (b_1 : Nat), Heap.upd H' b (Obj.cells { toList := [Value.pointer none] } (24 : Nat)) b_1 = none → MeetsD prog (26 : Nat) [Value.pointer (some { block := b, off := (0 : Nat) }), Value.pointer (some { block := b_1, off := (0 : Nat) })] (FrameMode.panicking c) (Heap.upd (Heap.upd H' b (Obj.cells { toList := [Value.pointer none] } (24 : Nat))) b_1 (Obj.cells { toList := [Value.int IntKind.i64 (0 : Int)] } (25 : Nat))) fun (e : Ending) (u : FrameMode) (H' : Nat → Option Obj) ↦ (∃ (v : Value), e = Ending.returned v) ∧ ((settle u = FrameMode.returning ∧ ∃ (a : Option Addr), (∃ (b_2 : Nat), blockOf (Value.pointer (some { block := b, off := (0 : Nat) })) = some b_2 ∧ H' b_2 = some (Obj.cells { toList := [Value.pointer a] } (24 : Nat))) ∧ ∃ (n : Int), (∃ (b_2 : Nat), blockOf (Value.pointer (some { block := b_1, off := (0 : Nat) })) = some b_2 ∧ Heap.delO H' (blockOf (Value.pointer (some { block := b, off := (0 : Nat) }))) b_2 = some (Obj.cells { toList := [Value.int IntKind.i64 n] } (25 : Nat))) ∧ R (Ending.returned (Value.tuple { toList := [Value.pointer a, Value.int IntKind.i64 n] })) (Heap.delO (Heap.delO H' (blockOf (Value.pointer (some { block := b, off := (0 : Nat) })))) (blockOf (Value.pointer (some { block := b_1, off := (0 : Nat) }))))) ∨ ∃ (c' : List PanicEntry), settle u = FrameMode.panicking c' ∧ R (Ending.panicked c') H')) ∨ ∃ (c : List PanicEntry), e = Ending.panicked c ∧ ∀ (b : Nat), H'_1 b = none → ∀ (b_1 : Nat), Heap.upd H'_1 b (Obj.cells { toList := [Value.pointer none] } (24 : Nat)) b_1 = none → MeetsD prog (26 : Nat) [Value.pointer (some { block := b, off := (0 : Nat) }), Value.pointer (some { block := b_1, off := (0 : Nat) })] (FrameMode.panicking c) (Heap.upd (Heap.upd H'_1 b (Obj.cells { toList := [Value.pointer none] } (24 : Nat))) b_1 (Obj.cells { toList := [Value.int IntKind.i64 (0 : Int)] } (25 : Nat))) fun (e : Ending) (u : FrameMode) (H' : Nat → Option Obj) ↦ (∃ (v : Value), e = Ending.returned v) ∧ ((settle u = FrameMode.returning ∧ ∃ (a : Option Addr), (∃ (b_2 : Nat), blockOf (Value.pointer (some { block := b, off := (0 : Nat) })) = some b_2 ∧ H' b_2 = some (Obj.cells { toList := [Value.pointer a] } (24 : Nat))) ∧ ∃ (n : Int), (∃ (b_2 : Nat), blockOf (Value.pointer (some { block := b_1, off := (0 : Nat) })) = some b_2 ∧ Heap.delO H' (blockOf (Value.pointer (some { block := b, off := (0 : Nat) }))) b_2 = some (Obj.cells { toList := [Value.int IntKind.i64 n] } (25 : Nat))) ∧ R (Ending.returned (Value.tuple { toList := [Value.pointer a, Value.int IntKind.i64 n] })) (Heap.delO (Heap.delO H' (blockOf (Value.pointer (some { block := b, off := (0 : Nat) })))) (blockOf (Value.pointer (some { block := b_1, off := (0 : Nat) }))))) ∨ ∃ (c' : List PanicEntry), settle u = FrameMode.panicking c' ∧ R (Ending.panicked c') H')) ∨ ∃ (c : List PanicEntry), e = Ending.panicked c ∧ ∀ (b : Nat), H' b = none → ∀ (b_1 : Nat), Heap.upd H' b (Obj.cells { toList := [Value.pointer none] } (24 : Nat)) b_1 = none → MeetsD prog (26 : Nat) [Value.pointer (some { block := b, off := (0 : Nat) }), Value.pointer (some { block := b_1, off := (0 : Nat) })] (FrameMode.panicking c) (Heap.upd (Heap.upd H' b (Obj.cells { toList := [Value.pointer none] } (24 : Nat))) b_1 (Obj.cells { toList := [Value.int IntKind.i64 (0 : Int)] } (25 : Nat))) fun (e : Ending) (u : FrameMode) (H' : Nat → Option Obj) ↦ (∃ (v : Value), e = Ending.returned v) ∧ ((settle u = FrameMode.returning ∧ ∃ (a : Option Addr), (∃ (b_2 : Nat), blockOf (Value.pointer (some { block := b, off := (0 : Nat) })) = some b_2 ∧ H' b_2 = some (Obj.cells { toList := [Value.pointer a] } (24 : Nat))) ∧ ∃ (n : Int), (∃ (b_2 : Nat), blockOf (Value.pointer (some { block := b_1, off := (0 : Nat) })) = some b_2 ∧ Heap.delO H' (blockOf (Value.pointer (some { block := b, off := (0 : Nat) }))) b_2 = some (Obj.cells { toList := [Value.int IntKind.i64 n] } (25 : Nat))) ∧ R (Ending.returned (Value.tuple { toList := [Value.pointer a, Value.int IntKind.i64 n] })) (Heap.delO (Heap.delO H' (blockOf (Value.pointer (some { block := b, off := (0 : Nat) })))) (blockOf (Value.pointer (some { block := b_1, off := (0 : Nat) }))))) ∨ ∃ (c' : List PanicEntry), settle u = FrameMode.panicking c' ∧ R (Ending.panicked c') H'))) ∨ ∃ (c : List PanicEntry), e = Ending.panicked c ∧ R (Ending.panicked c) H') ∨ ∃ (c : List PanicEntry), e = Ending.panicked c ∧ R (Ending.panicked c) H')) (((0 : Int), PUnit.unit), PUnit.unit, PUnit.unit, PUnit.unit) H
theorem vc_build (a : Option Addr) (n : Nat) (c : Nat) (R : Ending → Heap → Prop) (H : Heap) : vcFun prog h_build f7 [SV.c (SC.v (Value.slice a n c))] R H = nf_build a n c R H := by kernel_rfl

theorem specD_of {P : Program} {f : FuncId} {fn : Func} {hs : Hints} {args : List SV} {vs : List Value} {u : FrameMode} {H : Heap} {R : Ending → FrameMode → Heap → Prop} {X : Prop} (hf : P.funcs[f]? = some fn) (hc : callable P f = true)
    (hE : ∀ t, memN hs.eqs t = true → EqOK P t) (ha : argsR args vs) (hv : vcFunD P hs fn args u R H = X) (hx : X) : MeetsD P f vs u H R := meetsD_of_vc hf hc hE ha (by rw [hv]; exact hx)
theorem del_two {H : Heap} {b b1 : Nat} {o o1 : Obj} (h : H b = none) (h1 : H b1 = none) : (((H.upd b o).upd b1 o1).delO (some b)).delO (some b1) = H := by
  funext x
  show (if x = b1 then none else if x = b then none else (if x = b1 then some o1 else if x = b then some o else H x)) = H x
  by_cases e1 : x = b1
  · subst e1; rw [if_pos rfl, h1]
  · by_cases e : x = b
    · subst e; rw [if_neg e1, if_pos rfl, h]
    · rw [if_neg e1, if_neg e, if_neg e1, if_neg e]
def FinR (R : Ending → Heap → Prop) (b b1 : Nat) (e : Ending) (u : FrameMode) (H' : Heap) : Prop := (∃ v : Value, e = .returned v) ∧ settle u = .returning ∧ ∃ a : Option Addr, (∃ b2, blockOf (.pointer (some ⟨b, 0, none⟩)) = some b2 ∧ H' b2 = some (.cells #[.pointer a] 24 (0, 0))) ∧
  ∃ n : Int, (∃ b2, blockOf (.pointer (some ⟨b1, 0, none⟩)) = some b2 ∧ (H'.delO (blockOf (.pointer (some ⟨b, 0, none⟩)))) b2 = some (.cells #[vi n] 25 (0, 0))) ∧ R (.returned (.tuple #[.pointer a, vi n])) ((H'.delO (blockOf (.pointer (some ⟨b, 0, none⟩)))).delO (blockOf (.pointer (some ⟨b1, 0, none⟩))))
section
variable {R : Ending → Heap → Prop} {H : Heap}
theorem fin_at {b b1 : Nat} {a : Option Addr} {n : Int} (hb : H b = none) (hb1 : H b1 = none) (hne : b1 ≠ b) (k : R (.returned (.tuple #[.pointer a, vi n])) H) {u : FrameMode} (hu : settle u = .returning) :
    FinR R b b1 (.returned unitV) u ((H.upd b (.cells #[.pointer a] 24 (0, 0))).upd b1 (.cells #[vi n] 25 (0, 0))) := by
  refine ⟨⟨_, rfl⟩, hu, a, ⟨b, rfl, by rw [upd_ne _ _ (Ne.symm hne), upd_same]⟩, n, ⟨b1, rfl, ?_⟩, ?_⟩
  · show (if b1 = b then none else _) = _
    rw [if_neg hne, upd_same]
  · have := del_two (o := .cells #[.pointer a] 24 (0, 0)) (o1 := .cells #[vi n] 25 (0, 0)) hb hb1
    show R _ (Heap.delO (Heap.delO _ (some b)) (some b1))
    rw [this]; exact k
theorem fin_ret {a : Option Addr} (k : R (.returned (.tuple #[.pointer a, vi 0])) H) : ∀ b, H b = none → ∀ b1, H.upd b (.cells #[.pointer a] 24 (0, 0)) b1 = none →
    MeetsD prog 26 [.pointer (some ⟨b, 0, none⟩), .pointer (some ⟨b1, 0, none⟩)] .returning ((H.upd b (.cells #[.pointer a] 24 (0, 0))).upd b1 (.cells #[vi 0] 25 (0, 0))) (FinR R b b1) := by
  intro b hb b1 hb1
  have hne : b1 ≠ b := by rintro rfl; rw [upd_same] at hb1; cases hb1
  rw [upd_ne _ _ hne] at hb1
  refine specD_of func26 (by kernel_rfl) (fun t h => by cases h) ?_ (vc_caught0 ⟨b, 0, none⟩ ⟨b1, 0, none⟩ _ _) ?_
  · simp [argsR, SV.rep, SC.rep, one]
  unfold nf_caught0
  exact ⟨rfl, fin_at hb hb1 hne k rfl⟩
theorem fin_pan {e : Int} (k : R (.returned (.tuple #[.pointer none, vi e])) H) : ∀ b, H b = none → ∀ b1, H.upd b (.cells #[.pointer none] 24 (0, 0)) b1 = none →
    MeetsD prog 26 [.pointer (some ⟨b, 0, none⟩), .pointer (some ⟨b1, 0, none⟩)] (.panicking (stopE e)) ((H.upd b (.cells #[.pointer none] 24 (0, 0))).upd b1 (.cells #[vi 0] 25 (0, 0))) fun e u H' =>
      (∃ v : Value, e = .returned v) ∧ ((settle u = .returning ∧ ∃ a : Option Addr, (∃ b2, blockOf (.pointer (some ⟨b, 0, none⟩)) = some b2 ∧ H' b2 = some (.cells #[.pointer a] 24 (0, 0))) ∧
        ∃ n : Int, (∃ b2, blockOf (.pointer (some ⟨b1, 0, none⟩)) = some b2 ∧ (H'.delO (blockOf (.pointer (some ⟨b, 0, none⟩)))) b2 = some (.cells #[vi n] 25 (0, 0))) ∧ R (.returned (.tuple #[.pointer a, vi n])) ((H'.delO (blockOf (.pointer (some ⟨b, 0, none⟩)))).delO (blockOf (.pointer (some ⟨b1, 0, none⟩))))) ∨
        ∃ c' : List PanicEntry, settle u = .panicking c' ∧ R (.panicked c') H') := by
  intro b hb b1 hb1
  have hne : b1 ≠ b := by rintro rfl; rw [upd_same] at hb1; cases hb1
  rw [upd_ne _ _ hne] at hb1
  refine specD_of func26 (by kernel_rfl) (fun t h => by cases h) ?_ (vc_caught1 ⟨b, 0, none⟩ ⟨b1, 0, none⟩ e _ _) ?_
  · simp [argsR, SV.rep, SC.rep, one]
  unfold nf_caught1
  refine ⟨rfl, fun _ => none, none_le _, ptr rfl (ptr rfl ⟨#[.pointer none], 24, ⟨by rw [upd_ne _ _ (Ne.symm hne), upd_same], rfl, by simp⟩, rfl, ptr rfl (ptr rfl ⟨#[vi 0], 25, ⟨by rw [upd_ne _ _ hne, upd_same], rfl, by simp⟩, rfl, ?_⟩)⟩)⟩
  have e1 : Heap.upd (Heap.upd (Heap.upd (Heap.upd H b (.cells #[.pointer none] 24 (0, 0))) b1 (.cells #[vi 0] 25 (0, 0))) b (.cells (writeCells #[.pointer none] 0 [.pointer none]) 24 (0, 0))) b1 (.cells (writeCells #[vi 0] 0 [vi e]) 25 (0, 0))
      = Heap.upd (Heap.upd H b (.cells #[.pointer none] 24 (0, 0))) b1 (.cells #[vi e] 25 (0, 0)) := by
    funext x
    unfold Heap.upd
    by_cases h1 : x = b1
    · subst h1; simp [writeCells]
    · by_cases h2 : x = b
      · subst h2; simp [h1, writeCells]
      · simp [h1, h2]
  rw [e1]
  have h5 := fin_at (R := R) (u := (recU (.panicking (stopE e))).2) hb hb1 hne k rfl
  exact ⟨h5.1, .inl h5.2⟩
end
end Cr

set_option linter.unusedVariables false
set_option linter.unusedSimpArgs false
namespace Cr
open Go Sx Stb Bt
open Go.Proofs.Try
set_option linter.unusedSectionVars false
variable [Dr]
set_option maxRecDepth 100000
def ptsM (m : M) (i : Int) : List Pt := ((m i).getD nd0).pts
theorem ptsM_some {m : M} {i : Int} {d : Nd} (h : m i = some d) : ptsM m i = d.pts := by unfold ptsM; rw [h]; rfl
theorem flat_four {α β : Type} {J : Nat → List α} {f : α → List β} : (J 0 ++ (J 1 ++ (J 2 ++ J 3))).flatMap f = (J 0).flatMap f ++ ((J 1).flatMap f ++ ((J 2).flatMap f ++ (J 3).flatMap f)) := by simp [List.flatMap_append]
theorem ChP_pts {m : M} : ∀ {I : List Int} {L : List Pt}, ChP m I L → I.flatMap (ptsM m) = L
  | [id], L, h => by simp [ptsM_some h.2]
  | id :: nx :: r, L, h => by
    rw [List.flatMap_cons, ChP_pts h.2.2, ptsM_some h.2.1]
    exact List.take_append_drop 4 L
theorem TrP_pts {m : M} : ∀ {h : Nat} {id : Int} {L : List Pt} {I : List Int}, (∀ p ∈ L, PtR p) → TrP m h id L I → (I.flatMap (ptsM m)).Perm L
  | 0, id, L, I, _, h => by rw [ChP_pts h.2]
  | n + 1, id, L, I, hr, h => by
    unfold TrP at h
    split at h
    · rw [ChP_pts h.2]
    · obtain ⟨ks, cs, J, h1, h2, h3, rfl, h4⟩ := h
      have sub : ∀ q, q < 4 → ((J q).flatMap (ptsM m)).Perm (quarter n q L) := fun q hq => by
        rcases h4 q hq with ⟨e1, _, _, e4⟩ | ⟨e1, _, _, e4⟩
        · rw [e1, e4]; exact List.Perm.refl _
        · exact TrP_pts (fun p hp => hr p (List.mem_filter.1 hp).1) e4
      rw [List.flatMap_cons, ptsM_some h1, List.nil_append, flat_four]
      exact ((sub 0 (by omega)).append ((sub 1 (by omega)).append ((sub 2 (by omega)).append (sub 3 (by omega))))).trans (quarters_perm hr)
section
variable {R : Ending → Heap → Prop} {H : Heap}
end
end Cr

set_option linter.unusedVariables false
set_option linter.unusedSimpArgs false
namespace Cr
open Go Sx Stb Bt
open Go.Proofs.Try
set_option linter.unusedSectionVars false
variable [Dr]
set_option maxRecDepth 100000
/-- The tree of points L; its nodes are the numbers I. -/
structure TreeOK (m : M) (L : List Pt) (I : List Int) : Prop where
  dom : Dom m
  tr : TrP m 32 1 L I
  nd : I.Nodup
  all : ∀ i, m i ≠ none → i ∈ I
  lok : LOK L
theorem TreeOK.iff {m : M} {L : List Pt} {I : List Int} (h : TreeOK m L I) (i : Int) : m i ≠ none ↔ i ∈ I := ⟨h.all i, TrP_there h.tr i⟩
theorem TreeOK.free {m : M} {L : List Pt} {I : List Int} (h : TreeOK m L I) : (freeL m).length + nds 32 L = 255 := by
  rw [← TrP_len h.tr]
  have h1 : I.Perm (numsL.filter fun i => !(m i).isNone) := by
    refine (List.perm_ext_iff_of_nodup h.nd ((numsL_rise.imp fun h => by omega : numsL.Nodup).filter _)).2 fun i => ?_
    rw [List.mem_filter, mem_numsL, ← h.iff]
    cases e : m i with
    | none => simp
    | some d => have := h.dom i d e; simp; omega
  have h2 : ∀ (l : List Int) (f : Int → Bool), (l.filter f).length + (l.filter fun i => !f i).length = l.length := fun l f => by
    induction l with
    | nil => rfl
    | cons x l ih => by_cases e : f x <;> simp [List.filter_cons, e] <;> omega
  rw [h1.length_eq]
  have := h2 numsL fun i => (m i).isNone
  rw [show numsL.length = 255 by simp] at this
  exact this
theorem ids_rise (m : M) (t : Nat) : (idsBelow m t).Pairwise (· < ·) := by
  unfold idsBelow
  refine List.Pairwise.filter _ ?_
  rw [List.pairwise_map]
  exact List.pairwise_lt_range.imp fun h => by omega
theorem TreeOK.ids {m : M} {L : List Pt} {I : List Int} (h : TreeOK m L I) : (idsOf m).Perm I :=
  (List.perm_ext_iff_of_nodup ((ids_rise m 255).imp fun h => by omega) h.nd).2 fun i => by
    show i ∈ idsBelow m 255 ↔ _
    rw [mem_idsBelow, ← h.iff]
    cases e : m i with
    | none => simp
    | some d => have := h.dom i d e; simp; omega
theorem TreeOK.pts {m : M} {L : List Pt} {I : List Int} (h : TreeOK m L I) : ((idsOf m).flatMap (ptsM m)).Perm L := (h.ids.flatMap_right _).trans (TrP_pts h.lok.range h.tr)
abbrev mE : M := setM (fun _ => none) 1 ⟨true, [], 0, z4, z4⟩
theorem mE_one : mE 1 = some nd1 := setM_same
theorem mE_ne {i : Int} (h : i ≠ 1) : mE i = none := setM_ne h
theorem mE_at {i : Int} (hi : mE i ≠ none) : i = 1 := by
  by_cases e : i = 1
  · exact e
  · exact absurd (mE_ne e) hi
theorem freeL_mE : freeL mE = numsL.tail := by
  have h : freeL (fun _ => none) = numsL := List.filter_eq_self.2 fun i _ => rfl
  exact freeL_take (i := 1) (r := numsL.tail) (by rw [h]; rfl)
theorem mE_free : (freeL mE).length = 254 := by rw [freeL_mE]; simp
theorem dom_mE : Dom mE := Dom.none.set ⟨by omega, by omega⟩ (leafOK LOK.nil (by simp) (by omega))
theorem pcode_bad {p : Pt} (h : pcode p ≠ 0) : ¬ ptOK p := fun e => h (pcode_ok.2 e)
/-- A tree that is grown out of nothing. -/
theorem grown {L : List Pt} (hL : LOK L) : (nds 32 L ≤ 255 → ∃ m I, growF 32 mE 1 L = some m ∧ (Dom m → TreeOK m L I) ∧ Low m) ∧ (255 < nds 32 L → growF 32 mE 1 L = none) := by
  have hs := growF_spec 32 mE 1 L (by rw [mE_one]; simp)
  unfold GrowOK at hs
  rw [mE_free] at hs
  refine ⟨fun h => ?_, fun h => hs.2 (by omega)⟩
  obtain ⟨m1, d, I, e1, e2, e3, e4⟩ := hs.1 (by omega)
  have h1 : m1 1 ≠ none := by rw [e2.keep (by rw [mE_one]; simp), mE_one]; simp
  have hall : ∀ i, setM m1 1 d i ≠ none → i ∈ (1 :: I : List Int) := fun i hi => by
    by_cases e : i = 1
    · simp [e]
    · by_cases hI : i ∈ I
      · exact List.mem_cons_of_mem _ hI
      · exfalso; rw [setM_ne e, e2.same i hI] at hi; exact e (mE_at hi)
  refine ⟨_, 1 :: I, e1, fun hD => ⟨hD, e4, List.nodup_cons.2 ⟨e2.off (by rw [mE_one]; simp), e2.nodup⟩, hall, hL⟩, fun i j hi hj => ?_⟩
  rw [freeL_set h1, e2.free] at hj
  rcases List.mem_cons.1 (hall i hi) with rfl | hi'
  · have h2 := (mem_freeL (m := mE)).1 (List.mem_of_mem_drop hj)
    have : j ≠ 1 := by rintro rfl; rw [mE_one] at h2; cases h2.2.2
    omega
  · have h2 := (e2.mem i).1 hi'
    have h3 := freeL_rise mE
    rw [← List.take_append_drop I.length (freeL mE), List.pairwise_append] at h3
    exact h3.2.2 i h2 j hj
theorem rise_of {L : List Pt} (h : Srtd ltI L) (h2 : ∀ (i : Nat) (p q : Pt), L[i]? = some p → L[i + 1]? = some q → q.id ≠ p.id) : L.Pairwise fun p q => p.id < q.id := by
  induction L with
  | nil => exact List.Pairwise.nil
  | cons x L ih =>
    have h1 := List.pairwise_cons.1 h
    have hr := ih h1.2 fun i p q hp hq => h2 (i + 1) p q (by simpa using hp) (by simpa using hq)
    refine List.pairwise_cons.2 ⟨fun y hy => ?_, hr⟩
    cases L with
    | nil => cases hy
    | cons z L =>
      have a1 := h1.1 z (List.mem_cons_self ..)
      have a2 := h2 0 x z rfl rfl
      simp only [decide_eq_false_iff_not] at a1
      rcases List.mem_cons.1 hy with rfl | hy
      · omega
      · have := (List.pairwise_cons.1 hr).1 y hy
        omega
section
variable {R : Ending → Heap → Prop} {H : Heap}
theorem s_build {v : Value} {l : List Pt} (hs : SliceAt H v 4 (pts l)) (hl : l.length ≤ 50000) (hp : ∀ p ∈ l, PtR p)
    (k1 : ∀ (i : Nat) (p : Pt), l[i]? = some p → (∀ (j : Nat) (q : Pt), j < i → l[j]? = some q → ptOK q) → pcode p ≠ 0 → R (.returned (.tuple #[.pointer none, vi (pcode p)])) H)
    (k2 : (∀ p ∈ l, ptOK p) → ¬ (l.map Pt.id).Nodup → ∀ H', H ≤ H' → R (.returned (.tuple #[.pointer none, vi 22])) H')
    (k3 : (∀ p ∈ l, ptOK p) → (l.map Pt.id).Nodup → 255 < nds 32 (sortP l) → ∀ H', H ≤ H' → R (.returned (.tuple #[.pointer none, vi 10])) H')
    (k4 : (∀ p ∈ l, ptOK p) → (l.map Pt.id).Nodup → nds 32 (sortP l) ≤ 255 → ∀ b r m I H', H b = none → H r = none → b ≠ r → H ≤ H' → GroveAt H' ⟨b, 0, none⟩ r m → TreeOK m (sortP l) I → Low m → R (.returned (.tuple #[.pointer (some ⟨b, 0, none⟩), vi 0])) H') :
    Meets prog 7 [v] H R := by
  obtain ⟨a, n, c, e, hn⟩ := hs
  subst e
  have hs : SliceAt H (.slice a n c) 4 (pts l) := ⟨a, n, c, rfl, hn⟩
  have hln : l.length = n := by simpa [pts] using hn.1
  refine spec_of func7 (by kernel_rfl) (fun t h => by cases h) ?_ (vc_build a n c R H) ?_
  · simp [argsR, SV.rep, SC.rep, one]
  unfold nf_build
  simp only [true_and]
  refine ⟨fun p H' => ∃ t : Nat, p.1.1 = (t : Int) ∧ t ≤ n ∧ (∀ (j : Nat) (q : Pt), j < t → l[j]? = some q → ptOK q) ∧ H' = H, fun p _ => (n - p.1.1).toNat, ⟨0, rfl, by omega, by omega, rfl⟩, ?_⟩
  rintro ⟨⟨i, _⟩, _⟩ H0 ⟨t, hi, ht, hok, rfl⟩
  simp only at hi ⊢
  subst hi
  refine br (fun q => ?_) fun q => ?_
  · simp only [decide_eq_true_eq] at q
    obtain ⟨p, _, htk, hx⟩ := drop_cons (l := l) (k := t) (by omega)
    obtain ⟨A, e, g⟩ := pr_get hs hx
    subst e
    rw [Int.toNat_natCast, w64 (by omega)]
    refine ⟨⟨by omega, by omega⟩, ptr rfl (ptr rfl ⟨_, _, _, _, g, s_pchk (.inl ⟨_, rfl, br (fun q1 => ?_) fun q1 => ?_⟩)⟩)⟩
    · exact k1 t p hx hok (by simpa using q1)
    · refine ⟨⟨t + 1, by omega, by omega, fun j y hj hy => ?_, rfl⟩, by omega⟩
      rcases Nat.lt_or_ge j t with h | h
      · exact hok j y h hy
      · obtain rfl : j = t := by omega
        rw [hx] at hy; cases hy
        exact pcode_ok.1 (by simpa using q1)
  · simp only [decide_eq_false_iff_not] at q
    obtain rfl : t = n := by omega
    have hall : ∀ p ∈ l, ptOK p := fun p hm => by
      obtain ⟨j, hj⟩ := List.mem_iff_getElem?.1 hm
      exact hok j p (by have := (List.getElem?_eq_some_iff.1 hj).1; omega) hj
    refine s_srt hs (by omega) fun v1 H1 hle1 hfr1 hrow1 => ?_
    obtain ⟨a1, c1, rfl⟩ := row_val hrow1
    have hsl := sortP_len l
    have hsrt : Srtd ltI (sortP l) := isort_srtd swo_I l
    have hperm := perm_sortP l
    refine .inl ⟨_, _, _, rfl, s_twice (row_slice hrow1) (by omega) (fun i p q hp1 hq1 he => .inl ⟨_, rfl, k2 hall (fun hnd => ?_) _ hle1⟩) fun hno => .inl ⟨_, rfl, ?_⟩⟩
    · have hr := sortP_rise hnd
      obtain ⟨i1, rfl⟩ := List.getElem?_eq_some_iff.1 hp1
      obtain ⟨i2, rfl⟩ := List.getElem?_eq_some_iff.1 hq1
      have := List.pairwise_iff_getElem.1 hr i (i + 1) i1 i2 (by omega)
      omega
    have hrise := rise_of hsrt hno
    have hnd : (l.map Pt.id).Nodup := (hperm.map Pt.id).nodup_iff.1 (rise_nodup hrise)
    have hL : LOK (sortP l) := ⟨fun p hm => hall p (hperm.subset hm), hrise, fun p hm => hp p (hperm.subset hm)⟩
    refine s_empty fun r b hr hb hne H2 hle2 hg2 => .inl ⟨_, rfl, _, none_le _, s_croot (.inl ⟨keep_none _ _, _, _, _, rfl, ?_⟩)⟩
    have hle := heap_trans hle1 hle2
    have nn : ∀ x, H1 x = none → H0 x = none := fun x e => by
      cases e' : H0 x with
      | none => rfl
      | some o => rw [hle1 _ _ e'] at e; cases e
    have up : ∀ H', GMod r H2 H' → H0 ≤ H' := fun H' hm x o e => hm x o (by rintro rfl; rw [nn _ hr] at e; cases e) (hle _ _ e)
    have hc0 : Cor 32 0 := ⟨by omega, by decide, by decide⟩
    obtain ⟨g1, g2⟩ := grown hL
    refine s_grow 32 (Nat.le_refl _) (by omega) hc0 hc0 (by omega) hg2 dom_mE hL (slice_le (row_slice hrow1) hle2) ⟨by omega, by omega⟩ (fun m' H3 e3 D3 g3 m3 => .inl ⟨keep_none _ _, rfl, fin_ret ?_⟩) fun e3 H3 m3 => .inr ⟨_, rfl, fin_pan ?_⟩
    · by_cases h255 : nds 32 (sortP l) ≤ 255
      · obtain ⟨m, I, f1, f2, f3⟩ := g1 h255
        rw [f1] at e3; cases e3
        exact k4 hall hnd h255 b r _ I H3 (nn _ hb) (nn _ hr) (Ne.symm hne) (up _ m3) g3 (f2 D3) f3
      · rw [g2 (by omega)] at e3; cases e3
    · by_cases h255 : nds 32 (sortP l) ≤ 255
      · obtain ⟨m, I, f1, f2, f3⟩ := g1 h255
        rw [f1] at e3; cases e3
      · exact k3 hall hnd (by omega) _ (up _ m3)
end
end Cr

set_option linter.unusedVariables false
set_option linter.unusedSimpArgs false
namespace Cr
open Go Sx Stb
open Go.Proofs.Try
set_option linter.unusedSectionVars false
variable [Dr]
set_option maxRecDepth 100000
/-- What the checker has met, which Ids, whether it is odd. -/
structure Ck where
  met : List Int
  ids : List Int
  odd : Bool
abbrev okL (l : List Int) : List (Int × Value) := l.map fun i => (i, Value.bool true)
def addI (l : List Int) (x : Int) : List Int := if x ∈ l then l else l ++ [x]
def needC (s : Ck) (ok : Bool) : Ck := { s with odd := s.odd || !ok }
def getC (m : M) (s : Ck) (id : Int) : Ck × Option Nd := match m id with
  | none => (needC s false, none)
  | some d => if id ∈ s.met then (needC s false, none) else ({ s with met := s.met ++ [id] }, some d)
def ptC1 (x y : Int) (h : Nat) (s : Ck) (p : Pt) : Ck := { needC s (inCe x y h p.x p.y && !decide (p.id ∈ s.ids)) with ids := addI s.ids p.id }
def ptsC (x y : Int) (h : Nat) (l : List Pt) (s : Ck) : Ck := l.foldl (ptC1 x y h) s
theorem getL_okL : ∀ (l : List Int) (x : Int), getL (okL l) x = if x ∈ l then some (.bool true) else none
  | [], x => rfl
  | y :: r, x => by
    show getL ((y, Value.bool true) :: okL r) x = _
    unfold getL
    by_cases e : x = y
    · simp [e]
    · rw [if_neg e, getL_okL r x]
      simp [e]
theorem putL_okL : ∀ (l : List Int) (x : Int), putL (okL l) x (.bool true) = okL (addI l x)
  | [], x => rfl
  | y :: r, x => by
    show putL ((y, Value.bool true) :: okL r) x _ = _
    unfold putL
    by_cases e : x = y
    · subst e; simp [addI]
    · rw [if_neg e, putL_okL r x]
      unfold addI
      by_cases q : x ∈ r
      · simp [q]
      · simp [q, e]
structure CkSt (H : Heap) (b : Nat) (ga : Addr) (r rm ri : Nat) (m : M) (s : Ck) : Prop where
  ck : CkAt H b (some ga) rm ri s.odd
  met : MapS H rm .i64 (okL s.met)
  ids : MapS H ri .i64 (okL s.ids)
  gr : GroveAt H ga r m
  n1 : r ≠ rm
  n2 : r ≠ ri
  n3 : rm ≠ ri
  nd : s.met.Nodup
  there : ∀ i ∈ s.met, m i ≠ none
/-- What the checker leaves as it was. -/
structure Fr (b rm ri : Nat) (H H' : Heap) : Prop where
  off : ∀ c o, c ≠ b → c ≠ rm → c ≠ ri → H c = some o → H' c = some o
  cells : ∀ (a : Addr) (l : List Value), (∀ x ∈ l, ∀ v, x ≠ .bool v) → H.has a l → H'.has a l
theorem Fr.refl {b rm ri : Nat} (H : Heap) : Fr b rm ri H H := ⟨fun _ _ _ _ _ e => e, fun _ _ _ h => h⟩
theorem Fr.trans {b rm ri : Nat} {A B C : Heap} (h : Fr b rm ri A B) (h' : Fr b rm ri B C) : Fr b rm ri A C := ⟨fun c o n1 n2 n3 e => h'.off c o n1 n2 n3 (h.off c o n1 n2 n3 e), fun a l hl h1 => h'.cells a l hl (h.cells a l hl h1)⟩
theorem has_mono {H H' : Heap} (hle : H ≤ H') {a : Addr} {l : List Value} (h : H.has a l) : H'.has a l := by
  intro j x hj
  have := h j x hj
  unfold Heap.cell? at this ⊢
  split at this
  · rename_i c ty fz e; rw [hle _ _ e]; exact this
  · cases this
theorem Fr.of_le {b rm ri : Nat} {H H' : Heap} (h : H ≤ H') : Fr b rm ri H H' := ⟨fun c o _ _ _ e => h c o e, fun a l _ h1 => has_mono h h1⟩
/-- The checker's block with another sign. -/
theorem fr_ck {H : Heap} {b : Nat} {g : Option Addr} {rm ri : Nat} {o o' : Bool} (h : CkAt H b g rm ri o) : Fr b rm ri H (H.upd b (ckO g rm ri o')) :=
  ⟨fun c ob n1 _ _ e => by rw [upd_ne _ _ n1]; exact e, fun a l hl hh => by
    intro j x hj
    have h1 := hh j x hj
    have hx := hl x (List.mem_of_getElem? hj)
    unfold Heap.cell? at h1 ⊢
    by_cases q : (a.add j).block = b
    · rw [q, show H b = _ from h] at h1
      rw [q, upd_same]
      simp only at h1 ⊢
      split
      · rename_i hs; rw [if_pos hs] at h1; cases h1
      · rename_i hs
        rw [if_neg hs] at h1
        generalize (a.add j).off = k at h1 ⊢
        match k, h1 with
        | 0, h1 => exact h1
        | 1, h1 => exact h1
        | 2, h1 => exact h1
        | 3, h1 => simp at h1; exact (hx _ h1.symm).elim
        | k + 4, h1 => simp at h1
    · rw [upd_ne _ _ q]; exact h1⟩
theorem fr_map {H : Heap} {b rm ri r : Nat} {es : Array MapEntry} {clk : Nat} {ob : Obj} (h : H r = some (.map es clk)) (hr : r = rm ∨ r = ri) : Fr b rm ri H (H.upd r ob) :=
  ⟨fun c o _ n2 n3 e => by rw [upd_ne _ _ (by rcases hr with rfl | rfl <;> assumption)]; exact e, fun a l _ hh => has_off h (fun c hc => upd_ne _ _ hc) hh⟩
theorem Fr.slice {b rm ri : Nat} {H H' : Heap} (h : Fr b rm ri H H') {v : Value} {l : List Pt} (hs : SliceAt H v 4 (pts l)) : SliceAt H' v 4 (pts l) := by
  obtain ⟨a, n, c, h1, h2, h3, h4, h5, h6⟩ := hs
  refine ⟨a, n, c, h1, h2, h3, h4, h5, fun i e he => ?_⟩
  obtain ⟨A, e1, e2, e3⟩ := h6 i e he
  refine ⟨A, e1, e2, h.cells _ _ (fun x hx v => ?_) e3⟩
  have := List.mem_of_getElem? he
  obtain ⟨p, _, rfl⟩ := List.mem_map.1 this
  simp only [ptC, List.mem_cons, List.not_mem_nil, or_false] at hx
  rcases hx with rfl | rfl | rfl | rfl <;> simp
theorem Fr.node {b rm ri : Nat} {H H' : Heap} (h : Fr b rm ri H H') {v : Value} {d : Nd} (hv : NdAt H v d) : NdAt H' v d := by
  obtain ⟨a, n, c, h1, h2, h3⟩ := hv
  exact ⟨a, n, c, h1, h.slice h2, h3⟩
theorem Fr.grove {b rm ri : Nat} {H H' : Heap} (h : Fr b rm ri H H') {ga : Addr} {r : Nat} {m : M} (hg : GroveAt H ga r m) (nb : r ≠ b) (n1 : r ≠ rm) (n2 : r ≠ ri) : GroveAt H' ga r m := by
  obtain ⟨h1, l, h2, h3⟩ := hg
  refine ⟨h.cells _ _ (fun x hx v => by simp only [List.mem_singleton] at hx; subst hx; simp) h1, l, ?_, fun id => ?_⟩
  · obtain ⟨es, clk, e1, e2⟩ := h2
    exact ⟨es, clk, h.off _ _ nb n1 n2 e1, e2⟩
  · rcases h3 id with q | ⟨v, d, q1, q2, q3⟩
    · exact .inl q
    · exact .inr ⟨v, d, q1, q2, h.node q3⟩
section
variable {H : Heap} {R : Ending → Heap → Prop} {b : Nat} {ga : Addr} {r rm ri : Nat} {m : M} {s : Ck}
theorem CkSt.nb (h : CkSt H b ga r rm ri m s) : r ≠ b ∧ rm ≠ b ∧ ri ≠ b := by
  obtain ⟨es, clk, e⟩ := h.gr.isMap
  obtain ⟨es1, clk1, e1, _⟩ := h.met
  obtain ⟨es2, clk2, e2, _⟩ := h.ids
  have hc : H b = some (ckO (some ga) rm ri s.odd) := h.ck
  refine ⟨?_, ?_, ?_⟩ <;> rintro rfl <;> simp_all
theorem CkSt.few (h : CkSt H b ga r rm ri m s) (hD : Dom m) : s.met.length ≤ 255 := by
  have : s.met.length ≤ numsL.length := nodup_len h.nd fun i hi => by
    have := h.there i hi
    cases e : m i with
    | none => exact (this e).elim
    | some d => have := hD i d e; exact mem_numsL.2 ⟨this.1, this.2.1⟩
  simpa using this
/-- The state, with another sign. -/
theorem CkSt.sign (h : CkSt H b ga r rm ri m s) (o : Bool) : CkSt (H.upd b (ckO (some ga) rm ri o)) b ga r rm ri m { s with odd := o } := by
  obtain ⟨n0, n1, n2⟩ := h.nb
  have fr := fr_ck (o' := o) h.ck
  exact ⟨ck_upd o, maps_same h.met (fun ob e => by rw [upd_ne _ _ n1]; exact e), maps_same h.ids (fun ob e => by rw [upd_ne _ _ n2]; exact e), fr.grove h.gr n0 h.n1 h.n2, h.n1, h.n2, h.n3, h.nd, h.there⟩
theorem CkSt.le {H' : Heap} (h : CkSt H b ga r rm ri m s) (hle : H ≤ H') : CkSt H' b ga r rm ri m s :=
  ⟨ck_le h.ck hle, maps_same h.met (fun o e => hle _ _ e), maps_same h.ids (fun o e => hle _ _ e), h.gr.le hle, h.n1, h.n2, h.n3, h.nd, h.there⟩
theorem s_cneed {ok : Bool} (h : CkSt H b ga r rm ri m s) (k : ∀ H', CkSt H' b ga r rm ri m (needC s ok) → Fr b rm ri H H' → R (.returned unitV) H') : Meets prog 51 [.pointer (some ⟨b, 0, none⟩), .bool ok] H R :=
  s_vneed h.ck (k _ (h.sign _) (fr_ck h.ck))
theorem s_cget {id : Int} (h : CkSt H b ga r rm ri m s) (hs : ∀ d, m id = some d → d.pts.length ≤ 1000000)
    (k1 : ∀ H', getC m s id = (needC s false, none) → CkSt H' b ga r rm ri m (needC s false) → Fr b rm ri H H' → R (.returned (.tuple #[nd0V, .bool false])) H')
    (k2 : ∀ v d H', m id = some d → id ∉ s.met → getC m s id = ({ s with met := s.met ++ [id] }, some d) → CkSt H' b ga r rm ri m { s with met := s.met ++ [id] } → Fr b rm ri H H' → NdAt H' v d → R (.returned (.tuple #[v, .bool true])) H') :
    Meets prog 49 [.pointer (some ⟨b, 0, none⟩), vi id] H R := by
  refine s_vget h.ck h.gr hs h.met (fun v e => by rw [getL_okL] at e; split at e <;> simp_all) (fun H' hle hn => ?_) fun v d H' es clk hle hd hn hv hr hm => ?_
  · have e : getC m s id = (needC s false, none) := by
      unfold getC
      cases q : m id with
      | none => rfl
      | some d =>
        rw [q] at hn
        rcases hn with hn | hn
        · cases hn
        · rw [getL_okL] at hn
          split at hn
          · rename_i hi; simp only; rw [if_pos hi]
          · cases hn
    have h' := h.le hle
    have := h'.sign true
    have e2 : needC s false = { s with odd := true } := by simp [needC]
    refine k1 _ e (by rw [e2]; exact this) ((Fr.of_le hle).trans (fr_ck h'.ck))
  · rw [getL_okL] at hn
    have hni : id ∉ s.met := fun q => by rw [if_pos q] at hn; cases hn
    have e : getC m s id = ({ s with met := s.met ++ [id] }, some d) := by
      unfold getC
      rw [hd]
      simp only
      rw [if_neg hni]
    have h' := h.le hle
    have fr := fr_map (b := b) (rm := rm) (ri := ri) (ob := mapPut es clk .i64 id (.bool true)) hr (.inl rfl)
    obtain ⟨n0, n1, n2⟩ := h'.nb
    rw [putL_okL, addI, if_neg hni] at hm
    refine k2 v d _ hd hni e ⟨?_, hm, maps_same h'.ids fun o e => by rw [upd_ne _ _ h.n3.symm]; exact e, fr.grove h'.gr n0 h.n1 h.n2, h.n1, h.n2, h.n3, ?_, ?_⟩ ((Fr.of_le hle).trans fr) (fr.node hv)
    · exact (upd_ne _ _ n1.symm).trans h'.ck
    · exact List.nodup_append.2 ⟨h.nd, by simp, fun a ha c hc => by simp only [List.mem_singleton] at hc; subst hc; exact fun e => hni (e ▸ ha)⟩
    · intro i hi
      rcases List.mem_append.1 hi with hi | hi
      · exact h.there i hi
      · simp only [List.mem_singleton] at hi; subst hi; rw [hd]; simp
/-- An Id is put. -/
theorem put_ids {X : Heap → Prop} (h : CkSt H b ga r rm ri m s) (id : Int) (k : ∀ H', CkSt H' b ga r rm ri m { s with ids := addI s.ids id } → Fr b rm ri H H' → X H') :
    PtrK (some ⟨b, 0, none⟩) fun a5 => PtrK (some a5) fun a6 => PtrK (some (Addr.add a6 2)) fun a7 => ∃ r1 : Option Nat, Heap.has H a7 [.map r1] ∧ MapK r1 fun r => ∃ es clk, (H r = some (.map es clk) ∧ IntKeys .i64 es.toList) ∧ X (Heap.upd H r (mapPut es clk .i64 id (.bool true))) := by
  obtain ⟨es, clk, ⟨h1, h2⟩, h3⟩ := maps_put h.ids id (.bool true)
  obtain ⟨n0, n1, n2⟩ := h.nb
  rw [putL_okL] at h3
  have fr := fr_map (b := b) (rm := rm) (ri := ri) (ob := mapPut es clk .i64 id (.bool true)) h1 (.inr rfl)
  refine ptr rfl (ptr rfl (ptr rfl ⟨some ri, ck_has (k := 2) h.ck rfl, es, clk, ⟨h1, h2⟩, k _ ⟨(upd_ne _ _ n2.symm).trans h.ck, maps_same h.met fun o e => by rw [upd_ne _ _ h.n3]; exact e, h3, fr.grove h.gr n0 h.n1 h.n2, h.n1, h.n2, h.n3, h.nd, h.there⟩ fr⟩))
theorem s_cpts {a : Option Addr} {n k : Nat} {l : List Pt} {x y : Int} {h : Nat} (hs : SliceAt H (.slice a n k) 4 (pts l)) (hc : CkSt H b ga r rm ri m s) (hh : h ≤ 32) (hx : 0 ≤ x ∧ x < 4294967296) (hy : 0 ≤ y ∧ y < 4294967296)
    (hp : ∀ p ∈ l, PtR p) (hn63 : n < 4611686018427387904) (K : ∀ H', CkSt H' b ga r rm ri m (ptsC x y h l s) → Fr b rm ri H H' → R (.returned unitV) H') :
    Meets prog 63 [.pointer (some ⟨b, 0, none⟩), .slice a n k, ceV x y (32 - (h : Int))] H R := by
  have hln : l.length = n := by obtain ⟨_, _, _, e, h2, _⟩ := hs; cases e; simpa [pts] using h2
  refine spec_of func63 (by kernel_rfl) (fun t h => by cases h) (by simp [argsR, SV.rep, SegsRep, SC.rep, one]) (vc_vpt2 (some ⟨b, 0, none⟩) a n k x y (32 - (h : Int)) R H) ?_
  unfold nf_vpt2
  simp only [true_and]
  refine ⟨fun p H1 => ∃ i : Nat, p.1.1 = (i : Int) ∧ i ≤ n ∧ CkSt H1 b ga r rm ri m (ptsC x y h (l.take i) s) ∧ Fr b rm ri H H1, fun p _ => n - p.1.1.toNat, ⟨0, rfl, by omega, by simpa [ptsC] using hc, Fr.refl _⟩, ?_⟩
  rintro ⟨⟨z, u⟩, u'⟩ H1 ⟨i, e, hin, hst, hfr⟩
  simp only at e ⊢
  subst e
  refine br (fun q => ?_) fun q => ?_
  · have hi2 : i < n := by simpa using q
    obtain ⟨d, hd⟩ : ∃ d, l[i]? = some d := ⟨l[i]'(by omega), List.getElem?_eq_getElem (by omega)⟩
    obtain ⟨A, hA, hsp, hat⟩ := slice_get (hfr.slice hs) (i := i) (e := ptC d) (by rw [pts, List.getElem?_map, hd]; rfl)
    have hmem := List.mem_of_getElem? hd
    have hd1 := hp d hmem
    have etk : l.take (i + 1) = l.take i ++ [d] := by rw [List.take_add_one, hd]; rfl
    have est : ptsC x y h (l.take (i + 1)) s = ptC1 x y h (ptsC x y h (l.take i) s) d := by rw [etk]; simp [ptsC]
    generalize hS : ptsC x y h (l.take i) s = S at *
    have fin : ∀ H2, CkSt H2 b ga r rm ri m (needC S (inCe x y h d.x d.y && !decide (d.id ∈ S.ids))) → Fr b rm ri H1 H2 → PtrK (some ⟨b, 0, none⟩) fun a5 => PtrK (some a5) fun a6 => PtrK (some (Addr.add a6 2)) fun a7 => ∃ r1 : Option Nat, Heap.has H2 a7 [.map r1] ∧ MapK r1 fun r' => ∃ es clk, (H2 r' = some (.map es clk) ∧ IntKeys .i64 es.toList) ∧
        ((∃ j : Nat, IntKind.i64.wrap ((i : Int) + 1) = (j : Int) ∧ j ≤ n ∧ CkSt (Heap.upd H2 r' (mapPut es clk .i64 d.id (.bool true))) b ga r rm ri m (ptsC x y h (l.take j) s) ∧ Fr b rm ri H (Heap.upd H2 r' (mapPut es clk .i64 d.id (.bool true)))) ∧ n - (IntKind.i64.wrap ((i : Int) + 1)).toNat < n - ((i : Int)).toNat) := fun H2 h2 f2 =>
      put_ids (X := fun H3 => (∃ j : Nat, IntKind.i64.wrap ((i : Int) + 1) = (j : Int) ∧ j ≤ n ∧ CkSt H3 b ga r rm ri m (ptsC x y h (l.take j) s) ∧ Fr b rm ri H H3) ∧ n - (IntKind.i64.wrap ((i : Int) + 1)).toNat < n - ((i : Int)).toNat) h2 d.id fun H3 h3 f3 =>
        ⟨⟨i + 1, by rw [w64 (by omega)]; simp, by omega, by rw [est]; exact h3, (hfr.trans f2).trans f3⟩, by rw [w64 (by omega)]; omega⟩
    refine ⟨⟨by omega, by omega⟩, ptr hA (ptr rfl ⟨d.id, d.x, d.y, d.data, by simpa using hat, H1, heap_refl _, ?_⟩)⟩
    refine s_chas hh hx hy ⟨hd1.1, hd1.2.1⟩ ⟨hd1.2.2.1, hd1.2.2.2⟩ ⟨fun b o e _ => e, _, rfl, ?_⟩
    have hlk := map_look hst.ids.at d.id (.bool false)
    rw [getL_okL] at hlk
    refine br (fun q2 => ptr rfl (ptr rfl (ptr rfl ⟨some ri, ck_has (k := 2) hst.ck rfl, decide (d.id ∈ S.ids), ⟨decide (d.id ∈ S.ids), ?_⟩, ?_⟩))) fun q2 => ?_
    · by_cases q3 : d.id ∈ S.ids
      · rw [if_pos q3] at hlk; rw [decide_eq_true q3]; exact hlk
      · rw [if_neg q3] at hlk; rw [decide_eq_false q3]; exact hlk
    · exact s_cneed hst fun H2 h2 f2 => ⟨rfl, fin H2 (by rw [q2]; simpa using h2) f2⟩
    · exact s_cneed hst fun H2 h2 f2 => ⟨rfl, fin H2 (by rw [q2]; simpa using h2) f2⟩
  · have : i = n := by simp at q; omega
    subst this
    rw [← hln, List.take_length] at hst
    exact K H1 hst hfr
end
end Cr

set_option linter.unusedVariables false
set_option linter.unusedSimpArgs false
namespace Cr
open Go Sx Stb
open Go.Proofs.Try
set_option linter.unusedSectionVars false
variable [Dr]
set_option maxRecDepth 100000
/-- Does a leaf stand behind another one? -/
def lnk (d e : Nd) : Bool := e.leaf && match e.pts.head?, d.pts.getLast? with
  | some p, some q => decide (q.id < p.id)
  | _, _ => false
def chainC (m : M) (x y : Int) (h : Nat) : Nat → Nd → Ck → Int → Ck × Int
  | 0, d, s, t => (s, t)
  | f + 1, d, s, t => if 0 < d.next ∧ s.odd = false then
      match getC m (needC s (decide (h = 0) && decide (d.pts.length = 4))) d.next with
      | (s2, none) => (needC s2 false, t)
      | (s2, some e) => chainC m x y h f e (ptsC x y h e.pts (needC s2 (lnk d e))) (t + e.pts.length)
    else (s, t)
def tot (d : Nd) : Int := d.counts.getD 0 0 + d.counts.getD 1 0 + d.counts.getD 2 0 + d.counts.getD 3 0
def kidsC (rec : Ck → Int → Int → Int → Ck × Int) (x y : Int) (h : Nat) (ks cs : List Int) : Nat → Ck → Ck
  | 0, s => s
  | q + 1, s => match kidsC rec x y h ks cs q s with
    | s => if 0 < ks.getD q 0 ∧ s.odd = false then
        match rec s (ks.getD q 0) (x + ((q % 2 : Nat) : Int) * 2 ^ h) (y + ((q / 2 : Nat) : Int) * 2 ^ h) with
        | (s', c) => needC s' (c == cs.getD q 0)
      else s
def checkC (m : M) : Nat → Nat → Int → Int → Int → Ck → Ck × Int
  | 0, h, id, x, y, s => (s, 0)
  | f + 1, h, id, x, y, s => match getC m s id with
    | (s1, none) => (s1, 0)
    | (s1, some d) => if s1.odd = true then (s1, 0)
      else if d.leaf = true then chainC m x y h 600 d (ptsC x y h d.pts s1) d.pts.length
      else (kidsC (fun s k x' y' => checkC m f (h - 1) k x' y' s) x y (h - 1) d.kids d.counts 4 (needC s1 (decide (0 < h) && decide (tot d > 4))), tot d)
/-- A leaf without points leads nowhere. -/
def NoPan (m : M) : Prop := ∀ i d e, m i = some d → 0 < d.next → d.pts = [] → m d.next = some e → d.next = i
def RangeM (m : M) : Prop := ∀ i d, m i = some d → ∀ p ∈ d.pts, PtR p
theorem slice_nil4 (H : Heap) : SliceAt H (.slice none 0 0) 4 (pts []) := ⟨none, 0, 0, rfl, rfl, Nat.le_refl _, by simp [pts], by simp [pts], by simp [pts]⟩
section
variable {H : Heap} {R : Ending → Heap → Prop} {b : Nat} {ga : Addr} {r rm ri : Nat} {m : M} {s : Ck}
def entN' (H : Heap) (r : Nat) : Nat := match H r with | some (.map es _) => es.size | _ => 0
theorem CkSt.ents (h : CkSt H b ga r rm ri m s) : entN' H rm = s.met.length := by
  obtain ⟨es, clk, e, h2, h3, _⟩ := h.met
  unfold entN'
  rw [e]
  have := congrArg List.length h3
  simpa using this
theorem ptsC_met (x y : Int) (h : Nat) : ∀ (l : List Pt) (s : Ck), (ptsC x y h l s).met = s.met
  | [], s => rfl
  | p :: l, s => by
    show (ptsC x y h l (ptC1 x y h s p)).met = _
    rw [ptsC_met x y h l]; rfl
theorem chainC_stop {x y : Int} {h : Nat} {d : Nd} {t : Int} (q : ¬ (0 < d.next ∧ s.odd = false)) : ∀ f, chainC m x y h f d s t = (s, t)
  | 0 => rfl
  | f + 1 => by unfold chainC; rw [if_neg q]
theorem s_cchain {v : Value} {d : Nd} {x y : Int} {h : Nat} (hv : NdAt H v d) (hc : CkSt H b ga r rm ri m s) (hD : Dom m) (hR : RangeM m) (hN : NoPan m) (hd4 : d.pts.length ≤ 4) (hdr : ∀ p ∈ d.pts, PtR p)
    (hcur : 0 < d.next → ∃ i ∈ s.met, m i = some d) (hh : h ≤ 32) (hx : 0 ≤ x ∧ x < 4294967296) (hy : 0 ≤ y ∧ y < 4294967296)
    (K : ∀ H', CkSt H' b ga r rm ri m (chainC m x y h 600 d (ptsC x y h d.pts s) d.pts.length).1 → Fr b rm ri H H' → R (.returned (vi (chainC m x y h 600 d (ptsC x y h d.pts s) d.pts.length).2)) H') :
    Meets prog 50 [.pointer (some ⟨b, 0, none⟩), v, ceV x y (32 - (h : Int))] H R := by
  obtain ⟨a, n, c, rfl, h1, h2, h3⟩ := hv
  have hln : d.pts.length = n := by simpa [pts] using (slice_len h1).1
  refine spec_of func50 (by kernel_rfl) (fun t h => by cases h) (by simp [argsR, SV.rep, SegsRep, SC.rep, one, h2, h3]) (vc_vcha2 (some ⟨b, 0, none⟩) d.leaf a n c d.next d.kids d.counts x y (32 - (h : Int)) R H) ?_
  unfold nf_vcha2
  simp only [true_and]
  refine s_cpts h1 hc hh hx hy hdr (by omega) fun H0 hc0 hf0 => ⟨rfl, ?_⟩
  generalize hF : chainC m x y h 600 d (ptsC x y h d.pts s) d.pts.length = F at *
  have hm0 := ptsC_met x y h d.pts s
  refine ⟨fun p H1 => ∃ (e : Nd) (S : Ck) (f : Nat), p.2.2.1.1 = e.leaf ∧ p.2.2.1.2.2.1 = e.next ∧ SliceAt H1 (.slice p.2.2.1.2.1.1 p.2.2.1.2.1.2.1 p.2.2.1.2.1.2.2) 4 (pts e.pts) ∧ CkSt H1 b ga r rm ri m S ∧ Fr b rm ri H H1 ∧
      (0 < e.next → 600 ≤ f + S.met.length) ∧ chainC m x y h f e S p.1.1 = F ∧ e.pts.length ≤ 4 ∧ (0 < e.next → ∃ i ∈ S.met, m i = some e) ∧ 0 ≤ p.1.1 ∧ p.1.1 ≤ 4 * S.met.length + 4, fun p H1 => 2 * (600 - entN' H1 rm) + (if 0 < p.2.2.1.2.2.1 then 1 else 0),
    ⟨d, ptsC x y h d.pts s, 600, rfl, rfl, hf0.slice h1, hc0, hf0, fun _ => by omega, by rw [hln] at hF; exact hF, hd4, by rw [hm0]; exact hcur, by simp, by simp; omega⟩, ?_⟩
  rintro ⟨⟨t, u1⟩, u2, ⟨lf, ⟨a1, n1, c1⟩, nx, ks, cs, u3⟩, u4⟩ H1 ⟨e, S, f, e1, e2, hs1, hc1, hf1, hfu, hfin, he4, hecur, ht0, ht⟩
  simp only at e1 e2 hs1 hfin ht0 ht ⊢
  subst e1 e2
  have hml := hc1.few hD
  have hen : e.pts.length = n1 := by simpa [pts] using (slice_len hs1).1
  have out : ¬ (0 < e.next ∧ S.odd = false) → R (.returned (vi t)) H1 := fun q => by
    rw [chainC_stop q] at hfin
    have := K H1
    rw [← hfin] at this
    exact this hc1 hf1
  refine br (fun q1 => ptr rfl (ptr rfl (ptr rfl ⟨S.odd, ck_has (k := 3) hc1.ck rfl, br (fun q2 => ?_) fun q2 => out ?_⟩))) fun q1 => out ?_
  · have hnx : 0 < e.next := by simpa using q1
    have hod : S.odd = false := by simpa using q2
    have hfu := hfu hnx
    obtain ⟨f, rfl⟩ : ∃ g, f = g + 1 := ⟨f - 1, by omega⟩
    unfold chainC at hfin
    rw [if_pos ⟨hnx, hod⟩] at hfin
    generalize hok : (decide (h = 0) && decide (e.pts.length = 4)) = ok at hfin
    refine ⟨fun _ H2 => CkSt H2 b ga r rm ri m (needC S ok) ∧ Fr b rm ri H1 H2, br (fun q3 => ?_) fun q3 => ?_, ?_⟩
    · have h0 : h = 0 := by simp at q3; omega
      refine s_cneed hc1 fun H2 g1 g2 => ⟨rfl, ?_, g2⟩
      have : ((n1 : Int) == 4) = ok := by rw [← hok, ← hen, h0]; by_cases q : e.pts.length = 4 <;> simp [q] <;> omega
      rw [this] at g1; exact g1
    · have h0 : h ≠ 0 := by rintro rfl; simp at q3
      refine s_cneed hc1 fun H2 g1 g2 => ⟨rfl, ?_, g2⟩
      have : ok = false := by rw [← hok, decide_eq_false h0]; rfl
      rw [this]; exact g1
    rintro _ H2 ⟨hc2, hf2⟩
    have hbound : 4 * ((S.met.length : Int) + 1) + 4 ≤ 4611686018427387904 := by omega
    refine s_cget hc2 (fun d hd => by have := hD.few hd; omega) (fun H3 hg hc3 hf3 => ?_) fun v g H3 hg0 hni hg hc3 hf3 hvg => ?_
    · rw [hg] at hfin
      refine ⟨false, none, 0, 0, 0, z4, rfl, z4, rfl, false, rfl, fun _ H4 => CkSt H4 b ga r rm ri m (needC (needC (needC S ok) false) false) ∧ Fr b rm ri H3 H4, br (fun q => by cases q) fun _ => s_cneed hc3 fun H4 g1 g2 => ⟨rfl, g1, g2⟩, ?_⟩
      rintro _ H4 ⟨hc4, hf4⟩
      refine s_cpts (slice_nil4 H4) hc4 hh hx hy (by simp) (by omega) fun H5 hc5 hf5 => ⟨rfl, ⟨nd0, _, f, rfl, rfl, slice_nil4 H5, hc5, (((hf1.trans hf2).trans hf3).trans hf4).trans hf5, fun q => by simp at q, ?_, by simp, fun q => by simp at q, ?_, ?_⟩, ?_⟩
      · rw [w64 (by omega), chainC_stop (by simp)]
        rw [← hfin]
        simp [ptsC]
      · rw [w64 (by omega)]; omega
      · rw [w64 (by omega), ptsC_met]
        show t + ((0 : Nat) : Int) ≤ 4 * ((S.met.length : Nat) : Int) + 4
        omega
      · rw [hc5.ents, hc1.ents, ptsC_met]
        show 2 * (600 - S.met.length) + _ < 2 * (600 - S.met.length) + _
        rw [if_pos hnx]; simp
    · rw [hg] at hfin
      obtain ⟨a2, n2, c2, rfl, k1, k2, k3⟩ := hvg
      have hgn : g.pts.length = n2 := by simpa [pts] using (slice_len k1).1
      have hg4 := hD.few hg0
      have hgr := hR _ _ hg0
      have hpe : e.pts ≠ [] := fun q => by
        obtain ⟨i, hi, hmi⟩ := hecur hnx
        have := hN i e g hmi hnx q hg0
        exact hni (this ▸ hi)
      have hgx : 0 < g.next → ∃ i ∈ (needC S ok).met ++ [e.next], m i = some g := fun _ => ⟨e.next, by simp, hg0⟩
      refine ⟨g.leaf, a2, n2, c2, g.next, g.kids, k2, g.counts, k3, true, by simp [ndV, ndL, flatD], fun _ H4 => CkSt H4 b ga r rm ri m (needC { needC S ok with met := (needC S ok).met ++ [e.next] } (lnk e g)) ∧ Fr b rm ri H3 H4, ?_, ?_⟩
      refine br (fun _ => br (fun q5 => br (fun q6 => ?_) fun q6 => ?_) fun q5 => ?_) fun q => by cases q
      · -- both have points
        obtain ⟨p, hp⟩ : ∃ p, g.pts[0]? = some p := ⟨g.pts[0]'(by simp at q6; omega), List.getElem?_eq_getElem (by simp at q6; omega)⟩
        have hel : 0 < e.pts.length := List.length_pos_iff.2 hpe
        obtain ⟨z, hz⟩ : ∃ z, e.pts[e.pts.length - 1]? = some z := ⟨e.pts[e.pts.length - 1]'(by omega), List.getElem?_eq_getElem (by omega)⟩
        obtain ⟨A, rfl, hA⟩ := pr_get k1 hp
        obtain ⟨B, rfl, hB⟩ := pr_get ((hf2.trans hf3).slice hs1) hz
        rw [w64 (by omega)]
        have e1 : ((n1 : Int) - 1).toNat = e.pts.length - 1 := by omega
        rw [e1]
        refine ⟨⟨by omega, by simp at q6; omega⟩, ptr rfl (ptr rfl (ptr rfl ⟨_, by simpa using has_first hA, ⟨by omega, by omega⟩, ptr rfl (ptr rfl (ptr rfl ⟨_, has_first (A := (B.add ((e.pts.length - 1) * 4)).add 0) (by rw [add0]; exact hB), ?_⟩))⟩))⟩
        refine s_cneed hc3 fun H4 g1 g2 => ⟨rfl, ?_, g2⟩
        have : lnk e g = decide (p.id > z.id) := by
          unfold lnk
          rw [List.head?_eq_getElem?, hp, List.getLast?_eq_getElem?, hz]
          rw [q5]; rfl
        rw [this]
        exact g1
      · refine s_cneed hc3 fun H4 g1 g2 => ⟨rfl, ?_, g2⟩
        have : lnk e g = false := by
          have : g.pts = [] := by cases q : g.pts with | nil => rfl | cons a b => rw [q] at hgn; simp at hgn q6; omega
          unfold lnk; rw [this]; simp
        rw [this]; exact g1
      · refine s_cneed hc3 fun H4 g1 g2 => ⟨rfl, ?_, g2⟩
        have : lnk e g = false := by unfold lnk; rw [q5]; rfl
        rw [this]; exact g1
      rintro _ H4 ⟨hc4, hf4⟩
      refine s_cpts (hf4.slice k1) hc4 hh hx hy hgr (by omega) fun H5 hc5 hf5 => ⟨rfl, ⟨g, _, f, rfl, rfl, hf5.slice (hf4.slice k1), hc5, (((hf1.trans hf2).trans hf3).trans hf4).trans hf5, fun _ => ?_, ?_, hg4, fun q => ?_, ?_, ?_⟩, ?_⟩
      · rw [ptsC_met]
        show 600 ≤ f + (S.met ++ [e.next]).length
        rw [List.length_append]; simp; omega
      · rw [w64 (by omega), ← hgn]; exact hfin
      · rw [ptsC_met]; exact hgx q
      · rw [w64 (by omega)]; omega
      · rw [w64 (by omega), ptsC_met]
        show t + (n2 : Int) ≤ 4 * (((S.met ++ [e.next]).length : Nat) : Int) + 4
        rw [List.length_append]; simp; omega
      · rw [hc5.ents, hc1.ents, ptsC_met]
        show 2 * (600 - (S.met ++ [e.next]).length) + _ < 2 * (600 - S.met.length) + _
        rw [List.length_append, if_pos hnx]
        simp only [List.length_singleton]
        split <;> omega
  · simp at q2; rw [q2]; simp
  · simp at q1; omega
end
end Cr

set_option linter.unusedVariables false
set_option linter.unusedSimpArgs false
namespace Cr
open Go Sx Stb
open Go.Proofs.Try
set_option linter.unusedSectionVars false
variable [Dr]
set_option maxRecDepth 100000
theorem getC_met (m : M) (s : Ck) (id : Int) : s.met.length ≤ (getC m s id).1.met.length := by
  unfold getC
  split
  · exact Nat.le_refl _
  · split
    · exact Nat.le_refl _
    · simp
theorem chainC_met (m : M) (x y : Int) (h : Nat) : ∀ (f : Nat) (d : Nd) (s : Ck) (t : Int), s.met.length ≤ (chainC m x y h f d s t).1.met.length
  | 0, d, s, t => Nat.le_refl _
  | f + 1, d, s, t => by
    unfold chainC
    split
    · have h1 := getC_met m (needC s (decide (h = 0) && decide (d.pts.length = 4))) d.next
      split
      · rename_i e; rw [e] at h1; exact h1
      · rename_i s2 e he
        rw [he] at h1
        refine Nat.le_trans ?_ (chainC_met m x y h f e _ _)
        rw [ptsC_met]; exact h1
    · exact Nat.le_refl _
theorem kidsC_met {rec : Ck → Int → Int → Int → Ck × Int} (hr : ∀ s k x y, s.met.length ≤ (rec s k x y).1.met.length) (x y : Int) (h : Nat) (ks cs : List Int) : ∀ (q : Nat) (s : Ck), s.met.length ≤ (kidsC rec x y h ks cs q s).met.length
  | 0, s => Nat.le_refl _
  | q + 1, s => by
    unfold kidsC
    have h1 := kidsC_met hr x y h ks cs q s
    simp only
    split
    · exact Nat.le_trans h1 (hr _ _ _ _)
    · exact h1
theorem kidsC_odd {rec : Ck → Int → Int → Int → Ck × Int} (x y : Int) (h : Nat) (ks cs : List Int) : ∀ (q : Nat) (s : Ck), s.odd = true → kidsC rec x y h ks cs q s = s
  | 0, s, _ => rfl
  | q + 1, s, e => by
    unfold kidsC
    rw [kidsC_odd x y h ks cs q s e]
    simp [e]
theorem checkC_met (m : M) : ∀ (f h : Nat) (id x y : Int) (s : Ck), s.met.length ≤ (checkC m f h id x y s).1.met.length
  | 0, h, id, x, y, s => Nat.le_refl _
  | f + 1, h, id, x, y, s => by
    unfold checkC
    have h1 := getC_met m s id
    split
    · rename_i e; rw [e] at h1; exact h1
    · rename_i s1 d e
      rw [e] at h1
      split
      · exact h1
      · split
        · refine Nat.le_trans h1 (Nat.le_trans ?_ (chainC_met ..))
          rw [ptsC_met]; exact Nat.le_refl _
        · exact Nat.le_trans (show s.met.length ≤ (needC s1 (decide (0 < h) && decide (tot d > 4))).met.length from h1) (kidsC_met (fun s k x y => checkC_met m f (h - 1) k x y s) x y (h - 1) d.kids d.counts 4 _)
section
variable {b : Nat} {ga : Addr} {r rm ri : Nat} {m : M}
theorem s_ccheck (hD : Dom m) (hR : RangeM m) (hN : NoPan m) : ∀ (f : Nat) {h : Nat} {id x y : Int} {s : Ck} {H : Heap} {R : Ending → Heap → Prop}, h ≤ 32 → Cor h x → Cor h y → CkSt H b ga r rm ri m s → 300 ≤ f + s.met.length →
    (∀ H', CkSt H' b ga r rm ri m (checkC m f h id x y s).1 → Fr b rm ri H H' → R (.returned (vi (checkC m f h id x y s).2)) H') →
    Meets prog 30 [.pointer (some ⟨b, 0, none⟩), vi id, ceV x y (32 - (h : Int))] H R := by
  intro f
  induction f with
  | zero =>
    intro h id x y s H R _ _ _ hc hf _
    have := hc.few hD
    omega
  | succ f ih =>
    intro h id x y s H R hh hx hy hc hf K
    refine spec_of func30 (by kernel_rfl) (fun t h => by cases h) (by simp [argsR, SV.rep, SegsRep, SC.rep, one]) (vc_vchk2 (some ⟨b, 0, none⟩) id x y (32 - (h : Int)) R H) ?_
    unfold nf_vchk2
    simp only [true_and]
    unfold checkC at K
    refine s_cget hc (fun d hd => by have := hD.few hd; omega) (fun H1 hg hc1 hf1 => ?_) fun v d H1 hd hni hg hc1 hf1 hv => ?_
    · rw [hg] at K
      exact ⟨false, none, 0, 0, 0, z4, rfl, z4, rfl, false, rfl, br (fun _ => K H1 hc1 hf1) fun q => by cases q⟩
    · rw [hg] at K
      simp only at K
      have hv0 := hv
      obtain ⟨a, n, c, rfl, k1, k2, k3⟩ := hv
      have hfl : 300 ≤ f + (s.met ++ [id]).length := by rw [List.length_append]; simp; omega
      refine ⟨d.leaf, a, n, c, d.next, d.kids, k2, d.counts, k3, true, by simp [ndV, ndL, flatD], br (fun q => by cases q) fun _ => ptr rfl (ptr rfl (ptr rfl ⟨s.odd, ck_has (k := 3) hc1.ck rfl, br (fun q1 => ?_) fun q1 => br (fun q2 => ?_) fun q2 => ?_⟩))⟩
      · rw [if_pos q1] at K; exact K H1 hc1 hf1
      · rw [if_neg (by rw [q1]; simp), if_pos q2] at K
        refine s_cchain (d := d) hv0 hc1 hD hR hN (hD.few hd) (hR _ _ hd) (fun _ => ⟨id, by simp, hd⟩) hh (hx.lt hh) (hy.lt hh) fun H2 hc2 hf2 => ⟨_, rfl, K H2 hc2 (hf1.trans hf2)⟩
      · rw [if_neg (by rw [q1]; simp), if_neg (by rw [q2]; simp)] at K
        have hqu : QuaOK d.kids d.counts := by
          have := (hD _ _ hd).2.2
          unfold NdOK at this
          rw [q2] at this
          exact this.2.2
        generalize hS1 : ({ s with met := s.met ++ [id] } : Ck) = S1 at *
        have hm1 : S1.met = s.met ++ [id] := by rw [← hS1]
        rw [← hm1] at hfl
        generalize hrec : (fun (s : Ck) (k x' y' : Int) => checkC m f (h - 1) k x' y' s) = rec at K
        have hrm : ∀ s k x y, s.met.length ≤ (rec s k x y).1.met.length := by rw [← hrec]; exact fun s k x y => checkC_met m f (h - 1) k x y s
        have tt : ∀ {H : Heap} {X : Ending → Heap → Prop} {v : Value}, NdAt H v d → X (.returned (vi (tot d))) H → Meets prog 52 [v] H X := fun {H X v} hv hx => s_total hv (by have := hD.few hd; omega) (fun _ => hqu) (by rw [q2]; exact hx)
        refine ⟨fun _ H2 => CkSt H2 b ga r rm ri m (needC S1 (decide (0 < h) && decide (tot d > 4))) ∧ Fr b rm ri H1 H2, br (fun q3 => ?_) fun q3 => ?_, ?_⟩
        · have h0 : 0 < h := by simp at q3; omega
          refine tt (by simpa [ndV, ndL] using hv0) ⟨_, rfl, s_cneed hc1 fun H2 g1 g2 => ⟨rfl, ?_, g2⟩⟩
          rw [decide_eq_true h0]
          exact g1
        · have h0 : ¬ 0 < h := by simp at q3; omega
          refine s_cneed hc1 fun H2 g1 g2 => ⟨rfl, ?_, g2⟩
          rw [decide_eq_false h0]
          exact g1
        rintro _ H2 ⟨hc2, hf2⟩
        generalize hok : (decide (0 < h) && decide (tot d > 4)) = ok at *
        refine ⟨fun p H3 => ∃ q : Nat, p.1.1 = (q : Int) ∧ q ≤ 4 ∧ CkSt H3 b ga r rm ri m (kidsC rec x y (h - 1) d.kids d.counts q (needC S1 ok)) ∧ Fr b rm ri H2 H3, fun p _ => 4 - p.1.1.toNat, ⟨0, rfl, by omega, hc2, Fr.refl _⟩, ?_⟩
        rintro ⟨⟨z, u⟩, u'⟩ H3 ⟨q, e, hq, hc3, hf3⟩
        simp only at e ⊢
        subst e
        refine br (fun q4 => ?_) fun q4 => ?_
        · have hq4 : q < 4 := by simp at q4; omega
          have e0 : ((q : Int)).toNat = q := by omega
          have stp : kidsC rec x y (h - 1) d.kids d.counts (q + 1) (needC S1 ok) = (match kidsC rec x y (h - 1) d.kids d.counts q (needC S1 ok) with
            | s => if 0 < d.kids.getD q 0 ∧ s.odd = false then
                match rec s (d.kids.getD q 0) (x + ((q % 2 : Nat) : Int) * 2 ^ (h - 1)) (y + ((q / 2 : Nat) : Int) * 2 ^ (h - 1)) with
                | (s', c) => needC s' (c == d.counts.getD q 0)
              else s) := rfl
          have hmono := kidsC_met hrm x y (h - 1) d.kids d.counts q (needC S1 ok)
          have hodd := fun e => kidsC_odd (rec := rec) x y (h - 1) d.kids d.counts q (needC S1 ok) e
          generalize hS : kidsC rec x y (h - 1) d.kids d.counts q (needC S1 ok) = S at *
          simp only at stp
          have fin : ∀ H4, CkSt H4 b ga r rm ri m (kidsC rec x y (h - 1) d.kids d.counts (q + 1) (needC S1 ok)) → Fr b rm ri H2 H4 → (∃ j : Nat, IntKind.i64.wrap ((q : Int) + 1) = (j : Int) ∧ j ≤ 4 ∧ CkSt H4 b ga r rm ri m (kidsC rec x y (h - 1) d.kids d.counts j (needC S1 ok)) ∧ Fr b rm ri H2 H4) ∧ 4 - (IntKind.i64.wrap ((q : Int) + 1)).toNat < 4 - ((q : Int)).toNat := fun H4 h4 f4 =>
            ⟨⟨q + 1, by rw [w64 (by omega)]; simp, by omega, h4, f4⟩, by rw [w64 (by omega)]; omega⟩
          rw [e0]
          refine ⟨⟨by omega, by omega⟩, br (fun q5 => ptr rfl (ptr rfl (ptr rfl ⟨S.odd, ck_has (k := 3) hc3.ck rfl, br (fun q6 => ?_) fun q6 => ?_⟩))) fun q5 => ?_⟩
          · have hk : 0 < d.kids.getD q 0 := by simpa using q5
            have ho : S.odd = false := by simpa using q6
            rw [if_pos ⟨hk, ho⟩] at stp
            obtain ⟨h, rfl⟩ : ∃ h', h = h' + 1 := by
              refine ⟨h - 1, ?_⟩
              by_cases q7 : 0 < h
              · omega
              · exfalso
                have : (needC S1 ok).odd = true := by rw [← hok, decide_eq_false q7]; simp [needC]
                have e := hodd this
                rw [e] at ho
                rw [ho] at this; cases this
            simp only [Nat.add_sub_cancel] at *
            refine ⟨fun _ => none, fun _ _ e => (by cases e), ⟨by omega, by omega⟩, ?_⟩
            refine s_kid (by omega) hx hy hq4 ⟨fun b o e hh => ?_, _, _, _, rfl, ?_⟩
            · rcases hh with hh | hh
              · rw [e] at hh; cases hh
              · cases hh
            refine ih (by omega) (hx.kid (by omega) (by omega)) (hy.kid (by omega) (by omega)) hc3 (by show 300 ≤ f + S.met.length; have : S1.met.length ≤ S.met.length := hmono; omega) fun H4 hc4 hf4 => ⟨fun b o e hh => ?_, _, rfl, ?_⟩
            · rcases hh with hh | hh
              · exfalso; rw [show delLs H3 [] b = some o from e] at hh; cases hh
              · cases hh
            refine s_cneed hc4 fun H5 hc5 hf5 => ⟨rfl, fin H5 ?_ ((hf3.trans hf4).trans hf5)⟩
            rw [stp, ← hrec]
            exact hc5
          · have ho : S.odd = true := by simpa using q6
            rw [if_neg (by rw [ho]; simp)] at stp
            exact fin H3 (by rw [stp]; exact hc3) hf3
          · have hk : ¬ 0 < d.kids.getD q 0 := by simpa using q5
            rw [if_neg (fun e => hk e.1)] at stp
            exact fin H3 (by rw [stp]; exact hc3) hf3
        · have : q = 4 := by simp at q4; omega
          subst this
          refine tt (by simpa [ndV, ndL] using (hf2.trans hf3).node hv0) ⟨_, rfl, K H3 hc3 ((hf1.trans hf2).trans hf3)⟩
end
end Cr
