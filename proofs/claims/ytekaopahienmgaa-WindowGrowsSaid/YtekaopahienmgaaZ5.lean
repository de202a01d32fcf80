/- Own texts, one behind the other: G5, G6, T1, G7, G8, S3, S7, T2, T3, SxZ, H1, H2, S9, H3, H4, H5, W1, S12, W2, V1, V2, V3. -/
import Derived.Recover
import Derived.Test.YtekaopahienmgaaZ4
set_option linter.unusedVariables false
set_option linter.unusedSimpArgs false
namespace Cr
open Go Sx Stb Bt
open Go.Sort (SWO)
open Go.Proofs.Try
set_option maxRecDepth 100000
def h_once : Hints := { loops := [(4, ⟨[0, 1, 4], [.row 5 28 4, .row 6 3 1, .f 7 (.int .i64)], []⟩)] }
def nf_once (a : Option Addr) (n : Nat) (c : Nat) (most : Int) (R : Ending → Heap → Prop) (H : Heap) : Prop := a = a ∧ n = n ∧ c = c ∧ most = most ∧ (none : Option Addr) = none ∧ (0 : Nat) = (0 : Nat) ∧ (0 : Nat) = (0 : Nat) ∧ LoopP (fun (K : (List (List Value) × List (List Value) × Int × PUnit) × PUnit → (Nat → Option Obj) → Prop) (p : (List (List Value) × List (List Value) × Int × PUnit) × PUnit) (H : Nat → Option Obj) ↦ Br (decide (p.fst.snd.snd.fst < (↑n : Int))) (Br (decide ((↑(List.length p.fst.fst) : Int) < most)) (((0 : Int) ≤ p.fst.snd.snd.fst ∧ p.fst.snd.snd.fst < (↑n : Int)) ∧ PtrK a fun (A : Addr) ↦ PtrK (some (Addr.add A (Int.toNat p.fst.snd.snd.fst * (4 : Nat)))) fun (a_1 : Addr) ↦ PtrK (some (Addr.add a_1 (0 : Nat))) fun (a_2 : Addr) ↦ ∃ (n_1 : Int), Heap.has H a_2 [Value.int IntKind.i64 n_1] ∧ Br (decide (n_1 ≥ (1 : Int))) (((0 : Int) ≤ p.fst.snd.snd.fst ∧ p.fst.snd.snd.fst < (↑n : Int)) ∧ PtrK a fun (A : Addr) ↦ PtrK (some (Addr.add A (Int.toNat p.fst.snd.snd.fst * (4 : Nat)))) fun (a_3 : Addr) ↦ PtrK (some (Addr.add a_3 (0 : Nat))) fun (a_4 : Addr) ↦ ∃ (n_2 : Int), Heap.has H a_4 [Value.int IntKind.i64 n_2] ∧ Br (decide (n_2 < (2147483648 : Int))) (((0 : Int) ≤ p.fst.snd.snd.fst ∧ p.fst.snd.snd.fst < (↑n : Int)) ∧ PtrK a fun (A : Addr) ↦ PtrK (some (Addr.add A (Int.toNat p.fst.snd.snd.fst * (4 : Nat)))) fun (a_5 : Addr) ↦ PtrK (some (Addr.add a_5 (3 : Nat))) fun (a_6 : Addr) ↦ ∃ (s : ByteArray), Heap.has H a_6 [Value.string s] ∧ Br (decide ((↑(ByteArray.size s) : Int) ≤ (16 : Int))) (((0 : Int) ≤ p.fst.snd.snd.fst ∧ p.fst.snd.snd.fst < (↑n : Int)) ∧ PtrK a fun (A : Addr) ↦ PtrK (some (Addr.add A (Int.toNat p.fst.snd.snd.fst * (4 : Nat)))) fun (a_7 : Addr) ↦ PtrK (some (Addr.add a_7 (0 : Nat))) fun (a_8 : Addr) ↦ ∃ (n_3 : Int), Heap.has H a_8 [Value.int IntKind.i64 n_3] ∧ ∀ (v : Value) (H' : Nat → Option Obj), H ≤ H' → (∀ (b : Nat), blockOf v = some b → H b = none) → (∀ (b : Nat) (o : Obj), H' b = some o → H b = some o ∨ blockOf v = some b) → RowAt H' v (3 : Nat) (1 : Nat) p.fst.snd.fst → Meets prog (57 : Nat) [v, Value.int IntKind.i64 n_3] H' fun (e : Ending) (H' : Nat → Option Obj) ↦ ∃ (b : Bool), e = Ending.returned (Value.bool b) ∧ ∃ (es : List (List Value)), RowAt H' v (3 : Nat) (1 : Nat) es ∧ Br (!b) (((0 : Int) ≤ p.fst.snd.snd.fst ∧ p.fst.snd.snd.fst < (↑n : Int)) ∧ PtrK a fun (A : Addr) ↦ PtrK (some (Addr.add A (Int.toNat p.fst.snd.snd.fst * (4 : Nat)))) fun (a_13 : Addr) ↦ ∃ (n_4 : Int), ∃ (n_5 : Int), ∃ (n_6 : Int), ∃ (s : ByteArray), Heap.has (Heap.delO H' (blockOf v)) a_13 [Value.int IntKind.i64 n_4, Value.int IntKind.u32 n_5, Value.int IntKind.u32 n_6, Value.string s] ∧ ((0 : Int) ≤ p.fst.snd.snd.fst ∧ p.fst.snd.snd.fst < (↑n : Int)) ∧ PtrK a fun (A : Addr) ↦ PtrK (some (Addr.add A (Int.toNat p.fst.snd.snd.fst * (4 : Nat)))) fun (a_14 : Addr) ↦ PtrK (some (Addr.add a_14 (0 : Nat))) fun (a_15 : Addr) ↦ ∃ (n_7 : Int), Heap.has (Heap.delO H' (blockOf v)) a_15 [Value.int IntKind.i64 n_7] ∧ List.length (List.append p.fst.fst [[Value.int IntKind.i64 n_4, Value.int IntKind.u32 n_5, Value.int IntKind.u32 n_6, Value.string s]]) * (32 : Nat) ≤ (140737488355328 : Nat) ∧ List.length (List.append es [[Value.int IntKind.i64 n_7]]) * (8 : Nat) ≤ (140737488355328 : Nat) ∧ a = a ∧ n = n ∧ c = c ∧ most = most ∧ (none : Option Addr) = none ∧ (0 : Nat) = (0 : Nat) ∧ (0 : Nat) = (0 : Nat) ∧ K ((List.append p.fst.fst [[Value.int IntKind.i64 n_4, Value.int IntKind.u32 n_5, Value.int IntKind.u32 n_6, Value.string s]], List.append es [[Value.int IntKind.i64 n_7]], IntKind.wrap IntKind.i64 (p.fst.snd.snd.fst + (1 : Int)), PUnit.unit), PUnit.unit) (Heap.delO H' (blockOf v))) (a = a ∧ n = n ∧ c = c ∧ most = most ∧ (none : Option Addr) = none ∧ (0 : Nat) = (0 : Nat) ∧ (0 : Nat) = (0 : Nat) ∧ K ((p.fst.fst, es, IntKind.wrap IntKind.i64 (p.fst.snd.snd.fst + (1 : Int)), PUnit.unit), PUnit.unit) (Heap.delO H' (blockOf v)))) (a = a ∧ n = n ∧ c = c ∧ most = most ∧ (none : Option Addr) = none ∧ (0 : Nat) = (0 : Nat) ∧ (0 : Nat) = (0 : Nat) ∧ K ((p.fst.fst, p.fst.snd.fst, IntKind.wrap IntKind.i64 (p.fst.snd.snd.fst + (1 : Int)), PUnit.unit), PUnit.unit) H)) (a = a ∧ n = n ∧ c = c ∧ most = most ∧ (none : Option Addr) = none ∧ (0 : Nat) = (0 : Nat) ∧ (0 : Nat) = (0 : Nat) ∧ K ((p.fst.fst, p.fst.snd.fst, IntKind.wrap IntKind.i64 (p.fst.snd.snd.fst + (1 : Int)), PUnit.unit), PUnit.unit) H)) (a = a ∧ n = n ∧ c = c ∧ most = most ∧ (none : Option Addr) = none ∧ (0 : Nat) = (0 : Nat) ∧ (0 : Nat) = (0 : Nat) ∧ K ((p.fst.fst, p.fst.snd.fst, IntKind.wrap IntKind.i64 (p.fst.snd.snd.fst + (1 : Int)), PUnit.unit), PUnit.unit) H)) (∀ (v : Value) (H' : Nat → Option Obj), H ≤ H' → (∀ (b : Nat), blockOf v = some b → H b = none) → (∀ (b : Nat) (o : Obj), H' b = some o → H b = some o ∨ blockOf v = some b) → RowAt H' v (28 : Nat) (4 : Nat) p.fst.fst → R (Ending.returned v) H')) (∀ (v : Value) (H' : Nat → Option Obj), H ≤ H' → (∀ (b : Nat), blockOf v = some b → H b = none) → (∀ (b : Nat) (o : Obj), H' b = some o → H b = some o ∨ blockOf v = some b) → RowAt H' v (28 : Nat) (4 : Nat) p.fst.fst → R (Ending.returned v) H')) (([], [], (0 : Int), PUnit.unit), PUnit.unit) H
theorem vc_once (a : Option Addr) (n : Nat) (c : Nat) (most : Int) (R : Ending → Heap → Prop) (H : Heap) : vcFun prog h_once f21 [SV.c (SC.v (Value.slice a n c)), SV.c (SC.v (Value.int IntKind.i64 most))] R H = nf_once a n c most R H := by kernel_rfl

theorem le_delO {H H' : Heap} {v : Value} (h : H ≤ H') (hn : ∀ b, blockOf v = some b → H b = none) : H ≤ H'.delO (blockOf v) := fun b o e => by
  cases hb : blockOf v with
  | none => exact h b o e
  | some b' =>
    show (if b = b' then none else H' b) = some o
    rw [if_neg (by rintro rfl; rw [hn b hb] at e; cases e)]
    exact h b o e
theorem fresh_le {H H' : Heap} {v : Value} (h : H ≤ H') (hn : ∀ b, blockOf v = some b → H' b = none) : ∀ b, blockOf v = some b → H b = none := fun b hb => by
  cases e : H b with
  | none => rfl
  | some o => have := h b o e; rw [hn b hb] at this; cases this
instance (p : Pt) : Decidable (ptOK p) := by unfold ptOK; infer_instance
/-- Points that may be, the first of each Id, at most so many. -/
def onceStep (most : Int) (acc : List Pt) (p : Pt) : List Pt := if (acc.length : Int) < most ∧ ptOK p ∧ p.id ∉ acc.map Pt.id then acc ++ [p] else acc
def onceP (most : Int) (l : List Pt) : List Pt := l.foldl (onceStep most) []
structure OnceOK (most : Int) (l acc : List Pt) : Prop where
  ok : ∀ p ∈ acc, ptOK p
  dist : (acc.map Pt.id).Nodup
  few : acc = [] ∨ (acc.length : Int) ≤ most
  mem : ∀ p ∈ acc, p ∈ l
theorem onceP_snoc (most : Int) (l : List Pt) (p : Pt) : onceP most (l ++ [p]) = onceStep most (onceP most l) p := by simp [onceP, List.foldl_append]
theorem once_step {most : Int} {l acc : List Pt} (h : OnceOK most l acc) (p : Pt) : OnceOK most (l ++ [p]) (onceStep most acc p) := by
  unfold onceStep
  split
  · rename_i hc
    refine ⟨fun q hq => ?_, ?_, .inr (by simp; omega), fun q hq => ?_⟩
    · rcases List.mem_append.1 hq with hq | hq
      · exact h.ok q hq
      · simp at hq; subst hq; exact hc.2.1
    · rw [List.map_append, List.nodup_append]
      exact ⟨h.dist, by simp, fun a ha b hb => by simp at hb; subst hb; rintro rfl; exact hc.2.2 ha⟩
    · rcases List.mem_append.1 hq with hq | hq
      · exact List.mem_append_left _ (h.mem q hq)
      · exact List.mem_append_right _ hq
  · exact ⟨h.ok, h.dist, h.few, fun q hq => List.mem_append_left _ (h.mem q hq)⟩
theorem once_ok (most : Int) (l : List Pt) : OnceOK most l (onceP most l) := by
  suffices H : ∀ (r l acc : List Pt), OnceOK most l acc → OnceOK most (l ++ r) (r.foldl (onceStep most) acc) by
    have := H l [] [] ⟨by simp, by simp, .inl rfl, by simp⟩
    simpa [onceP] using this
  intro r
  induction r with
  | nil => intro l acc h; simpa using h
  | cons p r ih =>
    intro l acc h
    have := ih (l ++ [p]) _ (once_step h p)
    simpa using this
theorem once_full {most : Int} {acc : List Pt} (h : most ≤ acc.length) (r : List Pt) : r.foldl (onceStep most) acc = acc := by
  induction r with
  | nil => rfl
  | cons p r ih => rw [List.foldl_cons]; unfold onceStep; rw [if_neg (by omega)]; exact ih
theorem has_one {H : Heap} {A : Addr} {l : List Value} {k : Nat} {x : Value} (g : H.has A l) (h : l[k]? = some x) (hs : A.spot = none) : H.has (A.add k) [x] := fun j y hj => by
  cases j with
  | zero => simp at hj; subst hj; rw [add0]; exact g k _ h
  | succ j => simp at hj
section
variable {R : Ending → Heap → Prop} {H : Heap}
theorem pr_fld {a : Option Addr} {n c : Nat} {l : List Pt} (h : SliceAt H (.slice a n c) 4 (pts l)) {i : Nat} {p : Pt} (he : l[i]? = some p) :
    ∃ A, a = some A ∧ H.has (A.add (i * 4)) (ptC p) ∧ H.has ((A.add (i * 4)).add 0) [vi p.id] ∧ H.has ((A.add (i * 4)).add 1) [.int .u32 p.x] ∧ H.has ((A.add (i * 4)).add 2) [.int .u32 p.y] ∧ H.has ((A.add (i * 4)).add 3) [.string p.data] := by
  obtain ⟨A, h1, h0, h2⟩ := slice_get h (i := i) (e := ptC p) (by simp [pts, he])
  have hs : (A.add (i * 4)).spot = none := by rw [add_spot h0]
  exact ⟨A, h1, h2, has_one h2 rfl hs, has_one h2 rfl hs, has_one h2 rfl hs, has_one h2 rfl hs⟩
theorem s_once {v : Value} {l : List Pt} {most : Int} (h : SliceAt H v 4 (pts l)) (hm : most ≤ 1000000) (hl : l.length ≤ 10000000000000) (k : ∀ v H', H ≤ H' → (∀ b, blockOf v = some b → H b = none) → RowAt H' v tPt 4 (pts (onceP most l)) → R (.returned v) H') :
    Meets prog 21 [v, vi most] H R := by
  obtain ⟨a, n, c, e, hn⟩ := h
  subst e
  have h : SliceAt H (.slice a n c) 4 (pts l) := ⟨a, n, c, rfl, hn⟩
  have hln : l.length = n := by simpa [pts] using hn.1
  refine spec_of func21 (by kernel_rfl) (fun t h => by cases h) ?_ (vc_once a n c most R H) ?_
  · simp [argsR, SV.rep, SC.rep, one]
  unfold nf_once
  simp only [true_and]
  refine ⟨fun p H' => ∃ t : Nat, p.1.1 = pts (onceP most (l.take t)) ∧ p.1.2.1 = cells ((onceP most (l.take t)).map Pt.id) ∧ p.1.2.2.1 = (t : Int) ∧ t ≤ n ∧ H ≤ H', fun p _ => (n - p.1.2.2.1).toNat, ⟨0, by simp [onceP], by simp [onceP], rfl, by omega, heap_refl _⟩, ?_⟩
  rintro ⟨⟨e1, e2, i, _⟩, _⟩ H1 ⟨t, h1, h2, hi, ht, hle⟩
  simp only at h1 h2 hi ⊢
  subst h1; subst h2; subst hi
  have hok := once_ok most (l.take t)
  generalize hacc : onceP most (l.take t) = acc at *
  have hpl : (pts acc).length = acc.length := by simp [pts]
  have hfew : acc.length ≤ 1000000 := by rcases hok.few with h | h; simp [h]; omega
  have h' := slice_le h hle
  have fin : onceP most l = acc → ∀ (v : Value) (H' : Heap), H1 ≤ H' → (∀ b, blockOf v = some b → H1 b = none) → (∀ (b : Nat) (o : Obj), H' b = some o → H1 b = some o ∨ blockOf v = some b) → RowAt H' v tPt 4 (pts acc) → R (.returned v) H' := fun e v H' a b _ d => by
    rw [e] at k
    exact k v H' (heap_trans hle a) (fresh_le hle b) d
  refine br (fun q => br (fun q1 => ?_) fun q1 => ?_) fun q => ?_
  · simp only [decide_eq_true_eq] at q q1
    obtain ⟨x, hd, htk, hx⟩ := drop_cons (l := l) (k := t) (by omega)
    obtain ⟨A, e, g, g0, g1, g2, g3⟩ := pr_fld h' (i := t) hx
    subst e
    have hs : onceP most (l.take (t + 1)) = onceStep most acc x := by rw [htk, onceP_snoc, hacc]
    rw [w64 (k := (t : Int) + 1) (by omega), Int.toNat_natCast]
    have skip : ¬ ((acc.length : Int) < most ∧ ptOK x ∧ x.id ∉ acc.map Pt.id) → onceP most (l.take (t + 1)) = acc := fun h => by
      rw [hs]; unfold onceStep; rw [if_neg h]
    refine ⟨⟨by omega, by omega⟩, ptr rfl (ptr rfl (ptr rfl ⟨_, g0, br (fun q2 => ?_) fun q2 => ?_⟩))⟩
    · refine ⟨⟨by omega, by omega⟩, ptr rfl (ptr rfl (ptr rfl ⟨_, g0, br (fun q3 => ?_) fun q3 => ?_⟩))⟩
      · refine ⟨⟨by omega, by omega⟩, ptr rfl (ptr rfl (ptr rfl ⟨_, g3, br (fun q4 => ?_) fun q4 => ?_⟩))⟩
        · refine ⟨⟨by omega, by omega⟩, ptr rfl (ptr rfl (ptr rfl ⟨_, g0, fun v H2 f1 f2 f3 f4 => ?_⟩))⟩
          refine s_in (row_slice f4) (by simpa using hfew) ⟨_, rfl, _, f4, ?_⟩
          have hle2 := le_delO (heap_trans hle f1) (fresh_le hle f2)
          have h2 := slice_le h hle2
          obtain ⟨A', e, g', g0', _⟩ := pr_fld h2 (i := t) hx
          cases e
          simp only [decide_eq_true_eq] at q2 q3 q4
          refine br (fun q5 => ?_) fun q5 => ?_
          · have e : onceP most (l.take (t + 1)) = acc ++ [x] := by
              rw [hs]; unfold onceStep
              rw [if_pos ⟨by simpa [pts] using q1, ⟨by omega, by omega, by omega⟩, by simpa using q5⟩]
            refine ⟨⟨by omega, by omega⟩, ptr rfl (ptr rfl ⟨_, _, _, _, g', ⟨by omega, by omega⟩, ptr rfl (ptr rfl (ptr rfl ⟨_, g0', ?_, ?_, ⟨t + 1, ?_, ?_, by omega, by omega, hle2⟩, by omega⟩))⟩)⟩
            · simp [pts]; omega
            · simp [cells]; omega
            · rw [e]; simp [pts]
            · rw [e]; simp [cells]
          · have e := skip (by simp at q5 ⊢; intros; exact q5)
            exact ⟨⟨t + 1, by rw [e], by rw [e], by omega, by omega, hle2⟩, by omega⟩
        · have e := skip (by simp [ptOK] at q4 ⊢; intros; omega)
          exact ⟨⟨t + 1, by rw [e], by rw [e], by omega, by omega, hle⟩, by omega⟩
      · have e := skip (by simp [ptOK] at q3 ⊢; intros; omega)
        exact ⟨⟨t + 1, by rw [e], by rw [e], by omega, by omega, hle⟩, by omega⟩
    · have e := skip (by simp [ptOK] at q2 ⊢; intros; omega)
      exact ⟨⟨t + 1, by rw [e], by rw [e], by omega, by omega, hle⟩, by omega⟩
  · simp only [decide_eq_false_iff_not] at q1
    refine fin ?_
    have : onceP most l = (l.drop t).foldl (onceStep most) acc := by
      rw [← hacc]; unfold onceP; rw [← List.foldl_append, List.take_append_drop]
    rw [this, once_full (by simpa [pts] using q1)]
  · simp only [decide_eq_false_iff_not] at q
    refine fin ?_
    rw [← hacc, List.take_of_length_le (by omega)]
end
end Cr

set_option linter.unusedVariables false
set_option linter.unusedSimpArgs false
namespace Cr
open Go Sx Stb Bt
open Go.Sort (SWO)
open Go.Proofs.Try
set_option maxRecDepth 100000
abbrev grA (g : Option Addr) : SV := .agg [.c (.v (.pointer g))]
def h_pan : Hints := { pan := true }
def h_grow : Hints := { pan := true, loops := [(5, ⟨[1, 3, 4, 6, 8], [.f 23 (.int .i64)], [.keep 4, .keep 6, .box 8 74 [.f .bool, .f .slc, .f (.int .i64), .ints .i64 4, .ints .i64 4]]⟩)] }
def nf_need (b : Bool) (e : Int) (R : Ending → Heap → Prop) (H : Heap) : Prop := Br (!b) (R (Ending.panicked [{ v := Value.iface (137 : Nat) (Value.agg { toList := [Value.int IntKind.i64 e] }), recovered := false }]) H) (R (Ending.returned (Value.tuple { toList := [] })) H)
theorem vc_need (b : Bool) (e : Int) (R : Ending → Heap → Prop) (H : Heap) : vcFun prog h_pan f111 [SV.c (SC.v (Value.bool b)), SV.c (SC.v (Value.int IntKind.i64 e))] R H = nf_need b e R H := by kernel_rfl

def nf_gput (g : Option Addr) (id : Int) (lf : Bool) (a : Option Addr) (n : Nat) (c : Nat) (nx : Int) (ks : List Int) (cs : List Int) (R : Ending → Heap → Prop) (H : Heap) : Prop := Meets prog (53 : Nat) [Value.pointer g, Value.int IntKind.i64 id, Value.agg { toList := Value.bool lf :: Value.slice a n c :: Value.int IntKind.i64 nx :: List.append (List.map (Value.int IntKind.i64) ks) (List.map (Value.int IntKind.i64) cs ++ []) }] H fun (e : Ending) (H' : Nat → Option Obj) ↦ (∃ (n : Int), e = Ending.returned (Value.int IntKind.i64 n) ∧ Meets prog (111 : Nat) [Value.bool (n == (0 : Int)), Value.int IntKind.i64 (21 : Int)] H' fun (e : Ending) (H' : Nat → Option Obj) ↦ e = Ending.returned (Value.tuple { toList := [] }) ∧ R (Ending.returned (Value.tuple { toList := [] })) H' ∨ ∃ (c : List PanicEntry), e = Ending.panicked c ∧ R (Ending.panicked c) H') ∨ ∃ (c : List PanicEntry), e = Ending.panicked c ∧ R (Ending.panicked c) H'
theorem vc_gput (g : Option Addr) (id : Int) (lf : Bool) (a : Option Addr) (n : Nat) (c : Nat) (nx : Int) (ks : List Int) (cs : List Int) (R : Ending → Heap → Prop) (H : Heap) : vcFun prog h_pan f97 [grA g, SV.c (SC.v (Value.int IntKind.i64 id)), ndA lf a n c nx ks cs] R H = nf_gput g id lf a n c nx ks cs R H := by kernel_rfl

def nf_gfresh (g : Option Addr) (R : Ending → Heap → Prop) (H : Heap) : Prop := Meets prog (51 : Nat) [Value.pointer g] H fun (e : Ending) (H' : Nat → Option Obj) ↦ (∃ (n : Int), ∃ (n_1 : Int), e = Ending.returned (Value.tuple { toList := [Value.int IntKind.i64 n, Value.int IntKind.i64 n_1] }) ∧ Meets prog (111 : Nat) [Value.bool (n_1 == (0 : Int)), Value.int IntKind.i64 n_1] H' fun (e : Ending) (H' : Nat → Option Obj) ↦ (e = Ending.returned (Value.tuple { toList := [] }) ∧ Meets prog (97 : Nat) [Value.agg { toList := [Value.pointer g] }, Value.int IntKind.i64 n, Value.agg { toList := [Value.bool true, Value.slice none (0 : Nat) (0 : Nat), Value.int IntKind.i64 (0 : Int), Value.int IntKind.i64 (0 : Int), Value.int IntKind.i64 (0 : Int), Value.int IntKind.i64 (0 : Int), Value.int IntKind.i64 (0 : Int), Value.int IntKind.i64 (0 : Int), Value.int IntKind.i64 (0 : Int), Value.int IntKind.i64 (0 : Int), Value.int IntKind.i64 (0 : Int)] }] H' fun (e : Ending) (H' : Nat → Option Obj) ↦ e = Ending.returned (Value.tuple { toList := [] }) ∧ R (Ending.returned (Value.int IntKind.i64 n)) H' ∨ ∃ (c : List PanicEntry), e = Ending.panicked c ∧ R (Ending.panicked c) H') ∨ ∃ (c : List PanicEntry), e = Ending.panicked c ∧ R (Ending.panicked c) H') ∨ ∃ (c : List PanicEntry), e = Ending.panicked c ∧ R (Ending.panicked c) H'
theorem vc_gfresh (g : Option Addr) (R : Ending → Heap → Prop) (H : Heap) : vcFun prog h_pan f95 [grA g] R H = nf_gfresh g R H := by kernel_rfl

def nf_chain (g : Option Addr) (id : Int) (a : Option Addr) (n : Nat) (c : Nat) (R : Ending → Heap → Prop) (H : Heap) : Prop := ((0 : Int) ≤ minI (↑n : Int) (4 : Int) ∧ minI (↑n : Int) (4 : Int) ≤ (↑c : Int)) ∧ ((0 : Int) ≤ (↑(Int.toNat (minI (↑n : Int) (4 : Int)) - (0 : Nat)) : Int) ∧ (↑(Int.toNat (minI (↑n : Int) (4 : Int)) - (0 : Nat)) : Int) ≤ (↑n : Int)) ∧ Br (decide ((↑(n - Int.toNat (↑(Int.toNat (minI (↑n : Int) (4 : Int)) - (0 : Nat)) : Int)) : Int) > (0 : Int))) (Meets prog (95 : Nat) [Value.agg { toList := [Value.pointer g] }] H fun (e : Ending) (H' : Nat → Option Obj) ↦ (∃ (n_1 : Int), e = Ending.returned (Value.int IntKind.i64 n_1) ∧ Meets prog (91 : Nat) [Value.agg { toList := [Value.pointer g] }, Value.int IntKind.i64 n_1, Value.slice (subAddr a c (Int.toNat (↑(Int.toNat (minI (↑n : Int) (4 : Int)) - (0 : Nat)) : Int)) (4 : Nat)) (n - Int.toNat (↑(Int.toNat (minI (↑n : Int) (4 : Int)) - (0 : Nat)) : Int)) (c - Int.toNat (↑(Int.toNat (minI (↑n : Int) (4 : Int)) - (0 : Nat)) : Int))] H' fun (e : Ending) (H' : Nat → Option Obj) ↦ (e = Ending.returned (Value.tuple { toList := [] }) ∧ Meets prog (97 : Nat) [Value.agg { toList := [Value.pointer g] }, Value.int IntKind.i64 id, Value.agg { toList := [Value.bool true, Value.slice (subAddr a c (0 : Nat) (4 : Nat)) (Int.toNat (minI (↑n : Int) (4 : Int)) - (0 : Nat)) (c - (0 : Nat)), Value.int IntKind.i64 n_1, Value.int IntKind.i64 (0 : Int), Value.int IntKind.i64 (0 : Int), Value.int IntKind.i64 (0 : Int), Value.int IntKind.i64 (0 : Int), Value.int IntKind.i64 (0 : Int), Value.int IntKind.i64 (0 : Int), Value.int IntKind.i64 (0 : Int), Value.int IntKind.i64 (0 : Int)] }] H' fun (e : Ending) (H' : Nat → Option Obj) ↦ e = Ending.returned (Value.tuple { toList := [] }) ∧ R (Ending.returned (Value.tuple { toList := [] })) H' ∨ ∃ (c : List PanicEntry), e = Ending.panicked c ∧ R (Ending.panicked c) H') ∨ ∃ (c : List PanicEntry), e = Ending.panicked c ∧ R (Ending.panicked c) H') ∨ ∃ (c : List PanicEntry), e = Ending.panicked c ∧ R (Ending.panicked c) H') (Meets prog (97 : Nat) [Value.agg { toList := [Value.pointer g] }, Value.int IntKind.i64 id, Value.agg { toList := [Value.bool true, Value.slice (subAddr a c (0 : Nat) (4 : Nat)) (Int.toNat (minI (↑n : Int) (4 : Int)) - (0 : Nat)) (c - (0 : Nat)), Value.int IntKind.i64 (0 : Int), Value.int IntKind.i64 (0 : Int), Value.int IntKind.i64 (0 : Int), Value.int IntKind.i64 (0 : Int), Value.int IntKind.i64 (0 : Int), Value.int IntKind.i64 (0 : Int), Value.int IntKind.i64 (0 : Int), Value.int IntKind.i64 (0 : Int), Value.int IntKind.i64 (0 : Int)] }] H fun (e : Ending) (H' : Nat → Option Obj) ↦ e = Ending.returned (Value.tuple { toList := [] }) ∧ R (Ending.returned (Value.tuple { toList := [] })) H' ∨ ∃ (c : List PanicEntry), e = Ending.panicked c ∧ R (Ending.panicked c) H')
theorem vc_chain (g : Option Addr) (id : Int) (a : Option Addr) (n : Nat) (c : Nat) (R : Ending → Heap → Prop) (H : Heap) : vcFun prog h_pan f91 [grA g, SV.c (SC.v (Value.int IntKind.i64 id)), SV.c (SC.v (Value.slice a n c))] R H = nf_chain g id a n c R H := by kernel_rfl

def nf_grow1 (b1 : Addr) (b2 : Addr) (i : Int) (x : Int) (y : Int) (d : ByteArray) (R : Ending → Heap → Prop) (H : Heap) : Prop := ∃ (G : Nat → Option Obj), G ≤ H ∧ PtrK (some b1) fun (a : Addr) ↦ ∃ (n : Int), ∃ (n_1 : Int), ∃ (n_2 : Int), Heap.has G a [Value.int IntKind.u32 n, Value.int IntKind.u32 n_1, Value.int IntKind.i64 n_2] ∧ PtrK (some b2) fun (a : Addr) ↦ ∃ (n_3 : Int), Heap.has G a [Value.int IntKind.i64 n_3] ∧ Meets prog (94 : Nat) [Value.agg { toList := [Value.int IntKind.u32 n, Value.int IntKind.u32 n_1, Value.int IntKind.i64 n_2] }, Value.int IntKind.u32 x, Value.int IntKind.u32 y] H fun (e : Ending) (H' : Nat → Option Obj) ↦ Keep G H H H' ∧ ∃ (n : Int), e = Ending.returned (Value.int IntKind.i64 n) ∧ R (Ending.returned (Value.bool (n != n_3))) (delLs H' [])
theorem vc_grow1 (b1 : Addr) (b2 : Addr) (i : Int) (x : Int) (y : Int) (d : ByteArray) (R : Ending → Heap → Prop) (H : Heap) : vcFun prog { } f93 [ptA i x y d, SV.c (SC.v (Value.pointer (some b1))), SV.c (SC.v (Value.pointer (some b2)))] R H = nf_grow1 b1 b2 i x y d R H := by kernel_rfl

def nf_grow (g : Option Addr) (id : Int) (x : Int) (y : Int) (lv : Int) (a : Option Addr) (n : Nat) (c : Nat) (R : Ending → Heap → Prop) (H : Heap) : Prop := Br (decide ((↑n : Int) ≤ (4 : Int))) (Meets prog (91 : Nat) [Value.agg { toList := [Value.pointer g] }, Value.int IntKind.i64 id, Value.slice a n c] H fun (e : Ending) (H' : Nat → Option Obj) ↦ e = Ending.returned (Value.tuple { toList := [] }) ∧ R (Ending.returned (Value.tuple { toList := [] })) H' ∨ ∃ (c : List PanicEntry), e = Ending.panicked c ∧ R (Ending.panicked c) H') (Br (lv == (32 : Int)) (Meets prog (91 : Nat) [Value.agg { toList := [Value.pointer g] }, Value.int IntKind.i64 id, Value.slice a n c] H fun (e : Ending) (H' : Nat → Option Obj) ↦ e = Ending.returned (Value.tuple { toList := [] }) ∧ R (Ending.returned (Value.tuple { toList := [] })) H' ∨ ∃ (c : List PanicEntry), e = Ending.panicked c ∧ R (Ending.panicked c) H') (id = id ∧ a = a ∧ n = n ∧ c = c ∧ (0 : Nat) = (0 : Nat) ∧ (0 : Nat) = (0 : Nat) ∧ (0 : Nat) = (0 : Nat) ∧ g = g ∧ x = x ∧ y = y ∧ lv = lv ∧ LoopP (fun (K : (Int × PUnit) × PUnit × PUnit × (Bool × (Option Addr × Nat × Nat) × Int × List Int × List Int × PUnit) × PUnit → (Nat → Option Obj) → Prop) (p : (Int × PUnit) × PUnit × PUnit × (Bool × (Option Addr × Nat × Nat) × Int × List Int × List Int × PUnit) × PUnit) (H : Nat → Option Obj) ↦ Br (decide (p.fst.fst < (4 : Int))) (Meets prog (87 : Nat) [Value.slice a n c] H fun (e : Ending) (H' : Nat → Option Obj) ↦ (∃ (a_1 : Option Addr), ∃ (n_1 : Nat), ∃ (c_1 : Nat), e = Ending.returned (Value.slice a_1 n_1 c_1) ∧ ∀ (b : Nat), H' b = none → ∀ (b_1 : Nat), Heap.upd H' b (Obj.cells { toList := [Value.int IntKind.u32 x, Value.int IntKind.u32 y, Value.int IntKind.i64 lv] } (85 : Nat)) b_1 = none → Meets prog (92 : Nat) [Value.slice a_1 n_1 c_1, Value.func (Fn.func (93 : Nat)) { toList := [] } { toList := [Value.pointer (some { block := b, off := (0 : Nat) }), Value.pointer (some { block := b_1, off := (0 : Nat) })] }] (Heap.upd (Heap.upd H' b (Obj.cells { toList := [Value.int IntKind.u32 x, Value.int IntKind.u32 y, Value.int IntKind.i64 lv] } (85 : Nat))) b_1 (Obj.cells { toList := [Value.int IntKind.i64 p.fst.fst] } (3 : Nat))) fun (e : Ending) (H' : Nat → Option Obj) ↦ (∃ (a_4 : Option Addr), ∃ (n_2 : Nat), ∃ (c_2 : Nat), e = Ending.returned (Value.slice a_4 n_2 c_2) ∧ ∃ (n_3 : Int), ∃ (n_4 : Int), ∃ (n_5 : Int), (∃ (b_2 : Nat), blockOf (Value.pointer (some { block := b, off := (0 : Nat) })) = some b_2 ∧ H' b_2 = some (Obj.cells { toList := [Value.int IntKind.u32 n_3, Value.int IntKind.u32 n_4, Value.int IntKind.i64 n_5] } (85 : Nat))) ∧ ∃ (n_6 : Int), (∃ (b_2 : Nat), blockOf (Value.pointer (some { block := b_1, off := (0 : Nat) })) = some b_2 ∧ Heap.delO H' (blockOf (Value.pointer (some { block := b, off := (0 : Nat) }))) b_2 = some (Obj.cells { toList := [Value.int IntKind.i64 n_6] } (3 : Nat))) ∧ Br (decide ((↑n_2 : Int) > (0 : Int))) (∃ (G : Nat → Option Obj), G ≤ Heap.delO (Heap.delO H' (blockOf (Value.pointer (some { block := b, off := (0 : Nat) })))) (blockOf (Value.pointer (some { block := b_1, off := (0 : Nat) }))) ∧ Meets prog (95 : Nat) [Value.agg { toList := [Value.pointer g] }] (Heap.delO (Heap.delO H' (blockOf (Value.pointer (some { block := b, off := (0 : Nat) })))) (blockOf (Value.pointer (some { block := b_1, off := (0 : Nat) })))) fun (e : Ending) (H'_1 : Nat → Option Obj) ↦ (Keep G (Heap.delO (Heap.delO H' (blockOf (Value.pointer (some { block := b, off := (0 : Nat) })))) (blockOf (Value.pointer (some { block := b_1, off := (0 : Nat) })))) (Heap.delO (Heap.delO H' (blockOf (Value.pointer (some { block := b, off := (0 : Nat) })))) (blockOf (Value.pointer (some { block := b_1, off := (0 : Nat) })))) H'_1 ∧ ∃ (n_7 : Int), e = Ending.returned (Value.int IntKind.i64 n_7) ∧ ((0 : Int) ≤ n_6 ∧ n_6 < (↑(4 : Nat) : Int)) ∧ ((0 : Int) ≤ n_6 ∧ n_6 < (↑(4 : Nat) : Int)) ∧ ∃ (G : Nat → Option Obj), G ≤ delLs H'_1 [] ∧ ((0 : Int) ≤ n_6 ∧ n_6 < (↑(4 : Nat) : Int)) ∧ Meets prog (96 : Nat) [Value.agg { toList := [Value.int IntKind.u32 n_3, Value.int IntKind.u32 n_4, Value.int IntKind.i64 n_5] }, Value.int IntKind.i64 n_6] (delLs H'_1 []) fun (e : Ending) (H' : Nat → Option Obj) ↦ (Keep G (delLs H'_1 []) (delLs H'_1 []) H' ∧ ∃ (n_8 : Int), ∃ (n_9 : Int), ∃ (n_10 : Int), e = Ending.returned (Value.agg { toList := [Value.int IntKind.u32 n_8, Value.int IntKind.u32 n_9, Value.int IntKind.i64 n_10] }) ∧ Meets prog (62 : Nat) [Value.agg { toList := [Value.pointer g] }, Value.int IntKind.i64 (List.getD (List.set p.snd.snd.snd.fst.snd.snd.snd.fst (Int.toNat n_6) n_7) (Int.toNat n_6) (0 : Int)), Value.agg { toList := [Value.int IntKind.u32 n_8, Value.int IntKind.u32 n_9, Value.int IntKind.i64 n_10] }, Value.slice a_4 n_2 c_2] (delLs H' []) fun (e : Ending) (H'_2 : Nat → Option Obj) ↦ Keep G (delLs H' []) (delLs H' []) H'_2 ∧ e = Ending.returned (Value.tuple { toList := [] }) ∧ id = id ∧ a = a ∧ n = n ∧ c = c ∧ (0 : Nat) = (0 : Nat) ∧ (0 : Nat) = (0 : Nat) ∧ (0 : Nat) = (0 : Nat) ∧ g = g ∧ n_3 = x ∧ n_4 = y ∧ n_5 = lv ∧ K ((IntKind.wrap IntKind.i64 (p.fst.fst + (1 : Int)), PUnit.unit), PUnit.unit, PUnit.unit, (p.snd.snd.snd.fst.fst, (p.snd.snd.snd.fst.snd.fst.1, p.snd.snd.snd.fst.snd.fst.snd.fst, p.snd.snd.snd.fst.snd.fst.snd.snd), p.snd.snd.snd.fst.snd.snd.fst, List.set p.snd.snd.snd.fst.snd.snd.snd.fst (Int.toNat n_6) n_7, List.set p.snd.snd.snd.fst.snd.snd.snd.snd.fst (Int.toNat n_6) (↑n_2 : Int), PUnit.unit), PUnit.unit) (delLs H'_2 []) ∨ ∃ (c : List PanicEntry), e = Ending.panicked c ∧ R (Ending.panicked c) H'_2) ∨ ∃ (c : List PanicEntry), e = Ending.panicked c ∧ R (Ending.panicked c) H') ∨ ∃ (c : List PanicEntry), e = Ending.panicked c ∧ R (Ending.panicked c) H'_1) (id = id ∧ a = a ∧ n = n ∧ c = c ∧ (0 : Nat) = (0 : Nat) ∧ (0 : Nat) = (0 : Nat) ∧ (0 : Nat) = (0 : Nat) ∧ g = g ∧ n_3 = x ∧ n_4 = y ∧ n_5 = lv ∧ K ((IntKind.wrap IntKind.i64 (p.fst.fst + (1 : Int)), PUnit.unit), PUnit.unit, PUnit.unit, (p.snd.snd.snd.fst.fst, (p.snd.snd.snd.fst.snd.fst.1, p.snd.snd.snd.fst.snd.fst.snd.fst, p.snd.snd.snd.fst.snd.fst.snd.snd), p.snd.snd.snd.fst.snd.snd.fst, p.snd.snd.snd.fst.snd.snd.snd.fst, p.snd.snd.snd.fst.snd.snd.snd.snd.fst, PUnit.unit), PUnit.unit) (Heap.delO (Heap.delO H' (blockOf (Value.pointer (some { block := b, off := (0 : Nat) })))) (blockOf (Value.pointer (some { block := b_1, off := (0 : Nat) })))))) ∨ ∃ (c : List PanicEntry), e = Ending.panicked c ∧ R (Ending.panicked c) H') ∨ ∃ (c : List PanicEntry), e = Ending.panicked c ∧ R (Ending.panicked c) H') (Meets prog (97 : Nat) [Value.agg { toList := [Value.pointer g] }, Value.int IntKind.i64 id, Value.agg { toList := Value.bool p.snd.snd.snd.fst.fst :: Value.slice p.snd.snd.snd.fst.snd.fst.1 p.snd.snd.snd.fst.snd.fst.snd.fst p.snd.snd.snd.fst.snd.fst.snd.snd :: Value.int IntKind.i64 p.snd.snd.snd.fst.snd.snd.fst :: List.append (List.map (Value.int IntKind.i64) p.snd.snd.snd.fst.snd.snd.snd.fst) (List.map (Value.int IntKind.i64) p.snd.snd.snd.fst.snd.snd.snd.snd.fst ++ []) }] H fun (e : Ending) (H' : Nat → Option Obj) ↦ e = Ending.returned (Value.tuple { toList := [] }) ∧ R (Ending.returned (Value.tuple { toList := [] })) H' ∨ ∃ (c : List PanicEntry), e = Ending.panicked c ∧ R (Ending.panicked c) H')) (((0 : Int), PUnit.unit), PUnit.unit, PUnit.unit, (false, (none, (0 : Nat), (0 : Nat)), (0 : Int), [(0 : Int), (0 : Int), (0 : Int), (0 : Int)], [(0 : Int), (0 : Int), (0 : Int), (0 : Int)], PUnit.unit), PUnit.unit) H))
theorem vc_grow (g : Option Addr) (id : Int) (x : Int) (y : Int) (lv : Int) (a : Option Addr) (n : Nat) (c : Nat) (R : Ending → Heap → Prop) (H : Heap) : vcFun prog h_grow f62 [grA g, SV.c (SC.v (Value.int IntKind.i64 id)), ceA x y lv, SV.c (SC.v (Value.slice a n c))] R H = nf_grow g id x y lv a n c R H := by kernel_rfl

end Cr

set_option linter.unusedVariables false
set_option linter.unusedSimpArgs false
namespace Cr
open Go Sx Stb Bt
open Go.Sort (SWO)
abbrev M := Int → Option Nd
@[reducible] def nd1 : Nd := ⟨true, [], 0, z4, z4⟩
abbrev numsL : List Int := (List.range 255).map fun i : Nat => ((i : Int) + 1)
/-- The numbers without a node, rising. -/
def freeL (m : M) : List Int := numsL.filter fun i => (m i).isNone
theorem mem_numsL {i : Int} : i ∈ numsL ↔ 1 ≤ i ∧ i ≤ 255 := by
  rw [List.mem_map]
  constructor
  · rintro ⟨j, h, rfl⟩
    have := List.mem_range.1 h
    omega
  · rintro ⟨h1, h2⟩
    exact ⟨(i - 1).toNat, List.mem_range.2 (by omega), by omega⟩
theorem numsL_rise : numsL.Pairwise (· < ·) := by
  rw [List.pairwise_map]
  exact List.pairwise_lt_range.imp fun h => by omega
theorem mem_freeL {m : M} {i : Int} : i ∈ freeL m ↔ 1 ≤ i ∧ i ≤ 255 ∧ m i = none := by
  unfold freeL
  rw [List.mem_filter, mem_numsL, Option.isNone_iff_eq_none]
  constructor <;> rintro h <;> simp_all
theorem freeL_rise (m : M) : (freeL m).Pairwise (· < ·) := numsL_rise.filter _
/-- Rising lists with the same numbers are one. -/
theorem rise_ext : ∀ {l l' : List Int}, l.Pairwise (· < ·) → l'.Pairwise (· < ·) → (∀ x, x ∈ l ↔ x ∈ l') → l = l'
  | [], [], _, _, _ => rfl
  | [], y :: l', _, _, h => by have := (h y).2 (List.mem_cons_self ..); cases this
  | x :: l, [], _, _, h => by have := (h x).1 (List.mem_cons_self ..); cases this
  | x :: l, y :: l', h1, h2, h => by
    rw [List.pairwise_cons] at h1 h2
    have hxy : x = y := by
      rcases List.mem_cons.1 ((h x).1 (List.mem_cons_self ..)) with e | e
      · exact e
      · rcases List.mem_cons.1 ((h y).2 (List.mem_cons_self ..)) with e' | e'
        · exact e'.symm
        · have a := h2.1 x e
          have b := h1.1 y e'
          omega
    subst hxy
    rw [rise_ext h1.2 h2.2 fun z => ?_]
    have hz := h z
    simp only [List.mem_cons] at hz
    constructor
    · intro hm
      rcases hz.1 (.inr hm) with e | e
      · subst e; have := h1.1 z hm; omega
      · exact e
    · intro hm
      rcases hz.2 (.inr hm) with e | e
      · subst e; have := h2.1 z hm; omega
      · exact e
theorem freeL_set {m : M} {i : Int} {d : Nd} (h : m i ≠ none) : freeL (setM m i d) = freeL m := by
  refine rise_ext (freeL_rise _) (freeL_rise _) fun x => ?_
  rw [mem_freeL, mem_freeL]
  unfold setM
  split
  · subst_vars; simp [h]
  · rfl
theorem freeL_take {m : M} {i : Int} {r : List Int} {d : Nd} (h : freeL m = i :: r) : freeL (setM m i d) = r := by
  have hr := freeL_rise m
  rw [h, List.pairwise_cons] at hr
  refine rise_ext (freeL_rise _) hr.2 fun x => ?_
  have hx : x ∈ freeL m ↔ x = i ∨ x ∈ r := by rw [h, List.mem_cons]
  rw [mem_freeL] at hx ⊢
  unfold setM
  split
  · rename_i e
    subst e
    simp only [reduceCtorEq, and_false, false_iff]
    intro hm
    have := hr.1 x hm
    omega
  · rename_i e
    rw [hx]
    simp [e]
theorem setM_same {m : M} {i : Int} {d : Nd} : setM m i d i = some d := by simp [setM]
theorem setM_ne {m : M} {i j : Int} {d : Nd} (h : j ≠ i) : setM m i d j = m j := by simp [setM, h]
/-! ### Growing -/
def chainF (m : M) (id : Int) (L : List Pt) : Option M :=
  if h : L.length ≤ 4 then some (setM m id ⟨true, L, 0, z4, z4⟩)
  else match (freeL m).head? with
    | none => none
    | some nx => (chainF (setM m nx nd1) nx (L.drop 4)).map fun m' => setM m' id ⟨true, L.take 4, nx, z4, z4⟩
termination_by L.length
decreasing_by simp; omega
abbrev quarter (h : Nat) (q : Nat) (L : List Pt) : List Pt := L.filter fun p => qt h p == (q : Int)
/-- One quarter of a cell is grown. -/
def stepF (g : M → Int → List Pt → Option M) (h : Nat) (L : List Pt) (q : Nat) (s : M × List Int × List Int) : Option (M × List Int × List Int) :=
  if quarter h q L = [] then some s
  else match (freeL s.1).head? with
    | none => none
    | some k => (g (setM s.1 k nd1) k (quarter h q L)).map fun m' => (m', s.2.1.set q k, s.2.2.set q (quarter h q L).length)
def stepsF (g : M → Int → List Pt → Option M) (h : Nat) (L : List Pt) : Nat → M → Option (M × List Int × List Int)
  | 0, m => some (m, z4, z4)
  | q + 1, m => (stepsF g h L q m).bind (stepF g h L q)
def growF : Nat → M → Int → List Pt → Option M
  | 0, m, id, L => chainF m id L
  | h + 1, m, id, L => if L.length ≤ 4 then chainF m id L
    else (stepsF (growF h) h L 4 m).map fun s => setM s.1 id ⟨false, [], 0, s.2.1, s.2.2⟩
/-! ### What a tree is -/
/-- Points at one place, four by four. -/
def ChP (m : M) : List Int → List Pt → Prop
  | [], _ => False
  | [id], L => L.length ≤ 4 ∧ m id = some ⟨true, L, 0, z4, z4⟩
  | id :: nx :: r, L => 4 < L.length ∧ m id = some ⟨true, L.take 4, nx, z4, z4⟩ ∧ ChP m (nx :: r) (L.drop 4)
def SubP (T : Int → List Pt → List Int → Prop) (k c : Int) (L : List Pt) (I : List Int) : Prop :=
  (L = [] ∧ k = 0 ∧ c = 0 ∧ I = []) ∨ (L ≠ [] ∧ 1 ≤ k ∧ c = L.length ∧ T k L I)
/-- The tree of points below a node of a cell of height h; the numbers of its nodes. -/
def TrP (m : M) : Nat → Int → List Pt → List Int → Prop
  | 0, id, L, I => I.head? = some id ∧ ChP m I L
  | h + 1, id, L, I => if L.length ≤ 4 then I = [id] ∧ ChP m I L
    else ∃ (ks cs : List Int) (J : Nat → List Int), m id = some ⟨false, [], 0, ks, cs⟩ ∧ ks.length = 4 ∧ cs.length = 4 ∧ I = id :: (J 0 ++ (J 1 ++ (J 2 ++ J 3))) ∧
      ∀ q : Nat, q < 4 → SubP (TrP m h) (ks.getD q 0) (cs.getD q 0) (quarter h q L) (J q)
def nch (n : Nat) : Nat := if n ≤ 4 then 1 else (n + 3) / 4
def nq (f : List Pt → Nat) (L : List Pt) : Nat := if L = [] then 0 else f L
/-- How many nodes a tree has. -/
def nds : Nat → List Pt → Nat
  | 0, L => nch L.length
  | h + 1, L => if L.length ≤ 4 then 1 else 1 + (nq (nds h) (quarter h 0 L) + (nq (nds h) (quarter h 1 L) + (nq (nds h) (quarter h 2 L) + nq (nds h) (quarter h 3 L))))
theorem nch_pos (n : Nat) : 1 ≤ nch n := by unfold nch; split <;> omega
theorem nch_step {n : Nat} (h : 4 < n) : nch n = nch (n - 4) + 1 := by
  unfold nch
  rw [if_neg (by omega)]
  split <;> omega
theorem nds_pos : ∀ (h : Nat) (L : List Pt), 1 ≤ nds h L
  | 0, L => nch_pos _
  | h + 1, L => by unfold nds; split <;> omega
/-- Some nodes are new, at the least numbers that were free. -/
structure Grew (m m' : M) (T : List Int) : Prop where
  nodup : T.Nodup
  mem : ∀ i, i ∈ T ↔ i ∈ (freeL m).take T.length
  free : freeL m' = (freeL m).drop T.length
  few : T.length ≤ (freeL m).length
  same : ∀ i, i ∉ T → m' i = m i
  there : ∀ i ∈ T, m' i ≠ none
theorem Grew.refl (m : M) : Grew m m [] := ⟨by simp, by simp, by simp, by simp, fun _ _ => rfl, by simp⟩
theorem Grew.was {m m' : M} {T : List Int} (h : Grew m m' T) {i : Int} (hi : i ∈ T) : m i = none := (mem_freeL.1 (List.mem_of_mem_take ((h.mem i).1 hi))).2.2
theorem Grew.range {m m' : M} {T : List Int} (h : Grew m m' T) {i : Int} (hi : i ∈ T) : 1 ≤ i ∧ i ≤ 255 :=
  have := mem_freeL.1 (List.mem_of_mem_take ((h.mem i).1 hi)); ⟨this.1, this.2.1⟩
theorem Grew.off {m m' : M} {T : List Int} (h : Grew m m' T) {i : Int} (hi : m i ≠ none) : i ∉ T := fun hm => hi (h.was hm)
theorem Grew.keep {m m' : M} {T : List Int} (h : Grew m m' T) {i : Int} (hi : m i ≠ none) : m' i = m i := h.same i (h.off hi)
theorem Grew.trans {m m1 m2 : M} {A B : List Int} (h : Grew m m1 A) (h' : Grew m1 m2 B) : Grew m m2 (A ++ B) where
  nodup := List.nodup_append.2 ⟨h.nodup, h'.nodup, fun a ha b hb e => by subst e; exact h.there a ha (h'.was hb)⟩
  mem := fun i => by
    have h2 := h'.mem i
    rw [h.free] at h2
    rw [List.mem_append, h.mem, h2, List.length_append, List.take_add, List.mem_append]
  free := by rw [h'.free, h.free, List.drop_drop, List.length_append]
  few := by
    have := h'.few
    rw [h.free, List.length_drop] at this
    have := h.few
    rw [List.length_append]; omega
  same := fun i hi => by
    rw [List.mem_append, not_or] at hi
    rw [h'.same i hi.2, h.same i hi.1]
  there := fun i hi => by
    rcases List.mem_append.1 hi with hi | hi
    · rw [h'.keep (h.there i hi)]; exact h.there i hi
    · exact h'.there i hi
theorem take_tail {m : M} {i : Int} {r : List Int} (h : freeL m = i :: r) : m i = none ∧ 1 ≤ i ∧ i ≤ 255 ∧ i ∉ r := by
  have h1 := (mem_freeL (m := m) (i := i)).1 (by rw [h]; exact List.mem_cons_self ..)
  have hr := freeL_rise m
  rw [h, List.pairwise_cons] at hr
  exact ⟨h1.2.2, h1.1, h1.2.1, fun hm => by have := hr.1 i hm; omega⟩
/-- A fresh number, and what grows there. -/
theorem Grew.fresh {m m1 : M} {k : Int} {r T : List Int} {d : Nd} (hf : freeL m = k :: r) (h : Grew (setM m k nd1) m1 T) : Grew m (setM m1 k d) (k :: T) := by
  have hfr : freeL (setM m k nd1) = r := freeL_take hf
  obtain ⟨hk, _, _, hkr⟩ := take_tail hf
  have hkT : k ∉ T := h.off (by rw [setM_same]; simp)
  have hk1 : m1 k ≠ none := by rw [h.same k hkT, setM_same]; simp
  refine ⟨List.nodup_cons.2 ⟨hkT, h.nodup⟩, fun i => ?_, ?_, ?_, fun i hi => ?_, fun i hi => ?_⟩
  · have := h.mem i
    rw [hfr] at this
    rw [hf, List.length_cons, List.take_succ_cons, List.mem_cons, List.mem_cons, this]
  · rw [freeL_set hk1, h.free, hfr, hf]; rfl
  · have := h.few
    rw [hfr] at this
    rw [hf, List.length_cons, List.length_cons]; omega
  · rw [List.mem_cons, not_or] at hi
    rw [setM_ne hi.1, h.same i hi.2, setM_ne hi.1]
  · by_cases e : i = k
    · subst e; rw [setM_same]; simp
    · rw [setM_ne e]
      rcases List.mem_cons.1 hi with e' | hi
      · exact absurd e' e
      · exact h.there i hi
theorem ChP_congr {m m' : M} : ∀ {I : List Int} {L : List Pt}, (∀ i ∈ I, m' i = m i) → ChP m I L → ChP m' I L
  | [], _, _, h => h
  | [id], L, e, h => ⟨h.1, by rw [e id (List.mem_cons_self ..)]; exact h.2⟩
  | id :: nx :: r, L, e, h => ⟨h.1, by rw [e id (List.mem_cons_self ..)]; exact h.2.1, ChP_congr (fun i hi => e i (List.mem_cons_of_mem _ hi)) h.2.2⟩
theorem ChP_len {m : M} : ∀ {I : List Int} {L : List Pt}, ChP m I L → I.length = nch L.length
  | [id], L, h => by unfold nch; rw [if_pos h.1]; rfl
  | id :: nx :: r, L, h => by
    have := ChP_len h.2.2
    rw [nch_step h.1]
    simp at this ⊢
    exact this
theorem SubP_congr {T T' : Int → List Pt → List Int → Prop} {k c : Int} {L : List Pt} {I : List Int} (h : T k L I → T' k L I) (hs : SubP T k c L I) : SubP T' k c L I := by
  rcases hs with hs | ⟨h1, h2, h3, h4⟩
  · exact .inl hs
  · exact .inr ⟨h1, h2, h3, h h4⟩
theorem mem_four {α : Type} {J : Nat → List α} {x : α} {q : Nat} (hq : q < 4) (h : x ∈ J q) : x ∈ J 0 ++ (J 1 ++ (J 2 ++ J 3)) := by
  simp only [List.mem_append]
  have : q = 0 ∨ q = 1 ∨ q = 2 ∨ q = 3 := by omega
  rcases this with rfl | rfl | rfl | rfl <;> simp [h]
theorem TrP_congr {m m' : M} : ∀ {h : Nat} {id : Int} {L : List Pt} {I : List Int}, (∀ i ∈ I, m' i = m i) → TrP m h id L I → TrP m' h id L I
  | 0, id, L, I, e, h => ⟨h.1, ChP_congr e h.2⟩
  | n + 1, id, L, I, e, h => by
    unfold TrP at h ⊢
    split
    · rename_i hl
      rw [if_pos hl] at h
      exact ⟨h.1, ChP_congr e h.2⟩
    · rename_i hl
      rw [if_neg hl] at h
      obtain ⟨ks, cs, J, h1, h2, h3, rfl, h4⟩ := h
      refine ⟨ks, cs, J, by rw [e id (List.mem_cons_self ..)]; exact h1, h2, h3, rfl, fun q hq => SubP_congr (TrP_congr fun i hi => e i (List.mem_cons_of_mem _ (mem_four hq hi))) (h4 q hq)⟩
theorem nq_nil (f : List Pt → Nat) : nq f [] = 0 := rfl
theorem nq_some {f : List Pt → Nat} {L : List Pt} (h : L ≠ []) : nq f L = f L := if_neg h
theorem TrP_len {m : M} : ∀ {h : Nat} {id : Int} {L : List Pt} {I : List Int}, TrP m h id L I → I.length = nds h L
  | 0, id, L, I, h => ChP_len h.2
  | n + 1, id, L, I, h => by
    unfold TrP at h
    unfold nds
    split at h
    · rename_i hl
      rw [if_pos hl, h.1]; rfl
    · rename_i hl
      rw [if_neg hl]
      obtain ⟨ks, cs, J, h1, h2, h3, rfl, h4⟩ := h
      have sub : ∀ q, q < 4 → (J q).length = nq (nds n) (quarter n q L) := fun q hq => by
        rcases h4 q hq with ⟨e1, _, _, e4⟩ | ⟨e1, _, _, e4⟩
        · rw [e1, e4]; rfl
        · rw [nq_some e1]; exact TrP_len e4
      simp only [List.length_cons, List.length_append, sub 0 (by omega), sub 1 (by omega), sub 2 (by omega), sub 3 (by omega)]
      omega
/-- What becomes of growing: it's there, or there are too few numbers. -/
def GrowOK (F : Option M) (m : M) (id : Int) (T : M → List Int → Prop) (n : Nat) : Prop :=
  (n - 1 ≤ (freeL m).length → ∃ m1 d I, F = some (setM m1 id d) ∧ Grew m m1 I ∧ I.length = n - 1 ∧ T (setM m1 id d) (id :: I)) ∧ ((freeL m).length < n - 1 → F = none)
theorem chainF_spec : ∀ (n : Nat) (m : M) (id : Int) (L : List Pt), L.length ≤ n → m id ≠ none → GrowOK (chainF m id L) m id (fun m' I => ChP m' I L) (nch L.length) := by
  intro n
  induction n with
  | zero =>
    intro m id L hn hid
    have hL : L.length ≤ 4 := by omega
    unfold chainF
    rw [dif_pos hL]
    have h1 : nch L.length = 1 := by unfold nch; rw [if_pos hL]
    rw [h1]
    exact ⟨fun _ => ⟨m, _, [], rfl, Grew.refl m, rfl, hL, setM_same⟩, fun h => by omega⟩
  | succ n ih =>
    intro m id L hn hid
    by_cases hL : L.length ≤ 4
    · unfold chainF
      rw [dif_pos hL]
      have h1 : nch L.length = 1 := by unfold nch; rw [if_pos hL]
      rw [h1]
      exact ⟨fun _ => ⟨m, _, [], rfl, Grew.refl m, rfl, hL, setM_same⟩, fun h => by omega⟩
    · have hs := nch_step (n := L.length) (by omega)
      have hp := nch_pos (L.length - 4)
      have hd : (L.drop 4).length = L.length - 4 := by simp
      unfold chainF
      rw [dif_neg hL]
      cases hf : freeL m with
      | nil =>
        refine ⟨fun h => ?_, fun _ => rfl⟩
        rw [hf] at h
        simp at h; omega
      | cons k r =>
        obtain ⟨hk1, hk2, hk3, hk4⟩ := take_tail hf
        have hkid : id ≠ k := fun e => hid (e ▸ hk1)
        have hfr : freeL (setM m k nd1) = r := freeL_take hf
        obtain ⟨ih1, ih2⟩ := ih (setM m k nd1) k (L.drop 4) (by omega) (by rw [setM_same]; simp)
        rw [hfr, hd] at ih1 ih2
        unfold GrowOK
        rw [hf]
        simp only [List.head?_cons, List.length_cons]
        constructor
        · intro h
          obtain ⟨m1, d, I, e1, e2, e3, e4⟩ := ih1 (by omega)
          rw [e1]
          have g := e2.fresh (d := d) hf
          have hoff := g.off hid
          refine ⟨_, _, k :: I, rfl, g, by rw [List.length_cons, e3]; omega, by omega, setM_same, ChP_congr (fun i hi => setM_ne ?_) e4⟩
          rintro rfl
          exact hoff hi
        · intro h
          rw [ih2 (by omega)]
          rfl
theorem getD_set {l : List Int} {q k : Nat} {x : Int} (hq : q < l.length) : (l.set q x).getD k 0 = if q = k then x else l.getD k 0 := by
  simp only [List.getD_eq_getElem?_getD, List.getElem?_set]
  by_cases h : q = k
  · subst h; simp [hq]
  · simp [h]
theorem growF_spec : ∀ (h : Nat) (m : M) (id : Int) (L : List Pt), m id ≠ none → GrowOK (growF h m id L) m id (fun m' I => TrP m' h id L I) (nds h L) := by
  intro h
  induction h with
  | zero =>
    intro m id L hid
    obtain ⟨h1, h2⟩ := chainF_spec _ m id L (Nat.le_refl _) hid
    refine ⟨fun hn => ?_, h2⟩
    obtain ⟨m1, d, I, e1, e2, e3, e4⟩ := h1 hn
    exact ⟨m1, d, I, e1, e2, e3, rfl, e4⟩
  | succ h ih =>
    intro m id L hid
    by_cases hL : L.length ≤ 4
    · obtain ⟨h1, h2⟩ := chainF_spec _ m id L (Nat.le_refl _) hid
      have e : nds (h + 1) L = nch L.length := by unfold nds nch; rw [if_pos hL, if_pos hL]
      unfold growF
      rw [if_pos hL, e]
      refine ⟨fun hn => ?_, h2⟩
      obtain ⟨m1, d, I, e1, e2, e3, e4⟩ := h1 hn
      refine ⟨m1, d, I, e1, e2, e3, ?_⟩
      show TrP _ _ _ _ _
      unfold TrP
      rw [if_pos hL]
      have h1 : nch L.length = 1 := by unfold nch; rw [if_pos hL]
      have : I = [] := List.length_eq_zero_iff.1 (by omega)
      subst this
      exact ⟨rfl, e4⟩
    · -- quarter by quarter
      let ns : Nat → Nat := fun q => ((List.range q).map fun i => nq (nds h) (quarter h i L)).sum
      have hns : ∀ q, ns (q + 1) = ns q + nq (nds h) (quarter h q L) := fun q => by
        show ((List.range (q + 1)).map _).sum = _
        rw [List.range_succ, List.map_append, List.sum_append]
        simp [ns]
      have steps : ∀ q, q ≤ 4 → (ns q ≤ (freeL m).length → ∃ m1 ks cs J, stepsF (growF h) h L q m = some (m1, ks, cs) ∧ ks.length = 4 ∧ cs.length = 4 ∧ Grew m m1 ((List.range q).map J).flatten ∧ ((List.range q).map J).flatten.length = ns q ∧
          (∀ i, i < q → SubP (TrP m1 h) (ks.getD i 0) (cs.getD i 0) (quarter h i L) (J i)) ∧ ∀ i, q ≤ i → ks.getD i 0 = 0 ∧ cs.getD i 0 = 0) ∧ ((freeL m).length < ns q → stepsF (growF h) h L q m = none) := by
        intro q
        induction q with
        | zero =>
          intro _
          refine ⟨fun _ => ⟨m, z4, z4, fun _ => [], rfl, rfl, rfl, by simpa using Grew.refl m, rfl, by simp, fun i _ => ?_⟩, fun hn => by simp [ns] at hn⟩
          match i with
          | 0 | 1 | 2 | 3 => exact ⟨rfl, rfl⟩
          | i + 4 => exact ⟨rfl, rfl⟩
        | succ q ihq =>
          intro hq
          obtain ⟨h1, h2⟩ := ihq (by omega)
          rw [hns q]
          by_cases hle : ns q ≤ (freeL m).length
          · obtain ⟨m1, ks, cs, J, e1, e2, e3, e4, e5, e6, e7⟩ := h1 hle
            simp only [stepsF, e1, Option.bind_some]
            unfold stepF
            by_cases hQ : quarter h q L = []
            · rw [if_pos hQ, hQ, nq_nil, Nat.add_zero]
              refine ⟨fun _ => ⟨m1, ks, cs, fun i => if i = q then [] else J i, rfl, e2, e3, ?_, ?_, fun i hi => ?_, fun i hi => e7 i (by omega)⟩, fun hn => by omega⟩
              · rw [List.range_succ, List.map_append, List.flatten_append, List.map_congr_left (g := J) (fun i hi => by rw [if_neg]; have := List.mem_range.1 hi; omega)]
                simpa using e4
              · rw [List.range_succ, List.map_append, List.flatten_append, List.map_congr_left (g := J) (fun i hi => by rw [if_neg]; have := List.mem_range.1 hi; omega)]
                simpa using e5
              · show SubP _ _ _ _ (if i = q then [] else J i)
                by_cases hi' : i = q
                · subst hi'
                  have := e7 i (by omega)
                  rw [if_pos rfl]
                  exact .inl ⟨hQ, this.1, this.2, rfl⟩
                · rw [if_neg hi']; exact e6 i (by omega)
            · rw [if_neg hQ, nq_some hQ]
              have hpos := nds_pos h (quarter h q L)
              have hfree := e4.free
              rw [e5] at hfree
              have hfl : (freeL m1).length = (freeL m).length - ns q := by rw [hfree, List.length_drop]
              cases hf : freeL m1 with
              | nil =>
                rw [hf] at hfl
                simp only [List.length_nil] at hfl
                exact ⟨fun hn => by omega, fun _ => rfl⟩
              | cons k r =>
                simp only [List.head?_cons]
                have hfr : freeL (setM m1 k nd1) = r := freeL_take hf
                have hrl : r.length + 1 = (freeL m).length - ns q := by rw [← hfl, hf]; rfl
                obtain ⟨ih1, ih2⟩ := ih (setM m1 k nd1) k (quarter h q L) (by rw [setM_same]; simp)
                rw [hfr] at ih1 ih2
                constructor
                · intro hn
                  obtain ⟨m2, d, I, f1, f2, f3, f4⟩ := ih1 (by omega)
                  rw [f1]
                  have g := f2.fresh (d := d) hf
                  have hk := take_tail hf
                  refine ⟨_, _, _, fun i => if i = q then k :: I else J i, rfl, by simpa using e2, by simpa using e3, ?_, ?_, fun i hi => ?_, fun i hi => ?_⟩
                  · rw [List.range_succ, List.map_append, List.flatten_append, List.map_congr_left (g := J) (fun i hi => by rw [if_neg]; have := List.mem_range.1 hi; omega)]
                    simpa using e4.trans g
                  · rw [List.range_succ, List.map_append, List.flatten_append, List.map_congr_left (g := J) (fun i hi => by rw [if_neg]; have := List.mem_range.1 hi; omega), List.length_append, e5]
                    simp; omega
                  · show SubP _ _ _ _ (if i = q then k :: I else J i)
                    rw [getD_set (by omega), getD_set (by omega)]
                    by_cases hi' : q = i
                    · subst hi'
                      rw [if_pos rfl, if_pos rfl, if_pos rfl]
                      exact .inr ⟨hQ, hk.2.1, rfl, f4⟩
                    · rw [if_neg hi', if_neg hi', if_neg (Ne.symm hi')]
                      refine SubP_congr (TrP_congr fun j hj => ?_) (e6 i (by omega))
                      refine g.keep (e4.there j ?_)
                      exact List.mem_flatten.2 ⟨J i, List.mem_map.2 ⟨i, List.mem_range.2 (by omega), rfl⟩, hj⟩
                  · rw [getD_set (by omega), getD_set (by omega), if_neg (by omega), if_neg (by omega)]
                    exact e7 i (by omega)
                · intro hn
                  have hlt : r.length < nds h (quarter h q L) - 1 := by clear ih1 ih2 h1 h2 ihq; omega
                  rw [ih2 hlt]
                  rfl
          · have : stepsF (growF h) h L (q + 1) m = none := by
              simp only [stepsF, h2 (by omega), Option.bind_none]
            exact ⟨fun hn => by omega, fun _ => this⟩
      have hn4 : nds (h + 1) L - 1 = ns 4 := by
        unfold nds
        rw [if_neg hL]
        simp [ns, List.range_succ]
      obtain ⟨h1, h2⟩ := steps 4 (by omega)
      unfold growF
      rw [if_neg hL]
      unfold GrowOK
      rw [hn4]
      constructor
      · intro hn
        obtain ⟨m1, ks, cs, J, e1, e2, e3, e4, e5, e6, e7⟩ := h1 hn
        rw [e1]
        have hoff := e4.off hid
        have hfl : ((List.range 4).map J).flatten = J 0 ++ (J 1 ++ (J 2 ++ J 3)) := by simp [List.range_succ]
        rw [hfl] at e4 e5 hoff
        refine ⟨m1, _, _, rfl, e4, e5, ?_⟩
        show TrP _ _ _ _ _
        unfold TrP
        rw [if_neg hL]
        refine ⟨ks, cs, J, setM_same, e2, e3, rfl, fun q hq => SubP_congr (TrP_congr fun i hi => setM_ne ?_) (e6 q hq)⟩
        rintro rfl
        exact hoff (mem_four hq hi)
      · intro hn
        rw [h2 hn]
        rfl
end Cr

set_option linter.unusedVariables false
set_option linter.unusedSimpArgs false
namespace Cr
open Go Sx Stb Bt
open Go.Sort (SWO)
open Go.Proofs.Try
set_option maxRecDepth 100000
abbrev grV (g : Option Addr) : Value := .agg { toList := [.pointer g] }
abbrev unitV : Value := .tuple { toList := [] }
abbrev stopE (e : Int) : List PanicEntry := [{ v := .iface 137 (.agg { toList := [vi e] }), recovered := false }]
theorem keep_none (H H' : Heap) : Keep (fun _ => none) H H H' := fun b o h h' => by
  rcases h' with h' | h'
  · rw [h'] at h; cases h
  · cases h'
theorem none_le (H : Heap) : (fun _ => none : Heap) ≤ H := fun _ _ e => by cases e
theorem has_gmod {H H' : Heap} {r : Nat} {es : Array MapEntry} {clk : Nat} (hr : H r = some (.map es clk)) {a : Addr} {l : List Value} (h : H.has a l) (hm : GMod r H H') : H'.has a l := by
  intro j x hx
  have := h j x hx
  unfold Heap.cell? at *
  split at this
  · rename_i c ty q e
    have hne : (a.add j).block ≠ r := by intro e'; rw [e', hr] at e; cases e
    rw [hm _ _ hne e]
    exact this
  · cases this
theorem slice_gmod {H H' : Heap} {r : Nat} {es : Array MapEntry} {clk : Nat} (hr : H r = some (.map es clk)) {v : Value} {sz : Nat} {ls : List (List Value)} (h : SliceAt H v sz ls) (hm : GMod r H H') : SliceAt H' v sz ls := by
  obtain ⟨a, n, c, e, h1, h2, h3, h4, h5⟩ := h
  refine ⟨a, n, c, e, h1, h2, h3, h4, fun i e he => ?_⟩
  obtain ⟨A, q1, q2, q3⟩ := h5 i e he
  exact ⟨A, q1, q2, has_gmod hr q3 hm⟩
theorem GroveAt.isMap {H : Heap} {g : Addr} {r : Nat} {m : M} (h : GroveAt H g r m) : ∃ es clk, H r = some (.map es clk) := by
  obtain ⟨_, l, ⟨es, clk, h, _⟩, _⟩ := h
  exact ⟨es, clk, h⟩
theorem GroveAt.slice {H H' : Heap} {g : Addr} {r : Nat} {m : M} (h : GroveAt H g r m) {v : Value} {sz : Nat} {ls : List (List Value)} (hs : SliceAt H v sz ls) (hm : GMod r H H') : SliceAt H' v sz ls := by
  obtain ⟨es, clk, hr⟩ := h.isMap
  exact slice_gmod hr hs hm
/-- A part of a slice. -/
theorem slice_sub {H : Heap} {a : Option Addr} {n c sz lo hi : Nat} {es : List (List Value)} (h : SliceAt H (.slice a n c) sz es) (h1 : lo ≤ hi) (h2 : hi ≤ n) : SliceAt H (.slice (subAddr a c lo sz) (hi - lo) (c - lo)) sz ((es.drop lo).take (hi - lo)) := by
  obtain ⟨a', n', c', e, hl, hc, h3, h4, h5⟩ := h
  cases e
  refine ⟨_, _, _, rfl, by rw [List.length_take, List.length_drop]; omega, by omega, fun e he => h3 e (List.mem_of_mem_drop (List.mem_of_mem_take he)), fun e he => h4 e (List.mem_of_mem_drop (List.mem_of_mem_take he)), fun i e he => ?_⟩
  have hi' : i < hi - lo := by
    have := (List.getElem?_eq_some_iff.1 he).1
    rw [List.length_take] at this; omega
  rw [List.getElem?_take_of_lt hi', List.getElem?_drop] at he
  obtain ⟨A, rfl, q2, q3⟩ := h5 (lo + i) e he
  have hlc : c ≠ lo := by omega
  refine ⟨A.add (lo * sz), by simp [subAddr, hlc], by rw [add_spot q2], ?_⟩
  have : (A.add (lo * sz)).add (i * sz) = A.add ((lo + i) * sz) := by
    rw [add_spot q2, add_spot q2, add_spot rfl]
    simp [Nat.add_mul, Nat.add_assoc]
  rw [this]; exact q3
theorem slice_pre {H : Heap} {a : Option Addr} {n c sz hi : Nat} {es : List (List Value)} (h : SliceAt H (.slice a n c) sz es) (h2 : hi ≤ n) : SliceAt H (.slice (subAddr a c 0 sz) (hi - 0) (c - 0)) sz (es.take hi) := by
  simpa using slice_sub h (Nat.zero_le hi) h2
theorem slice_suf {H : Heap} {a : Option Addr} {n c sz lo : Nat} {es : List (List Value)} (h : SliceAt H (.slice a n c) sz es) (h2 : lo ≤ n) : SliceAt H (.slice (subAddr a c lo sz) (n - lo) (c - lo)) sz (es.drop lo) := by
  have hl := (slice_len h).1
  have := slice_sub h h2 (Nat.le_refl n)
  rwa [List.take_of_length_le (by rw [List.length_drop]; omega)] at this
/-- Points that may be, rising. -/
structure LOK (L : List Pt) : Prop where
  ok : ∀ p ∈ L, ptOK p
  rise : L.Pairwise fun p q => p.id < q.id
  range : ∀ p ∈ L, PtR p
theorem LOK.sub {L L' : List Pt} (h : LOK L) (hs : L'.Sublist L) : LOK L' := ⟨fun p hp => h.ok p (hs.subset hp), h.rise.sublist hs, fun p hp => h.range p (hs.subset hp)⟩
theorem LOK.pts {L : List Pt} (h : LOK L) (hl : L.length ≤ 4) : PtsOK L where
  each := fun i p hp => h.ok p (List.mem_of_getElem? hp)
  rise := fun i p q hp hq => by
    obtain ⟨h1, rfl⟩ := List.getElem?_eq_some_iff.1 hp
    obtain ⟨h2, rfl⟩ := List.getElem?_eq_some_iff.1 hq
    exact List.pairwise_iff_getElem.1 h.rise i (i + 1) h1 h2 (by omega)
  few := hl
theorem leafOK {L : List Pt} (h : LOK L) (hl : L.length ≤ 4) {nx : Int} (hn : 0 ≤ nx ∧ nx ≤ 255) : NdOK ⟨true, L, nx, z4, z4⟩ := by
  unfold NdOK
  rw [if_pos rfl]
  exact ⟨h.pts hl, hn.1, hn.2, rfl, rfl⟩
theorem LOK.nil : LOK [] := ⟨by simp, by simp, by simp⟩
theorem freeL_least {m : M} {id : Int} (h1 : 1 ≤ id) (h2 : id ≤ 255) (h3 : m id = none) (h4 : ∀ j, 1 ≤ j → j < id → (m j).isSome) : ∃ r, freeL m = id :: r := by
  have hm : id ∈ freeL m := mem_freeL.2 ⟨h1, h2, h3⟩
  have hr := freeL_rise m
  cases hf : freeL m with
  | nil => rw [hf] at hm; cases hm
  | cons k r =>
    rw [hf] at hm hr
    have hk := mem_freeL.1 (show k ∈ freeL m by rw [hf]; exact List.mem_cons_self ..)
    rcases List.mem_cons.1 hm with e | e
    · subst e; exact ⟨r, rfl⟩
    · have := (List.pairwise_cons.1 hr).1 id e
      have := h4 k hk.1 this
      rw [hk.2.2] at this; cases this
section
variable {R : Ending → Heap → Prop} {H : Heap}
theorem s_need {b : Bool} {e : Int} (k1 : b = true → R (.returned unitV) H) (k2 : b = false → R (.panicked (stopE e)) H) : Meets prog 111 [.bool b, vi e] H R := by
  refine spec_of func111 (by kernel_rfl) (fun t h => by cases h) ?_ (vc_need b e R H) ?_
  · simp [argsR, SV.rep, SC.rep, one]
  unfold nf_need
  exact br (fun q => k2 (by simpa using q)) fun q => k1 (by simpa using q)
theorem s_gput {g : Addr} {r : Nat} {m : M} {id : Int} {v : Value} {d : Nd} (h : GroveAt H g r m) (hv : NdAt H v d) (hok : NdOK d) (hid : 1 ≤ id ∧ id ≤ 255) (hl : d.pts.length ≤ 1000000)
    (k : ∀ H', GroveAt H' g r (setM m id d) → GMod r H H' → R (.returned unitV) H') : Meets prog 97 [grV (some g), vi id, v] H R := by
  have hv0 := hv
  obtain ⟨a, n, c, rfl, hs1, hk, hc⟩ := hv
  refine spec_of func97 (by kernel_rfl) (fun t h => by cases h) ?_ (vc_gput (some g) id d.leaf a n c d.next d.kids d.counts R H) ?_
  · simp [argsR, SV.rep, SegsRep, SC.rep, one, hk, hc]
  unfold nf_gput
  refine s_put h hv0 hl (fun no => (no hok).elim) (fun _ no => (no hid).elim) fun _ _ H' h1 h2 => .inl ⟨_, rfl, s_need (fun _ => .inl ⟨rfl, k H' h1 h2⟩) fun q => by simp at q⟩
theorem s_gfresh {g : Addr} {r : Nat} {m : M} (h : GroveAt H g r m) (k1 : ∀ id l, freeL m = id :: l → ∀ H', GroveAt H' g r (setM m id nd1) → GMod r H H' → R (.returned (vi id)) H') (k2 : freeL m = [] → R (.panicked (stopE 10)) H) :
    Meets prog 95 [grV (some g)] H R := by
  refine spec_of func95 (by kernel_rfl) (fun t h => by cases h) ?_ (vc_gfresh (some g) R H) ?_
  · simp [argsR, SV.rep, SegsRep, SC.rep, one]
  unfold nf_gfresh
  refine s_fresh h (fun id h1 h2 h3 h4 => ?_) fun h1 => ?_
  · obtain ⟨l, hl⟩ := freeL_least h1 h2 h3 h4
    refine .inl ⟨_, _, rfl, s_need (fun _ => .inl ⟨rfl, ?_⟩) fun q => by simp at q⟩
    exact s_gput (d := nd1) h ⟨none, 0, 0, rfl, slice_nil _, rfl, rfl⟩ (leafOK LOK.nil (by simp) (by omega)) ⟨h1, h2⟩ (by simp) fun H' g1 g2 => .inl ⟨rfl, k1 id l hl H' g1 g2⟩
  · refine .inl ⟨_, _, rfl, s_need (fun q => by simp at q) fun _ => .inr ⟨_, rfl, k2 ?_⟩⟩
    cases hf : freeL m with
    | nil => rfl
    | cons x l =>
      have := mem_freeL.1 (show x ∈ freeL m by rw [hf]; exact List.mem_cons_self ..)
      have h2 := h1 x this.1 this.2.1
      rw [this.2.2] at h2; cases h2
theorem min4 (n : Nat) : minI (n : Int) 4 = ((min n 4 : Nat) : Int) := by
  unfold minI
  split <;> omega
theorem s_chain : ∀ (N : Nat) {g : Addr} {r : Nat} {m : M} {id : Int} {v : Value} {L : List Pt} {H : Heap} {R : Ending → Heap → Prop}, L.length ≤ N → L.length ≤ 1000000 → GroveAt H g r m → Dom m → LOK L → SliceAt H v 4 (pts L) → 1 ≤ id ∧ id ≤ 255 →
    (∀ m' H', chainF m id L = some m' → Dom m' → GroveAt H' g r m' → GMod r H H' → R (.returned unitV) H') → (chainF m id L = none → ∀ H', GMod r H H' → R (.panicked (stopE 10)) H') →
    Meets prog 91 [grV (some g), vi id, v] H R := by
  intro N
  induction N with
  | zero =>
    intro g r m id v L H R hN hbig h hD hL hs hid k1 k2
    obtain ⟨a, n, c, rfl, hn⟩ := hs
    have hs : SliceAt H (.slice a n c) 4 (pts L) := ⟨a, n, c, rfl, hn⟩
    have hln : L.length = n := by simpa [pts] using hn.1
    have hnc := hn.2.1
    refine spec_of func91 (by kernel_rfl) (fun t h => by cases h) ?_ (vc_chain (some g) id a n c R H) ?_
    · simp [argsR, SV.rep, SegsRep, SC.rep, one]
    unfold nf_chain
    rw [min4, Nat.min_eq_left (by omega), Int.toNat_natCast, Nat.sub_zero, Int.toNat_natCast]
    refine ⟨⟨by omega, by omega⟩, ⟨by omega, by omega⟩, br (fun q => by simp at q) fun _ => ?_⟩
    have hp := slice_pre hs (hi := n) (Nat.le_refl n)
    have e : chainF m id L = some (setM m id ⟨true, L, 0, z4, z4⟩) := by unfold chainF; rw [dif_pos (by omega)]
    have ok := leafOK hL (by omega) (nx := 0) (by omega)
    refine s_gput (d := ⟨true, L, 0, z4, z4⟩) h ⟨subAddr a c 0 4, n, c - 0, rfl, ?_, rfl, rfl⟩ ok hid (by simp; omega) fun H' g1 g2 => .inl ⟨rfl, k1 _ H' e (hD.set hid ok) g1 g2⟩
    rw [List.take_of_length_le (by simp [pts]; omega)] at hp
    exact hp
  | succ N ih =>
    intro g r m id v L H R hN hbig h hD hL hs hid k1 k2
    obtain ⟨a, n, c, rfl, hn⟩ := hs
    have hs : SliceAt H (.slice a n c) 4 (pts L) := ⟨a, n, c, rfl, hn⟩
    have hln : L.length = n := by simpa [pts] using hn.1
    have hnc := hn.2.1
    refine spec_of func91 (by kernel_rfl) (fun t h => by cases h) ?_ (vc_chain (some g) id a n c R H) ?_
    · simp [argsR, SV.rep, SegsRep, SC.rep, one]
    unfold nf_chain
    rw [min4]
    by_cases h4 : n ≤ 4
    · rw [Nat.min_eq_left (by omega), Int.toNat_natCast, Nat.sub_zero, Int.toNat_natCast]
      refine ⟨⟨by omega, by omega⟩, ⟨by omega, by omega⟩, br (fun q => by simp at q) fun _ => ?_⟩
      have hp := slice_pre hs (hi := n) (Nat.le_refl n)
      have e : chainF m id L = some (setM m id ⟨true, L, 0, z4, z4⟩) := by unfold chainF; rw [dif_pos (by omega)]
      have ok := leafOK hL (by omega) (nx := 0) (by omega)
      refine s_gput (d := ⟨true, L, 0, z4, z4⟩) h ⟨subAddr a c 0 4, n, c - 0, rfl, ?_, rfl, rfl⟩ ok hid (by simp; omega) fun H' g1 g2 => .inl ⟨rfl, k1 _ H' e (hD.set hid ok) g1 g2⟩
      rw [List.take_of_length_le (by simp [pts]; omega)] at hp
      exact hp
    · rw [Nat.min_eq_right (by omega)]
      have hp := slice_pre hs (hi := 4) (by omega)
      have hq := slice_suf hs (lo := 4) (by omega)
      have e4 : ((4 : Nat) : Int).toNat = 4 := rfl
      have e4' : ((4 - 0 : Nat) : Int).toNat = 4 := rfl
      rw [e4, e4']
      refine ⟨⟨by omega, by omega⟩, ⟨by omega, by omega⟩, br (fun _ => ?_) fun q => by simp at q; omega⟩
      refine s_gfresh h (fun nx l hf H1 g1 m1 => .inl ⟨_, rfl, ?_⟩) fun hf => .inr ⟨_, rfl, k2 ?_ _ (GMod.refl _ _)⟩
      · have hx := take_tail hf
        have ok1 : NdOK nd1 := leafOK LOK.nil (by simp) (by omega)
        have hLd : LOK (L.drop 4) := hL.sub (List.drop_sublist _ _)
        have hq1 := h.slice hq m1
        have e0 : chainF m id L = (chainF (setM m nx nd1) nx (L.drop 4)).map fun m' => setM m' id ⟨true, L.take 4, nx, z4, z4⟩ := by
          conv => lhs; unfold chainF
          rw [dif_neg (by omega), hf]
          rfl
        refine ih (L := L.drop 4) (by simp; omega) (by simp; omega) g1 (hD.set ⟨hx.2.1, hx.2.2.1⟩ ok1) hLd (by simpa [pts] using hq1) ⟨hx.2.1, hx.2.2.1⟩ (fun m' H2 e D2 g2 m2 => .inl ⟨rfl, ?_⟩) fun e H2 m2 => .inr ⟨_, rfl, k2 ?_ H2 (m1.trans m2)⟩
        · have ok := leafOK (hL.sub (List.take_sublist 4 L)) (by simp; omega) (nx := nx) (by omega)
          refine s_gput (d := ⟨true, L.take 4, nx, z4, z4⟩) g2 ⟨subAddr a c 0 4, 4, c - 0, rfl, ?_, rfl, rfl⟩ ok hid (by simp; omega) fun H' g3 m3 => .inl ⟨rfl, k1 _ H' ?_ (D2.set hid ok) g3 ((m1.trans m2).trans m3)⟩
          · have := h.slice hp (m1.trans m2)
            simpa [pts] using this
          · rw [e0, e]; rfl
        · rw [e0, e]; rfl
      · unfold chainF
        rw [dif_neg (by omega), hf]
        rfl
end
end Cr

set_option linter.unusedVariables false
set_option linter.unusedSimpArgs false
namespace Cr
open Go Sx Stb Bt
open Go.Sort (SWO)
open Go.Proofs.Try
set_option maxRecDepth 100000
theorem stepsF_none {g : M → Int → List Pt → Option M} {h : Nat} {L : List Pt} {m : M} {q : Nat} (h0 : stepsF g h L q m = none) : ∀ k, stepsF g h L (q + k) m = none
  | 0 => h0
  | k + 1 => by
    show (stepsF g h L (q + k) m).bind _ = none
    rw [stepsF_none h0 k]; rfl
theorem quaOK_z : QuaOK z4 z4 := fun q hq => by
  match q, hq with
  | 0, _ | 1, _ | 2, _ | 3, _ => exact ⟨by decide, by decide, by decide, by decide, by decide⟩
  | q + 4, hq => omega
theorem quaOK_set {ks cs : List Int} (h : QuaOK ks cs) (hk : ks.length = 4) (hc : cs.length = 4) {q : Nat} (hq : q < 4) {k c : Int} (h1 : 0 ≤ k ∧ k ≤ 255 ∧ 0 ≤ c ∧ c ≤ 65535 ∧ (k = 0 ↔ c = 0)) : QuaOK (ks.set q k) (cs.set q c) := fun j hj => by
  rw [getD_set (by omega), getD_set (by omega)]
  by_cases e : q = j
  · rw [if_pos e, if_pos e]; exact h1
  · rw [if_neg e, if_neg e]; exact h j hj
theorem innerOK {ks cs : List Int} (h : QuaOK ks cs) : NdOK ⟨false, [], 0, ks, cs⟩ := by
  unfold NdOK
  rw [if_neg (by simp)]
  exact ⟨rfl, rfl, h⟩
theorem delO_ptr (H : Heap) (b : Nat) : H.delO (blockOf (.pointer (some ⟨b, 0, none⟩))) = H.del b := rfl
theorem del_ne (H : Heap) {b b' : Nat} (h : b' ≠ b) : H.del b b' = H b' := by unfold Heap.del; rw [if_neg h]
theorem has_cells {H : Heap} {b : Nat} {l : List Value} {ty : Nat} (h : H b = some (.cells l.toArray ty (0, 0))) : H.has ⟨b, 0, none⟩ l := fun j x hx => by
  rw [add_spot rfl]
  unfold Heap.cell?
  simp only [h]
  simpa using hx
section
variable {R : Ending → Heap → Prop} {H : Heap}
/-- The points of a quarter are told. -/
theorem pred_grow1 {b b1 : Nat} {x y : Int} {h q : Nat} (hh : h < 32) (hx : Cor (h + 1) x) (hy : Cor (h + 1) y) :
    PredOK PtR (fun H => H b = some (.cells #[.int .u32 x, .int .u32 y, vi (32 - ((h + 1 : Nat) : Int))] 85 (0, 0)) ∧ H b1 = some (.cells #[vi q] 3 (0, 0))) 93 #[.pointer (some ⟨b, 0, none⟩), .pointer (some ⟨b1, 0, none⟩)] fun p => qt h p != (q : Int) := by
  intro p H R hp hI k
  refine spec_of func93 (by kernel_rfl) (fun t h => by cases h) ?_ (vc_grow1 ⟨b, 0, none⟩ ⟨b1, 0, none⟩ p.id p.x p.y p.data R H) ?_
  · simp [argsR, SV.rep, SegsRep, SC.rep, one]
  unfold nf_grow1
  have lx := hx.lt (by omega)
  have ly := hy.lt (by omega)
  refine ⟨H, heap_refl _, ptr rfl ⟨_, _, _, has_cells hI.1, ptr rfl ⟨_, has_cells hI.2, s_quar hh lx ly ⟨hp.1, hp.2.1⟩ ⟨hp.2.2.1, hp.2.2.2⟩ ⟨keep_same _ _ _, _, rfl, k⟩⟩⟩⟩
theorem s_grow : ∀ (h : Nat) {g : Addr} {r : Nat} {m : M} {id x y lv : Int} {v : Value} {L : List Pt} {H : Heap} {R : Ending → Heap → Prop}, h ≤ 32 → lv = 32 - (h : Int) → Cor h x → Cor h y → L.length ≤ 60000 → GroveAt H g r m → Dom m → LOK L → SliceAt H v 4 (pts L) → 1 ≤ id ∧ id ≤ 255 →
    (∀ m' H', growF h m id L = some m' → Dom m' → GroveAt H' g r m' → GMod r H H' → R (.returned unitV) H') → (growF h m id L = none → ∀ H', GMod r H H' → R (.panicked (stopE 10)) H') →
    Meets prog 62 [grV (some g), vi id, ceV x y lv, v] H R := by
  intro h
  induction h with
  | zero =>
    intro g r m id x y lv v L H R hh hlv hx hy hbig hg hD hL hs hid k1 k2
    obtain ⟨a, n, c, rfl, hn⟩ := hs
    have hs : SliceAt H (.slice a n c) 4 (pts L) := ⟨a, n, c, rfl, hn⟩
    refine spec_of func62 (by kernel_rfl) (fun t h => by cases h) ?_ (vc_grow (some g) id x y lv a n c R H) ?_
    · simp [argsR, SV.rep, SegsRep, SC.rep, one]
    unfold nf_grow
    have ch := s_chain _ (R := fun e H' => e = .returned unitV ∧ R (.returned unitV) H' ∨ ∃ c, e = .panicked c ∧ R (.panicked c) H') (Nat.le_refl _) (by omega) hg hD hL hs hid (fun m' H' e1 e2 e3 e4 => .inl ⟨rfl, k1 m' H' e1 e2 e3 e4⟩) fun e1 H' e2 => .inr ⟨_, rfl, k2 e1 H' e2⟩
    exact br (fun _ => ch) fun _ => br (fun _ => ch) fun q => by simp at q; omega
  | succ h ih =>
    intro g r m id x y lv v L H R hh hlv hx hy hbig hg hD hL hs hid k1 k2
    obtain ⟨a, n, c, rfl, hn⟩ := hs
    have hs : SliceAt H (.slice a n c) 4 (pts L) := ⟨a, n, c, rfl, hn⟩
    have hln : L.length = n := by simpa [pts] using hn.1
    refine spec_of func62 (by kernel_rfl) (fun t h => by cases h) ?_ (vc_grow (some g) id x y lv a n c R H) ?_
    · simp [argsR, SV.rep, SegsRep, SC.rep, one]
    unfold nf_grow
    refine br (fun q => ?_) fun q => br (fun q1 => by simp at q1; omega) fun _ => ?_
    · simp only [decide_eq_true_eq] at q
      have e : growF (h + 1) m id L = chainF m id L := by conv => lhs; unfold growF
                                                          rw [if_pos (by omega)]
      rw [e] at k1 k2
      exact s_chain _ (Nat.le_refl _) (by omega) hg hD hL hs hid (fun m' H' e1 e2 e3 e4 => .inl ⟨rfl, k1 m' H' e1 e2 e3 e4⟩) fun e1 H' e2 => .inr ⟨_, rfl, k2 e1 H' e2⟩
    simp only [decide_eq_false_iff_not] at q
    have eF : growF (h + 1) m id L = (stepsF (growF h) h L 4 m).map fun s => setM s.1 id ⟨false, [], 0, s.2.1, s.2.2⟩ := by
      conv => lhs; unfold growF
      rw [if_neg (by omega)]
    simp only [true_and, delLs_nil]
    refine ⟨fun p H' => ∃ (q : Nat) (mq : M), q ≤ 4 ∧ p.1.1 = q ∧ p.2.2.2.1.1 = false ∧ p.2.2.2.1.2.1 = (none, 0, 0) ∧ p.2.2.2.1.2.2.1 = 0 ∧ stepsF (growF h) h L q m = some (mq, p.2.2.2.1.2.2.2.1, p.2.2.2.1.2.2.2.2.1) ∧ p.2.2.2.1.2.2.2.1.length = 4 ∧ p.2.2.2.1.2.2.2.2.1.length = 4 ∧
      QuaOK p.2.2.2.1.2.2.2.1 p.2.2.2.1.2.2.2.2.1 ∧ GroveAt H' g r mq ∧ Dom mq ∧ GMod r H H', fun p _ => (4 - p.1.1).toNat, ⟨0, m, by omega, rfl, rfl, rfl, rfl, rfl, rfl, rfl, quaOK_z, hg, hD, GMod.refl _ _⟩, ?_⟩
    rintro ⟨⟨i, _⟩, u1, u2, ⟨lf, ⟨sa, sn, sc⟩, nx, ks, cs, u3⟩, u4⟩ H0 ⟨q0, mq, hq, hi, h1, h2, h3, hst, hk, hc, hqa, hg0, hD0, hm0⟩
    simp only at hi h1 h2 h3 hst hk hc hqa ⊢
    subst hi; subst h1; subst h3
    cases h2
    refine br (fun q1 => ?_) fun q1 => ?_
    · simp only [decide_eq_true_eq] at q1
      have hs0 := hg.slice hs hm0
      refine s_clone hs0 (by omega) fun v1 H1 hle1 hfr1 hrow1 => ?_
      obtain ⟨a1, c1, rfl⟩ := row_val hrow1
      refine .inl ⟨_, _, _, rfl, fun b hb b1 hb1 => ?_⟩
      have hbb : b1 ≠ b := by rintro rfl; rw [upd_same] at hb1; cases hb1
      rw [upd_ne _ _ hbb] at hb1
      -- the two variables are apart from the clone
      have hv1 : ∀ b', blockOf (.slice a1 (pts L).length c1) = some b' → H1 b' ≠ none := fun b' e => by
        rcases hrow1 with ⟨e1, _⟩ | ⟨b2, o, cap, cc, e1, e2, _⟩
        · rw [e1] at e; cases e
        · rw [e1] at e; cases e; rw [e2]; simp
      have ne : ∀ b', blockOf (.slice a1 (pts L).length c1) = some b' → b' ≠ b ∧ b' ≠ b1 := fun b' e => ⟨by rintro rfl; exact hv1 _ e hb, by rintro rfl; exact hv1 _ e hb1⟩
      have hrow2 : RowAt ((H1.upd b (.cells #[.int .u32 x, .int .u32 y, vi lv] 85 (0, 0))).upd b1 (.cells #[vi q0] 3 (0, 0))) (.slice a1 (pts L).length c1) tPt 4 (pts L) := row_le hrow1 fun b' o e e2 => by
        rw [upd_ne _ _ (ne b' e).2, upd_ne _ _ (ne b' e).1]; exact e2
      subst hlv
      refine s_del (pred_grow1 (b := b) (b1 := b1) (q := q0) (by omega) hx hy) hrow2 ⟨by rw [upd_ne _ _ (Ne.symm hbb), upd_same], upd_same _ _ _⟩ (fun H' H'' hI hM => ?_) hL.range (by omega) fun v' H2 hrow3 hbl hM => ?_
      · exact ⟨by rw [hM b fun e => (ne b e).1 rfl]; exact hI.1, by rw [hM b1 fun e => (ne b1 e).2 rfl]; exact hI.2⟩
      have hfil : (L.filter fun p => !(qt h p != (q0 : Int))) = quarter h q0 L := List.filter_congr fun p _ => by simp [bne]
      rw [hfil] at hrow3
      obtain ⟨a4, c4, hv4⟩ := row_val hrow3
      have hplen : (pts (quarter h q0 L)).length = (quarter h q0 L).length := by simp [pts]
      have hI2 : H2 b = some (.cells #[.int .u32 x, .int .u32 y, vi (32 - ((h + 1 : Nat) : Int))] 85 (0, 0)) ∧ H2 b1 = some (.cells #[vi q0] 3 (0, 0)) :=
        ⟨by rw [hM b fun e => (ne b e).1 rfl, upd_ne _ _ (Ne.symm hbb), upd_same], by rw [hM b1 fun e => (ne b1 e).2 rfl, upd_same]⟩
      subst hv4
      refine .inl ⟨_, _, _, rfl, x, y, _, ⟨b, rfl, hI2.1⟩, q0, ⟨b1, rfl, ?_⟩, ?_⟩
      · rw [delO_ptr, del_ne _ hbb]; exact hI2.2
      rw [delO_ptr, delO_ptr]
      have hle3 : H0 ≤ (H2.del b).del b1 := fun b' o e => by
        have e1 := hle1 b' o e
        have n1 : b' ≠ b := by rintro rfl; rw [hb] at e1; cases e1
        have n2 : b' ≠ b1 := by rintro rfl; rw [hb1] at e1; cases e1
        rw [del_ne _ n2, del_ne _ n1, hM b' fun q => by rw [hfr1 b' q] at e; cases e]
        rw [upd_ne _ _ n2, upd_ne _ _ n1]; exact e1
      have hrow4 : RowAt ((H2.del b).del b1) (.slice a4 (pts (quarter h q0 L)).length c4) tPt 4 (pts (quarter h q0 L)) := row_le hrow3 fun b' o e e2 => by
        rw [hbl] at e
        rw [del_ne _ (ne b' e).2, del_ne _ (ne b' e).1]; exact e2
      have hg3 := hg0.le hle3
      have hm3 := hm0.trans (GMod.of_le (r := r) hle3)
      generalize (H2.del b).del b1 = H3 at *
      have hw : IntKind.i64.wrap ((q0 : Int) + 1) = ((q0 + 1 : Nat) : Int) := by rw [w64 (by omega)]; omega
      have hstep : stepsF (growF h) h L (q0 + 1) m = stepF (growF h) h L q0 (mq, ks, cs) := by
        show (stepsF (growF h) h L q0 m).bind _ = _
        rw [hst]; rfl
      rw [hplen, hw, Int.toNat_natCast]
      have bad : stepsF (growF h) h L (q0 + 1) m = none → growF (h + 1) m id L = none := fun e => by
        rw [eF, show 4 = q0 + 1 + (3 - q0) by omega, stepsF_none e]; rfl
      refine br (fun q2 => ?_) fun q2 => ?_
      · simp only [decide_eq_true_eq] at q2
        have hQ : quarter h q0 L ≠ [] := fun e => by rw [e] at q2; simp at q2
        refine ⟨_, none_le _, ?_⟩
        refine s_gfresh hg3 (fun k l hf H4 g4 m4 => .inl ⟨keep_none _ _, k, rfl, ⟨by omega, by omega⟩, ⟨by omega, by omega⟩, _, none_le _, ⟨by omega, by omega⟩, ?_⟩) fun hf => .inr ⟨_, rfl, k2 (bad ?_) _ hm3⟩
        · have hx4 := take_tail hf
          have ok1 : NdOK nd1 := leafOK LOK.nil (by simp) (by omega)
          have hgt : (List.set ks q0 k).getD q0 0 = k := by rw [getD_set (by omega), if_pos rfl]
          rw [hgt]
          refine s_kid (h := h) (by omega) hx hy (by omega) ?_
          refine .inl ⟨keep_none _ _, _, _, _, rfl, ?_⟩
          have hsf : stepF (growF h) h L q0 (mq, ks, cs) = (growF h (setM mq k nd1) k (quarter h q0 L)).map fun m' => (m', ks.set q0 k, cs.set q0 (quarter h q0 L).length) := by
            unfold stepF
            rw [if_neg hQ, hf]
            rfl
          have hs4 := hg3.slice (row_slice hrow4) m4
          rw [hplen] at hs4
          have hlQ : (quarter h q0 L).length ≤ L.length := List.length_filter_le _ _
          refine ih (L := quarter h q0 L) (by omega) rfl (hx.kid (by omega) (by omega)) (hy.kid (by omega) (by omega)) (by omega) g4 (hD0.set ⟨hx4.2.1, hx4.2.2.1⟩ ok1) (hL.sub List.filter_sublist) hs4 ⟨hx4.2.1, hx4.2.2.1⟩ (fun m' H5 e5 D5 g5 m5 =>   .inl ⟨keep_none _ _, rfl, rfl, rfl, rfl, ⟨q0 + 1, m', by omega, rfl, rfl, rfl, rfl, ?_, by simpa using hk, by simpa using hc, ?_, g5, D5, (hm3.trans m4).trans m5⟩, by omega⟩) fun e5 H5 m5 => .inr ⟨_, rfl, k2 (bad ?_) _ ((hm3.trans m4).trans m5)⟩
          · rw [hstep, hsf, e5]; rfl
          · exact quaOK_set hqa hk hc (by omega) ⟨by omega, by omega, by omega, by omega, by omega⟩
          · rw [hstep, hsf, e5]; rfl
        · rw [hstep]
          unfold stepF
          rw [if_neg hQ, hf]
          rfl
      · simp only [decide_eq_false_iff_not] at q2
        have hQ : quarter h q0 L = [] := List.length_eq_zero_iff.1 (by omega)
        refine ⟨rfl, rfl, rfl, ⟨q0 + 1, mq, by omega, rfl, rfl, rfl, rfl, ?_, hk, hc, hqa, hg3, hD0, hm3⟩, by omega⟩
        rw [hstep]
        unfold stepF
        rw [if_pos hQ]
    · simp only [decide_eq_false_iff_not] at q1
      have : q0 = 4 := by omega
      subst this
      have e : growF (h + 1) m id L = some (setM mq id ⟨false, [], 0, ks, cs⟩) := by rw [eF, hst]; rfl
      refine s_gput (d := ⟨false, [], 0, ks, cs⟩) hg0 ⟨none, 0, 0, rfl, slice_nil _, hk, hc⟩ (innerOK hqa) hid (by simp) fun H' g1 m1 => .inl ⟨rfl, k1 _ H' e (hD0.set hid (innerOK hqa)) g1 (hm0.trans m1)⟩
end
end Cr

set_option linter.unusedVariables false
set_option linter.unusedSimpArgs false
namespace Cr
open Go Sx Stb Bt
open Go.Proofs.Try
set_option maxRecDepth 100000
structure Cnt where
  met : Int → Bool
  ls : List Int
  lv : Int
  ot : Int
  fl : List Int
def cntL (g : Addr) (r : Nat) (s : Value) (lv ot : Int) (fl : List Int) : List Value := .pointer (some g) :: .map (some r) :: s :: vi lv :: vi ot :: fl.map vi
/-- A counter stands at b, its map at r; what is in G is as it was. -/
def CntAt (G : Heap) (g : Addr) (b r : Nat) (C : Cnt) (H : Heap) : Prop :=
  G ≤ H ∧ G b = none ∧ G r = none ∧ b ≠ r ∧ (∃ l, MapAt H r .i64 l ∧ ∀ id, getL l id = if C.met id then some (.bool true) else none) ∧ C.fl.length = 5 ∧
    ∃ a n c, H b = some (.cells (cntL g r (.slice a n c) C.lv C.ot C.fl).toArray 100 (0, 0)) ∧ RowAt H (.slice a n c) 3 1 (cells C.ls) ∧ ∀ k, blockOf (.slice a n c) = some k → G k = none ∧ k ≠ b ∧ k ≠ r
def padTo (l : List Int) (n : Nat) : List Int := l ++ List.replicate (n - l.length) 0
def lvBump (l : List Int) (lv : Nat) : List Int := (padTo l (lv + 1)).set lv (IntKind.i64.wrap ((padTo l (lv + 1)).getD lv 0 + 1))
theorem cells_at {H : Heap} {b ty : Nat} {L : List Value} (h : H b = some (.cells L.toArray ty (0, 0))) {k : Nat} {x : Value} (hx : L[k]? = some x) : H.has (Addr.add ⟨b, 0, none⟩ k) [x] := has_one (has_cells h) hx rfl
theorem cells_put {H : Heap} {b ty : Nat} {L : List Value} (h : H b = some (.cells L.toArray ty (0, 0))) {k : Nat} (hk : k < L.length) (x : Value) :
    (H (Addr.add ⟨b, 0, none⟩ k).block = some (.cells L.toArray ty (0, 0)) ∧ (Addr.add ⟨b, 0, none⟩ k).spot = none ∧ (Addr.add ⟨b, 0, none⟩ k).off + 1 ≤ L.toArray.size) ∧
    H.upd (Addr.add ⟨b, 0, none⟩ k).block (.cells (writeCells L.toArray (Addr.add ⟨b, 0, none⟩ k).off [x]) ty (0, 0)) = H.upd b (.cells (L.set k x).toArray ty (0, 0)) := by
  rw [add_spot rfl]
  refine ⟨⟨h, rfl, by simp; omega⟩, ?_⟩
  simp [writeCells]
theorem le_upd {G H : Heap} (h : G ≤ H) {b : Nat} (hb : G b = none) (o : Obj) : G ≤ H.upd b o := fun x o' e => by
  rw [upd_ne _ _ (fun e' => by subst e'; rw [hb] at e; cases e)]; exact h _ _ e
theorem delO_keep {H : Heap} {o : Option Nat} {x : Nat} {ob : Obj} (hn : ∀ k, o = some k → k ≠ x) (h : H x = some ob) : H.delO o x = some ob := by
  cases o with
  | none => exact h
  | some k => show (if x = k then none else H x) = _; rw [if_neg (Ne.symm (hn k rfl))]; exact h
section
variable {R : Ending → Heap → Prop} {H : Heap}
theorem CntAt.mono {G : Heap} {g : Addr} {b r : Nat} {C : Cnt} {H H' : Heap} (h : CntAt G g b r C H) (hle : H ≤ H') : CntAt G g b r C H' := by
  obtain ⟨h1, h2, h3, h4, ⟨l, h5, h6⟩, h7, a, n, c, h8, h9, h10⟩ := h
  exact ⟨heap_trans h1 hle, h2, h3, h4, ⟨l, map_same h5 (fun o e => hle _ _ e), h6⟩, h7, a, n, c, hle _ _ h8, row_le h9 (fun b o _ e => hle _ _ e), h10⟩
/-- The levels' row grows as long as it must. -/
theorem CntAt.put {G : Heap} {g : Addr} {b r : Nat} {C : Cnt} {H : Heap} (h : CntAt G g b r C H) (id : Int) : ∃ es clk, (H r = some (.map es clk) ∧ IntKeys .i64 es.toList) ∧
    CntAt G g b r ⟨fun j => j == id || C.met j, C.ls, C.lv, C.ot, C.fl⟩ (H.upd r (mapPut es clk .i64 id (.bool true))) := by
  obtain ⟨h1, h2, h3, h4, ⟨l, h5, h6⟩, h7, a, n, c, h8, h9, h10⟩ := h
  obtain ⟨es, clk, e1, e2⟩ := map_put h5 id (.bool true)
  refine ⟨es, clk, e1, le_upd h1 h3 _, h2, h3, h4, ⟨_, e2, fun j => ?_⟩, h7, a, n, c, ?_, row_le h9 (fun k o e q => ?_), h10⟩
  · rw [getL_putL, h6]
    by_cases e : j = id
    · subst e; simp
    · simp [e]
  · rw [upd_ne _ _ h4]; exact h8
  · rw [upd_ne _ _ (h10 k e).2.2]; exact q
end
end Cr

set_option linter.unusedVariables false
set_option linter.unusedSimpArgs false
namespace Cr
open Go Sx Stb Bt
open Go.Proofs.Try
set_option maxRecDepth 100000
section
variable {R : Ending → Heap → Prop} {H : Heap}
def bumpN (C : Cnt) (x : Nat × Int) : Cnt := if x.2 < 0 then ⟨C.met, lvBump C.ls x.1, C.lv, IntKind.i64.wrap (C.ot + 1), C.fl⟩
  else ⟨C.met, lvBump C.ls x.1, IntKind.i64.wrap (C.lv + 1), C.ot, C.fl.set x.2.toNat (IntKind.i64.wrap (C.fl.getD x.2.toNat 0 + 1))⟩
def Cnt.after (C : Cnt) (V : List (Nat × Int)) : Cnt := V.foldl bumpN C
def JJ (J : Nat → List Int) : Nat → List Int
  | 0 => []
  | q + 1 => JJ J q ++ J q
end
end Cr

set_option linter.unusedVariables false
set_option linter.unusedSimpArgs false
namespace Cr
open Go Sx Stb Bt
open Go.Sort (SWO)
/-! ### Points in order -/
theorem srtd_of {L : List Pt} (h : L.Pairwise fun p q => p.id < q.id) : Srtd ltI L := h.imp fun h => by simp; omega
theorem filter_one {α : Type} {f : α → Bool} : ∀ {L : List α}, L.Pairwise (fun p q => ¬ (f p = true ∧ f q = true)) → (L.filter f).length ≤ 1
  | [], _ => by simp
  | x :: L, h => by
    rw [List.pairwise_cons] at h
    rw [List.filter_cons]
    split
    · rename_i hx
      have : L.filter f = [] := List.filter_eq_nil_iff.2 fun y hy hf => h.1 y hy ⟨hx, hf⟩
      rw [this]; simp
    · exact filter_one h.2
theorem perm_one {α : Type} {a b : List α} (h : a.Perm b) (hb : b.length ≤ 1) : a = b := by
  match b, hb with
  | [], _ => exact h.eq_nil
  | [x], _ => exact List.perm_singleton.1 h
theorem sortP_perm {L L' : List Pt} (h : L.Pairwise fun p q => p.id < q.id) (hp : L'.Perm L) : sortP L' = L := by
  refine (isort_eq swo_I (srtd_of h) fun x => ?_).symm
  refine (perm_one (hp.filter (eqv ltI x)) (filter_one (h.imp fun {p q} h => ?_))).symm
  simp only [eqv, Bool.and_eq_true, Bool.not_eq_true', decide_eq_false_iff_not, ltI]
  omega
theorem insR_perm {lt : Pt → Pt → Bool} (x : Pt) : ∀ L : List Pt, (insR lt x L).Perm (x :: L)
  | [] => List.Perm.refl _
  | y :: L => by
    unfold insR
    split
    · exact List.Perm.refl _
    · exact ((insR_perm x L).cons y).trans (List.Perm.swap ..)
theorem isort_perm {lt : Pt → Pt → Bool} (L : List Pt) : (isort lt L).Perm L := by
  suffices H : ∀ (L acc : List Pt), (L.foldl (fun acc x => insR lt x acc) acc).Perm (acc ++ L) by simpa [isort] using H L []
  intro L
  induction L with
  | nil => intro acc; simp
  | cons x L ih =>
    intro acc
    rw [List.foldl_cons]
    refine (ih _).trans ?_
    refine ((insR_perm x acc).append_right L).trans ?_
    exact List.perm_middle.symm
theorem perm_sortP (L : List Pt) : (sortP L).Perm L := isort_perm L
theorem sortP_rise {L : List Pt} (h : (L.map Pt.id).Nodup) : (sortP L).Pairwise fun p q => p.id < q.id := by
  have h1 : Srtd ltI (sortP L) := isort_srtd swo_I L
  have h2 : ((sortP L).map Pt.id).Nodup := ((perm_sortP L).map Pt.id).nodup_iff.2 h
  rw [List.Nodup, List.pairwise_map] at h2
  refine (h1.and h2).imp fun ⟨h1, h2⟩ => ?_
  simp only [decide_eq_false_iff_not] at h1
  omega
theorem rise_nodup {L : List Pt} (h : L.Pairwise fun p q => p.id < q.id) : (L.map Pt.id).Nodup := by
  rw [List.Nodup, List.pairwise_map]
  exact h.imp fun h => by omega
/-! ### Felling -/
def delsM (m : M) (I : List Int) : M := fun i => if i ∈ I then none else m i
inductive FTs (m : M) : List Int → List Pt → List Int → Prop
  | nil : FTs m [] [] []
  | zero {r : List Int} {L : List Pt} {I : List Int} : FTs m r L I → FTs m (0 :: r) L I
  | cons {k : Int} {r : List Int} {d : Nd} {L1 L : List Pt} {I1 I : List Int} : 0 < k → m k = some d → FTs m (d.kids ++ [d.next]) L1 I1 → FTs m r L I → FTs m (k :: r) (d.pts ++ L1 ++ L) (k :: I1 ++ I)
/-- A node and all below it: its points, its nodes. -/
def FT (m : M) (id : Int) (L : List Pt) (I : List Int) : Prop := ∃ d L1 I1, m id = some d ∧ FTs m (d.kids ++ [d.next]) L1 I1 ∧ L = d.pts ++ L1 ∧ I = id :: I1
theorem FTs.congr {m m' : M} {r : List Int} {L : List Pt} {I : List Int} (h : FTs m r L I) : (∀ i ∈ I, m' i = m i) → FTs m' r L I := by
  induction h with
  | nil => exact fun _ => .nil
  | zero _ ih => exact fun e => .zero (ih e)
  | cons hk hd _ _ ih1 ih2 =>
    intro e
    refine .cons hk (by rw [e _ (List.mem_cons_self ..)]; exact hd) (ih1 fun i hi => e i ?_) (ih2 fun i hi => e i ?_)
    · exact List.mem_append_left _ (List.mem_cons_of_mem _ hi)
    · exact List.mem_append_right _ hi
theorem FT.congr {m m' : M} {id : Int} {L : List Pt} {I : List Int} (h : FT m id L I) (e : ∀ i ∈ I, m' i = m i) : FT m' id L I := by
  obtain ⟨d, L1, I1, h1, h2, h3, rfl⟩ := h
  exact ⟨d, L1, I1, by rw [e _ (List.mem_cons_self ..)]; exact h1, h2.congr fun i hi => e i (List.mem_cons_of_mem _ hi), h3, rfl⟩
theorem FTs.one {m : M} {k : Int} {L : List Pt} {I : List Int} (hk : 0 < k) (h : FT m k L I) {r : List Int} {L' : List Pt} {I' : List Int} (h' : FTs m r L' I') : FTs m (k :: r) (L ++ L') (I ++ I') := by
  obtain ⟨d, L1, I1, h1, h2, rfl, rfl⟩ := h
  exact .cons hk h1 h2 h'
theorem quarters_perm {h : Nat} {L : List Pt} (hr : ∀ p ∈ L, PtR p) : (quarter h 0 L ++ (quarter h 1 L ++ (quarter h 2 L ++ quarter h 3 L))).Perm L := by
  induction L with
  | nil => simp [quarter]
  | cons p L ih =>
    have ih := ih fun q hq => hr q (List.mem_cons_of_mem _ hq)
    have hp := hr p (List.mem_cons_self ..)
    have h4 : qt h p = 0 ∨ qt h p = 1 ∨ qt h p = 2 ∨ qt h p = 3 := by
      unfold qt
      omega
    have e : ∀ q : Nat, quarter h q (p :: L) = if qt h p = (q : Int) then p :: quarter h q L else quarter h q L := fun q => by
      unfold quarter
      rw [List.filter_cons]
      by_cases e : qt h p = (q : Int) <;> simp [e]
    rw [e 0, e 1, e 2, e 3]
    rcases h4 with h4 | h4 | h4 | h4 <;> simp only [h4]
    · simpa using ih
    · simp only [show ¬ ((1 : Int) = ((0 : Nat) : Int)) by omega, show ((1 : Int) = ((1 : Nat) : Int)) by omega, show ¬ ((1 : Int) = ((2 : Nat) : Int)) by omega, show ¬ ((1 : Int) = ((3 : Nat) : Int)) by omega, if_true, if_false]
      exact List.perm_middle.trans (ih.cons p)
    · simp only [show ¬ ((2 : Int) = ((0 : Nat) : Int)) by omega, show ¬ ((2 : Int) = ((1 : Nat) : Int)) by omega, show ((2 : Int) = ((2 : Nat) : Int)) by omega, show ¬ ((2 : Int) = ((3 : Nat) : Int)) by omega, if_true, if_false]
      refine ((List.perm_middle (l₁ := quarter h 1 L)).append_left _).trans ?_
      exact List.perm_middle.trans (ih.cons p)
    · simp only [show ¬ ((3 : Int) = ((0 : Nat) : Int)) by omega, show ¬ ((3 : Int) = ((1 : Nat) : Int)) by omega, show ¬ ((3 : Int) = ((2 : Nat) : Int)) by omega, show ((3 : Int) = ((3 : Nat) : Int)) by omega, if_true, if_false]
      refine (((List.perm_middle (l₁ := quarter h 2 L)).append_left _).append_left _).trans ?_
      refine ((List.perm_middle (l₁ := quarter h 1 L)).append_left _).trans ?_
      exact List.perm_middle.trans (ih.cons p)
/-! ### What becomes of a tree -/
theorem freeL_dels {m : M} {I : List Int} (hn : I.Nodup) (hI : ∀ i ∈ I, m i ≠ none) (hr : ∀ i ∈ I, 1 ≤ i ∧ i ≤ 255) : (freeL (delsM m I)).length = (freeL m).length + I.length := by
  have hp : (freeL (delsM m I)).Perm (freeL m ++ I) := by
    refine (List.perm_ext_iff_of_nodup ((freeL_rise _).imp fun h => by omega) ?_).2 fun x => ?_
    · exact List.nodup_append.2 ⟨(freeL_rise _).imp fun h => by omega, hn, fun a ha b hb e => by subst e; exact hI a hb (mem_freeL.1 ha).2.2⟩
    · rw [mem_freeL, List.mem_append, mem_freeL]
      unfold delsM
      by_cases h : x ∈ I
      · simp [h, hr x h]
      · simp [h]
  rw [hp.length_eq, List.length_append]
/-- The numbers A are given up for the numbers B. -/
structure Rpl (m m' : M) (A B : List Int) : Prop where
  same : ∀ i, i ∉ A → i ∉ B → m' i = m i
  gone : ∀ i ∈ A, i ∉ B → m' i = none
  new : ∀ i ∈ B, i ∉ A → m i = none
  nodup : B.Nodup
  there : ∀ i ∈ B, m' i ≠ none
  count : (freeL m').length + B.length = (freeL m).length + A.length
theorem Rpl.trans {m m1 m2 : M} {A B D : List Int} (h : Rpl m m1 A B) (h' : Rpl m1 m2 B D) : Rpl m m2 A D where
  same := fun i ha hd => by
    by_cases hb : i ∈ B
    · rw [h'.gone i hb hd, h.new i hb ha]
    · rw [h'.same i hb hd, h.same i ha hb]
  gone := fun i ha hd => by
    by_cases hb : i ∈ B
    · exact h'.gone i hb hd
    · rw [h'.same i hb hd, h.gone i ha hb]
  new := fun i hd ha => by
    by_cases hb : i ∈ B
    · exact h.new i hb ha
    · rw [← h.same i ha hb]; exact h'.new i hd hb
  nodup := h'.nodup
  there := h'.there
  count := by have := h.count; have := h'.count; omega
theorem Rpl.off {m m' : M} {A B : List Int} (h : Rpl m m' A B) {i : Int} (hi : m i ≠ none) (ha : i ∉ A) : i ∉ B := fun hb => hi (h.new i hb ha)
theorem Rpl.keep {m m' : M} {A B : List Int} (h : Rpl m m' A B) {i : Int} (hi : m i ≠ none) (ha : i ∉ A) : m' i = m i := h.same i ha (h.off hi ha)
theorem Rpl.fresh {m : M} {k : Int} {r : List Int} {d : Nd} (hf : freeL m = k :: r) : Rpl m (setM m k d) [] [k] where
  same := fun i _ hi => setM_ne (by simpa using hi)
  gone := fun i hi => by cases hi
  new := fun i hi _ => by simp at hi; subst hi; exact (take_tail hf).1
  nodup := by simp
  there := fun i hi => by simp at hi; subst hi; rw [setM_same]; simp
  count := by rw [freeL_take hf, hf]; simp
theorem Rpl.drop {m : M} {k : Int} (h : m k ≠ none) (hr : 1 ≤ k ∧ k ≤ 255) : Rpl m (delM m k) [k] [] where
  same := fun i hi _ => by unfold delM; rw [if_neg (by simpa using hi)]
  gone := fun i hi _ => by simp at hi; subst hi; simp [delM]
  new := fun i hi => by cases hi
  nodup := by simp
  there := fun i hi => by cases hi
  count := by
    have e : delM m k = delsM m [k] := by funext i; simp [delM, delsM]
    rw [e, freeL_dels (by simp) (fun i hi => by simp at hi; subst hi; exact h) (fun i hi => by simp at hi; subst hi; exact hr)]
    simp
/-- Below numbers that are free there are just nodes. -/
def Low (m : M) : Prop := ∀ i j, m i ≠ none → j ∈ freeL m → i < j
/-- At most so many nodes are other ones. -/
def Chg (m m' : M) (n : Nat) : Prop := ∃ C : List Int, C.length ≤ n ∧ ∀ i, i ∉ C → m i ≠ none → m' i ≠ none → m' i = m i
theorem TrP_there {m : M} : ∀ {h : Nat} {id : Int} {L : List Pt} {I : List Int}, TrP m h id L I → ∀ i ∈ I, m i ≠ none
  | 0, id, L, I, h => by
    have : ∀ {I : List Int} {L : List Pt}, ChP m I L → ∀ i ∈ I, m i ≠ none := by
      intro I
      induction I with
      | nil => intro L h; exact h.elim
      | cons a r ih =>
        intro L h i hi
        cases r with
        | nil => simp at hi; subst hi; rw [h.2]; simp
        | cons b r =>
          rcases List.mem_cons.1 hi with rfl | hi
          · rw [h.2.1]; simp
          · exact ih h.2.2 i hi
    exact this h.2
  | n + 1, id, L, I, h => by
    unfold TrP at h
    split at h
    · obtain ⟨rfl, h⟩ := h
      intro i hi
      simp at hi; subst hi
      rw [h.2]; simp
    · obtain ⟨ks, cs, J, h1, h2, h3, rfl, h4⟩ := h
      intro i hi
      rcases List.mem_cons.1 hi with rfl | hi
      · rw [h1]; simp
      · have sub : ∀ q, q < 4 → i ∈ J q → m i ≠ none := fun q hq hm => by
          rcases h4 q hq with ⟨_, _, _, e⟩ | ⟨_, _, _, e⟩
          · rw [e] at hm; cases hm
          · exact TrP_there e i hm
        simp only [List.mem_append] at hi
        rcases hi with hi | hi | hi | hi
        · exact sub 0 (by omega) hi
        · exact sub 1 (by omega) hi
        · exact sub 2 (by omega) hi
        · exact sub 3 (by omega) hi
end Cr

set_option linter.unusedVariables false
set_option linter.unusedSimpArgs false
namespace Cr
open Go Sx Stb Bt
open Go.Sort (SWO)
theorem four_eq {q : Nat} (h : q < 4) : q = 0 ∨ q = 1 ∨ q = 2 ∨ q = 3 := by omega
end Cr

set_option linter.unusedVariables false
set_option linter.unusedSimpArgs false
namespace Sx
open Go
/-- What recover gives, and the mode of the function that is left. -/
def recU (u : FrameMode) : Value × FrameMode := match u with
  | .panicking ({ v, recovered := false, goexit := false } :: older) => (v, .panicking ({ v, recovered := true } :: older))
  | u => (.nilIface, u)
def retD (fn : Func) (R : Ending → FrameMode → Heap → Prop) (u' : FrameMode) (s : St) (H : Heap) : Prop := match s.dfr, fn.results.toList with
  | [], [] => R (.returned (.tuple #[])) u' H
  | _, _ => False
theorem retD_eq {fn : Func} {R : Ending → FrameMode → Heap → Prop} {u' : FrameMode} {s : St} {H : Heap} (h : retD fn R u' s H) : s.dfr = [] ∧ fn.results.toList = [] ∧ R (.returned (.tuple #[])) u' H := by
  unfold retD at h
  split at h
  · exact ⟨by assumption, by assumption, h⟩
  · exact h.elim
def retQD (fn : Func) (R : Ending → FrameMode → Heap → Prop) (u' : FrameMode) : Exit → St → Heap → Prop
  | .ret, s, H => retD fn R u' s H
  | .normal, s, H => retD fn R u' s H
  | _, _, _ => False
/-- A function whose first operation is recover. -/
def vcFunD (P : Program) (hs : Hints) (fn : Func) (args : List SV) (u : FrameMode) (R : Ending → FrameMode → Heap → Prop) (H : Heap) : Prop :=
  match fn.body with
  | some (.seq (.region _ ops false) rest) => match ops.toList with
    | o :: os => match o.op, o.dst, o.guard with
      | .call { callee := .builtin .recover, args := _, argTypes := _ }, some d, none => one (recU u).1 = true ∧
        opsK P hs (seqQ (fun s' H' => vc P hs rest (retQD fn R (recU u).2) s' H') (retQD fn R (recU u).2)) ops.toList os (St.set ⟨args ++ badN (fn.ntmps - args.length), [], []⟩ d (.c (.v (recU u).1))) H
      | _, _, _ => False
    | [] => False
  | _ => False
section
variable {P : Program}
theorem upon_mono {o : Oper} {a : Act} {next next' : Act → World → Prop} {Q Q' : Exit → Act → World → Prop} (hn : ∀ a w, next a w → next' a w) (hQ : ∀ e a w, Q e a w → Q' e a w) {r : Result Next} (h : o.upon P a next Q r) : o.upon P a next' Q' r := by
  unfold Oper.upon at *
  split at h
  · exact hn _ _ h
  · exact hn _ _ h
  · exact hn _ _ h
  · refine Calls.mono h fun e w' he => ?_
    cases e with
    | returned v => exact hn _ _ he
    | panicked c => exact hQ _ _ _ he
    | outgrown => exact he.imp fun a he => he.imp fun w he => hQ _ _ _ he
  · obtain h := h
    exact fun a b => let ⟨v, w', h1, h2⟩ := h a b; ⟨v, w', hn _ _ h1, h2⟩
  · exact hQ _ _ _ h
  · exact h.elim
/-- Where nothing recovers, callers stay as they are. -/
theorem wpOpsS_of {ops : Array Oper} {Q : Exit → Act → World → Prop} (hout : ∀ a w, ¬ Q .outgrown a w) {cs : List Frame} : ∀ (l : List Nat) (a : Act) (w : World), wpOps P ops Q l a w → wpOpsS P ops (fun e a cs' w => cs' = cs ∧ Q e a w) l a cs w
  | [], a, w, h => ⟨rfl, h⟩
  | i :: r, a, w, h => by
    simp only [wpOps] at h
    simp only [wpOpsS]
    cases ho : ops[i]? with
    | none => simp only [ho] at h; exact wpOpsS_of hout r _ _ h
    | some o =>
      simp only [ho] at h ⊢
      by_cases hw : Region.wanted o (yielded ops a.tmps) = true
      · rw [if_pos hw] at h ⊢
        have h : o.wp P a w (wpOps P ops Q r) Q := h.resolve_right fun ⟨_, a', w', q⟩ => hout a' w' q
        unfold Oper.wp at h
        generalize (execOp a.eval o).run P w = res at h
        split
        · exact h.elim
        · exact upon_mono (fun a w h => wpOpsS_of hout r a w h) (fun e a w h => ⟨trivial, h⟩) h
      · rw [if_neg hw] at h ⊢
        exact wpOpsS_of hout r _ _ h
theorem wpOpsS_mono {ops : Array Oper} {Q Q' : Exit → Act → List Frame → World → Prop} (hQ : ∀ e a cs w, Q e a cs w → Q' e a cs w) : ∀ {l : List Nat} {a : Act} {cs : List Frame} {w : World}, wpOpsS P ops Q l a cs w → wpOpsS P ops Q' l a cs w
  | [], a, cs, w, h => hQ _ _ _ _ h
  | i :: r, a, cs, w, h => by
    simp only [wpOpsS] at h ⊢
    cases ho : ops[i]? with
    | none => simp only [ho] at h; exact wpOpsS_mono hQ h
    | some o =>
      simp only [ho] at h ⊢
      by_cases hw : Region.wanted o (yielded ops a.tmps) = true
      · rw [if_pos hw] at h ⊢
        split at h
        · split at h
          · exact wpOpsS_mono hQ h
          · exact wpOpsS_mono hQ h
        · exact upon_mono (fun a w h => wpOpsS_mono hQ h) (fun e a w h => hQ _ _ _ _ h) h
      · rw [if_neg hw] at h ⊢
        exact wpOpsS_mono hQ h
theorem recoverD_eq {c : Frame} {cs : List Frame} {u : FrameMode} (hu : c.mode = u) : recoverD (c :: cs) = some ((recU u).1, { c with mode := (recU u).2 } :: cs) ∨ (recoverD (c :: cs) = none ∧ (recU u).1 = .nilIface ∧ { c with mode := (recU u).2 } :: cs = c :: cs) := by
  have same : ∀ m, c.mode = m → { c with mode := m } = c := fun m e => by subst e; rfl
  cases u with
  | run => exact .inr ⟨by simp only [recoverD, hu], rfl, by rw [show (recU .run).2 = .run from rfl, same _ hu]⟩
  | returning => exact .inr ⟨by simp only [recoverD, hu], rfl, by rw [show (recU .returning).2 = .returning from rfl, same _ hu]⟩
  | panicking l =>
    cases l with
    | nil => exact .inr ⟨by simp only [recoverD, hu], rfl, by rw [show (recU (.panicking [])).2 = .panicking [] from rfl, same _ hu]⟩
    | cons e older =>
      obtain ⟨v, rc, ge⟩ := e
      cases rc <;> cases ge
      · exact .inl (by simp only [recoverD, hu, recU])
      all_goals exact .inr ⟨by simp only [recoverD, hu], rfl, by simp only [recU]; rw [same _ hu]⟩
theorem meetsD_of_vc {f : FuncId} {fn : Func} {hs : Hints} {args : List SV} {vs : List Value} {u : FrameMode} {H : Heap} {R : Ending → FrameMode → Heap → Prop} (hf : P.funcs[f]? = some fn) (hc : callable P f = true)
    (hE : ∀ t, memN hs.eqs t = true → EqOK P t) (ha : argsR args vs) (h : vcFunD P hs fn args u R H) : MeetsD P f vs u H R := by
  refine ⟨hc, fun w hH => ?_⟩
  unfold vcFunD at h
  split at h
  · rename_i id ops rest hb
    split at h
    · rename_i o os hops
      split at h
      · rename_i ra rt d hop hd hg
        obtain ⟨hlen, hargs⟩ := argsR_get ha
        refine callsD_of_wpS hf hb fun c₀ cs hcm => ?_
        let C : Ctx := ⟨w, H⟩
        have hrep : Rep C ⟨fun _ => 0, fun _ => undef⟩ ⟨args ++ badN (fn.ntmps - args.length), [], []⟩ H { tmps := vs.toArray ++ Array.replicate (fn.ntmps - vs.toArray.size) undef, defers := [] } w := by
          refine { env := ?_, len := ?_, dfr := rfl, sub := hH, objs := by simp [look], priv := by simp [look], dist := by simp [look], os := rfl, tape := rfl, output := rfl, size := Nat.le_refl _, other := fun b _ e => ⟨rfl, e⟩ }
          · intro t x hx
            rw [nth_eq] at hx
            by_cases ht : t < args.length
            · rw [List.getElem?_append_left ht] at hx
              have ht' : t < vs.length := by omega
              refine hargs _ t x _ hx ?_
              rw [Array.getD_eq_getD_getElem?, Array.getElem?_append_left (by simpa using ht')]
              simp [ht']
            · rw [List.getElem?_append_right (by omega)] at hx
              have := badN_get _ _ _ hx
              subst this
              trivial
          · simp [badN_len]; omega
        generalize ({ tmps := vs.toArray ++ Array.replicate (fn.ntmps - vs.toArray.size) undef, defers := [] } : Act) = a0 at hrep
        obtain ⟨hone, h⟩ := h
        have hrep1 := hrep.put (x := .c (.v (recU u).1)) (y := (recU u).1) ⟨rfl, hone⟩ (some d)
        refine wpS_seq (wpS_region ?_)
        have hsz : List.range ops.size = 0 :: List.range' 1 os.length := by
          rw [List.range_eq_range', ← Array.length_toList, hops, List.length_cons, List.range'_succ]
        rw [hsz]
        have h0 : ops[0]? = some o := by rw [← Array.getElem?_toList, hops]; rfl
        have hrun : (execOp a0.eval o).run P w = .ok .recover w := by
          unfold execOp
          rw [hop]
          rfl
        have fin : wpOpsS P ops (Exit.thenS (rest.wpS P (bodyPostS P fn c₀ cs fun e u' w' => ∃ H', Step H w H' w' ∧ R e u' H')) (bodyPostS P fn c₀ cs fun e u' w' => ∃ H', Step H w H' w' ∧ R e u' H')) (List.range' 1 os.length) (a0.put (some d) (recU u).1) ({ c₀ with mode := (recU u).2 } :: cs) w := by
          have hl := opsK_sound hE os hrep1 h
          rw [← wpOps_eq_wpList os 1 (fun j => by rw [← Array.getElem?_toList, hops, Nat.add_comm]; rfl)] at hl
          have hs' := wpOpsS_of (cs := { c₀ with mode := (recU u).2 } :: cs) (fun a w ⟨V, s, H, _, q⟩ => q) _ _ _ hl
          have post : ∀ (e : Exit) (a : Act) (w' : World), GamQ C (retQD fn R (recU u).2) e a w' → bodyPostS P fn c₀ cs (fun e u' w' => ∃ H', Step H w H' w' ∧ R e u' H') e a ({ c₀ with mode := (recU u).2 } :: cs) w' := by
            rintro e a w' ⟨V, s, H', hr, hq⟩
            have done : (s.dfr = [] ∧ fn.results.toList = [] ∧ R (.returned (.tuple #[])) (recU u).2 H') → a.defers = [] ∧ ∃ u', ({ c₀ with mode := (recU u).2 } :: cs : List Frame) = { c₀ with mode := u' } :: cs ∧ ∃ v, (results fn a.tmps).run P w' = .ok v w' ∧ ∃ H', Step H w H' w' ∧ R (.returned v) u' H' := by
              rintro ⟨q1, q2, q3⟩
              refine ⟨by rw [hr.dfr, q1]; rfl, _, rfl, .tuple #[], ?_, H', rep_ends hr, q3⟩
              exact results_run (ys := []) (by rw [q2]; rfl)
            cases e with
            | ret => exact done (retD_eq hq)
            | normal => exact done (retD_eq hq)
            | panic ch => exact hq.elim
            | exit i => exact hq.elim
            | goto i => exact hq.elim
            | outgrown => exact hq.elim
          refine wpOpsS_mono ?_ hs'
          rintro e a cs' w' ⟨rfl, V, s, H', hr, hq⟩
          cases e with
          | normal =>
            refine wpS_of_wp (wp_mono (vc_sound hE rest hr hq) fun e a w' hg => post e a w' hg)
          | ret => exact post .ret a w' ⟨V, s, H', hr, hq⟩
          | panic ch => exact hq.elim
          | exit i => exact hq.elim
          | goto i => exact hq.elim
          | outgrown => exact hq.elim
        simp only [wpOpsS, h0]
        rw [if_pos (by simp [Region.wanted, hg]), hrun]
        simp only [hd]
        rcases recoverD_eq (cs := cs) hcm with e | ⟨e, e2, e3⟩
        · rw [e]; exact fin
        · rw [e]
          simp only
          rw [e2, e3] at fin
          exact fin
      · exact h.elim
    · exact h.elim
  · exact h.elim
end
end Sx

set_option linter.unusedVariables false
set_option linter.unusedSimpArgs false
namespace Cr
open Go Sx Stb Bt
open Go.Sort (SWO)
open Go.Proofs.Try
set_option maxRecDepth 100000
def nf_caught0 (A : Addr) (B : Addr) (R : Ending → FrameMode → Heap → Prop) (H : Heap) : Prop := one Value.nilIface = true ∧ R (Ending.returned (Value.tuple { toList := [] })) (recU FrameMode.returning).snd H
theorem vc_caught0 (A : Addr) (B : Addr) (R : Ending → FrameMode → Heap → Prop) (H : Heap) : vcFunD prog { } f61 [SV.c (SC.v (Value.pointer (some A))), SV.c (SC.v (Value.pointer (some B)))] FrameMode.returning R H = nf_caught0 A B R H := by kernel_rfl

def nf_caught1 (A : Addr) (B : Addr) (e : Int) (R : Ending → FrameMode → Heap → Prop) (H : Heap) : Prop := one (Value.iface (137 : Nat) (Value.agg { toList := [Value.int IntKind.i64 e] })) = true ∧ ∃ (G : Nat → Option Obj), G ≤ H ∧ PtrK (some A) fun (a : Addr) ↦ PtrK (some a) fun (A : Addr) ↦ ∃ (c : Array Value), ∃ (ty : Nat), (H A.block = some (Obj.cells c ty) ∧ A.spot = none ∧ A.off + (1 : Nat) ≤ Array.size c) ∧ G A.block = none ∧ PtrK (some B) fun (a : Addr) ↦ PtrK (some a) fun (A_1 : Addr) ↦ ∃ (c_1 : Array Value), ∃ (ty_1 : Nat), (Heap.upd H A.block (Obj.cells (writeCells c A.off [Value.pointer none]) ty) A_1.block = some (Obj.cells c_1 ty_1) ∧ A_1.spot = none ∧ A_1.off + (1 : Nat) ≤ Array.size c_1) ∧ G A_1.block = none ∧ R (Ending.returned (Value.tuple { toList := [] })) (recU (FrameMode.panicking [{ v := Value.iface (137 : TypeId) (Value.agg { toList := [Value.int IntKind.i64 e] }), recovered := false }])).snd (Heap.upd (Heap.upd H A.block (Obj.cells (writeCells c A.off [Value.pointer none]) ty)) A_1.block (Obj.cells (writeCells c_1 A_1.off [Value.int IntKind.i64 e]) ty_1))
theorem vc_caught1 (A : Addr) (B : Addr) (e : Int) (R : Ending → FrameMode → Heap → Prop) (H : Heap) : vcFunD prog { } f61 [SV.c (SC.v (Value.pointer (some A))), SV.c (SC.v (Value.pointer (some B)))] (FrameMode.panicking [{ v := Value.iface (137 : TypeId) (Value.agg { toList := [Value.int IntKind.i64 e] }), recovered := false }]) R H = nf_caught1 A B e R H := by kernel_rfl

section
variable {R : Ending → Heap → Prop} {H : Heap}
theorem append_eq {α : Type} (a b : List α) : List.append a b = a ++ b := rfl
theorem Chg.mono {m m' : M} {a b : Nat} (h : Chg m m' a) (hab : a ≤ b) : Chg m m' b := by
  obtain ⟨D, h1, h2⟩ := h
  exact ⟨D, by omega, h2⟩
theorem Low.fresh {m : M} {k : Int} {r : List Int} {d : Nd} (h : Low m) (hf : freeL m = k :: r) : Low (setM m k d) := fun i j hi hj => by
  rw [freeL_take hf] at hj
  by_cases e : i = k
  · subst e
    have := freeL_rise m
    rw [hf, List.pairwise_cons] at this
    exact this.1 j hj
  · rw [setM_ne e] at hi
    exact h i j hi (by rw [hf]; exact List.mem_cons_of_mem _ hj)
theorem nds_small {h : Nat} {L : List Pt} (hl : L.length ≤ 4) : nds h L = 1 := by
  cases h with
  | zero => unfold nds nch; rw [if_pos hl]
  | succ h => unfold nds; rw [if_pos hl]
end
end Cr

set_option linter.unusedVariables false
set_option linter.unusedSimpArgs false
namespace Cr
open Go Sx Stb Bt
open Go.Sort (SWO)
open Go.Proofs.Try
set_option maxRecDepth 100000
section
variable {R : Ending → Heap → Prop} {H : Heap}
theorem s_total {v : Value} {d : Nd} (h : NdAt H v d) (hl : d.pts.length ≤ 1000000) (hs : d.leaf = false → QuaOK d.kids d.counts) (k : R (.returned (vi (if d.leaf then (d.pts.length : Int) else d.counts.getD 0 0 + d.counts.getD 1 0 + d.counts.getD 2 0 + d.counts.getD 3 0))) H) :
    Meets prog 106 [v] H R := by
  obtain ⟨a, n, c, rfl, h1, h2, h3⟩ := h
  have hln : d.pts.length = n := by simpa [pts] using (slice_len h1).1
  refine spec_of func106 (by kernel_rfl) (fun t h => by cases h) ?_ (vc_total d.leaf a n c d.next d.kids d.counts R H) ?_
  · simp [argsR, SV.rep, SegsRep, SC.rep, one, h2, h3]
  unfold nf_total
  refine br (fun q => ?_) fun q => ?_
  · rw [if_pos q, hln] at k; exact k
  · rw [if_neg (by simp [q])] at k
    have hq := hs q
    have := hq 0 (by omega); have := hq 1 (by omega); have := hq 2 (by omega); have := hq 3 (by omega)
    rw [w64 (k := d.counts.getD 0 0 + d.counts.getD 1 0) (by omega), w64 (k := d.counts.getD 0 0 + d.counts.getD 1 0 + d.counts.getD 2 0) (by omega), w64 (by omega)]
    exact ⟨⟨by omega, by omega⟩, ⟨by omega, by omega⟩, ⟨by omega, by omega⟩, ⟨by omega, by omega⟩, k⟩
theorem sum_quarters {h : Nat} {L : List Pt} (hr : ∀ p ∈ L, PtR p) : (quarter h 0 L).length + (quarter h 1 L).length + (quarter h 2 L).length + (quarter h 3 L).length = L.length := by
  have := (quarters_perm (h := h) hr).length_eq
  simp only [List.length_append] at this
  omega
end
end Cr

set_option linter.unusedVariables false
set_option linter.unusedSimpArgs false
namespace Cr
open Go Sx Stb Bt
open Go.Proofs.Try
set_option maxRecDepth 100000
def qb (h : Nat) (L : List Pt) (q : Nat) : Int := if quarter h q L = [] then 0 else 2 ^ q
section
variable {R : Ending → Heap → Prop} {H : Heap}
end
end Cr

set_option linter.unusedVariables false
set_option linter.unusedSimpArgs false
namespace Cr
open Go Sx Stb Bt
open Go.Proofs.Try
set_option maxRecDepth 100000
def h_build : Hints := { pan := true, pk := some [2, 3], loops := [(2, ⟨[0, 2, 3, 8, 9], [.f 10 (.int .i64)], [.keep 2, .keep 3]⟩)] }
def nf_build (a : Option Addr) (n : Nat) (c : Nat) (R : Ending → Heap → Prop) (H : Heap) : Prop := a = a ∧ n = n ∧ c = c ∧ (0 : Nat) = (0 : Nat) ∧ (0 : Nat) = (0 : Nat) ∧ a = a ∧ n = n ∧ c = c ∧ (↑n : Int) = (↑n : Int) ∧ (none : Option Addr) = none ∧ (0 : Int) = (0 : Int) ∧ LoopP (fun (K : (Int × PUnit) × PUnit × PUnit × PUnit → (Nat → Option Obj) → Prop) (p : (Int × PUnit) × PUnit × PUnit × PUnit) (H : Nat → Option Obj) ↦ Br (decide (p.fst.fst < (↑n : Int))) (((0 : Int) ≤ p.fst.fst ∧ p.fst.fst < (↑n : Int)) ∧ PtrK a fun (A : Addr) ↦ PtrK (some (Addr.add A (Int.toNat p.fst.fst * (4 : Nat)))) fun (a_1 : Addr) ↦ ∃ (n_1 : Int), ∃ (n_2 : Int), ∃ (n_3 : Int), ∃ (s : ByteArray), Heap.has H a_1 [Value.int IntKind.i64 n_1, Value.int IntKind.u32 n_2, Value.int IntKind.u32 n_3, Value.string s] ∧ Meets prog (58 : Nat) [Value.agg { toList := [Value.int IntKind.i64 n_1, Value.int IntKind.u32 n_2, Value.int IntKind.u32 n_3, Value.string s] }] H fun (e : Ending) (H' : Nat → Option Obj) ↦ (∃ (n_4 : Int), e = Ending.returned (Value.int IntKind.i64 n_4) ∧ Br (n_4 != (0 : Int)) (R (Ending.returned (Value.tuple { toList := [Value.pointer none, Value.int IntKind.i64 n_4] })) H') (a = a ∧ n = n ∧ c = c ∧ (0 : Nat) = (0 : Nat) ∧ (0 : Nat) = (0 : Nat) ∧ a = a ∧ n = n ∧ c = c ∧ (↑n : Int) = (↑n : Int) ∧ (none : Option Addr) = none ∧ (0 : Int) = (0 : Int) ∧ K ((IntKind.wrap IntKind.i64 (p.fst.fst + (1 : Int)), PUnit.unit), PUnit.unit, PUnit.unit, PUnit.unit) H')) ∨ ∃ (c : List PanicEntry), e = Ending.panicked c ∧ R (Ending.panicked c) H') (Meets prog (59 : Nat) [Value.slice a n c] H fun (e : Ending) (H' : Nat → Option Obj) ↦ (∃ (a : Option Addr), ∃ (n : Nat), ∃ (c : Nat), e = Ending.returned (Value.slice a n c) ∧ Meets prog (60 : Nat) [Value.slice a n c] H' fun (e : Ending) (H' : Nat → Option Obj) ↦ (∃ (b : Bool), e = Ending.returned (Value.bool b) ∧ Br b (R (Ending.returned (Value.tuple { toList := [Value.pointer none, Value.int IntKind.i64 (22 : Int)] })) H') (Meets prog (43 : Nat) [] H' fun (e : Ending) (H' : Nat → Option Obj) ↦ (∃ (a_1 : Option Addr), e = Ending.returned (Value.pointer a_1) ∧ ∃ (G : Nat → Option Obj), G ≤ H' ∧ Meets prog (63 : Nat) [] H' fun (e : Ending) (H'_1 : Nat → Option Obj) ↦ (Keep G H' H' H'_1 ∧ ∃ (n_1 : Int), ∃ (n_2 : Int), ∃ (n_3 : Int), e = Ending.returned (Value.agg { toList := [Value.int IntKind.u32 n_1, Value.int IntKind.u32 n_2, Value.int IntKind.i64 n_3] }) ∧ Meets prog (62 : Nat) [Value.agg { toList := [Value.pointer a_1] }, Value.int IntKind.i64 (1 : Int), Value.agg { toList := [Value.int IntKind.u32 n_1, Value.int IntKind.u32 n_2, Value.int IntKind.i64 n_3] }, Value.slice a n c] (delLs H'_1 []) fun (e : Ending) (H' : Nat → Option Obj) ↦ (Keep G (delLs H'_1 []) (delLs H'_1 []) H' ∧ e = Ending.returned (Value.tuple { toList := [] }) ∧ ∀ (b : Nat), delLs H' [] b = none → ∀ (b_1 : Nat), Heap.upd (delLs H' ([] ++ [] ++ ([] ++ ([] ++ ([] ++ ([] ++ [])) ++ ([] ++ []))))) b (Obj.cells { toList := [Value.pointer a_1] } (33 : Nat)) b_1 = none → MeetsD prog (61 : Nat) [Value.pointer (some { block := b, off := (0 : Nat) }), Value.pointer (some { block := b_1, off := (0 : Nat) })] FrameMode.returning (Heap.upd (Heap.upd (delLs H' []) b (Obj.cells { toList := [Value.pointer a_1] } (33 : Nat))) b_1 (Obj.cells { toList := [Value.int IntKind.i64 (0 : Int)] } (34 : Nat))) fun (e : Ending) (u : FrameMode) (H' : Nat → Option Obj) ↦ (∃ (v : Value), e = Ending.returned v) ∧ settle u = FrameMode.returning ∧ ∃ (a : Option Addr), (∃ (b_2 : Nat), blockOf (Value.pointer (some { block := b, off := (0 : Nat) })) = some b_2 ∧ H' b_2 = some (Obj.cells { toList := [Value.pointer a] } (33 : Nat))) ∧ ∃ (n : Int), (∃ (b_2 : Nat), blockOf (Value.pointer (some { block := b_1, off := (0 : Nat) })) = some b_2 ∧ Heap.delO H' (blockOf (Value.pointer (some { block := b, off := (0 : Nat) }))) b_2 = some (Obj.cells { toList := [Value.int IntKind.i64 n] } (34 : Nat))) ∧ R (Ending.returned (Value.tuple { toList := [Value.pointer a, Value.int IntKind.i64 n] })) (Heap.delO (Heap.delO H' (blockOf (Value.pointer (some { block := b, off := (0 : Nat) })))) (blockOf (Value.pointer (some { block := b_1, off := (0 : Nat) }))))) ∨ ∃ (c : List PanicEntry), e = Ending.panicked c ∧ ∀ (b : Nat), H' b = none → ∀ (b_1 : Nat), Heap.upd H' b (Obj.cells { toList := [Value.pointer none] } (33 : Nat)) b_1 = none → MeetsD prog (61 : Nat) [Value.pointer (some { block := b, off := (0 : Nat) }), Value.pointer (some { block := b_1, off := (0 : Nat) })] (FrameMode.panicking c) (Heap.upd (Heap.upd H' b (Obj.cells { toList := [Value.pointer none] } (33 : Nat))) b_1 (Obj.cells { toList := [Value.int IntKind.i64 (0 : Int)] } (34 : Nat))) fun (e : Ending) (u : FrameMode) (H' : Nat → Option Obj) ↦ (∃ (v : Value), e = Ending.returned v) ∧ ((settle u = FrameMode.returning ∧ ∃ (a : Option Addr), (∃ (b_2 : Nat), blockOf (Value.pointer (some { block := b, off := (0 : Nat) })) = some b_2 ∧ H' b_2 = some (Obj.cells { toList := [Value.pointer a] } (33 : Nat))) ∧ ∃ (n : Int), (∃ (b_2 : Nat), blockOf (Value.pointer (some { block := b_1, off := (0 : Nat) })) = some b_2 ∧ Heap.delO H' (blockOf (Value.pointer (some { block := b, off := (0 : Nat) }))) b_2 = some (Obj.cells { toList := [Value.int IntKind.i64 n] } (34 : Nat))) ∧ R (Ending.returned (Value.tuple { toList := [Value.pointer a, Value.int IntKind.i64 n] })) (Heap.delO (Heap.delO H' (blockOf (Value.pointer (some { block := b, off := (0 : Nat) })))) (blockOf (Value.pointer (some { block := b_1, off := (0 : Nat) }))))) ∨ ∃ (c' : List PanicEntry), settle u = FrameMode.panicking c' ∧ R (Ending.panicked c') H')) ∨ ∃ (c : List PanicEntry), e = Ending.panicked c ∧ ∀ (b : Nat), H'_1 b = none → ∀ (b_1 : Nat), Heap.upd H'_1 b (Obj.cells { toList := [Value.pointer none] } (33 : Nat)) b_1 = none → MeetsD prog (61 : Nat) [Value.pointer (some { block := b, off := (0 : Nat) }), Value.pointer (some { block := b_1, off := (0 : Nat) })] (FrameMode.panicking c) (Heap.upd (Heap.upd H'_1 b (Obj.cells { toList := [Value.pointer none] } (33 : Nat))) b_1 (Obj.cells { toList := [Value.int IntKind.i64 (0 : Int)] } (34 : Nat))) fun (e : Ending) (u : FrameMode) (H' : Nat → Option Obj) ↦ (∃ (v : Value), e = Ending.returned v) ∧ ((settle u = FrameMode.returning ∧ ∃ (a : Option Addr), (∃ (b_2 : Nat), blockOf (Value.pointer (some { block := b, off := (0 : Nat) })) = some b_2 ∧ H' b_2 = some (Obj.cells { toList := [Value.pointer a] } (33 : Nat))) ∧ ∃ (n : Int), (∃ (b_2 : Nat), blockOf (Value.pointer (some { block := b_1, off := (0 : Nat) })) = some b_2 ∧ Heap.delO H' (blockOf (Value.pointer (some { block := b, off := (0 : Nat) }))) b_2 = some (Obj.cells { toList := [Value.int IntKind.i64 n] } (34 : Nat))) ∧ R (Ending.returned (Value.tuple { toList := [Value.pointer a, Value.int IntKind.i64 n] })) (Heap.delO (Heap.delO H' (blockOf (Value.pointer (some { block := b, off := (0 : Nat) })))) (blockOf (Value.pointer (some { block := b_1, off := (0 : Nat) }))))) ∨ ∃ (c' : List PanicEntry), settle u = FrameMode.panicking c' ∧ R (Ending.panicked c') H')) ∨ ∃ (c : List PanicEntry), e = Ending.panicked c ∧ ∀ (b : Nat), H' b = none → ∀ (b_1 : Nat), Heap.upd H' b (Obj.cells { toList := [Value.pointer none] } (33 : Nat)) b_1 = none → MeetsD prog (61 : Nat) [Value.pointer (some { block := b, off := (0 : Nat) }), Value.pointer (some { block := b_1, off := (0 : Nat) })] (FrameMode.panicking c) (Heap.upd (Heap.upd H' b (Obj.cells { toList := [Value.pointer none] } (33 : Nat))) b_1 (Obj.cells { toList := [Value.int IntKind.i64 (0 : Int)] } (34 : Nat))) fun (e : Ending) (u : FrameMode) (H' : Nat → Option Obj) ↦ (∃ (v : Value), e = Ending.returned v) ∧ ((settle u = FrameMode.returning ∧ ∃ (a : Option Addr), (∃ (b_2 : Nat), blockOf (Value.pointer (some { block := b, off := (0 : Nat) })) = some b_2 ∧ H' b_2 = some (Obj.cells { toList := [Value.pointer a] } (33 : Nat))) ∧ ∃ (n : Int), (∃ (b_2 : Nat), blockOf (Value.pointer (some { block := b_1, off := (0 : Nat) })) = some b_2 ∧ Heap.delO H' (blockOf (Value.pointer (some { block := b, off := (0 : Nat) }))) b_2 = some (Obj.cells { toList := [Value.int IntKind.i64 n] } (34 : Nat))) ∧ R (Ending.returned (Value.tuple { toList := [Value.pointer a, Value.int IntKind.i64 n] })) (Heap.delO (Heap.delO H' (blockOf (Value.pointer (some { block := b, off := (0 : Nat) })))) (blockOf (Value.pointer (some { block := b_1, off := (0 : Nat) }))))) ∨ ∃ (c' : List PanicEntry), settle u = FrameMode.panicking c' ∧ R (Ending.panicked c') H'))) ∨ ∃ (c : List PanicEntry), e = Ending.panicked c ∧ R (Ending.panicked c) H') ∨ ∃ (c : List PanicEntry), e = Ending.panicked c ∧ R (Ending.panicked c) H')) (((0 : Int), PUnit.unit), PUnit.unit, PUnit.unit, PUnit.unit) H
theorem vc_build (a : Option Addr) (n : Nat) (c : Nat) (R : Ending → Heap → Prop) (H : Heap) : vcFun prog h_build f22 [SV.c (SC.v (Value.slice a n c))] R H = nf_build a n c R H := by kernel_rfl

theorem specD_of {P : Program} {f : FuncId} {fn : Func} {hs : Hints} {args : List SV} {vs : List Value} {u : FrameMode} {H : Heap} {R : Ending → FrameMode → Heap → Prop} {X : Prop} (hf : P.funcs[f]? = some fn) (hc : callable P f = true)
    (hE : ∀ t, memN hs.eqs t = true → EqOK P t) (ha : argsR args vs) (hv : vcFunD P hs fn args u R H = X) (hx : X) : MeetsD P f vs u H R := meetsD_of_vc hf hc hE ha (by rw [hv]; exact hx)
theorem del_two {H : Heap} {b b1 : Nat} {o o1 : Obj} (h : H b = none) (h1 : H b1 = none) : (((H.upd b o).upd b1 o1).delO (some b)).delO (some b1) = H := by
  funext x
  show (if x = b1 then none else if x = b then none else (if x = b1 then some o1 else if x = b then some o else H x)) = H x
  by_cases e1 : x = b1
  · subst e1; rw [if_pos rfl, h1]
  · by_cases e : x = b
    · subst e; rw [if_neg e1, if_pos rfl, h]
    · rw [if_neg e1, if_neg e, if_neg e1, if_neg e]
def FinR (R : Ending → Heap → Prop) (b b1 : Nat) (e : Ending) (u : FrameMode) (H' : Heap) : Prop := (∃ v : Value, e = .returned v) ∧ settle u = .returning ∧ ∃ a : Option Addr, (∃ b2, blockOf (.pointer (some ⟨b, 0, none⟩)) = some b2 ∧ H' b2 = some (.cells #[.pointer a] 33 (0, 0))) ∧
  ∃ n : Int, (∃ b2, blockOf (.pointer (some ⟨b1, 0, none⟩)) = some b2 ∧ (H'.delO (blockOf (.pointer (some ⟨b, 0, none⟩)))) b2 = some (.cells #[vi n] 34 (0, 0))) ∧ R (.returned (.tuple #[.pointer a, vi n])) ((H'.delO (blockOf (.pointer (some ⟨b, 0, none⟩)))).delO (blockOf (.pointer (some ⟨b1, 0, none⟩))))
section
variable {R : Ending → Heap → Prop} {H : Heap}
theorem fin_at {b b1 : Nat} {a : Option Addr} {n : Int} (hb : H b = none) (hb1 : H b1 = none) (hne : b1 ≠ b) (k : R (.returned (.tuple #[.pointer a, vi n])) H) {u : FrameMode} (hu : settle u = .returning) :
    FinR R b b1 (.returned unitV) u ((H.upd b (.cells #[.pointer a] 33 (0, 0))).upd b1 (.cells #[vi n] 34 (0, 0))) := by
  refine ⟨⟨_, rfl⟩, hu, a, ⟨b, rfl, by rw [upd_ne _ _ (Ne.symm hne), upd_same]⟩, n, ⟨b1, rfl, ?_⟩, ?_⟩
  · show (if b1 = b then none else _) = _
    rw [if_neg hne, upd_same]
  · have := del_two (o := .cells #[.pointer a] 33 (0, 0)) (o1 := .cells #[vi n] 34 (0, 0)) hb hb1
    show R _ (Heap.delO (Heap.delO _ (some b)) (some b1))
    rw [this]; exact k
theorem fin_ret {a : Option Addr} (k : R (.returned (.tuple #[.pointer a, vi 0])) H) : ∀ b, H b = none → ∀ b1, H.upd b (.cells #[.pointer a] 33 (0, 0)) b1 = none →
    MeetsD prog 61 [.pointer (some ⟨b, 0, none⟩), .pointer (some ⟨b1, 0, none⟩)] .returning ((H.upd b (.cells #[.pointer a] 33 (0, 0))).upd b1 (.cells #[vi 0] 34 (0, 0))) (FinR R b b1) := by
  intro b hb b1 hb1
  have hne : b1 ≠ b := by rintro rfl; rw [upd_same] at hb1; cases hb1
  rw [upd_ne _ _ hne] at hb1
  refine specD_of func61 (by kernel_rfl) (fun t h => by cases h) ?_ (vc_caught0 ⟨b, 0, none⟩ ⟨b1, 0, none⟩ _ _) ?_
  · simp [argsR, SV.rep, SC.rep, one]
  unfold nf_caught0
  exact ⟨rfl, fin_at hb hb1 hne k rfl⟩
theorem fin_pan {e : Int} (k : R (.returned (.tuple #[.pointer none, vi e])) H) : ∀ b, H b = none → ∀ b1, H.upd b (.cells #[.pointer none] 33 (0, 0)) b1 = none →
    MeetsD prog 61 [.pointer (some ⟨b, 0, none⟩), .pointer (some ⟨b1, 0, none⟩)] (.panicking (stopE e)) ((H.upd b (.cells #[.pointer none] 33 (0, 0))).upd b1 (.cells #[vi 0] 34 (0, 0))) fun e u H' =>
      (∃ v : Value, e = .returned v) ∧ ((settle u = .returning ∧ ∃ a : Option Addr, (∃ b2, blockOf (.pointer (some ⟨b, 0, none⟩)) = some b2 ∧ H' b2 = some (.cells #[.pointer a] 33 (0, 0))) ∧
        ∃ n : Int, (∃ b2, blockOf (.pointer (some ⟨b1, 0, none⟩)) = some b2 ∧ (H'.delO (blockOf (.pointer (some ⟨b, 0, none⟩)))) b2 = some (.cells #[vi n] 34 (0, 0))) ∧ R (.returned (.tuple #[.pointer a, vi n])) ((H'.delO (blockOf (.pointer (some ⟨b, 0, none⟩)))).delO (blockOf (.pointer (some ⟨b1, 0, none⟩))))) ∨
        ∃ c' : List PanicEntry, settle u = .panicking c' ∧ R (.panicked c') H') := by
  intro b hb b1 hb1
  have hne : b1 ≠ b := by rintro rfl; rw [upd_same] at hb1; cases hb1
  rw [upd_ne _ _ hne] at hb1
  refine specD_of func61 (by kernel_rfl) (fun t h => by cases h) ?_ (vc_caught1 ⟨b, 0, none⟩ ⟨b1, 0, none⟩ e _ _) ?_
  · simp [argsR, SV.rep, SC.rep, one]
  unfold nf_caught1
  refine ⟨rfl, fun _ => none, none_le _, ptr rfl (ptr rfl ⟨#[.pointer none], 33, ⟨by rw [upd_ne _ _ (Ne.symm hne), upd_same], rfl, by simp⟩, rfl, ptr rfl (ptr rfl ⟨#[vi 0], 34, ⟨by rw [upd_ne _ _ hne, upd_same], rfl, by simp⟩, rfl, ?_⟩)⟩)⟩
  have e1 : Heap.upd (Heap.upd (Heap.upd (Heap.upd H b (.cells #[.pointer none] 33 (0, 0))) b1 (.cells #[vi 0] 34 (0, 0))) b (.cells (writeCells #[.pointer none] 0 [.pointer none]) 33 (0, 0))) b1 (.cells (writeCells #[vi 0] 0 [vi e]) 34 (0, 0))
      = Heap.upd (Heap.upd H b (.cells #[.pointer none] 33 (0, 0))) b1 (.cells #[vi e] 34 (0, 0)) := by
    funext x
    unfold Heap.upd
    by_cases h1 : x = b1
    · subst h1; simp [writeCells]
    · by_cases h2 : x = b
      · subst h2; simp [h1, writeCells]
      · simp [h1, h2]
  rw [e1]
  have h5 := fin_at (R := R) (u := (recU (.panicking (stopE e))).2) hb hb1 hne k rfl
  exact ⟨h5.1, .inl h5.2⟩
end
end Cr

set_option linter.unusedVariables false
set_option linter.unusedSimpArgs false
namespace Cr
open Go Sx Stb Bt
open Go.Proofs.Try
set_option maxRecDepth 100000
def ptsM (m : M) (i : Int) : List Pt := ((m i).getD nd0).pts
theorem ptsM_some {m : M} {i : Int} {d : Nd} (h : m i = some d) : ptsM m i = d.pts := by unfold ptsM; rw [h]; rfl
theorem flat_four {α β : Type} {J : Nat → List α} {f : α → List β} : (J 0 ++ (J 1 ++ (J 2 ++ J 3))).flatMap f = (J 0).flatMap f ++ ((J 1).flatMap f ++ ((J 2).flatMap f ++ (J 3).flatMap f)) := by simp [List.flatMap_append]
theorem ChP_pts {m : M} : ∀ {I : List Int} {L : List Pt}, ChP m I L → I.flatMap (ptsM m) = L
  | [id], L, h => by simp [ptsM_some h.2]
  | id :: nx :: r, L, h => by
    rw [List.flatMap_cons, ChP_pts h.2.2, ptsM_some h.2.1]
    exact List.take_append_drop 4 L
theorem TrP_pts {m : M} : ∀ {h : Nat} {id : Int} {L : List Pt} {I : List Int}, (∀ p ∈ L, PtR p) → TrP m h id L I → (I.flatMap (ptsM m)).Perm L
  | 0, id, L, I, _, h => by rw [ChP_pts h.2]
  | n + 1, id, L, I, hr, h => by
    unfold TrP at h
    split at h
    · rw [ChP_pts h.2]
    · obtain ⟨ks, cs, J, h1, h2, h3, rfl, h4⟩ := h
      have sub : ∀ q, q < 4 → ((J q).flatMap (ptsM m)).Perm (quarter n q L) := fun q hq => by
        rcases h4 q hq with ⟨e1, _, _, e4⟩ | ⟨e1, _, _, e4⟩
        · rw [e1, e4]; exact List.Perm.refl _
        · exact TrP_pts (fun p hp => hr p (List.mem_filter.1 hp).1) e4
      rw [List.flatMap_cons, ptsM_some h1, List.nil_append, flat_four]
      exact ((sub 0 (by omega)).append ((sub 1 (by omega)).append ((sub 2 (by omega)).append (sub 3 (by omega))))).trans (quarters_perm hr)
theorem ptsM_len {m : M} (hD : Dom m) : ∀ I : List Int, (I.flatMap (ptsM m)).length ≤ 4 * I.length
  | [] => by simp
  | i :: I => by
    rw [List.flatMap_cons, List.length_append, List.length_cons]
    have := ptsM_len hD I
    have h2 : (ptsM m i).length ≤ 4 := by
      cases e : m i with
      | none => unfold ptsM; rw [e]; simp
      | some d => rw [ptsM_some e]; exact hD.few e
    omega
section
variable {R : Ending → Heap → Prop} {H : Heap}
end
end Cr

set_option linter.unusedVariables false
set_option linter.unusedSimpArgs false
namespace Cr
open Go Sx Stb Bt
open Go.Proofs.Try
set_option maxRecDepth 100000
/-- The tree of points L; its nodes are the numbers I. -/
structure TreeOK (m : M) (L : List Pt) (I : List Int) : Prop where
  dom : Dom m
  tr : TrP m 32 1 L I
  nd : I.Nodup
  all : ∀ i, m i ≠ none → i ∈ I
  lok : LOK L
theorem TreeOK.iff {m : M} {L : List Pt} {I : List Int} (h : TreeOK m L I) (i : Int) : m i ≠ none ↔ i ∈ I := ⟨h.all i, TrP_there h.tr i⟩
theorem TreeOK.free {m : M} {L : List Pt} {I : List Int} (h : TreeOK m L I) : (freeL m).length + nds 32 L = 255 := by
  rw [← TrP_len h.tr]
  have h1 : I.Perm (numsL.filter fun i => !(m i).isNone) := by
    refine (List.perm_ext_iff_of_nodup h.nd ((numsL_rise.imp fun h => by omega : numsL.Nodup).filter _)).2 fun i => ?_
    rw [List.mem_filter, mem_numsL, ← h.iff]
    cases e : m i with
    | none => simp
    | some d => have := h.dom i d e; simp; omega
  have h2 : ∀ (l : List Int) (f : Int → Bool), (l.filter f).length + (l.filter fun i => !f i).length = l.length := fun l f => by
    induction l with
    | nil => rfl
    | cons x l ih => by_cases e : f x <;> simp [List.filter_cons, e] <;> omega
  rw [h1.length_eq]
  have := h2 numsL fun i => (m i).isNone
  rw [show numsL.length = 255 by simp] at this
  exact this
theorem ids_rise (m : M) (t : Nat) : (idsBelow m t).Pairwise (· < ·) := by
  unfold idsBelow
  refine List.Pairwise.filter _ ?_
  rw [List.pairwise_map]
  exact List.pairwise_lt_range.imp fun h => by omega
theorem TreeOK.ids {m : M} {L : List Pt} {I : List Int} (h : TreeOK m L I) : (idsOf m).Perm I :=
  (List.perm_ext_iff_of_nodup ((ids_rise m 255).imp fun h => by omega) h.nd).2 fun i => by
    show i ∈ idsBelow m 255 ↔ _
    rw [mem_idsBelow, ← h.iff]
    cases e : m i with
    | none => simp
    | some d => have := h.dom i d e; simp; omega
theorem TreeOK.pts {m : M} {L : List Pt} {I : List Int} (h : TreeOK m L I) : ((idsOf m).flatMap (ptsM m)).Perm L := (h.ids.flatMap_right _).trans (TrP_pts h.lok.range h.tr)
abbrev mE : M := setM (fun _ => none) 1 ⟨true, [], 0, z4, z4⟩
theorem mE_one : mE 1 = some nd1 := setM_same
theorem mE_ne {i : Int} (h : i ≠ 1) : mE i = none := setM_ne h
theorem mE_at {i : Int} (hi : mE i ≠ none) : i = 1 := by
  by_cases e : i = 1
  · exact e
  · exact absurd (mE_ne e) hi
theorem freeL_mE : freeL mE = numsL.tail := by
  have h : freeL (fun _ => none) = numsL := List.filter_eq_self.2 fun i _ => rfl
  exact freeL_take (i := 1) (r := numsL.tail) (by rw [h]; rfl)
theorem mE_free : (freeL mE).length = 254 := by rw [freeL_mE]; simp
theorem dom_mE : Dom mE := Dom.none.set ⟨by omega, by omega⟩ (leafOK LOK.nil (by simp) (by omega))
theorem pcode_bad {p : Pt} (h : pcode p ≠ 0) : ¬ ptOK p := fun e => h (pcode_ok.2 e)
/-- A tree that is grown out of nothing. -/
theorem grown {L : List Pt} (hL : LOK L) : (nds 32 L ≤ 255 → ∃ m I, growF 32 mE 1 L = some m ∧ (Dom m → TreeOK m L I) ∧ Low m) ∧ (255 < nds 32 L → growF 32 mE 1 L = none) := by
  have hs := growF_spec 32 mE 1 L (by rw [mE_one]; simp)
  unfold GrowOK at hs
  rw [mE_free] at hs
  refine ⟨fun h => ?_, fun h => hs.2 (by omega)⟩
  obtain ⟨m1, d, I, e1, e2, e3, e4⟩ := hs.1 (by omega)
  have h1 : m1 1 ≠ none := by rw [e2.keep (by rw [mE_one]; simp), mE_one]; simp
  have hall : ∀ i, setM m1 1 d i ≠ none → i ∈ (1 :: I : List Int) := fun i hi => by
    by_cases e : i = 1
    · simp [e]
    · by_cases hI : i ∈ I
      · exact List.mem_cons_of_mem _ hI
      · exfalso; rw [setM_ne e, e2.same i hI] at hi; exact e (mE_at hi)
  refine ⟨_, 1 :: I, e1, fun hD => ⟨hD, e4, List.nodup_cons.2 ⟨e2.off (by rw [mE_one]; simp), e2.nodup⟩, hall, hL⟩, fun i j hi hj => ?_⟩
  rw [freeL_set h1, e2.free] at hj
  rcases List.mem_cons.1 (hall i hi) with rfl | hi'
  · have h2 := (mem_freeL (m := mE)).1 (List.mem_of_mem_drop hj)
    have : j ≠ 1 := by rintro rfl; rw [mE_one] at h2; cases h2.2.2
    omega
  · have h2 := (e2.mem i).1 hi'
    have h3 := freeL_rise mE
    rw [← List.take_append_drop I.length (freeL mE), List.pairwise_append] at h3
    exact h3.2.2 i h2 j hj
theorem rise_of {L : List Pt} (h : Srtd ltI L) (h2 : ∀ (i : Nat) (p q : Pt), L[i]? = some p → L[i + 1]? = some q → q.id ≠ p.id) : L.Pairwise fun p q => p.id < q.id := by
  induction L with
  | nil => exact List.Pairwise.nil
  | cons x L ih =>
    have h1 := List.pairwise_cons.1 h
    have hr := ih h1.2 fun i p q hp hq => h2 (i + 1) p q (by simpa using hp) (by simpa using hq)
    refine List.pairwise_cons.2 ⟨fun y hy => ?_, hr⟩
    cases L with
    | nil => cases hy
    | cons z L =>
      have a1 := h1.1 z (List.mem_cons_self ..)
      have a2 := h2 0 x z rfl rfl
      simp only [decide_eq_false_iff_not] at a1
      rcases List.mem_cons.1 hy with rfl | hy
      · omega
      · have := (List.pairwise_cons.1 hr).1 y hy
        omega
section
variable {R : Ending → Heap → Prop} {H : Heap}
theorem s_build {v : Value} {l : List Pt} (hs : SliceAt H v 4 (pts l)) (hl : l.length ≤ 50000) (hp : ∀ p ∈ l, PtR p)
    (k1 : ∀ (i : Nat) (p : Pt), l[i]? = some p → (∀ (j : Nat) (q : Pt), j < i → l[j]? = some q → ptOK q) → pcode p ≠ 0 → R (.returned (.tuple #[.pointer none, vi (pcode p)])) H)
    (k2 : (∀ p ∈ l, ptOK p) → ¬ (l.map Pt.id).Nodup → ∀ H', H ≤ H' → R (.returned (.tuple #[.pointer none, vi 22])) H')
    (k3 : (∀ p ∈ l, ptOK p) → (l.map Pt.id).Nodup → 255 < nds 32 (sortP l) → ∀ H', H ≤ H' → R (.returned (.tuple #[.pointer none, vi 10])) H')
    (k4 : (∀ p ∈ l, ptOK p) → (l.map Pt.id).Nodup → nds 32 (sortP l) ≤ 255 → ∀ b r m I H', H b = none → H r = none → b ≠ r → H ≤ H' → GroveAt H' ⟨b, 0, none⟩ r m → TreeOK m (sortP l) I → Low m → R (.returned (.tuple #[.pointer (some ⟨b, 0, none⟩), vi 0])) H') :
    Meets prog 22 [v] H R := by
  obtain ⟨a, n, c, e, hn⟩ := hs
  subst e
  have hs : SliceAt H (.slice a n c) 4 (pts l) := ⟨a, n, c, rfl, hn⟩
  have hln : l.length = n := by simpa [pts] using hn.1
  refine spec_of func22 (by kernel_rfl) (fun t h => by cases h) ?_ (vc_build a n c R H) ?_
  · simp [argsR, SV.rep, SC.rep, one]
  unfold nf_build
  simp only [true_and]
  refine ⟨fun p H' => ∃ t : Nat, p.1.1 = (t : Int) ∧ t ≤ n ∧ (∀ (j : Nat) (q : Pt), j < t → l[j]? = some q → ptOK q) ∧ H' = H, fun p _ => (n - p.1.1).toNat, ⟨0, rfl, by omega, by omega, rfl⟩, ?_⟩
  rintro ⟨⟨i, _⟩, _⟩ H0 ⟨t, hi, ht, hok, rfl⟩
  simp only at hi ⊢
  subst hi
  refine br (fun q => ?_) fun q => ?_
  · simp only [decide_eq_true_eq] at q
    obtain ⟨p, _, htk, hx⟩ := drop_cons (l := l) (k := t) (by omega)
    obtain ⟨A, e, g⟩ := pr_get hs hx
    subst e
    rw [Int.toNat_natCast, w64 (by omega)]
    refine ⟨⟨by omega, by omega⟩, ptr rfl (ptr rfl ⟨_, _, _, _, g, s_pchk (.inl ⟨_, rfl, br (fun q1 => ?_) fun q1 => ?_⟩)⟩)⟩
    · exact k1 t p hx hok (by simpa using q1)
    · refine ⟨⟨t + 1, by omega, by omega, fun j y hj hy => ?_, rfl⟩, by omega⟩
      rcases Nat.lt_or_ge j t with h | h
      · exact hok j y h hy
      · obtain rfl : j = t := by omega
        rw [hx] at hy; cases hy
        exact pcode_ok.1 (by simpa using q1)
  · simp only [decide_eq_false_iff_not] at q
    obtain rfl : t = n := by omega
    have hall : ∀ p ∈ l, ptOK p := fun p hm => by
      obtain ⟨j, hj⟩ := List.mem_iff_getElem?.1 hm
      exact hok j p (by have := (List.getElem?_eq_some_iff.1 hj).1; omega) hj
    refine s_srt hs (by omega) fun v1 H1 hle1 hfr1 hrow1 => ?_
    obtain ⟨a1, c1, rfl⟩ := row_val hrow1
    have hsl := sortP_len l
    have hsrt : Srtd ltI (sortP l) := isort_srtd swo_I l
    have hperm := perm_sortP l
    refine .inl ⟨_, _, _, rfl, s_twice (row_slice hrow1) (by omega) (fun i p q hp1 hq1 he => .inl ⟨_, rfl, k2 hall (fun hnd => ?_) _ hle1⟩) fun hno => .inl ⟨_, rfl, ?_⟩⟩
    · have hr := sortP_rise hnd
      obtain ⟨i1, rfl⟩ := List.getElem?_eq_some_iff.1 hp1
      obtain ⟨i2, rfl⟩ := List.getElem?_eq_some_iff.1 hq1
      have := List.pairwise_iff_getElem.1 hr i (i + 1) i1 i2 (by omega)
      omega
    have hrise := rise_of hsrt hno
    have hnd : (l.map Pt.id).Nodup := (hperm.map Pt.id).nodup_iff.1 (rise_nodup hrise)
    have hL : LOK (sortP l) := ⟨fun p hm => hall p (hperm.subset hm), hrise, fun p hm => hp p (hperm.subset hm)⟩
    refine s_empty fun r b hr hb hne H2 hle2 hg2 => .inl ⟨_, rfl, _, none_le _, s_croot (.inl ⟨keep_none _ _, _, _, _, rfl, ?_⟩)⟩
    have hle := heap_trans hle1 hle2
    have nn : ∀ x, H1 x = none → H0 x = none := fun x e => by
      cases e' : H0 x with
      | none => rfl
      | some o => rw [hle1 _ _ e'] at e; cases e
    have up : ∀ H', GMod r H2 H' → H0 ≤ H' := fun H' hm x o e => hm x o (by rintro rfl; rw [nn _ hr] at e; cases e) (hle _ _ e)
    have hc0 : Cor 32 0 := ⟨by omega, by decide, by decide⟩
    obtain ⟨g1, g2⟩ := grown hL
    refine s_grow 32 (Nat.le_refl _) (by omega) hc0 hc0 (by omega) hg2 dom_mE hL (slice_le (row_slice hrow1) hle2) ⟨by omega, by omega⟩ (fun m' H3 e3 D3 g3 m3 => .inl ⟨keep_none _ _, rfl, fin_ret ?_⟩) fun e3 H3 m3 => .inr ⟨_, rfl, fin_pan ?_⟩
    · by_cases h255 : nds 32 (sortP l) ≤ 255
      · obtain ⟨m, I, f1, f2, f3⟩ := g1 h255
        rw [f1] at e3; cases e3
        exact k4 hall hnd h255 b r _ I H3 (nn _ hb) (nn _ hr) (Ne.symm hne) (up _ m3) g3 (f2 D3) f3
      · rw [g2 (by omega)] at e3; cases e3
    · by_cases h255 : nds 32 (sortP l) ≤ 255
      · obtain ⟨m, I, f1, f2, f3⟩ := g1 h255
        rw [f1] at e3; cases e3
      · exact k3 hall hnd (by omega) _ (up _ m3)
end
end Cr

set_option linter.unusedVariables false
set_option linter.unusedSimpArgs false
namespace Cr
open Go Sx Stb Bt
open Go.Proofs.Try
set_option maxRecDepth 100000
def wkL (g : Addr) (r : Nat) (s : Value) : List Value := [.pointer (some g), .map (some r), s]
/-- A walker stands at b, its map at r; what is in G is as it was. -/
def WkAt (G : Heap) (g : Addr) (b r : Nat) (met : Int → Bool) (out : List Int) (H : Heap) : Prop :=
  G ≤ H ∧ G b = none ∧ G r = none ∧ b ≠ r ∧ (∃ l, MapAt H r .i64 l ∧ ∀ id, getL l id = if met id then some (.bool true) else none) ∧
    ∃ a n c, H b = some (.cells (wkL g r (.slice a n c)).toArray 117 (0, 0)) ∧ RowAt H (.slice a n c) 3 1 (cells out) ∧ ∀ k, blockOf (.slice a n c) = some k → G k = none ∧ k ≠ b ∧ k ≠ r
section
variable {R : Ending → Heap → Prop} {H : Heap}
theorem WkAt.mono {G : Heap} {g : Addr} {b r : Nat} {met : Int → Bool} {out : List Int} {H H' : Heap} (h : WkAt G g b r met out H) (hle : H ≤ H') : WkAt G g b r met out H' := by
  obtain ⟨h1, h2, h3, h4, ⟨l, h5, h6⟩, a, n, c, h8, h9, h10⟩ := h
  exact ⟨heap_trans h1 hle, h2, h3, h4, ⟨l, map_same h5 (fun o e => hle _ _ e), h6⟩, a, n, c, hle _ _ h8, row_le h9 (fun b o _ e => hle _ _ e), h10⟩
theorem WkAt.put {G : Heap} {g : Addr} {b r : Nat} {met : Int → Bool} {out : List Int} {H : Heap} (h : WkAt G g b r met out H) (id : Int) : ∃ es clk, (H r = some (.map es clk) ∧ IntKeys .i64 es.toList) ∧
    WkAt G g b r (fun j => j == id || met j) out (H.upd r (mapPut es clk .i64 id (.bool true))) := by
  obtain ⟨h1, h2, h3, h4, ⟨l, h5, h6⟩, a, n, c, h8, h9, h10⟩ := h
  obtain ⟨es, clk, e1, e2⟩ := map_put h5 id (.bool true)
  refine ⟨es, clk, e1, le_upd h1 h3 _, h2, h3, h4, ⟨_, e2, fun j => ?_⟩, a, n, c, ?_, row_le h9 (fun k o e q => ?_), h10⟩
  · rw [getL_putL, h6]
    by_cases e : j = id
    · subst e; simp
    · simp [e]
  · rw [upd_ne _ _ h4]; exact h8
  · rw [upd_ne _ _ (h10 k e).2.2]; exact q
/-- A number is appended. -/
theorem WkAt.push {G : Heap} {g : Addr} {b r : Nat} {met : Int → Bool} {out : List Int} {H : Heap} (h : WkAt G g b r met out H) (hl : out.length ≤ 1000000) (y : Int) {X : Heap → Prop} (hX : ∀ H', WkAt G g b r met (out ++ [y]) H' → X H') :
    ∃ (a : Option Addr) (n c : Nat), H.has (Addr.add ⟨b, 0, none⟩ 2) [.slice a n c] ∧ ∃ es : List (List Value), RowAt H (.slice a n c) 3 1 es ∧ (List.append es [[vi y]]).length * 8 ≤ 140737488355328 ∧
      PtrK (some ⟨b, 0, none⟩) fun a_1 => PtrK (some a_1) fun a_2 => ∀ (v : Value) (H' : Heap), H.delO (blockOf (.slice a n c)) ≤ H' → (∀ b, blockOf v = some b → (H.delO (blockOf (.slice a n c))) b = none) → (∀ (b : Nat) (o : Obj), H' b = some o → (H.delO (blockOf (.slice a n c))) b = some o ∨ blockOf v = some b) → RowAt H' v 3 1 (List.append es [[vi y]]) →
        PtrK (some (Addr.add a_2 2)) fun A => ∃ (c : Array Value) (ty : TypeId), (H' A.block = some (.cells c ty (0, 0)) ∧ A.spot = none ∧ A.off + 1 ≤ c.size) ∧ X (H'.upd A.block (.cells (writeCells c A.off [v]) ty (0, 0))) := by
  obtain ⟨f1, f2, f3, f4, ⟨l3, f5, f6⟩, a3, n3, c3, f8, f9, f10⟩ := h
  refine ⟨a3, n3, c3, cells_at f8 (k := 2) rfl, _, f9, by simp [cells]; omega, ptr rfl (ptr rfl fun v H3 g1 g2 _ g4 => ptr rfl ?_)⟩
  obtain ⟨a4, c4, rfl⟩ := row_val g4
  have keep : ∀ x ob, (∀ k, blockOf (.slice a3 n3 c3) = some k → k ≠ x) → H x = some ob → H3 x = some ob := fun x ob h1 h2 => g1 _ _ (delO_keep h1 h2)
  have hb3 := keep b _ (fun k e => (f10 k e).2.1) f8
  have hG3 : G ≤ H3 := fun x ob e => keep x ob (fun k e' => by rintro rfl; rw [(f10 k e').1] at e; cases e) (f1 _ _ e)
  have fresh : ∀ k, blockOf (.slice a4 (List.append (cells out) [[vi y]]).length c4) = some k → ∀ x ob, (∀ k, blockOf (.slice a3 n3 c3) = some k → k ≠ x) → H x = some ob → k ≠ x := fun k e x ob h1 h2 => by
    rintro rfl
    have := g2 k e
    rw [delO_keep h1 h2] at this; cases this
  obtain ⟨p1, p2⟩ := cells_put hb3 (k := 2) (by simp [wkL]) (.slice a4 (List.append (cells out) [[vi y]]).length c4)
  refine ⟨_, _, p1, hX _ ?_⟩
  rw [p2]
  have hnb : ∀ k, blockOf (.slice a4 (List.append (cells out) [[vi y]]).length c4) = some k → k ≠ b := fun k e => fresh k e b _ (fun k e => (f10 k e).2.1) f8
  have hmap : ∃ es clk, H r = some (.map es clk) := by obtain ⟨es, clk, e, _⟩ := f5; exact ⟨es, clk, e⟩
  obtain ⟨es3, clk3, hm3⟩ := hmap
  refine ⟨le_upd hG3 f2 _, f2, f3, f4, ⟨l3, map_same f5 (fun o e => ?_), f6⟩, a4, _, c4, upd_same _ _ _, ?_, fun k e => ⟨?_, hnb k e, fresh k e r _ (fun k e => (f10 k e).2.2) hm3⟩⟩
  · rw [upd_ne _ _ (Ne.symm f4)]; exact keep r o (fun k e => (f10 k e).2.2) e
  · have : cells (out ++ [y]) = List.append (cells out) [[vi y]] := by simp [cells]
    rw [this]
    exact row_le g4 fun k o e q => by rw [upd_ne _ _ (hnb k e)]; exact q
  · cases e' : G k with
    | none => rfl
    | some ob => exact absurd rfl (fresh k e k ob (fun k' e2 e3 => by rw [e3] at e2; rw [(f10 k e2).1] at e'; cases e') (f1 _ _ e'))
end
end Cr

set_option linter.unusedVariables false
set_option linter.unusedSimpArgs false
namespace Cr
open Go Sx Stb Bt
open Go.Proofs.Try
set_option maxRecDepth 100000
section
variable {R : Ending → Heap → Prop} {H : Heap}
theorem once_facts {l : List Pt} (hp : ∀ p ∈ l, PtR p) (most : Int) : (∀ p ∈ onceP most l, ptOK p) ∧ ((onceP most l).map Pt.id).Nodup ∧ (0 ≤ most → ((onceP most l).length : Int) ≤ most) ∧ ∀ p ∈ onceP most l, PtR p := by
  obtain ⟨h1, h2, h3, h4⟩ := once_ok most l
  refine ⟨h1, h2, fun h0 => ?_, fun p hm => hp p (h4 p hm)⟩
  rcases h3 with h | h
  · rw [h]; simpa using h0
  · exact h
end
end Cr

set_option linter.unusedVariables false
set_option linter.unusedSimpArgs false
namespace Cr
open Go Sx Stb Bt
open Go.Proofs.Try
set_option maxRecDepth 100000
def BuildRes (l : List Pt) (a : Option Addr) (n : Int) (H : Heap) : Prop :=
  (∃ (i : Nat) (p : Pt), l[i]? = some p ∧ (∀ (j : Nat) (q : Pt), j < i → l[j]? = some q → ptOK q) ∧ pcode p ≠ 0 ∧ a = none ∧ n = pcode p) ∨
  (∀ p ∈ l, ptOK p) ∧ ((¬ (l.map Pt.id).Nodup ∧ a = none ∧ n = 22) ∨ (l.map Pt.id).Nodup ∧ ((255 < nds 32 (sortP l) ∧ a = none ∧ n = 10) ∨
    nds 32 (sortP l) ≤ 255 ∧ n = 0 ∧ ∃ b r m I, a = some ⟨b, 0, none⟩ ∧ GroveAt H ⟨b, 0, none⟩ r m ∧ TreeOK m (sortP l) I ∧ Low m))
theorem BuildRes.le {l : List Pt} {a : Option Addr} {n : Int} {H H' : Heap} (h : BuildRes l a n H) (hle : H ≤ H') : BuildRes l a n H' := by
  rcases h with h | ⟨h1, h | ⟨h2, h | ⟨h3, h4, b, r, m, I, h5, h6, h7⟩⟩⟩
  · exact .inl h
  · exact .inr ⟨h1, .inl h⟩
  · exact .inr ⟨h1, .inr ⟨h2, .inl h⟩⟩
  · exact .inr ⟨h1, .inr ⟨h2, .inr ⟨h3, h4, b, r, m, I, h5, h6.le hle, h7⟩⟩⟩
section
variable {R : Ending → Heap → Prop} {H : Heap}
theorem s_buildR {v : Value} {l : List Pt} (hs : SliceAt H v 4 (pts l)) (hl : l.length ≤ 50000) (hp : ∀ p ∈ l, PtR p) (k : ∀ a n H', H ≤ H' → BuildRes l a n H' → R (.returned (.tuple #[.pointer a, vi n])) H') : Meets prog 22 [v] H R :=
  s_build hs hl hp (fun i p h1 h2 h3 => k _ _ _ (heap_refl _) (.inl ⟨i, p, h1, h2, h3, rfl, rfl⟩)) (fun h1 h2 H' hle => k _ _ _ hle (.inr ⟨h1, .inl ⟨h2, rfl, rfl⟩⟩)) (fun h1 h2 h3 H' hle => k _ _ _ hle (.inr ⟨h1, .inr ⟨h2, .inl ⟨h3, rfl, rfl⟩⟩⟩))
    fun h1 h2 h3 b r m I H' _ _ _ hle hg hT hlow => k _ _ _ hle (.inr ⟨h1, .inr ⟨h2, .inr ⟨h3, rfl, b, r, m, I, rfl, hg, hT, hlow⟩⟩⟩)
def pA : Pt := ⟨5, 1, 2, { data := #[] }⟩
theorem ok_pA : ptOK pA ∧ PtR pA := ⟨by decide, by unfold PtR; decide⟩
end
end Cr

set_option linter.unusedVariables false
set_option linter.unusedSimpArgs false
namespace Cr
open Go Sx Stb Bt
open Go.Proofs.Try
set_option maxRecDepth 100000
abbrev rcA (x0 y0 x1 y1 : Int) : SV := .agg [.c (.v (.int .u32 x0)), .c (.v (.int .u32 y0)), .c (.v (.int .u32 x1)), .c (.v (.int .u32 y1))]
def h_rwithin : Hints := { eqs := [46] }
def h_wgat : Hints := { deep := true, own := [53], loops := [(4, ⟨[0, 1, 5, 6, 31, 32], [.f 33 (.int .i64)], [.keep 5, .keep 6]⟩), (12, ⟨[0, 5, 65], [.f 66 (.int .i64)], [.keep 5]⟩)] }
def h_wleaf : Hints := { deep := true, loops := [(2, ⟨[0, 4, 5, 9, 10], [.f 11 (.int .i64)], [.keep 4, .keep 5]⟩)] }
def h_wcnt : Hints := { deep := true, loops := [(3, ⟨[0, 5, 18], [.f 19 (.int .i64)], [.keep 5]⟩)] }
def nf_rempty (x0 : Int) (y0 : Int) (x1 : Int) (y1 : Int) (R : Ending → Heap → Prop) (H : Heap) : Prop := Br (decide (x0 > x1)) (R (Ending.returned (Value.bool true)) H) (R (Ending.returned (Value.bool (decide (y0 > y1)))) H)
theorem vc_rempty (x0 : Int) (y0 : Int) (x1 : Int) (y1 : Int) (R : Ending → Heap → Prop) (H : Heap) : vcFun prog { } f72 [rcA x0 y0 x1 y1] R H = nf_rempty x0 y0 x1 y1 R H := by kernel_rfl

def nf_rhas (x0 : Int) (y0 : Int) (x1 : Int) (y1 : Int) (x : Int) (y : Int) (R : Ending → Heap → Prop) (H : Heap) : Prop := Br (decide (x ≥ x0)) (Br (decide (x ≤ x1)) (Br (decide (y ≥ y0)) (R (Ending.returned (Value.bool (decide (y ≤ y1)))) H) (R (Ending.returned (Value.bool false)) H)) (R (Ending.returned (Value.bool false)) H)) (R (Ending.returned (Value.bool false)) H)
theorem vc_rhas (x0 : Int) (y0 : Int) (x1 : Int) (y1 : Int) (x : Int) (y : Int) (R : Ending → Heap → Prop) (H : Heap) : vcFun prog { } f103 [rcA x0 y0 x1 y1, SV.c (SC.v (Value.int IntKind.u32 x)), SV.c (SC.v (Value.int IntKind.u32 y))] R H = nf_rhas x0 y0 x1 y1 x y R H := by kernel_rfl

def nf_rnone (R : Ending → Heap → Prop) (H : Heap) : Prop := R (Ending.returned (Value.agg { toList := [Value.int IntKind.u32 (1 : Int), Value.int IntKind.u32 (1 : Int), Value.int IntKind.u32 (0 : Int), Value.int IntKind.u32 (0 : Int)] })) H
theorem vc_rnone (R : Ending → Heap → Prop) (H : Heap) : vcFun prog { } f73 [] R H = nf_rnone R H := by kernel_rfl

def nf_rcut (x0 : Int) (y0 : Int) (x1 : Int) (y1 : Int) (x2 : Int) (y2 : Int) (x3 : Int) (y3 : Int) (R : Ending → Heap → Prop) (H : Heap) : Prop := Meets prog (72 : Nat) [Value.agg { toList := [Value.int IntKind.u32 x0, Value.int IntKind.u32 y0, Value.int IntKind.u32 x1, Value.int IntKind.u32 y1] }] H fun (e : Ending) (H' : Nat → Option Obj) ↦ ∃ (b : Bool), e = Ending.returned (Value.bool b) ∧ Br b (Meets prog (73 : Nat) [] H' fun (e : Ending) (H' : Nat → Option Obj) ↦ ∃ (n : Int), ∃ (n_1 : Int), ∃ (n_2 : Int), ∃ (n_3 : Int), e = Ending.returned (Value.agg { toList := [Value.int IntKind.u32 n, Value.int IntKind.u32 n_1, Value.int IntKind.u32 n_2, Value.int IntKind.u32 n_3] }) ∧ R (Ending.returned (Value.agg { toList := [Value.int IntKind.u32 n, Value.int IntKind.u32 n_1, Value.int IntKind.u32 n_2, Value.int IntKind.u32 n_3] })) H') (Meets prog (72 : Nat) [Value.agg { toList := [Value.int IntKind.u32 x2, Value.int IntKind.u32 y2, Value.int IntKind.u32 x3, Value.int IntKind.u32 y3] }] H' fun (e : Ending) (H' : Nat → Option Obj) ↦ ∃ (b : Bool), e = Ending.returned (Value.bool b) ∧ Br b (Meets prog (73 : Nat) [] H' fun (e : Ending) (H' : Nat → Option Obj) ↦ ∃ (n : Int), ∃ (n_1 : Int), ∃ (n_2 : Int), ∃ (n_3 : Int), e = Ending.returned (Value.agg { toList := [Value.int IntKind.u32 n, Value.int IntKind.u32 n_1, Value.int IntKind.u32 n_2, Value.int IntKind.u32 n_3] }) ∧ R (Ending.returned (Value.agg { toList := [Value.int IntKind.u32 n, Value.int IntKind.u32 n_1, Value.int IntKind.u32 n_2, Value.int IntKind.u32 n_3] })) H') (Meets prog (72 : Nat) [Value.agg { toList := [Value.int IntKind.u32 (maxI x0 x2), Value.int IntKind.u32 (maxI y0 y2), Value.int IntKind.u32 (minI x1 x3), Value.int IntKind.u32 (minI y1 y3)] }] H' fun (e : Ending) (H' : Nat → Option Obj) ↦ ∃ (b : Bool), e = Ending.returned (Value.bool b) ∧ Br b (Meets prog (73 : Nat) [] H' fun (e : Ending) (H' : Nat → Option Obj) ↦ ∃ (n : Int), ∃ (n_1 : Int), ∃ (n_2 : Int), ∃ (n_3 : Int), e = Ending.returned (Value.agg { toList := [Value.int IntKind.u32 n, Value.int IntKind.u32 n_1, Value.int IntKind.u32 n_2, Value.int IntKind.u32 n_3] }) ∧ R (Ending.returned (Value.agg { toList := [Value.int IntKind.u32 n, Value.int IntKind.u32 n_1, Value.int IntKind.u32 n_2, Value.int IntKind.u32 n_3] })) H') (R (Ending.returned (Value.agg { toList := [Value.int IntKind.u32 (maxI x0 x2), Value.int IntKind.u32 (maxI y0 y2), Value.int IntKind.u32 (minI x1 x3), Value.int IntKind.u32 (minI y1 y3)] })) H')))
theorem vc_rcut (x0 : Int) (y0 : Int) (x1 : Int) (y1 : Int) (x2 : Int) (y2 : Int) (x3 : Int) (y3 : Int) (R : Ending → Heap → Prop) (H : Heap) : vcFun prog { } f37 [rcA x0 y0 x1 y1, rcA x2 y2 x3 y3] R H = nf_rcut x0 y0 x1 y1 x2 y2 x3 y3 R H := by kernel_rfl

def nf_rmeets (x0 : Int) (y0 : Int) (x1 : Int) (y1 : Int) (x2 : Int) (y2 : Int) (x3 : Int) (y3 : Int) (R : Ending → Heap → Prop) (H : Heap) : Prop := Meets prog (37 : Nat) [Value.agg { toList := [Value.int IntKind.u32 x0, Value.int IntKind.u32 y0, Value.int IntKind.u32 x1, Value.int IntKind.u32 y1] }, Value.agg { toList := [Value.int IntKind.u32 x2, Value.int IntKind.u32 y2, Value.int IntKind.u32 x3, Value.int IntKind.u32 y3] }] H fun (e : Ending) (H' : Nat → Option Obj) ↦ ∃ (n : Int), ∃ (n_1 : Int), ∃ (n_2 : Int), ∃ (n_3 : Int), e = Ending.returned (Value.agg { toList := [Value.int IntKind.u32 n, Value.int IntKind.u32 n_1, Value.int IntKind.u32 n_2, Value.int IntKind.u32 n_3] }) ∧ Meets prog (72 : Nat) [Value.agg { toList := [Value.int IntKind.u32 n, Value.int IntKind.u32 n_1, Value.int IntKind.u32 n_2, Value.int IntKind.u32 n_3] }] H' fun (e : Ending) (H' : Nat → Option Obj) ↦ ∃ (b : Bool), e = Ending.returned (Value.bool b) ∧ R (Ending.returned (Value.bool !b)) H'
theorem vc_rmeets (x0 : Int) (y0 : Int) (x1 : Int) (y1 : Int) (x2 : Int) (y2 : Int) (x3 : Int) (y3 : Int) (R : Ending → Heap → Prop) (H : Heap) : vcFun prog { } f101 [rcA x0 y0 x1 y1, rcA x2 y2 x3 y3] R H = nf_rmeets x0 y0 x1 y1 x2 y2 x3 y3 R H := by kernel_rfl

def nf_rwithin (x0 : Int) (y0 : Int) (x1 : Int) (y1 : Int) (x2 : Int) (y2 : Int) (x3 : Int) (y3 : Int) (R : Ending → Heap → Prop) (H : Heap) : Prop := ∃ (G : Nat → Option Obj), G ≤ H ∧ Meets prog (72 : Nat) [Value.agg { toList := [Value.int IntKind.u32 x0, Value.int IntKind.u32 y0, Value.int IntKind.u32 x1, Value.int IntKind.u32 y1] }] H fun (e : Ending) (H' : Nat → Option Obj) ↦ Keep G H H H' ∧ ∃ (b : Bool), e = Ending.returned (Value.bool b) ∧ Br b (R (Ending.returned (Value.bool true)) (delLs H' [])) (Meets prog (37 : Nat) [Value.agg { toList := [Value.int IntKind.u32 x0, Value.int IntKind.u32 y0, Value.int IntKind.u32 x1, Value.int IntKind.u32 y1] }, Value.agg { toList := [Value.int IntKind.u32 x2, Value.int IntKind.u32 y2, Value.int IntKind.u32 x3, Value.int IntKind.u32 y3] }] (delLs H' []) fun (e : Ending) (H'_1 : Nat → Option Obj) ↦ Keep G (delLs H' []) (delLs H' []) H'_1 ∧ ∃ (n : Int), ∃ (n_1 : Int), ∃ (n_2 : Int), ∃ (n_3 : Int), e = Ending.returned (Value.agg { toList := [Value.int IntKind.u32 n, Value.int IntKind.u32 n_1, Value.int IntKind.u32 n_2, Value.int IntKind.u32 n_3] }) ∧ R (Ending.returned (Value.bool (andO (some (andO (some (andO (some (andO none (n == x0))) (n_1 == y0))) (n_2 == x1))) (n_3 == y1)))) (delLs H'_1 []))
theorem vc_rwithin (x0 : Int) (y0 : Int) (x1 : Int) (y1 : Int) (x2 : Int) (y2 : Int) (x3 : Int) (y3 : Int) (R : Ending → Heap → Prop) (H : Heap) : vcFun prog h_rwithin f105 [rcA x0 y0 x1 y1, rcA x2 y2 x3 y3] R H = nf_rwithin x0 y0 x1 y1 x2 y2 x3 y3 R H := by kernel_rfl

def nf_crect (x : Int) (y : Int) (lv : Int) (R : Ending → Heap → Prop) (H : Heap) : Prop := Meets prog (86 : Nat) [Value.agg { toList := [Value.int IntKind.u32 x, Value.int IntKind.u32 y, Value.int IntKind.i64 lv] }] H fun (e : Ending) (H' : Nat → Option Obj) ↦ ∃ (n : Int), ∃ (n_1 : Int), ∃ (n_2 : Int), e = Ending.returned (Value.agg { toList := [Value.int IntKind.u32 n, Value.int IntKind.u32 n_1, Value.int IntKind.i64 n_2] }) ∧ Meets prog (123 : Nat) [Value.int IntKind.i64 n_2] H' fun (e : Ending) (H' : Nat → Option Obj) ↦ ∃ (n_3 : Int), e = Ending.returned (Value.int IntKind.u32 n_3) ∧ R (Ending.returned (Value.agg { toList := [Value.int IntKind.u32 n, Value.int IntKind.u32 n_1, Value.int IntKind.u32 (bitOp BinOp.or IntKind.u32 n n_3), Value.int IntKind.u32 (bitOp BinOp.or IntKind.u32 n_1 n_3)] })) H'
theorem vc_crect (x : Int) (y : Int) (lv : Int) (R : Ending → Heap → Prop) (H : Heap) : vcFun prog { } f102 [ceA x y lv] R H = nf_crect x y lv R H := by kernel_rfl

def nf_wget (w : Addr) (id : Int) (R : Ending → Heap → Prop) (H : Heap) : Prop := PtrK (some w) fun (a : Addr) ↦ PtrK (some a) fun (a : Addr) ↦ PtrK (some (Addr.add a (0 : Nat))) fun (a : Addr) ↦ ∃ (a_1 : Option Addr), Heap.has H a [Value.pointer a_1] ∧ Meets prog (50 : Nat) [Value.pointer a_1, Value.int IntKind.i64 id] H fun (e : Ending) (H' : Nat → Option Obj) ↦ ∃ (b : Bool), ∃ (a : Option Addr), ∃ (n : Nat), ∃ (c : Nat), ∃ (n_1 : Int), ∃ (xs : List Int), List.length xs = (4 : Nat) ∧ ∃ (xs_1 : List Int), List.length xs_1 = (4 : Nat) ∧ ∃ (b_1 : Bool), e = Ending.returned (Value.tuple { toList := [Value.agg { toList := Value.bool b :: Value.slice a n c :: Value.int IntKind.i64 n_1 :: List.append (List.map (Value.int IntKind.i64) xs) (flatD [Seg.ints IntKind.i64 (4 : Nat) xs_1]) }, Value.bool b_1] }) ∧ Br (!b_1) (R (Ending.returned (Value.tuple { toList := [Value.agg { toList := [Value.bool false, Value.slice none (0 : Nat) (0 : Nat), Value.int IntKind.i64 (0 : Int), Value.int IntKind.i64 (0 : Int), Value.int IntKind.i64 (0 : Int), Value.int IntKind.i64 (0 : Int), Value.int IntKind.i64 (0 : Int), Value.int IntKind.i64 (0 : Int), Value.int IntKind.i64 (0 : Int), Value.int IntKind.i64 (0 : Int), Value.int IntKind.i64 (0 : Int)] }, Value.bool false] })) H') (PtrK (some w) fun (a_2 : Addr) ↦ PtrK (some a_2) fun (a_3 : Addr) ↦ PtrK (some (Addr.add a_3 (5 : Nat))) fun (a_4 : Addr) ↦ ∃ (r : Option Nat), Heap.has H' a_4 [Value.map r] ∧ ∃ (b_2 : Bool), (∃ (b : Bool), LookAt H' r IntKind.i64 id (Value.bool false) (Value.bool b_2) b) ∧ Br b_2 (R (Ending.returned (Value.tuple { toList := [Value.agg { toList := [Value.bool false, Value.slice none (0 : Nat) (0 : Nat), Value.int IntKind.i64 (0 : Int), Value.int IntKind.i64 (0 : Int), Value.int IntKind.i64 (0 : Int), Value.int IntKind.i64 (0 : Int), Value.int IntKind.i64 (0 : Int), Value.int IntKind.i64 (0 : Int), Value.int IntKind.i64 (0 : Int), Value.int IntKind.i64 (0 : Int), Value.int IntKind.i64 (0 : Int)] }, Value.bool false] })) H') (PtrK (some w) fun (a_5 : Addr) ↦ PtrK (some a_5) fun (a_6 : Addr) ↦ PtrK (some (Addr.add a_6 (5 : Nat))) fun (a_7 : Addr) ↦ ∃ (r : Option Nat), Heap.has H' a_7 [Value.map r] ∧ MapK r fun (r : Nat) ↦ ∃ (es : Array MapEntry), ∃ (clk : Nat), (H' r = some (Obj.map es clk) ∧ IntKeys IntKind.i64 es.toList) ∧ R (Ending.returned (Value.tuple { toList := [Value.agg { toList := Value.bool b :: Value.slice a n c :: Value.int IntKind.i64 n_1 :: List.append (List.map (Value.int IntKind.i64) xs) (List.map (Value.int IntKind.i64) xs_1 ++ []) }, Value.bool true] })) (Heap.upd H' r (mapPut es clk IntKind.i64 id (Value.bool true)))))
theorem vc_wget (w : Addr) (id : Int) (R : Ending → Heap → Prop) (H : Heap) : vcFun prog { } f100 [SV.c (SC.v (Value.pointer (some w))), SV.c (SC.v (Value.int IntKind.i64 id))] R H = nf_wget w id R H := by kernel_rfl

def nf_wgat (w : Addr) (id : Int) (x : Int) (y : Int) (lv : Int) (R : Ending → Heap → Prop) (H : Heap) : Prop := Meets prog (100 : Nat) [Value.pointer (some w), Value.int IntKind.i64 id] H fun (e : Ending) (H' : Nat → Option Obj) ↦ ∃ (b : Bool), ∃ (a : Option Addr), ∃ (n : Nat), ∃ (c : Nat), ∃ (n_1 : Int), ∃ (xs : List Int), List.length xs = (4 : Nat) ∧ ∃ (xs_1 : List Int), List.length xs_1 = (4 : Nat) ∧ ∃ (b_1 : Bool), e = Ending.returned (Value.tuple { toList := [Value.agg { toList := Value.bool b :: Value.slice a n c :: Value.int IntKind.i64 n_1 :: List.append (List.map (Value.int IntKind.i64) xs) (flatD [Seg.ints IntKind.i64 (4 : Nat) xs_1]) }, Value.bool b_1] }) ∧ ∃ (G : Nat → Option Obj), G ≤ H' ∧ Br (!b_1) (R (Ending.returned (Value.tuple { toList := [] })) H') (PtrK (some w) fun (a_1 : Addr) ↦ PtrK (some a_1) fun (a_2 : Addr) ↦ PtrK (some (Addr.add a_2 (1 : Nat))) fun (a_3 : Addr) ↦ ∃ (n_2 : Int), ∃ (n_3 : Int), ∃ (n_4 : Int), ∃ (n_5 : Int), Heap.has G a_3 [Value.int IntKind.u32 n_2, Value.int IntKind.u32 n_3, Value.int IntKind.u32 n_4, Value.int IntKind.u32 n_5] ∧ Meets prog (102 : Nat) [Value.agg { toList := [Value.int IntKind.u32 x, Value.int IntKind.u32 y, Value.int IntKind.i64 lv] }] H' fun (e : Ending) (H'_1 : Nat → Option Obj) ↦ Keep G H' H' H'_1 ∧ ∃ (n_6 : Int), ∃ (n_7 : Int), ∃ (n_8 : Int), ∃ (n_9 : Int), e = Ending.returned (Value.agg { toList := [Value.int IntKind.u32 n_6, Value.int IntKind.u32 n_7, Value.int IntKind.u32 n_8, Value.int IntKind.u32 n_9] }) ∧ Meets prog (101 : Nat) [Value.agg { toList := [Value.int IntKind.u32 n_6, Value.int IntKind.u32 n_7, Value.int IntKind.u32 n_8, Value.int IntKind.u32 n_9] }, Value.agg { toList := [Value.int IntKind.u32 n_2, Value.int IntKind.u32 n_3, Value.int IntKind.u32 n_4, Value.int IntKind.u32 n_5] }] (delLs H'_1 []) fun (e : Ending) (H' : Nat → Option Obj) ↦ Keep G (delLs H'_1 []) (delLs H'_1 []) H' ∧ ∃ (b_2 : Bool), e = Ending.returned (Value.bool b_2) ∧ Br (!b_2) (R (Ending.returned (Value.tuple { toList := [] })) (delLs H' [])) (some w = some w ∧ id = id ∧ (0 : Nat) = (0 : Nat) ∧ (0 : Nat) = (0 : Nat) ∧ a = a ∧ n = n ∧ c = c ∧ (↑n : Int) = (↑n : Int) ∧ x = x ∧ y = y ∧ lv = lv ∧ b = b ∧ a = a ∧ n = n ∧ c = c ∧ n_1 = n_1 ∧ xs = xs ∧ xs_1 = xs_1 ∧ LoopP (fun (K : (Int × PUnit) × PUnit × PUnit × PUnit → (Nat → Option Obj) → Prop) (p : (Int × PUnit) × PUnit × PUnit × PUnit) (H : Nat → Option Obj) ↦ Br (decide (p.fst.fst < (↑n : Int))) (((0 : Int) ≤ p.fst.fst ∧ p.fst.fst < (↑n : Int)) ∧ PtrK a fun (A : Addr) ↦ PtrK (some (Addr.add A (Int.toNat p.fst.fst * (4 : Nat)))) fun (a_4 : Addr) ↦ ∃ (n_10 : Int), ∃ (n_11 : Int), ∃ (n_12 : Int), ∃ (s : ByteArray), Heap.has H a_4 [Value.int IntKind.i64 n_10, Value.int IntKind.u32 n_11, Value.int IntKind.u32 n_12, Value.string s] ∧ ∃ (G : Nat → Option Obj), G ≤ H ∧ PtrK (some w) fun (a_5 : Addr) ↦ PtrK (some a_5) fun (a_6 : Addr) ↦ PtrK (some (Addr.add a_6 (1 : Nat))) fun (a_7 : Addr) ↦ ∃ (n_13 : Int), ∃ (n_14 : Int), ∃ (n_15 : Int), ∃ (n_16 : Int), Heap.has G a_7 [Value.int IntKind.u32 n_13, Value.int IntKind.u32 n_14, Value.int IntKind.u32 n_15, Value.int IntKind.u32 n_16] ∧ Meets prog (103 : Nat) [Value.agg { toList := [Value.int IntKind.u32 n_13, Value.int IntKind.u32 n_14, Value.int IntKind.u32 n_15, Value.int IntKind.u32 n_16] }, Value.int IntKind.u32 n_11, Value.int IntKind.u32 n_12] H fun (e : Ending) (H' : Nat → Option Obj) ↦ Keep G H H H' ∧ ∃ (b_3 : Bool), e = Ending.returned (Value.bool b_3) ∧ Br b_3 (PtrK (some w) fun (a_8 : Addr) ↦ PtrK (some a_8) fun (a_9 : Addr) ↦ PtrK (some (Addr.add a_9 (6 : Nat))) fun (a_10 : Addr) ↦ ∃ (a_11 : Option Addr), ∃ (n_17 : Nat), ∃ (c_1 : Nat), Heap.has (delLs H' []) a_10 [Value.slice a_11 n_17 c_1] ∧ ∃ (es : List (List Value)), RowAt (delLs H' []) (Value.slice a_11 n_17 c_1) (28 : Nat) (4 : Nat) es ∧ List.length (List.append es [[Value.int IntKind.i64 n_10, Value.int IntKind.u32 n_11, Value.int IntKind.u32 n_12, Value.string s]]) * (32 : Nat) ≤ (140737488355328 : Nat) ∧ PtrK (some w) fun (a_12 : Addr) ↦ PtrK (some a_12) fun (a_13 : Addr) ↦ ∀ (v : Value) (H'_2 : Nat → Option Obj), Heap.delO (delLs H' []) (blockOf (Value.slice a_11 n_17 c_1)) ≤ H'_2 → (∀ (b : Nat), blockOf v = some b → Heap.delO (delLs H' ([] ++ ([] ++ ([] ++ ([] ++ []))) ++ ([] ++ ([] ++ [])))) (blockOf (Value.slice a_11 n_17 c_1)) b = none) → (∀ (b : Nat) (o : Obj), H'_2 b = some o → Heap.delO (delLs H' ([] ++ ([] ++ ([] ++ ([] ++ []))) ++ ([] ++ ([] ++ [])))) (blockOf (Value.slice a_11 n_17 c_1)) b = some o ∨ blockOf v = some b) → RowAt H'_2 v (28 : Nat) (4 : Nat) (List.append es [[Value.int IntKind.i64 n_10, Value.int IntKind.u32 n_11, Value.int IntKind.u32 n_12, Value.string s]]) → PtrK (some (Addr.add a_13 (6 : Nat))) fun (A : Addr) ↦ ∃ (c_2 : Array Value), ∃ (ty : Nat), (H'_2 A.block = some (Obj.cells c_2 ty) ∧ A.spot = none ∧ A.off + (1 : Nat) ≤ Array.size c_2) ∧ some w = some w ∧ id = id ∧ (0 : Nat) = (0 : Nat) ∧ (0 : Nat) = (0 : Nat) ∧ a = a ∧ n = n ∧ c = c ∧ (↑n : Int) = (↑n : Int) ∧ x = x ∧ y = y ∧ lv = lv ∧ b = b ∧ a = a ∧ n = n ∧ c = c ∧ n_1 = n_1 ∧ xs = xs ∧ xs_1 = xs_1 ∧ K ((IntKind.wrap IntKind.i64 (p.fst.fst + (1 : Int)), PUnit.unit), PUnit.unit, PUnit.unit, PUnit.unit) (Heap.upd H'_2 A.block (Obj.cells (writeCells c_2 A.off [v]) ty))) (some w = some w ∧ id = id ∧ (0 : Nat) = (0 : Nat) ∧ (0 : Nat) = (0 : Nat) ∧ a = a ∧ n = n ∧ c = c ∧ (↑n : Int) = (↑n : Int) ∧ x = x ∧ y = y ∧ lv = lv ∧ b = b ∧ a = a ∧ n = n ∧ c = c ∧ n_1 = n_1 ∧ xs = xs ∧ xs_1 = xs_1 ∧ K ((IntKind.wrap IntKind.i64 (p.fst.fst + (1 : Int)), PUnit.unit), PUnit.unit, PUnit.unit, PUnit.unit) (delLs H' []))) (Br b (Meets prog (69 : Nat) [Value.pointer (some w), Value.int IntKind.i64 n_1, Value.agg { toList := [Value.int IntKind.u32 x, Value.int IntKind.u32 y, Value.int IntKind.i64 lv] }] H fun (e : Ending) (H' : Nat → Option Obj) ↦ e = Ending.returned (Value.tuple { toList := [] }) ∧ R (Ending.returned (Value.tuple { toList := [] })) H') (some w = some w ∧ (0 : Nat) = (0 : Nat) ∧ xs = xs ∧ x = x ∧ y = y ∧ lv = lv ∧ LoopP (fun (K : (Int × PUnit) × PUnit × PUnit → (Nat → Option Obj) → Prop) (p : (Int × PUnit) × PUnit × PUnit) (H : Nat → Option Obj) ↦ Br (decide (p.fst.fst < (4 : Int))) (((0 : Int) ≤ p.fst.fst ∧ p.fst.fst < (↑(4 : Nat) : Int)) ∧ Meets prog (96 : Nat) [Value.agg { toList := [Value.int IntKind.u32 x, Value.int IntKind.u32 y, Value.int IntKind.i64 lv] }, Value.int IntKind.i64 p.fst.fst] H fun (e : Ending) (H' : Nat → Option Obj) ↦ ∃ (n : Int), ∃ (n_10 : Int), ∃ (n_11 : Int), e = Ending.returned (Value.agg { toList := [Value.int IntKind.u32 n, Value.int IntKind.u32 n_10, Value.int IntKind.i64 n_11] }) ∧ Meets prog (69 : Nat) [Value.pointer (some w), Value.int IntKind.i64 (List.getD xs (Int.toNat p.fst.fst) (0 : Int)), Value.agg { toList := [Value.int IntKind.u32 n, Value.int IntKind.u32 n_10, Value.int IntKind.i64 n_11] }] H' fun (e : Ending) (H' : Nat → Option Obj) ↦ e = Ending.returned (Value.tuple { toList := [] }) ∧ some w = some w ∧ (0 : Nat) = (0 : Nat) ∧ xs = xs ∧ x = x ∧ y = y ∧ lv = lv ∧ K ((IntKind.wrap IntKind.i64 (p.fst.fst + (1 : Int)), PUnit.unit), PUnit.unit, PUnit.unit) H') (R (Ending.returned (Value.tuple { toList := [] })) H)) (((0 : Int), PUnit.unit), PUnit.unit, PUnit.unit) H))) (((0 : Int), PUnit.unit), PUnit.unit, PUnit.unit, PUnit.unit) (delLs H' [])))
theorem vc_wgat (w : Addr) (id : Int) (x : Int) (y : Int) (lv : Int) (R : Ending → Heap → Prop) (H : Heap) : vcFun prog h_wgat f69 [SV.c (SC.v (Value.pointer (some w))), SV.c (SC.v (Value.int IntKind.i64 id)), ceA x y lv] R H = nf_wgat w id x y lv R H := by kernel_rfl

def nf_wleaf (w : Addr) (lf : Bool) (a : Option Addr) (n : Nat) (c : Nat) (nx : Int) (ks : List Int) (cs : List Int) (x : Int) (y : Int) (lv : Int) (R : Ending → Heap → Prop) (H : Heap) : Prop := some w = some w ∧ (0 : Nat) = (0 : Nat) ∧ (0 : Nat) = (0 : Nat) ∧ a = a ∧ n = n ∧ c = c ∧ (↑n : Int) = (↑n : Int) ∧ lf = lf ∧ a = a ∧ n = n ∧ c = c ∧ nx = nx ∧ ks = ks ∧ cs = cs ∧ x = x ∧ y = y ∧ lv = lv ∧ LoopP (fun (K : (Int × PUnit) × PUnit × PUnit × PUnit → (Nat → Option Obj) → Prop) (p : (Int × PUnit) × PUnit × PUnit × PUnit) (H : Nat → Option Obj) ↦ Br (decide (p.fst.fst < (↑n : Int))) (((0 : Int) ≤ p.fst.fst ∧ p.fst.fst < (↑n : Int)) ∧ PtrK a fun (A : Addr) ↦ PtrK (some (Addr.add A (Int.toNat p.fst.fst * (4 : Nat)))) fun (a_1 : Addr) ↦ ∃ (n_1 : Int), ∃ (n_2 : Int), ∃ (n_3 : Int), ∃ (s : ByteArray), Heap.has H a_1 [Value.int IntKind.i64 n_1, Value.int IntKind.u32 n_2, Value.int IntKind.u32 n_3, Value.string s] ∧ ∃ (G : Nat → Option Obj), G ≤ H ∧ PtrK (some w) fun (a_2 : Addr) ↦ PtrK (some a_2) fun (a_3 : Addr) ↦ PtrK (some (Addr.add a_3 (1 : Nat))) fun (a_4 : Addr) ↦ ∃ (n_4 : Int), ∃ (n_5 : Int), ∃ (n_6 : Int), ∃ (n_7 : Int), Heap.has G a_4 [Value.int IntKind.u32 n_4, Value.int IntKind.u32 n_5, Value.int IntKind.u32 n_6, Value.int IntKind.u32 n_7] ∧ Meets prog (103 : Nat) [Value.agg { toList := [Value.int IntKind.u32 n_4, Value.int IntKind.u32 n_5, Value.int IntKind.u32 n_6, Value.int IntKind.u32 n_7] }, Value.int IntKind.u32 n_2, Value.int IntKind.u32 n_3] H fun (e : Ending) (H' : Nat → Option Obj) ↦ Keep G H H H' ∧ ∃ (b : Bool), e = Ending.returned (Value.bool b) ∧ Br b (PtrK (some w) fun (a_5 : Addr) ↦ PtrK (some a_5) fun (a_6 : Addr) ↦ PtrK (some (Addr.add a_6 (7 : Nat))) fun (a_7 : Addr) ↦ ∃ (n_8 : Int), Heap.has (delLs H' []) a_7 [Value.int IntKind.i64 n_8] ∧ PtrK (some w) fun (a_8 : Addr) ↦ PtrK (some a_8) fun (a_9 : Addr) ↦ PtrK (some (Addr.add a_9 (7 : Nat))) fun (A : Addr) ↦ ∃ (c_1 : Array Value), ∃ (ty : Nat), (delLs H' [] A.block = some (Obj.cells c_1 ty) ∧ A.spot = none ∧ A.off + (1 : Nat) ≤ Array.size c_1) ∧ some w = some w ∧ (0 : Nat) = (0 : Nat) ∧ (0 : Nat) = (0 : Nat) ∧ a = a ∧ n = n ∧ c = c ∧ (↑n : Int) = (↑n : Int) ∧ lf = lf ∧ a = a ∧ n = n ∧ c = c ∧ nx = nx ∧ ks = ks ∧ cs = cs ∧ x = x ∧ y = y ∧ lv = lv ∧ K ((IntKind.wrap IntKind.i64 (p.fst.fst + (1 : Int)), PUnit.unit), PUnit.unit, PUnit.unit, PUnit.unit) (Heap.upd (delLs H' []) A.block (Obj.cells (writeCells c_1 A.off [Value.int IntKind.i64 (IntKind.wrap IntKind.i64 (n_8 + (1 : Int)))]) ty))) (some w = some w ∧ (0 : Nat) = (0 : Nat) ∧ (0 : Nat) = (0 : Nat) ∧ a = a ∧ n = n ∧ c = c ∧ (↑n : Int) = (↑n : Int) ∧ lf = lf ∧ a = a ∧ n = n ∧ c = c ∧ nx = nx ∧ ks = ks ∧ cs = cs ∧ x = x ∧ y = y ∧ lv = lv ∧ K ((IntKind.wrap IntKind.i64 (p.fst.fst + (1 : Int)), PUnit.unit), PUnit.unit, PUnit.unit, PUnit.unit) (delLs H' []))) (Meets prog (70 : Nat) [Value.pointer (some w), Value.int IntKind.i64 nx, Value.agg { toList := [Value.int IntKind.u32 x, Value.int IntKind.u32 y, Value.int IntKind.i64 lv] }] H fun (e : Ending) (H' : Nat → Option Obj) ↦ e = Ending.returned (Value.tuple { toList := [] }) ∧ R (Ending.returned (Value.tuple { toList := [] })) H')) (((0 : Int), PUnit.unit), PUnit.unit, PUnit.unit, PUnit.unit) H
theorem vc_wleaf (w : Addr) (lf : Bool) (a : Option Addr) (n : Nat) (c : Nat) (nx : Int) (ks : List Int) (cs : List Int) (x : Int) (y : Int) (lv : Int) (R : Ending → Heap → Prop) (H : Heap) : vcFun prog h_wleaf f104 [SV.c (SC.v (Value.pointer (some w))), ndA lf a n c nx ks cs, ceA x y lv] R H = nf_wleaf w lf a n c nx ks cs x y lv R H := by kernel_rfl

def nf_wcnt (w : Addr) (id : Int) (x : Int) (y : Int) (lv : Int) (R : Ending → Heap → Prop) (H : Heap) : Prop := Meets prog (100 : Nat) [Value.pointer (some w), Value.int IntKind.i64 id] H fun (e : Ending) (H' : Nat → Option Obj) ↦ ∃ (b : Bool), ∃ (a : Option Addr), ∃ (n : Nat), ∃ (c : Nat), ∃ (n_1 : Int), ∃ (xs : List Int), List.length xs = (4 : Nat) ∧ ∃ (xs_1 : List Int), List.length xs_1 = (4 : Nat) ∧ ∃ (b_1 : Bool), e = Ending.returned (Value.tuple { toList := [Value.agg { toList := Value.bool b :: Value.slice a n c :: Value.int IntKind.i64 n_1 :: List.append (List.map (Value.int IntKind.i64) xs) (flatD [Seg.ints IntKind.i64 (4 : Nat) xs_1]) }, Value.bool b_1] }) ∧ Br (!b_1) (R (Ending.returned (Value.tuple { toList := [] })) H') (Br b (Meets prog (104 : Nat) [Value.pointer (some w), Value.agg { toList := Value.bool b :: Value.slice a n c :: Value.int IntKind.i64 n_1 :: List.append (List.map (Value.int IntKind.i64) xs) (List.map (Value.int IntKind.i64) xs_1 ++ []) }, Value.agg { toList := [Value.int IntKind.u32 x, Value.int IntKind.u32 y, Value.int IntKind.i64 lv] }] H' fun (e : Ending) (H' : Nat → Option Obj) ↦ e = Ending.returned (Value.tuple { toList := [] }) ∧ R (Ending.returned (Value.tuple { toList := [] })) H') (∃ (G : Nat → Option Obj), G ≤ H' ∧ PtrK (some w) fun (a_1 : Addr) ↦ PtrK (some a_1) fun (a_2 : Addr) ↦ PtrK (some (Addr.add a_2 (1 : Nat))) fun (a_3 : Addr) ↦ ∃ (n_2 : Int), ∃ (n_3 : Int), ∃ (n_4 : Int), ∃ (n_5 : Int), Heap.has G a_3 [Value.int IntKind.u32 n_2, Value.int IntKind.u32 n_3, Value.int IntKind.u32 n_4, Value.int IntKind.u32 n_5] ∧ Meets prog (102 : Nat) [Value.agg { toList := [Value.int IntKind.u32 x, Value.int IntKind.u32 y, Value.int IntKind.i64 lv] }] H' fun (e : Ending) (H'_1 : Nat → Option Obj) ↦ Keep G H' H' H'_1 ∧ ∃ (n_6 : Int), ∃ (n_7 : Int), ∃ (n_8 : Int), ∃ (n_9 : Int), e = Ending.returned (Value.agg { toList := [Value.int IntKind.u32 n_6, Value.int IntKind.u32 n_7, Value.int IntKind.u32 n_8, Value.int IntKind.u32 n_9] }) ∧ Meets prog (105 : Nat) [Value.agg { toList := [Value.int IntKind.u32 n_6, Value.int IntKind.u32 n_7, Value.int IntKind.u32 n_8, Value.int IntKind.u32 n_9] }, Value.agg { toList := [Value.int IntKind.u32 n_2, Value.int IntKind.u32 n_3, Value.int IntKind.u32 n_4, Value.int IntKind.u32 n_5] }] (delLs H'_1 []) fun (e : Ending) (H' : Nat → Option Obj) ↦ Keep G (delLs H'_1 []) (delLs H'_1 []) H' ∧ ∃ (b_2 : Bool), e = Ending.returned (Value.bool b_2) ∧ Br b_2 (∃ (G : Nat → Option Obj), G ≤ delLs H' [] ∧ PtrK (some w) fun (a_4 : Addr) ↦ PtrK (some a_4) fun (a_5 : Addr) ↦ PtrK (some (Addr.add a_5 (7 : Nat))) fun (a_6 : Addr) ↦ ∃ (n_10 : Int), Heap.has G a_6 [Value.int IntKind.i64 n_10] ∧ Meets prog (106 : Nat) [Value.agg { toList := Value.bool b :: Value.slice a n c :: Value.int IntKind.i64 n_1 :: List.append (List.map (Value.int IntKind.i64) xs) (List.map (Value.int IntKind.i64) xs_1 ++ []) }] (delLs H' []) fun (e : Ending) (H'_2 : Nat → Option Obj) ↦ Keep G (delLs H' []) (delLs H' []) H'_2 ∧ ∃ (n : Int), e = Ending.returned (Value.int IntKind.i64 n) ∧ PtrK (some w) fun (a : Addr) ↦ PtrK (some a) fun (a : Addr) ↦ PtrK (some (Addr.add a (7 : Nat))) fun (A : Addr) ↦ ∃ (c : Array Value), ∃ (ty : Nat), (delLs H'_2 [] A.block = some (Obj.cells c ty) ∧ A.spot = none ∧ A.off + (1 : Nat) ≤ Array.size c) ∧ R (Ending.returned (Value.tuple { toList := [] })) (Heap.upd (delLs H'_2 []) A.block (Obj.cells (writeCells c A.off [Value.int IntKind.i64 (IntKind.wrap IntKind.i64 (n_10 + n))]) ty))) (some w = some w ∧ (0 : Nat) = (0 : Nat) ∧ xs = xs ∧ x = x ∧ y = y ∧ lv = lv ∧ LoopP (fun (K : (Int × PUnit) × PUnit × PUnit → (Nat → Option Obj) → Prop) (p : (Int × PUnit) × PUnit × PUnit) (H : Nat → Option Obj) ↦ Br (decide (p.fst.fst < (4 : Int))) (((0 : Int) ≤ p.fst.fst ∧ p.fst.fst < (↑(4 : Nat) : Int)) ∧ Meets prog (96 : Nat) [Value.agg { toList := [Value.int IntKind.u32 x, Value.int IntKind.u32 y, Value.int IntKind.i64 lv] }, Value.int IntKind.i64 p.fst.fst] H fun (e : Ending) (H' : Nat → Option Obj) ↦ ∃ (n : Int), ∃ (n_10 : Int), ∃ (n_11 : Int), e = Ending.returned (Value.agg { toList := [Value.int IntKind.u32 n, Value.int IntKind.u32 n_10, Value.int IntKind.i64 n_11] }) ∧ ∃ (G : Nat → Option Obj), G ≤ H' ∧ Br (decide (List.getD xs (Int.toNat p.fst.fst) (0 : Int) > (0 : Int))) (PtrK (some w) fun (a : Addr) ↦ PtrK (some a) fun (a : Addr) ↦ PtrK (some (Addr.add a (1 : Nat))) fun (a : Addr) ↦ ∃ (n_12 : Int), ∃ (n_13 : Int), ∃ (n_14 : Int), ∃ (n_15 : Int), Heap.has G a [Value.int IntKind.u32 n_12, Value.int IntKind.u32 n_13, Value.int IntKind.u32 n_14, Value.int IntKind.u32 n_15] ∧ Meets prog (102 : Nat) [Value.agg { toList := [Value.int IntKind.u32 n, Value.int IntKind.u32 n_10, Value.int IntKind.i64 n_11] }] H' fun (e : Ending) (H'_2 : Nat → Option Obj) ↦ Keep G H' H' H'_2 ∧ ∃ (n_16 : Int), ∃ (n_17 : Int), ∃ (n_18 : Int), ∃ (n_19 : Int), e = Ending.returned (Value.agg { toList := [Value.int IntKind.u32 n_16, Value.int IntKind.u32 n_17, Value.int IntKind.u32 n_18, Value.int IntKind.u32 n_19] }) ∧ Meets prog (101 : Nat) [Value.agg { toList := [Value.int IntKind.u32 n_16, Value.int IntKind.u32 n_17, Value.int IntKind.u32 n_18, Value.int IntKind.u32 n_19] }, Value.agg { toList := [Value.int IntKind.u32 n_12, Value.int IntKind.u32 n_13, Value.int IntKind.u32 n_14, Value.int IntKind.u32 n_15] }] (delLs H'_2 []) fun (e : Ending) (H' : Nat → Option Obj) ↦ Keep G (delLs H'_2 []) (delLs H'_2 []) H' ∧ ∃ (b : Bool), e = Ending.returned (Value.bool b) ∧ Br b (Meets prog (70 : Nat) [Value.pointer (some w), Value.int IntKind.i64 (List.getD xs (Int.toNat p.fst.fst) (0 : Int)), Value.agg { toList := [Value.int IntKind.u32 n, Value.int IntKind.u32 n_10, Value.int IntKind.i64 n_11] }] (delLs H' []) fun (e : Ending) (H' : Nat → Option Obj) ↦ e = Ending.returned (Value.tuple { toList := [] }) ∧ some w = some w ∧ (0 : Nat) = (0 : Nat) ∧ xs = xs ∧ x = x ∧ y = y ∧ lv = lv ∧ K ((IntKind.wrap IntKind.i64 (p.fst.fst + (1 : Int)), PUnit.unit), PUnit.unit, PUnit.unit) H') (some w = some w ∧ (0 : Nat) = (0 : Nat) ∧ xs = xs ∧ x = x ∧ y = y ∧ lv = lv ∧ K ((IntKind.wrap IntKind.i64 (p.fst.fst + (1 : Int)), PUnit.unit), PUnit.unit, PUnit.unit) (delLs H' []))) (some w = some w ∧ (0 : Nat) = (0 : Nat) ∧ xs = xs ∧ x = x ∧ y = y ∧ lv = lv ∧ K ((IntKind.wrap IntKind.i64 (p.fst.fst + (1 : Int)), PUnit.unit), PUnit.unit, PUnit.unit) H')) (R (Ending.returned (Value.tuple { toList := [] })) H)) (((0 : Int), PUnit.unit), PUnit.unit, PUnit.unit) (delLs H' []))))
theorem vc_wcnt (w : Addr) (id : Int) (x : Int) (y : Int) (lv : Int) (R : Ending → Heap → Prop) (H : Heap) : vcFun prog h_wcnt f70 [SV.c (SC.v (Value.pointer (some w))), SV.c (SC.v (Value.int IntKind.i64 id)), ceA x y lv] R H = nf_wcnt w id x y lv R H := by kernel_rfl

def nf_wstart (g : Option Addr) (x0 : Int) (y0 : Int) (x1 : Int) (y1 : Int) (R : Ending → Heap → Prop) (H : Heap) : Prop := ∀ (r : Nat), H r = none → ∀ (b : Nat), Heap.upd H r (Obj.map #[] (0 : Nat)) b = none → R (Ending.returned (Value.pointer (some { block := b, off := (0 : Nat) }))) (Heap.upd (Heap.upd H r (Obj.map #[] (0 : Nat))) b (Obj.cells { toList := [Value.pointer g, Value.int IntKind.u32 x0, Value.int IntKind.u32 y0, Value.int IntKind.u32 x1, Value.int IntKind.u32 y1, Value.map (some r), Value.slice none (0 : Nat) (0 : Nat), Value.int IntKind.i64 (0 : Int)] } (111 : Nat)))
theorem vc_wstart (g : Option Addr) (x0 : Int) (y0 : Int) (x1 : Int) (y1 : Int) (R : Ending → Heap → Prop) (H : Heap) : vcFun prog { } f68 [SV.c (SC.v (Value.pointer g)), rcA x0 y0 x1 y1] R H = nf_wstart g x0 y0 x1 y1 R H := by kernel_rfl

def nf_wrange (g : Option Addr) (x0 : Int) (y0 : Int) (x1 : Int) (y1 : Int) (R : Ending → Heap → Prop) (H : Heap) : Prop := Meets prog (68 : Nat) [Value.pointer g, Value.agg { toList := [Value.int IntKind.u32 x0, Value.int IntKind.u32 y0, Value.int IntKind.u32 x1, Value.int IntKind.u32 y1] }] H fun (e : Ending) (H' : Nat → Option Obj) ↦ ∃ (a : Option Addr), e = Ending.returned (Value.pointer a) ∧ Meets prog (63 : Nat) [] H' fun (e : Ending) (H' : Nat → Option Obj) ↦ ∃ (n : Int), ∃ (n_1 : Int), ∃ (n_2 : Int), e = Ending.returned (Value.agg { toList := [Value.int IntKind.u32 n, Value.int IntKind.u32 n_1, Value.int IntKind.i64 n_2] }) ∧ Meets prog (69 : Nat) [Value.pointer a, Value.int IntKind.i64 (1 : Int), Value.agg { toList := [Value.int IntKind.u32 n, Value.int IntKind.u32 n_1, Value.int IntKind.i64 n_2] }] H' fun (e : Ending) (H' : Nat → Option Obj) ↦ e = Ending.returned (Value.tuple { toList := [] }) ∧ PtrK a fun (a : Addr) ↦ PtrK (some a) fun (a : Addr) ↦ PtrK (some (Addr.add a (6 : Nat))) fun (a : Addr) ↦ ∃ (a_1 : Option Addr), ∃ (n : Nat), ∃ (c : Nat), Heap.has H' a [Value.slice a_1 n c] ∧ Meets prog (59 : Nat) [Value.slice a_1 n c] H' fun (e : Ending) (H' : Nat → Option Obj) ↦ ∃ (a : Option Addr), ∃ (n : Nat), ∃ (c : Nat), e = Ending.returned (Value.slice a n c) ∧ R (Ending.returned (Value.slice a n c)) H'
theorem vc_wrange (g : Option Addr) (x0 : Int) (y0 : Int) (x1 : Int) (y1 : Int) (R : Ending → Heap → Prop) (H : Heap) : vcFun prog { } f33 [SV.c (SC.v (Value.pointer g)), rcA x0 y0 x1 y1] R H = nf_wrange g x0 y0 x1 y1 R H := by kernel_rfl

def nf_wcount (g : Option Addr) (x0 : Int) (y0 : Int) (x1 : Int) (y1 : Int) (R : Ending → Heap → Prop) (H : Heap) : Prop := Meets prog (68 : Nat) [Value.pointer g, Value.agg { toList := [Value.int IntKind.u32 x0, Value.int IntKind.u32 y0, Value.int IntKind.u32 x1, Value.int IntKind.u32 y1] }] H fun (e : Ending) (H' : Nat → Option Obj) ↦ ∃ (a : Option Addr), e = Ending.returned (Value.pointer a) ∧ Meets prog (63 : Nat) [] H' fun (e : Ending) (H' : Nat → Option Obj) ↦ ∃ (n : Int), ∃ (n_1 : Int), ∃ (n_2 : Int), e = Ending.returned (Value.agg { toList := [Value.int IntKind.u32 n, Value.int IntKind.u32 n_1, Value.int IntKind.i64 n_2] }) ∧ Meets prog (70 : Nat) [Value.pointer a, Value.int IntKind.i64 (1 : Int), Value.agg { toList := [Value.int IntKind.u32 n, Value.int IntKind.u32 n_1, Value.int IntKind.i64 n_2] }] H' fun (e : Ending) (H' : Nat → Option Obj) ↦ e = Ending.returned (Value.tuple { toList := [] }) ∧ PtrK a fun (a : Addr) ↦ PtrK (some a) fun (a : Addr) ↦ PtrK (some (Addr.add a (7 : Nat))) fun (a : Addr) ↦ ∃ (n : Int), Heap.has H' a [Value.int IntKind.i64 n] ∧ R (Ending.returned (Value.int IntKind.i64 n)) H'
theorem vc_wcount (g : Option Addr) (x0 : Int) (y0 : Int) (x1 : Int) (y1 : Int) (R : Ending → Heap → Prop) (H : Heap) : vcFun prog { } f34 [SV.c (SC.v (Value.pointer g)), rcA x0 y0 x1 y1] R H = nf_wcount g x0 y0 x1 y1 R H := by kernel_rfl

def nf_wvisits (g : Option Addr) (x0 : Int) (y0 : Int) (x1 : Int) (y1 : Int) (R : Ending → Heap → Prop) (H : Heap) : Prop := Meets prog (68 : Nat) [Value.pointer g, Value.agg { toList := [Value.int IntKind.u32 x0, Value.int IntKind.u32 y0, Value.int IntKind.u32 x1, Value.int IntKind.u32 y1] }] H fun (e : Ending) (H' : Nat → Option Obj) ↦ ∃ (a : Option Addr), e = Ending.returned (Value.pointer a) ∧ Meets prog (63 : Nat) [] H' fun (e : Ending) (H' : Nat → Option Obj) ↦ ∃ (n : Int), ∃ (n_1 : Int), ∃ (n_2 : Int), e = Ending.returned (Value.agg { toList := [Value.int IntKind.u32 n, Value.int IntKind.u32 n_1, Value.int IntKind.i64 n_2] }) ∧ Meets prog (70 : Nat) [Value.pointer a, Value.int IntKind.i64 (1 : Int), Value.agg { toList := [Value.int IntKind.u32 n, Value.int IntKind.u32 n_1, Value.int IntKind.i64 n_2] }] H' fun (e : Ending) (H' : Nat → Option Obj) ↦ e = Ending.returned (Value.tuple { toList := [] }) ∧ PtrK a fun (a : Addr) ↦ PtrK (some a) fun (a : Addr) ↦ PtrK (some (Addr.add a (5 : Nat))) fun (a : Addr) ↦ ∃ (r : Option Nat), Heap.has H' a [Value.map r] ∧ MapK r fun (r : Nat) ↦ ∃ (es : Array MapEntry), ∃ (clk : Nat), H' r = some (Obj.map es clk) ∧ R (Ending.returned (Value.int IntKind.i64 (↑(Array.size es) : Int))) H'
theorem vc_wvisits (g : Option Addr) (x0 : Int) (y0 : Int) (x1 : Int) (y1 : Int) (R : Ending → Heap → Prop) (H : Heap) : vcFun prog { } f35 [SV.c (SC.v (Value.pointer g)), rcA x0 y0 x1 y1] R H = nf_wvisits g x0 y0 x1 y1 R H := by kernel_rfl

def nf_phas (x0 : Int) (y0 : Int) (x1 : Int) (y1 : Int) (i : Int) (x : Int) (y : Int) (d : ByteArray) (R : Ending → Heap → Prop) (H : Heap) : Prop := Br (decide (x ≥ x0)) (Br (decide (x ≤ x1)) (Br (decide (y ≥ y0)) (R (Ending.returned (Value.bool (decide (y ≤ y1)))) H) (R (Ending.returned (Value.bool false)) H)) (R (Ending.returned (Value.bool false)) H)) (R (Ending.returned (Value.bool false)) H)
theorem vc_phas (x0 : Int) (y0 : Int) (x1 : Int) (y1 : Int) (i : Int) (x : Int) (y : Int) (d : ByteArray) (R : Ending → Heap → Prop) (H : Heap) : vcFun prog { } f38 [rcA x0 y0 x1 y1, ptA i x y d] R H = nf_phas x0 y0 x1 y1 i x y d R H := by kernel_rfl

end Cr

set_option linter.unusedVariables false
set_option linter.unusedSimpArgs false
namespace Cr
open Go Sx Stb Bt
open Go.Proofs.Try
set_option maxRecDepth 100000
structure Rc where
  x0 : Int
  y0 : Int
  x1 : Int
  y1 : Int
  deriving DecidableEq, Inhabited
abbrev rcL (r : Rc) : List Value := [.int .u32 r.x0, .int .u32 r.y0, .int .u32 r.x1, .int .u32 r.y1]
abbrev rcV (r : Rc) : Value := .agg { toList := rcL r }
def emptyR (r : Rc) : Bool := decide (r.x0 > r.x1) || decide (r.y0 > r.y1)
def hasR (r : Rc) (x y : Int) : Bool := decide (x ≥ r.x0) && decide (x ≤ r.x1) && decide (y ≥ r.y0) && decide (y ≤ r.y1)
def hasP (r : Rc) (p : Pt) : Bool := hasR r p.x p.y
def cutR (a b : Rc) : Rc := if emptyR a = true ∨ emptyR b = true ∨ emptyR ⟨maxI a.x0 b.x0, maxI a.y0 b.y0, minI a.x1 b.x1, minI a.y1 b.y1⟩ = true then ⟨1, 1, 0, 0⟩ else ⟨maxI a.x0 b.x0, maxI a.y0 b.y0, minI a.x1 b.x1, minI a.y1 b.y1⟩
def cellR (h : Nat) (x y : Int) : Rc := ⟨x, y, x + (2 ^ h - 1), y + (2 ^ h - 1)⟩
/-- Has a cell a place of a window; all its places? -/
def meetB (h : Nat) (x y : Int) (r : Rc) : Bool := !emptyR (cutR (cellR h x y) r)
def withB (h : Nat) (x y : Int) (r : Rc) : Bool := emptyR (cellR h x y) || cutR (cellR h x y) r == cellR h x y
def RcOK (r : Rc) : Prop := (0 ≤ r.x0 ∧ r.x0 < 4294967296) ∧ (0 ≤ r.y0 ∧ r.y0 < 4294967296) ∧ (0 ≤ r.x1 ∧ r.x1 < 4294967296) ∧ (0 ≤ r.y1 ∧ r.y1 < 4294967296)
theorem maxI_eq (a b : Int) : maxI a b = max a b := by unfold maxI; split <;> omega
theorem minI_eq (a b : Int) : minI a b = min a b := by unfold minI; split <;> omega
theorem cutR_spec (a b : Rc) : emptyR (cutR a b) = true ↔ emptyR a = true ∨ emptyR b = true ∨ emptyR ⟨maxI a.x0 b.x0, maxI a.y0 b.y0, minI a.x1 b.x1, minI a.y1 b.y1⟩ = true := by
  unfold cutR
  split
  · rename_i h; simp only [h, iff_true]; decide
  · rename_i h; simp only [h, iff_false]; intro h2; exact h (.inr (.inr h2))
theorem meetB_iff {h : Nat} (hh : h ≤ 32) (x y : Int) (r : Rc) : meetB h x y r = true ↔ r.x0 ≤ r.x1 ∧ r.y0 ≤ r.y1 ∧ x ≤ r.x1 ∧ x + (2 ^ h - 1) ≥ r.x0 ∧ y ≤ r.y1 ∧ y + (2 ^ h - 1) ≥ r.y0 := by
  have hp := pow_le hh
  have e : meetB h x y r = true ↔ ¬ emptyR (cutR (cellR h x y) r) = true := by unfold meetB; cases emptyR (cutR (cellR h x y) r) <;> simp
  rw [e, cutR_spec]
  unfold emptyR cellR
  simp only [maxI_eq, minI_eq, Bool.or_eq_true, decide_eq_true_eq]
  omega
theorem withB_iff {h : Nat} (hh : h ≤ 32) (x y : Int) (r : Rc) : withB h x y r = true ↔ r.x0 ≤ x ∧ x + (2 ^ h - 1) ≤ r.x1 ∧ r.y0 ≤ y ∧ y + (2 ^ h - 1) ≤ r.y1 := by
  have hp := pow_le hh
  unfold withB
  have e1 : emptyR (cellR h x y) = false := by
    unfold emptyR cellR
    simp only [Bool.or_eq_false_iff, decide_eq_false_iff_not]
    omega
  rw [e1, Bool.false_or, beq_iff_eq]
  unfold cutR
  split
  · rename_i hc
    constructor
    · intro e
      have : emptyR (⟨1, 1, 0, 0⟩ : Rc) = true := by decide
      rw [e, e1] at this; cases this
    · intro ⟨a, b, c, d⟩
      exfalso
      rcases hc with hc | hc | hc
      · rw [e1] at hc; cases hc
      · unfold emptyR at hc; simp only [Bool.or_eq_true, decide_eq_true_eq] at hc; omega
      · unfold emptyR cellR at hc; simp only [maxI_eq, minI_eq, Bool.or_eq_true, decide_eq_true_eq] at hc; omega
  · unfold cellR
    simp only [maxI_eq, minI_eq, Rc.mk.injEq]
    omega
/-- All points stand in a cell. -/
def InC (h : Nat) (x y : Int) (L : List Pt) : Prop := ∀ p ∈ L, (x ≤ p.x ∧ p.x < x + 2 ^ h) ∧ (y ≤ p.y ∧ p.y < y + 2 ^ h)
theorem in_root {L : List Pt} (hp : ∀ p ∈ L, PtR p) : InC 32 0 0 L := fun p hm => by
  obtain ⟨a, b, c, d⟩ := hp p hm
  have : (2 : Int) ^ 32 = 4294967296 := by decide
  rw [this]
  omega
theorem bit_in {h : Nat} (hh : h < 32) {x a : Int} (hx : Cor (h + 1) x) (ha : x ≤ a ∧ a < x + 2 ^ (h + 1)) : x + a / 2 ^ h % 2 * 2 ^ h ≤ a ∧ a < x + a / 2 ^ h % 2 * 2 ^ h + 2 ^ h := by
  have hp := pow_le (h := h) (by omega)
  have h2 : (2 : Int) ^ (h + 1) = 2 * 2 ^ h := by rw [Int.pow_succ]; omega
  obtain ⟨hx0, _, hx2⟩ := hx
  rw [h2] at ha hx2
  generalize (2 : Int) ^ h = w at *
  obtain ⟨q, rfl⟩ : ∃ q, x = 2 * w * q := ⟨x / (2 * w), by have := Int.mul_ediv_add_emod x (2 * w); omega⟩
  obtain ⟨b, hb⟩ : ∃ b, b = a - 2 * w * q := ⟨_, rfl⟩
  have ea : a = w * (2 * q) + b := by rw [hb, Int.mul_comm 2 w, Int.mul_assoc]; omega
  have hb0 : 0 ≤ b ∧ b < 2 * w := by omega
  have ed : a / w = 2 * q + b / w := by rw [ea, Int.add_comm, Int.add_mul_ediv_left _ _ (by omega)]; omega
  rw [ed]
  rcases Int.lt_or_le b w with hl | hl
  · have : b / w = 0 := Int.ediv_eq_zero_of_lt hb0.1 hl
    rw [this, show (2 * q + 0) % 2 = 0 by omega]
    omega
  · have : b / w = 1 := by
      have h1 : b = (b - w) + w * 1 := by omega
      rw [h1, Int.add_mul_ediv_left _ _ (by omega), Int.ediv_eq_zero_of_lt (by omega) (by omega)]; rfl
    rw [this, show (2 * q + 1) % 2 = 1 by omega]
    omega
theorem in_kid {h : Nat} (hh : h < 32) {x y : Int} (hx : Cor (h + 1) x) (hy : Cor (h + 1) y) {L : List Pt} (hi : InC (h + 1) x y L) {q : Nat} (hq : q < 4) : InC h (x + ((q % 2 : Nat) : Int) * 2 ^ h) (y + ((q / 2 : Nat) : Int) * 2 ^ h) (quarter h q L) := fun p hm => by
  obtain ⟨hm, hqt⟩ := List.mem_filter.1 hm
  have hqt : qt h p = (q : Int) := eq_of_beq hqt
  obtain ⟨i1, i2⟩ := hi p hm
  have b1 := bit_in hh hx i1
  have b2 := bit_in hh hy i2
  unfold qt at hqt
  have e1 : p.x / 2 ^ h % 2 = ((q % 2 : Nat) : Int) := by omega
  have e2 : p.y / 2 ^ h % 2 = ((q / 2 : Nat) : Int) := by omega
  rw [e1] at b1; rw [e2] at b2
  exact ⟨b1, b2⟩
theorem filter_none {h : Nat} (hh : h ≤ 32) {x y : Int} {L : List Pt} {r : Rc} (hi : InC h x y L) (hm : meetB h x y r = false) : L.filter (hasP r) = [] := by
  rw [List.filter_eq_nil_iff]
  intro p hp hc
  have hn : ¬ meetB h x y r = true := by rw [hm]; simp
  rw [meetB_iff hh] at hn
  obtain ⟨i1, i2⟩ := hi p hp
  unfold hasP hasR at hc
  simp only [Bool.and_eq_true, decide_eq_true_eq] at hc
  omega
theorem filter_all {h : Nat} (hh : h ≤ 32) {x y : Int} {L : List Pt} {r : Rc} (hi : InC h x y L) (hm : withB h x y r = true) : L.filter (hasP r) = L := by
  rw [List.filter_eq_self]
  intro p hp
  rw [withB_iff hh] at hm
  obtain ⟨i1, i2⟩ := hi p hp
  unfold hasP hasR
  simp only [Bool.and_eq_true, decide_eq_true_eq]
  omega
section
variable {R : Ending → Heap → Prop} {H : Heap}
theorem s_rempty {r : Rc} (k : R (.returned (.bool (emptyR r))) H) : Meets prog 72 [rcV r] H R := by
  refine spec_of func72 (by kernel_rfl) (fun t h => by cases h) ?_ (vc_rempty r.x0 r.y0 r.x1 r.y1 R H) ?_
  · simp [argsR, SV.rep, SegsRep, SC.rep, one]
  unfold nf_rempty
  unfold emptyR at k
  exact br (fun q => by rw [q] at k; exact k) fun q => by rw [q] at k; exact k
theorem s_rhas {r : Rc} {x y : Int} (k : R (.returned (.bool (hasR r x y))) H) : Meets prog 103 [rcV r, .int .u32 x, .int .u32 y] H R := by
  refine spec_of func103 (by kernel_rfl) (fun t h => by cases h) ?_ (vc_rhas r.x0 r.y0 r.x1 r.y1 x y R H) ?_
  · simp [argsR, SV.rep, SegsRep, SC.rep, one]
  unfold nf_rhas
  unfold hasR at k
  exact br (fun q => br (fun q1 => br (fun q2 => by rw [q, q1, q2] at k; exact k) fun q2 => by rw [q, q1, q2] at k; exact k) fun q1 => by rw [q, q1] at k; exact k) fun q => by rw [q] at k; exact k
theorem s_phas {r : Rc} {p : Pt} (k : R (.returned (.bool (hasP r p))) H) : Meets prog 38 [rcV r, ptV p] H R := by
  refine spec_of func38 (by kernel_rfl) (fun t h => by cases h) ?_ (vc_phas r.x0 r.y0 r.x1 r.y1 p.id p.x p.y p.data R H) ?_
  · simp [argsR, SV.rep, SegsRep, SC.rep, one]
  unfold nf_phas
  unfold hasP hasR at k
  exact br (fun q => br (fun q1 => br (fun q2 => by rw [q, q1, q2] at k; exact k) fun q2 => by rw [q, q1, q2] at k; exact k) fun q1 => by rw [q, q1] at k; exact k) fun q => by rw [q] at k; exact k
theorem s_rnone (k : R (.returned (rcV ⟨1, 1, 0, 0⟩)) H) : Meets prog 73 [] H R := by
  refine spec_of func73 (by kernel_rfl) (fun t h => by cases h) ?_ (vc_rnone R H) ?_
  · simp [argsR]
  unfold nf_rnone
  exact k
theorem s_rcut {a b : Rc} (k : R (.returned (rcV (cutR a b))) H) : Meets prog 37 [rcV a, rcV b] H R := by
  refine spec_of func37 (by kernel_rfl) (fun t h => by cases h) ?_ (vc_rcut a.x0 a.y0 a.x1 a.y1 b.x0 b.y0 b.x1 b.y1 R H) ?_
  · simp [argsR, SV.rep, SegsRep, SC.rep, one]
  unfold nf_rcut
  unfold cutR at k
  have no : (emptyR a = true ∨ emptyR b = true ∨ emptyR ⟨maxI a.x0 b.x0, maxI a.y0 b.y0, minI a.x1 b.x1, minI a.y1 b.y1⟩ = true) → R (.returned (rcV ⟨1, 1, 0, 0⟩)) H := fun h => by rwa [if_pos h] at k
  refine s_rempty ⟨_, rfl, br (fun q => s_rnone ⟨_, _, _, _, rfl, no (.inl q)⟩) fun q => s_rempty (r := b) ⟨_, rfl, br (fun q1 => s_rnone ⟨_, _, _, _, rfl, no (.inr (.inl q1))⟩) fun q1 => s_rempty (r := ⟨maxI a.x0 b.x0, maxI a.y0 b.y0, minI a.x1 b.x1, minI a.y1 b.y1⟩) ⟨_, rfl, br (fun q2 => s_rnone ⟨_, _, _, _, rfl, no (.inr (.inr q2))⟩) fun q2 => ?_⟩⟩⟩
  rwa [if_neg (by rw [q, q1, q2]; simp)] at k
theorem s_rmeets {a b : Rc} (k : R (.returned (.bool (!emptyR (cutR a b)))) H) : Meets prog 101 [rcV a, rcV b] H R := by
  refine spec_of func101 (by kernel_rfl) (fun t h => by cases h) ?_ (vc_rmeets a.x0 a.y0 a.x1 a.y1 b.x0 b.y0 b.x1 b.y1 R H) ?_
  · simp [argsR, SV.rep, SegsRep, SC.rep, one]
  unfold nf_rmeets
  exact s_rcut ⟨_, _, _, _, rfl, s_rempty ⟨_, rfl, k⟩⟩
theorem s_rwithin {a b : Rc} (k : R (.returned (.bool (emptyR a || cutR a b == a))) H) : Meets prog 105 [rcV a, rcV b] H R := by
  refine spec_of func105 (by kernel_rfl) (fun t h => ?_) ?_ (vc_rwithin a.x0 a.y0 a.x1 a.y1 b.x0 b.y0 b.x1 b.y1 R H) ?_
  · have : t = 46 := memN_one h
    subst this
    exact eqOK_of (by kernel_rfl) (by kernel_rfl) (by kernel_rfl)
  · simp [argsR, SV.rep, SegsRep, SC.rep, one]
  unfold nf_rwithin
  refine ⟨_, none_le _, s_rempty ⟨keep_none _ _, _, rfl, br (fun q => by rw [q] at k; exact k) fun q => s_rcut ⟨keep_none _ _, _, _, _, _, rfl, ?_⟩⟩⟩
  rw [q, Bool.false_or] at k
  have e : (cutR a b == a) = andO (some (andO (some (andO (some (andO none ((cutR a b).x0 == a.x0))) ((cutR a b).y0 == a.y0))) ((cutR a b).x1 == a.x1))) ((cutR a b).y1 == a.y1) := by
    generalize cutR a b = c
    by_cases h : c = a
    · subst h; simp [andO]
    · rw [beq_eq_false_iff_ne.2 h]
      symm
      rw [Bool.eq_false_iff]
      intro hh
      refine h ?_
      simp only [andO, Bool.and_eq_true, beq_iff_eq] at hh
      cases a; cases c
      simp_all
  rw [e] at k
  exact k
theorem s_crect {x y : Int} {h : Nat} (hh : h ≤ 32) (hx : Cor h x) (hy : Cor h y) (k : R (.returned (rcV (cellR h x y))) H) : Meets prog 102 [ceV x y (32 - (h : Int))] H R := by
  refine spec_of func102 (by kernel_rfl) (fun t h => by cases h) ?_ (vc_crect x y (32 - (h : Int)) R H) ?_
  · simp [argsR, SV.rep, SegsRep, SC.rep, one]
  unfold nf_crect
  have hp := pow_le hh
  refine s_fix hh (lv_fix hh) (hx.lt hh) (hy.lt hh) ⟨_, _, _, rfl, s_side hh rfl ⟨_, rfl, ?_⟩⟩
  rw [hx.fix, hy.fix, or_add hx.2.2 hx.1 (by omega) (by omega) (by have := hx.2.1; omega), or_add hy.2.2 hy.1 (by omega) (by omega) (by have := hy.2.1; omega)]
  exact k
end
def lkL (g : Addr) (q : Rc) (r : Nat) (s : Value) (n : Int) : List Value := [.pointer (some g), .int .u32 q.x0, .int .u32 q.y0, .int .u32 q.x1, .int .u32 q.y1, .map (some r), s, vi n]
structure Lk where
  met : Int → Bool
  out : List Pt
  n : Int
/-- One who looks stands at b, its map at r; what is in G is as it was. -/
def LkAt (G : Heap) (g : Addr) (q : Rc) (b r : Nat) (C : Lk) (H : Heap) : Prop :=
  G ≤ H ∧ G b = none ∧ G r = none ∧ b ≠ r ∧ (∃ l, MapAt H r .i64 l ∧ ∀ id, getL l id = if C.met id then some (.bool true) else none) ∧
    ∃ a n c, H b = some (.cells (lkL g q r (.slice a n c) C.n).toArray 111 (0, 0)) ∧ RowAt H (.slice a n c) tPt 4 (pts C.out) ∧ ∀ k, blockOf (.slice a n c) = some k → G k = none ∧ k ≠ b ∧ k ≠ r
section
variable {R : Ending → Heap → Prop} {H : Heap} {G : Heap} {g : Addr} {q : Rc} {b r : Nat} {C : Lk}
theorem LkAt.mono {H' : Heap} (h : LkAt G g q b r C H) (hle : H ≤ H') : LkAt G g q b r C H' := by
  obtain ⟨h1, h2, h3, h4, ⟨l, h5, h6⟩, a, n, c, h8, h9, h10⟩ := h
  exact ⟨heap_trans h1 hle, h2, h3, h4, ⟨l, map_same h5 (fun o e => hle _ _ e), h6⟩, a, n, c, hle _ _ h8, row_le h9 (fun b o _ e => hle _ _ e), h10⟩
theorem LkAt.put (h : LkAt G g q b r C H) (id : Int) : ∃ es clk, (H r = some (.map es clk) ∧ IntKeys .i64 es.toList) ∧ LkAt G g q b r ⟨fun j => j == id || C.met j, C.out, C.n⟩ (H.upd r (mapPut es clk .i64 id (.bool true))) := by
  obtain ⟨h1, h2, h3, h4, ⟨l, h5, h6⟩, a, n, c, h8, h9, h10⟩ := h
  obtain ⟨es, clk, e1, e2⟩ := map_put h5 id (.bool true)
  refine ⟨es, clk, e1, le_upd h1 h3 _, h2, h3, h4, ⟨_, e2, fun j => ?_⟩, a, n, c, ?_, row_le h9 (fun k o e q => ?_), h10⟩
  · rw [getL_putL, h6]
    by_cases e : j = id
    · subst e; simp
    · simp [e]
  · rw [upd_ne _ _ h4]; exact h8
  · rw [upd_ne _ _ (h10 k e).2.2]; exact q
theorem LkAt.rect (h : LkAt G g q b r C H) : H.has (Addr.add ⟨b, 0, none⟩ 1) (rcL q) := by
  obtain ⟨_, _, _, _, _, a, n, c, h8, _⟩ := h
  intro j x hj
  rw [add_spot rfl, add_spot rfl]
  have := has_cells h8 (1 + j) x (by
    have h4 : j < 4 := (List.getElem?_eq_some_iff.1 hj).1
    match j, h4 with
    | 0, _ | 1, _ | 2, _ | 3, _ => exact hj)
  rw [add_spot rfl] at this
  simpa [Nat.add_assoc] using this
/-- The number is one more. -/
theorem LkAt.more (h : LkAt G g q b r C H) (m : Int) : H.has (Addr.add ⟨b, 0, none⟩ 7) [vi C.n] ∧ ∃ c ty, (H (Addr.add ⟨b, 0, none⟩ 7).block = some (.cells c ty (0, 0)) ∧ (Addr.add ⟨b, 0, none⟩ 7).spot = none ∧ (Addr.add ⟨b, 0, none⟩ 7).off + 1 ≤ c.size) ∧
    LkAt G g q b r ⟨C.met, C.out, m⟩ (H.upd (Addr.add ⟨b, 0, none⟩ 7).block (.cells (writeCells c (Addr.add ⟨b, 0, none⟩ 7).off [vi m]) ty (0, 0))) := by
  obtain ⟨h1, h2, h3, h4, ⟨l, h5, h6⟩, a, n, c, h8, h9, h10⟩ := h
  obtain ⟨p1, p2⟩ := cells_put h8 (k := 7) (by simp [lkL]) (vi m)
  refine ⟨cells_at h8 (k := 7) rfl, _, _, p1, ?_⟩
  rw [p2]
  exact ⟨le_upd h1 h2 _, h2, h3, h4, ⟨l, map_same h5 (fun o e => by rw [upd_ne _ _ (Ne.symm h4)]; exact e), h6⟩, a, n, c, upd_same _ _ _, row_le h9 (fun k o e q => by rw [upd_ne _ _ (h10 k e).2.1]; exact q), h10⟩
/-- A point is appended. -/
theorem LkAt.push (h : LkAt G g q b r C H) (hl : C.out.length ≤ 1000000) (p : Pt) {X : Heap → Prop} (hX : ∀ H', LkAt G g q b r ⟨C.met, C.out ++ [p], C.n⟩ H' → X H') :
    ∃ (a : Option Addr) (n c : Nat), H.has (Addr.add ⟨b, 0, none⟩ 6) [.slice a n c] ∧ ∃ es : List (List Value), RowAt H (.slice a n c) tPt 4 es ∧ (List.append es [ptC p]).length * 32 ≤ 140737488355328 ∧
      PtrK (some ⟨b, 0, none⟩) fun a_1 => PtrK (some a_1) fun a_2 => ∀ (v : Value) (H' : Heap), H.delO (blockOf (.slice a n c)) ≤ H' → (∀ b, blockOf v = some b → (H.delO (blockOf (.slice a n c))) b = none) → (∀ (b : Nat) (o : Obj), H' b = some o → (H.delO (blockOf (.slice a n c))) b = some o ∨ blockOf v = some b) → RowAt H' v tPt 4 (List.append es [ptC p]) →
        PtrK (some (Addr.add a_2 6)) fun A => ∃ (c : Array Value) (ty : TypeId), (H' A.block = some (.cells c ty (0, 0)) ∧ A.spot = none ∧ A.off + 1 ≤ c.size) ∧ X (H'.upd A.block (.cells (writeCells c A.off [v]) ty (0, 0))) := by
  obtain ⟨f1, f2, f3, f4, ⟨l3, f5, f6⟩, a3, n3, c3, f8, f9, f10⟩ := h
  refine ⟨a3, n3, c3, cells_at f8 (k := 6) rfl, _, f9, by simp [append_eq]; omega, ptr rfl (ptr rfl fun v H3 g1 g2 _ g4 => ptr rfl ?_)⟩
  obtain ⟨a4, c4, rfl⟩ := row_val g4
  have keep : ∀ x ob, (∀ k, blockOf (.slice a3 n3 c3) = some k → k ≠ x) → H x = some ob → H3 x = some ob := fun x ob h1 h2 => g1 _ _ (delO_keep h1 h2)
  have hb3 := keep b _ (fun k e => (f10 k e).2.1) f8
  have hG3 : G ≤ H3 := fun x ob e => keep x ob (fun k e' => by rintro rfl; rw [(f10 k e').1] at e; cases e) (f1 _ _ e)
  have fresh : ∀ k, blockOf (.slice a4 (List.append (pts C.out) [ptC p]).length c4) = some k → ∀ x ob, (∀ k, blockOf (.slice a3 n3 c3) = some k → k ≠ x) → H x = some ob → k ≠ x := fun k e x ob h1 h2 => by
    rintro rfl
    have := g2 k e
    rw [delO_keep h1 h2] at this; cases this
  obtain ⟨p1, p2⟩ := cells_put hb3 (k := 6) (by simp [lkL]) (.slice a4 (List.append (pts C.out) [ptC p]).length c4)
  refine ⟨_, _, p1, hX _ ?_⟩
  rw [p2]
  have hnb : ∀ k, blockOf (.slice a4 (List.append (pts C.out) [ptC p]).length c4) = some k → k ≠ b := fun k e => fresh k e b _ (fun k e => (f10 k e).2.1) f8
  have hmap : ∃ es clk, H r = some (.map es clk) := by obtain ⟨es, clk, e, _⟩ := f5; exact ⟨es, clk, e⟩
  obtain ⟨es3, clk3, hm3⟩ := hmap
  refine ⟨le_upd hG3 f2 _, f2, f3, f4, ⟨l3, map_same f5 (fun o e => ?_), f6⟩, a4, _, c4, upd_same _ _ _, ?_, fun k e => ⟨?_, hnb k e, fresh k e r _ (fun k e => (f10 k e).2.2) hm3⟩⟩
  · rw [upd_ne _ _ (Ne.symm f4)]; exact keep r o (fun k e => (f10 k e).2.2) e
  · have : pts (C.out ++ [p]) = List.append (pts C.out) [ptC p] := by simp [pts, append_eq]
    rw [this]
    exact row_le g4 fun k o e q => by rw [upd_ne _ _ (hnb k e)]; exact q
  · cases e' : G k with
    | none => rfl
    | some ob => exact absurd rfl (fresh k e k ob (fun k' e2 e3 => by rw [e3] at e2; rw [(f10 k e2).1] at e'; cases e') (f1 _ _ e'))
theorem LkAt.weak {G2 : Heap} (h : LkAt G2 g q b r C H) (hle : G ≤ G2) : LkAt G g q b r C H := by
  have nn : ∀ x, G2 x = none → G x = none := fun x e => by
    cases e' : G x with
    | none => rfl
    | some o => rw [hle _ _ e'] at e; cases e
  obtain ⟨h1, h2, h3, h4, h5, a, n, c, h8, h9, h10⟩ := h
  exact ⟨heap_trans hle h1, nn _ h2, nn _ h3, h4, h5, a, n, c, h8, h9, fun k e => ⟨nn _ (h10 k e).1, (h10 k e).2⟩⟩
/-- What is new in memory stays, too. -/
theorem LkAt.more_mem {H0 : Heap} {v : Value} {ty sz : Nat} {es : List (List Value)} (h0 : LkAt G g q b r C H0) (hle : H0 ≤ H) (hfr : ∀ k, blockOf v = some k → H0 k = none) (hv : RowAt H v ty sz es) : ∃ G2, G ≤ G2 ∧ SliceAt G2 v sz es ∧ LkAt G2 g q b r C H := by
  obtain ⟨h1, h2, h3, h4, ⟨l, m0, h6⟩, a, n, c, h8, h9, h10⟩ := h0
  have m0' := m0
  obtain ⟨es0, clk0, m1, _⟩ := m0
  have nb : ∀ k, blockOf v = some k → k ≠ b := fun k e e' => by subst e'; have := hfr _ e; rw [h8] at this; cases this
  have nr : ∀ k, blockOf v = some k → k ≠ r := fun k e e' => by subst e'; have := hfr _ e; rw [m1] at this; cases this
  have nout : ∀ k, blockOf v = some k → ∀ k', blockOf (.slice a n c) = some k' → k ≠ k' := fun k e k' e2 e' => by
    subst e'
    have := hfr _ e
    rcases h9 with ⟨q1, _⟩ | ⟨b2, o, cap, cc, q1, q2, _⟩
    · rw [q1] at e2; cases e2
    · rw [q1] at e2; cases e2; rw [this] at q2; cases q2
  refine ⟨fun x => if blockOf v = some x then H x else G x, fun x o e => ?_, row_slice (row_le hv fun k o e e2 => ?_), fun x o e => ?_, ?_, ?_, h4, ⟨l, map_same m0' fun o e => hle _ _ e, h6⟩, a, n, c, hle _ _ h8, row_le h9 fun k o _ e => hle _ _ e, fun k e => ⟨?_, (h10 k e).2⟩⟩
  · show (if blockOf v = some x then H x else G x) = some o
    split
    · exact hle _ _ (h1 _ _ e)
    · exact e
  · show (if blockOf v = some k then H k else G k) = some o
    rw [if_pos e]; exact e2
  · have e : (if blockOf v = some x then H x else G x) = some o := e
    split at e
    · exact e
    · exact hle _ _ (h1 _ _ e)
  · show (if blockOf v = some b then H b else G b) = none
    rw [if_neg fun e => nb _ e rfl]; exact h2
  · show (if blockOf v = some r then H r else G r) = none
    rw [if_neg fun e => nr _ e rfl]; exact h3
  · show (if blockOf v = some k then H k else G k) = none
    rw [if_neg fun e' => nout _ e' _ e rfl]; exact (h10 k e).1
theorem s_own' {v : Value} {d : Nd} (h : NdAt H v d) (hl : d.pts.length ≤ 1000000) (k : ∀ a n c H', H ≤ H' → (∀ b, blockOf (.slice a n c) = some b → H b = none) → RowAt H' (.slice a n c) tPt 4 (pts d.pts) → d.kids.length = 4 → d.counts.length = 4 → R (.returned (ndV d.leaf a n c d.next d.kids d.counts)) H') :
    Meets prog 84 [v] H R := by
  obtain ⟨a, n, c, rfl, h1, h2, h3⟩ := h
  refine spec_of func84 (by kernel_rfl) (fun t h => by cases h) ?_ (vc_own d.leaf a n c d.next d.kids d.counts R H) ?_
  · simp [argsR, SV.rep, SegsRep, SC.rep, one, h2, h3]
  unfold nf_own
  refine s_clone h1 hl fun v H' hle hfr hr => ?_
  obtain ⟨a', c', rfl⟩ := row_val hr
  exact ⟨_, _, _, rfl, k _ _ _ _ hle hfr hr h2 h3⟩
theorem s_get' {g : Addr} {r : Nat} {m : Int → Option Nd} {id : Int} (h : GroveAt H g r m) (hs : ∀ d, m id = some d → d.pts.length ≤ 1000000) (k : ∀ a n c H', H ≤ H' → (∀ b, blockOf (.slice a n c) = some b → H b = none) → RowAt H' (.slice a n c) tPt 4 (pts ((m id).getD nd0).pts) → ((m id).getD nd0).kids.length = 4 → ((m id).getD nd0).counts.length = 4 →
      R (.returned (.tuple #[ndV ((m id).getD nd0).leaf a n c ((m id).getD nd0).next ((m id).getD nd0).kids ((m id).getD nd0).counts, .bool (m id).isSome])) H') :
    Meets prog 50 [.pointer (some g), vi id] H R := by
  refine spec_of func50 (by kernel_rfl) (fun t h => by cases h) ?_ (vc_get (some g) id R H) ?_
  · simp [argsR, SV.rep, SC.rep, one]
  unfold nf_get
  obtain ⟨h1, l, h2, h3⟩ := h
  refine s_is h1 ⟨_, rfl, br (fun q => by simp at q) fun _ => ptr rfl (ptr rfl (ptr rfl ⟨_, h1, ?_⟩))⟩
  have hlk := map_look h2 id (ndV false none 0 0 0 z4 z4)
  obtain ⟨v, hv, hvd, hb⟩ : ∃ v, ((getL l id).getD (ndV false none 0 0 0 z4 z4)) = v ∧ NdAt H v ((m id).getD nd0) ∧ (getL l id).isSome = (m id).isSome := by
    rcases h3 id with ⟨e1, e2⟩ | ⟨v, d, e1, e2, e3⟩
    · rw [e1, e2]; exact ⟨_, rfl, NdAt.zero H, rfl⟩
    · rw [e1, e2]; exact ⟨_, rfl, e3, rfl⟩
  rw [hv, hb] at hlk
  obtain ⟨a, n, c, rfl, hs1, hk, hc⟩ := hvd
  refine ⟨_, a, n, c, _, _, hk, _, hc, _, hlk, ?_⟩
  refine s_own' (d := (m id).getD nd0) ⟨a, n, c, rfl, hs1, hk, hc⟩ ?_ fun a' n' c' H' hle hfr hrow _ _ => ?_
  · cases e : m id with
    | none => simp
    | some d => exact hs d e
  · exact ⟨_, a', n', c', _, _, hk, _, hc, rfl, k _ _ _ _ hle hfr hrow hk hc⟩
theorem s_wget {r0 : Nat} {m : M} {id : Int} (hC : LkAt G g q b r C H) (hg : GroveAt G g r0 m) (hD : Dom m)
    (k1 : m id = none ∨ C.met id = true → ∀ v H', NdAt H' v nd0 → LkAt G g q b r C H' → R (.returned (.tuple #[v, .bool false])) H')
    (k2 : ∀ d, m id = some d → C.met id = false → ∀ v G2 H', G ≤ G2 → NdAt G2 v d → LkAt G2 g q b r ⟨fun j => j == id || C.met j, C.out, C.n⟩ H' → R (.returned (.tuple #[v, .bool true])) H') : Meets prog 100 [.pointer (some ⟨b, 0, none⟩), vi id] H R := by
  refine spec_of func100 (by kernel_rfl) (fun t h => by cases h) ?_ (vc_wget ⟨b, 0, none⟩ id R H) ?_
  · simp [argsR, SV.rep, SC.rep, one]
  unfold nf_wget
  have hC0 := hC
  obtain ⟨h1, h2, h3, h4, ⟨l, h5, h6⟩, a, n, c, h8, h9, h10⟩ := hC0
  refine ptr rfl (ptr rfl (ptr rfl ⟨_, cells_at h8 (k := 0) rfl, ?_⟩))
  refine s_get' (hg.le h1) (fun d e => Nat.le_trans (hD.few e) (by omega)) fun a' n' c' H1 hle hfr hrow hk hc => ?_
  have hC1 := hC.mono hle
  refine ⟨_, a', n', c', _, _, hk, _, hc, _, rfl, br (fun q => k1 (.inl (by simpa using q)) _ _ (NdAt.zero _) hC1) fun q => ?_⟩
  obtain ⟨d, hd⟩ : ∃ d, m id = some d := by
    cases e : m id with
    | none => rw [e] at q; simp at q
    | some d => exact ⟨d, rfl⟩
  have hC2 := hC1
  obtain ⟨d1, d2, d3, d4, ⟨l', d5, d6⟩, a2, n2, c2, d8, d9, d10⟩ := hC1
  have hlk := map_look d5 id (.bool false)
  rw [d6] at hlk
  cases hm : C.met id with
  | true =>
    rw [hm] at hlk
    exact ptr rfl (ptr rfl (ptr rfl ⟨_, cells_at d8 (k := 5) rfl, true, ⟨_, hlk⟩, br (fun _ => k1 (.inr hm) _ _ (NdAt.zero _) hC2) fun q => by cases q⟩))
  | false =>
    rw [hm] at hlk
    obtain ⟨G2, hG2, hsl, hC4⟩ := hC.more_mem hle hfr hrow
    obtain ⟨es, clk, e1, hC3⟩ := hC4.put id
    refine ptr rfl (ptr rfl (ptr rfl ⟨_, cells_at d8 (k := 5) rfl, false, ⟨_, hlk⟩, br (fun q => by cases q) fun _ => ptr rfl (ptr rfl (ptr rfl ⟨_, cells_at d8 (k := 5) rfl, mapk rfl ⟨es, clk, e1, ?_⟩⟩))⟩))
    have hv2 : NdAt G2 (ndV ((m id).getD nd0).leaf a' n' c' ((m id).getD nd0).next ((m id).getD nd0).kids ((m id).getD nd0).counts) ((m id).getD nd0) := ⟨a', n', c', rfl, hsl, hk, hc⟩
    rw [hd] at hv2 ⊢
    exact k2 d hd hm _ G2 _ hG2 hv2 hC3
end
end Cr

set_option linter.unusedVariables false
set_option linter.unusedSimpArgs false
namespace Cr
open Go Sx Stb Bt
open Go.Proofs.Try
set_option maxRecDepth 100000
theorem filter_snoc {l : List Pt} {t : Nat} {p : Pt} {f : Pt → Bool} (h : l.take (t + 1) = l.take t ++ [p]) : (l.take (t + 1)).filter f = (l.take t).filter f ++ if f p = true then [p] else [] := by
  rw [h, List.filter_append, List.filter_cons, List.filter_nil]
section
variable {R : Ending → Heap → Prop} {H : Heap} {G : Heap} {g : Addr} {q : Rc} {b r : Nat} {C : Lk}
theorem s_wgat_not {r0 : Nat} {m : M} {id x y lv : Int} (hC : LkAt G g q b r C H) (hg : GroveAt G g r0 m) (hD : Dom m) (hn : m id = none ∨ C.met id = true) (k : ∀ H', LkAt G g q b r C H' → R (.returned unitV) H') :
    Meets prog 69 [.pointer (some ⟨b, 0, none⟩), vi id, ceV x y lv] H R := by
  refine spec_of func69 (by kernel_rfl) (fun t h => by cases h) ?_ (vc_wgat ⟨b, 0, none⟩ id x y lv R H) ?_
  · simp [argsR, SV.rep, SegsRep, SC.rep, one]
  unfold nf_wgat
  refine s_wget hC hg hD (fun _ v H' hv hC' => ?_) fun d hd hm => ?_
  · obtain ⟨a, n, c, rfl, _, hk, hc⟩ := hv
    exact ⟨_, a, n, c, _, _, hk, _, hc, _, rfl, _, heap_refl _, br (fun _ => k _ hC') fun q => by cases q⟩
  · rcases hn with h | h
    · rw [h] at hd; cases hd
    · rw [h] at hm; cases hm
theorem s_wgat_node {r0 : Nat} {m : M} {id x y : Int} {h : Nat} {d : Nd} (hC : LkAt G g q b r C H) (hg : GroveAt G g r0 m) (hD : Dom m) (hd : m id = some d) (hm : C.met id = false) (hh : h ≤ 32) (hx : Cor h x) (hy : Cor h y) (hl : C.out.length + d.pts.length ≤ 1000000)
    (k0 : meetB h x y q = false → ∀ H', LkAt G g q b r ⟨fun j => j == id || C.met j, C.out, C.n⟩ H' → R (.returned unitV) H')
    (k1 : meetB h x y q = true → d.leaf = true → ∀ H', LkAt G g q b r ⟨fun j => j == id || C.met j, C.out ++ d.pts.filter (hasP q), C.n⟩ H' → Meets prog 69 [.pointer (some ⟨b, 0, none⟩), vi d.next, ceV x y (32 - (h : Int))] H' fun e H'' => e = .returned unitV ∧ R (.returned unitV) H'')
    (I : Nat → Heap → Prop)
    (k2 : meetB h x y q = true → d.leaf = false → ∀ H', LkAt G g q b r ⟨fun j => j == id || C.met j, C.out ++ d.pts.filter (hasP q), C.n⟩ H' → I 0 H')
    (k3 : d.leaf = false → ∃ h', h = h' + 1 ∧ ∀ u, u < 4 → ∀ H', I u H' → ∀ R', (∀ H'', I (u + 1) H'' → R' (.returned unitV) H'') → Meets prog 69 [.pointer (some ⟨b, 0, none⟩), vi (d.kids.getD u 0), ceV (x + ((u % 2 : Nat) : Int) * 2 ^ h') (y + ((u / 2 : Nat) : Int) * 2 ^ h') (32 - (h' : Int))] H' R')
    (k4 : ∀ H', I 4 H' → R (.returned unitV) H') :
    Meets prog 69 [.pointer (some ⟨b, 0, none⟩), vi id, ceV x y (32 - (h : Int))] H R := by
  refine spec_of func69 (by kernel_rfl) (fun t h => by cases h) ?_ (vc_wgat ⟨b, 0, none⟩ id x y (32 - (h : Int)) R H) ?_
  · simp [argsR, SV.rep, SegsRep, SC.rep, one]
  unfold nf_wgat
  refine s_wget hC hg hD (fun hn => ?_) fun d' hd' _ v G2 H1 hG2 hv hC1 => ?_
  · exfalso
    rcases hn with h | h
    · rw [h] at hd; cases hd
    · rw [h] at hm; cases hm
  rw [hd] at hd'; cases hd'
  obtain ⟨a, n, c, rfl, hs, hk, hc⟩ := hv
  have hln : d.pts.length = n := by simpa [pts] using (slice_len hs).1
  refine ⟨_, a, n, c, _, _, hk, _, hc, _, rfl, _, heap_refl _, br (fun q => by cases q) fun _ => ptr rfl (ptr rfl (ptr rfl ⟨_, _, _, _, hC1.rect, s_crect hh hx hy ⟨keep_same _ _ _, _, _, _, _, rfl, s_rmeets ⟨keep_same _ _ _, _, rfl, br (fun q1 => ?_) fun q1 => ?_⟩⟩⟩))⟩
  · have q1 : (!meetB h x y q) = true := q1
    exact k0 (by simpa using q1) _ (hC1.weak hG2)
  have q1 : (!meetB h x y q) = false := q1
  have hmt : meetB h x y q = true := by simpa using q1
  simp only [true_and, delLs_nil]
  refine ⟨fun p H' => ∃ t : Nat, p.1.1 = (t : Int) ∧ t ≤ n ∧ LkAt G2 g q b r ⟨fun j => j == id || C.met j, C.out ++ (d.pts.take t).filter (hasP q), C.n⟩ H', fun p _ => (n - p.1.1).toNat, ⟨0, rfl, by omega, by simpa using hC1⟩, ?_⟩
  rintro ⟨⟨i, _⟩, _⟩ H2 ⟨t, hi, ht, hC2⟩
  simp only at hi ⊢
  subst hi
  refine br (fun q2 => ?_) fun q2 => ?_
  · simp only [decide_eq_true_eq] at q2
    obtain ⟨p, _, htk, hpx⟩ := drop_cons (l := d.pts) (k := t) (by omega)
    obtain ⟨A, e, gp⟩ := pr_get (slice_le hs hC2.1) hpx
    subst e
    have hfl : ((d.pts.take t).filter (hasP q)).length ≤ d.pts.length := Nat.le_trans (List.length_filter_le _ _) (by simp; omega)
    have hfs := filter_snoc (f := hasP q) htk
    rw [Int.toNat_natCast, w64 (by omega)]
    refine ⟨⟨by omega, by omega⟩, ptr rfl (ptr rfl ⟨_, _, _, _, gp, _, heap_refl _, ptr rfl (ptr rfl (ptr rfl ⟨_, _, _, _, hC2.rect, s_rhas ⟨keep_same _ _ _, _, rfl, br (fun q3 => ?_) fun q3 => ?_⟩⟩))⟩)⟩
    · have q3 : hasP q p = true := q3
      rw [if_pos q3] at hfs
      obtain ⟨a9, n9, c9, w1, es9, w2, w3, w4⟩ := hC2.push (X := fun H' => LkAt G2 g q b r ⟨fun j => j == id || C.met j, C.out ++ (d.pts.take t).filter (hasP q) ++ [p], C.n⟩ H') (by simp; omega) p fun _ h => h
      refine ptr rfl (ptr rfl (ptr rfl ⟨a9, n9, c9, w1, es9, w2, w3, ptr rfl (ptr rfl fun v H' g1 g2 g3 g4 => ptr rfl ?_)⟩))
      obtain ⟨c', ty', w5, hC'⟩ := w4 v H' g1 g2 g3 g4
      exact ⟨c', ty', w5, ⟨t + 1, by omega, by omega, by rw [hfs, ← List.append_assoc]; exact hC'⟩, by omega⟩
    · have q3 : hasP q p = false := q3
      rw [if_neg (by rw [q3]; simp), List.append_nil] at hfs
      exact ⟨⟨t + 1, by omega, by omega, by rw [hfs]; exact hC2⟩, by omega⟩
  · simp only [decide_eq_false_iff_not] at q2
    obtain rfl : t = n := by omega
    rw [List.take_of_length_le (by omega)] at hC2
    have hC3 := hC2.weak hG2
    refine br (fun q3 => k1 hmt q3 _ hC3) fun q3 => ?_
    obtain ⟨h', rfl, k5⟩ := k3 q3
    refine ⟨fun p H' => ∃ u : Nat, p.1.1 = (u : Int) ∧ u ≤ 4 ∧ I u H', fun p _ => (4 - p.1.1).toNat, ⟨0, rfl, by omega, k2 hmt q3 _ hC3⟩, ?_⟩
    rintro ⟨⟨i, _⟩, _⟩ H5 ⟨u, hi, hu, hI⟩
    simp only at hi ⊢
    subst hi
    refine br (fun q4 => ?_) fun q4 => ?_
    · simp only [decide_eq_true_eq] at q4
      rw [Int.toNat_natCast]
      refine ⟨⟨by omega, by omega⟩, s_kid (h := h') (by omega) hx hy (by omega) ⟨_, _, _, rfl, k5 u (by omega) _ hI _ fun H6 hI6 => ⟨rfl, ⟨u + 1, ?_, by omega, hI6⟩, ?_⟩⟩⟩ <;> rw [w64 (by omega)] <;> omega
    · simp only [decide_eq_false_iff_not] at q4
      obtain rfl : u = 4 := by omega
      exact k4 _ hI
/-- What may have been met. -/
def MetIn (met met' : Int → Bool) (I : List Int) : Prop := ∀ j, j ∉ I → met' j = met j
theorem MetIn.id (met : Int → Bool) (id : Int) : MetIn met (fun j => j == id || met j) [id] := fun j hj => by
  have : j ≠ id := by simpa using hj
  simp [this]
theorem MetIn.trans {a b' c : Int → Bool} {I J : List Int} (h : MetIn a b' I) (h' : MetIn b' c J) : MetIn a c (I ++ J) := fun j hj => by
  rw [List.mem_append, not_or] at hj
  rw [h' j hj.2, h j hj.1]
theorem MetIn.mono {a b' : Int → Bool} {I J : List Int} (h : MetIn a b' I) (hs : ∀ i ∈ I, i ∈ J) : MetIn a b' J := fun j hj => h j fun hi => hj (hs j hi)
theorem s_wgat_chain {r0 : Nat} {m : M} (hg : GroveAt G g r0 m) (hD : Dom m) : ∀ (T : List Int) {L : List Pt} {C : Lk} {id x y : Int} {h : Nat} {H : Heap} {R : Ending → Heap → Prop}, h ≤ 32 → Cor h x → Cor h y → InC h x y L → T.head? = some id → ChP m T L → T.Nodup → (∀ j ∈ T, C.met j = false) → C.out.length + L.length ≤ 1000000 → LkAt G g q b r C H →
    (∀ H' met' P, MetIn C.met met' T → P.Perm (L.filter (hasP q)) → LkAt G g q b r ⟨met', C.out ++ P, C.n⟩ H' → R (.returned unitV) H') → Meets prog 69 [.pointer (some ⟨b, 0, none⟩), vi id, ceV x y (32 - (h : Int))] H R := by
  have hm0 : m 0 = none := by
    cases e : m 0 with
    | none => rfl
    | some d => have := (hD 0 d e).1; omega
  intro T
  induction T with
  | nil => intro L C id x y h H R _ _ _ _ e; cases e
  | cons i T ih =>
    intro L C id x y h H R hh hx hy hin e hc hn hm hl hC k
    cases e
    cases T with
    | nil =>
      obtain ⟨h4, hd⟩ := hc
      refine s_wgat_node hC hg hD hd (hm _ (List.mem_singleton.2 rfl)) hh hx hy hl (fun hmt H' hC' => ?_) (fun _ _ H' hC' => ?_) (fun _ _ => False) (fun _ hf => by cases hf) (fun hf => by cases hf) (fun H' hf => hf.elim)
      · refine k H' _ [] (MetIn.id _ _) ?_ (by simpa using hC')
        rw [filter_none hh hin hmt]
      · exact s_wgat_not hC' hg hD (.inl hm0) fun H'' hC'' => ⟨rfl, k H'' _ _ (MetIn.id _ _) (List.Perm.refl _) hC''⟩
    | cons nx T =>
      obtain ⟨h4, hd, hr⟩ := hc
      have hn' := List.nodup_cons.1 hn
      have hin4 : InC h x y (L.drop 4) := fun p hp => hin p (List.mem_of_mem_drop hp)
      have htl : (L.take 4).length + (L.drop 4).length = L.length := by simp; omega
      have hfe : (L.take 4).filter (hasP q) ++ (L.drop 4).filter (hasP q) = L.filter (hasP q) := by rw [← List.filter_append, List.take_append_drop]
      have hfl : ((L.take 4).filter (hasP q)).length ≤ (L.take 4).length := List.length_filter_le _ _
      refine s_wgat_node hC hg hD hd (hm _ (List.mem_cons_self ..)) hh hx hy (by simp only; omega) (fun hmt H' hC' => ?_) (fun _ _ H' hC' => ?_) (fun _ _ => False) (fun _ hf => by cases hf) (fun hf => by cases hf) (fun H' hf => hf.elim)
      · refine k H' _ [] ((MetIn.id _ _).mono fun j hj => ?_) ?_ (by simpa using hC')
        · rw [List.mem_singleton.1 hj]; exact List.mem_cons_self ..
        · rw [filter_none hh hin hmt]
      · refine ih hh hx hy hin4 rfl hr hn'.2 (fun j hj => ?_) (by simp only [List.length_append]; omega) hC' fun H'' met' P h1 h2 h3 => ⟨rfl, k H'' met' ((L.take 4).filter (hasP q) ++ P) (((MetIn.id _ _).trans h1).mono fun j hj => hj) ?_ ?_⟩
        · show (j == i || C.met j) = false
          rw [hm j (List.mem_cons_of_mem _ hj)]
          have : j ≠ i := fun e => hn'.1 (e ▸ hj)
          simp [this]
        · rw [← hfe]; exact h2.append_left _
        · rw [← List.append_assoc]; exact h3
theorem JJ_sub (J : Nat → List Int) : ∀ u, u < 4 → (JJ J (u + 1)).Sublist (JJ J 4) := fun u hu => by
  rcases four_eq hu with rfl | rfl | rfl | rfl
  · simp [JJ]
  · simp [JJ]
  · simp only [JJ]; exact List.sublist_append_left _ _
  · exact List.Sublist.refl _
/-- The points of some quarters. -/
def QQ (h : Nat) (L : List Pt) : Nat → List Pt
  | 0 => []
  | u + 1 => QQ h L u ++ quarter h u L
theorem QQ_perm {h : Nat} {L : List Pt} (hr : ∀ p ∈ L, PtR p) : (QQ h L 4).Perm L := by
  have := quarters_perm (h := h) hr
  simpa [QQ] using this
theorem s_wgat_tree {r0 : Nat} {m : M} (hg : GroveAt G g r0 m) (hD : Dom m) : ∀ (h : Nat) {L : List Pt} {I : List Int} {C : Lk} {id x y : Int} {H : Heap} {R : Ending → Heap → Prop}, h ≤ 32 → Cor h x → Cor h y → InC h x y L → (∀ p ∈ L, PtR p) → TrP m h id L I → I.Nodup → (∀ j ∈ I, C.met j = false) → C.out.length + L.length ≤ 1000000 → LkAt G g q b r C H →
    (∀ H' met' P, MetIn C.met met' I → P.Perm (L.filter (hasP q)) → LkAt G g q b r ⟨met', C.out ++ P, C.n⟩ H' → R (.returned unitV) H') → Meets prog 69 [.pointer (some ⟨b, 0, none⟩), vi id, ceV x y (32 - (h : Int))] H R := by
  have hm0 : m 0 = none := by
    cases e : m 0 with
    | none => rfl
    | some d => have := (hD 0 d e).1; omega
  intro h
  induction h with
  | zero => intro L I C id x y H R hh hx hy hin hpr ht hn hm hl hC k; exact s_wgat_chain hg hD I hh hx hy hin ht.1 ht.2 hn hm hl hC k
  | succ h ih =>
    intro L I C id x y H R hh hx hy hin hpr ht hn hm hl hC k
    unfold TrP at ht
    by_cases h4 : L.length ≤ 4
    · rw [if_pos h4] at ht
      obtain ⟨rfl, hch⟩ := ht
      exact s_wgat_chain hg hD _ hh hx hy hin rfl hch hn hm hl hC k
    · rw [if_neg h4] at ht
      obtain ⟨ks, cs, J, hd, hk4, hc4, rfl, hJ⟩ := ht
      have hI : id :: (J 0 ++ (J 1 ++ (J 2 ++ J 3))) = id :: JJ J 4 := by simp [JJ]
      rw [hI] at hn hm k
      have sub := JJ_sub J
      have hqp := QQ_perm (h := h) hpr
      have hql : ∀ u, u ≤ 4 → (QQ h L u).length + (if u < 4 then (quarter h u L).length else 0) ≤ L.length := fun u hu => by
        rw [← hqp.length_eq]
        have : u = 0 ∨ u = 1 ∨ u = 2 ∨ u = 3 ∨ u = 4 := by omega
        rcases this with rfl | rfl | rfl | rfl | rfl <;> simp [QQ] <;> omega
      refine s_wgat_node hC hg hD hd (hm _ (List.mem_cons_self ..)) hh hx hy (by simp only [List.length_nil]; omega) (fun hmt H' hC' => ?_) (fun _ hf => by cases hf)
        (fun u H' => ∃ met' P, MetIn C.met met' (id :: JJ J u) ∧ P.Perm ((QQ h L u).filter (hasP q)) ∧ LkAt G g q b r ⟨met', C.out ++ P, C.n⟩ H') (fun _ _ H' hC' => ⟨_, [], MetIn.id _ _, by simp [QQ], by simpa using hC'⟩) (fun _ => ⟨h, rfl, fun u hu H' ⟨met', P, j1, j2, j3⟩ R' k' => ?_⟩) (fun H' ⟨met', P, j1, j2, j3⟩ => k H' met' P j1 (j2.trans (hqp.filter _)) j3)
      · refine k H' _ [] ((MetIn.id _ _).mono fun j hj => ?_) ?_ (by simpa using hC')
        · rw [List.mem_singleton.1 hj]; exact List.mem_cons_self ..
        · rw [filter_none hh hin hmt]
      · have hPl : P.length ≤ (QQ h L u).length := by rw [j2.length_eq]; exact List.length_filter_le _ _
        have hq4 := hql u (by omega)
        rw [if_pos hu] at hq4
        rcases hJ u hu with ⟨e1, e2, _, e4⟩ | ⟨e1, _, _, e4⟩
        · rw [show (Nd.kids ⟨false, [], 0, ks, cs⟩).getD u 0 = 0 from e2]
          refine s_wgat_not j3 hg hD (.inl hm0) fun H'' hC'' => k' _ ⟨met', P, ?_, ?_, hC''⟩
          · simp only [JJ, e4, List.append_nil]; exact j1
          · simp only [QQ, e1, List.append_nil]; exact j2
        · have hnd := hn.sublist ((sub u hu).cons_cons id)
          have hnd2 := List.nodup_cons.1 hnd
          have hnd3 := List.nodup_append.1 (show (JJ J u ++ J u).Nodup from hnd2.2)
          refine ih (by omega) (hx.kid (by omega) (by omega)) (hy.kid (by omega) (by omega)) (in_kid (by omega) hx hy hin hu) (fun p hp => hpr p (List.mem_filter.1 hp).1) e4 hnd3.2.1 (fun j hj => ?_) (by simp only [List.length_append]; omega) j3 fun H'' met2 P2 i1 i2 i3 => k' _ ⟨met2, P ++ P2, ?_, ?_, ?_⟩
          · have hj4 : j ∈ JJ J (u + 1) := List.mem_append_right _ hj
            show met' j = false
            rw [j1 j ?_]
            · exact hm j (List.mem_cons_of_mem _ ((sub u hu).subset hj4))
            · intro hjm
              rcases List.mem_cons.1 hjm with rfl | hjm
              · exact hnd2.1 hj4
              · exact hnd3.2.2 j hjm j hj rfl
          · exact (j1.trans i1).mono fun j hj => by simpa [JJ] using hj
          · show (P ++ P2).Perm ((QQ h L u ++ quarter h u L).filter _)
            rw [List.filter_append]
            exact j2.append i2
          · rw [← List.append_assoc]; exact i3
end
end Cr
