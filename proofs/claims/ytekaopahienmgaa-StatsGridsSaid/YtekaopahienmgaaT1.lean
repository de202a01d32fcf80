/- Trees of points, plainly: what growing does to nodes by number; what a tree is. -/
import Derived.Test.YtekaopahienmgaaG5
set_option linter.unusedVariables false
set_option linter.unusedSimpArgs false
namespace Cr
open Go Sx Stb Bt
open Go.Sort (SWO)
abbrev M := Int → Option Nd
@[reducible] def nd1 : Nd := ⟨true, [], 0, z4, z4⟩
abbrev numsL : List Int := (List.range 255).map fun i : Nat => ((i : Int) + 1)
/-- The numbers without a node, rising. -/
def freeL (m : M) : List Int := numsL.filter fun i => (m i).isNone
theorem mem_numsL {i : Int} : i ∈ numsL ↔ 1 ≤ i ∧ i ≤ 255 := by
  rw [List.mem_map]
  constructor
  · rintro ⟨j, h, rfl⟩
    have := List.mem_range.1 h
    omega
  · rintro ⟨h1, h2⟩
    exact ⟨(i - 1).toNat, List.mem_range.2 (by omega), by omega⟩
theorem numsL_rise : numsL.Pairwise (· < ·) := by
  rw [List.pairwise_map]
  exact List.pairwise_lt_range.imp fun h => by omega
theorem mem_freeL {m : M} {i : Int} : i ∈ freeL m ↔ 1 ≤ i ∧ i ≤ 255 ∧ m i = none := by
  unfold freeL
  rw [List.mem_filter, mem_numsL, Option.isNone_iff_eq_none]
  constructor <;> rintro h <;> simp_all
theorem freeL_rise (m : M) : (freeL m).Pairwise (· < ·) := numsL_rise.filter _
/-- Rising lists with the same numbers are one. -/
theorem rise_ext : ∀ {l l' : List Int}, l.Pairwise (· < ·) → l'.Pairwise (· < ·) → (∀ x, x ∈ l ↔ x ∈ l') → l = l'
  | [], [], _, _, _ => rfl
  | [], y :: l', _, _, h => by have := (h y).2 (List.mem_cons_self ..); cases this
  | x :: l, [], _, _, h => by have := (h x).1 (List.mem_cons_self ..); cases this
  | x :: l, y :: l', h1, h2, h => by
    rw [List.pairwise_cons] at h1 h2
    have hxy : x = y := by
      rcases List.mem_cons.1 ((h x).1 (List.mem_cons_self ..)) with e | e
      · exact e
      · rcases List.mem_cons.1 ((h y).2 (List.mem_cons_self ..)) with e' | e'
        · exact e'.symm
        · have a := h2.1 x e
          have b := h1.1 y e'
          omega
    subst hxy
    rw [rise_ext h1.2 h2.2 fun z => ?_]
    have hz := h z
    simp only [List.mem_cons] at hz
    constructor
    · intro hm
      rcases hz.1 (.inr hm) with e | e
      · subst e; have := h1.1 z hm; omega
      · exact e
    · intro hm
      rcases hz.2 (.inr hm) with e | e
      · subst e; have := h2.1 z hm; omega
      · exact e
theorem freeL_set {m : M} {i : Int} {d : Nd} (h : m i ≠ none) : freeL (setM m i d) = freeL m := by
  refine rise_ext (freeL_rise _) (freeL_rise _) fun x => ?_
  rw [mem_freeL, mem_freeL]
  unfold setM
  split
  · subst_vars; simp [h]
  · rfl
theorem freeL_take {m : M} {i : Int} {r : List Int} {d : Nd} (h : freeL m = i :: r) : freeL (setM m i d) = r := by
  have hr := freeL_rise m
  rw [h, List.pairwise_cons] at hr
  refine rise_ext (freeL_rise _) hr.2 fun x => ?_
  have hx : x ∈ freeL m ↔ x = i ∨ x ∈ r := by rw [h, List.mem_cons]
  rw [mem_freeL] at hx ⊢
  unfold setM
  split
  · rename_i e
    subst e
    simp only [reduceCtorEq, and_false, false_iff]
    intro hm
    have := hr.1 x hm
    omega
  · rename_i e
    rw [hx]
    simp [e]
theorem setM_same {m : M} {i : Int} {d : Nd} : setM m i d i = some d := by simp [setM]
theorem setM_ne {m : M} {i j : Int} {d : Nd} (h : j ≠ i) : setM m i d j = m j := by simp [setM, h]
/-! ### Growing -/
def chainF (m : M) (id : Int) (L : List Pt) : Option M :=
  if h : L.length ≤ 4 then some (setM m id ⟨true, L, 0, z4, z4⟩)
  else match (freeL m).head? with
    | none => none
    | some nx => (chainF (setM m nx nd1) nx (L.drop 4)).map fun m' => setM m' id ⟨true, L.take 4, nx, z4, z4⟩
termination_by L.length
decreasing_by simp; omega
abbrev quarter (h : Nat) (q : Nat) (L : List Pt) : List Pt := L.filter fun p => qt h p == (q : Int)
/-- One quarter of a cell is grown. -/
def stepF (g : M → Int → List Pt → Option M) (h : Nat) (L : List Pt) (q : Nat) (s : M × List Int × List Int) : Option (M × List Int × List Int) :=
  if quarter h q L = [] then some s
  else match (freeL s.1).head? with
    | none => none
    | some k => (g (setM s.1 k nd1) k (quarter h q L)).map fun m' => (m', s.2.1.set q k, s.2.2.set q (quarter h q L).length)
def stepsF (g : M → Int → List Pt → Option M) (h : Nat) (L : List Pt) : Nat → M → Option (M × List Int × List Int)
  | 0, m => some (m, z4, z4)
  | q + 1, m => (stepsF g h L q m).bind (stepF g h L q)
def growF : Nat → M → Int → List Pt → Option M
  | 0, m, id, L => chainF m id L
  | h + 1, m, id, L => if L.length ≤ 4 then chainF m id L
    else (stepsF (growF h) h L 4 m).map fun s => setM s.1 id ⟨false, [], 0, s.2.1, s.2.2⟩
/-! ### What a tree is -/
/-- Points at one place, four by four. -/
def ChP (m : M) : List Int → List Pt → Prop
  | [], _ => False
  | [id], L => L.length ≤ 4 ∧ m id = some ⟨true, L, 0, z4, z4⟩
  | id :: nx :: r, L => 4 < L.length ∧ m id = some ⟨true, L.take 4, nx, z4, z4⟩ ∧ ChP m (nx :: r) (L.drop 4)
def SubP (T : Int → List Pt → List Int → Prop) (k c : Int) (L : List Pt) (I : List Int) : Prop :=
  (L = [] ∧ k = 0 ∧ c = 0 ∧ I = []) ∨ (L ≠ [] ∧ 1 ≤ k ∧ c = L.length ∧ T k L I)
/-- The tree of points below a node of a cell of height h; the numbers of its nodes. -/
def TrP (m : M) : Nat → Int → List Pt → List Int → Prop
  | 0, id, L, I => I.head? = some id ∧ ChP m I L
  | h + 1, id, L, I => if L.length ≤ 4 then I = [id] ∧ ChP m I L
    else ∃ (ks cs : List Int) (J : Nat → List Int), m id = some ⟨false, [], 0, ks, cs⟩ ∧ ks.length = 4 ∧ cs.length = 4 ∧ I = id :: (J 0 ++ (J 1 ++ (J 2 ++ J 3))) ∧
      ∀ q : Nat, q < 4 → SubP (TrP m h) (ks.getD q 0) (cs.getD q 0) (quarter h q L) (J q)
def nch (n : Nat) : Nat := if n ≤ 4 then 1 else (n + 3) / 4
def nq (f : List Pt → Nat) (L : List Pt) : Nat := if L = [] then 0 else f L
/-- How many nodes a tree has. -/
def nds : Nat → List Pt → Nat
  | 0, L => nch L.length
  | h + 1, L => if L.length ≤ 4 then 1 else 1 + (nq (nds h) (quarter h 0 L) + (nq (nds h) (quarter h 1 L) + (nq (nds h) (quarter h 2 L) + nq (nds h) (quarter h 3 L))))
theorem nch_pos (n : Nat) : 1 ≤ nch n := by unfold nch; split <;> omega
theorem nch_step {n : Nat} (h : 4 < n) : nch n = nch (n - 4) + 1 := by
  unfold nch
  rw [if_neg (by omega)]
  split <;> omega
theorem nds_pos : ∀ (h : Nat) (L : List Pt), 1 ≤ nds h L
  | 0, L => nch_pos _
  | h + 1, L => by unfold nds; split <;> omega
/-- Some nodes are new, at the least numbers that were free. -/
structure Grew (m m' : M) (T : List Int) : Prop where
  nodup : T.Nodup
  mem : ∀ i, i ∈ T ↔ i ∈ (freeL m).take T.length
  free : freeL m' = (freeL m).drop T.length
  few : T.length ≤ (freeL m).length
  same : ∀ i, i ∉ T → m' i = m i
  there : ∀ i ∈ T, m' i ≠ none
theorem Grew.refl (m : M) : Grew m m [] := ⟨by simp, by simp, by simp, by simp, fun _ _ => rfl, by simp⟩
theorem Grew.was {m m' : M} {T : List Int} (h : Grew m m' T) {i : Int} (hi : i ∈ T) : m i = none := (mem_freeL.1 (List.mem_of_mem_take ((h.mem i).1 hi))).2.2
theorem Grew.range {m m' : M} {T : List Int} (h : Grew m m' T) {i : Int} (hi : i ∈ T) : 1 ≤ i ∧ i ≤ 255 :=
  have := mem_freeL.1 (List.mem_of_mem_take ((h.mem i).1 hi)); ⟨this.1, this.2.1⟩
theorem Grew.off {m m' : M} {T : List Int} (h : Grew m m' T) {i : Int} (hi : m i ≠ none) : i ∉ T := fun hm => hi (h.was hm)
theorem Grew.keep {m m' : M} {T : List Int} (h : Grew m m' T) {i : Int} (hi : m i ≠ none) : m' i = m i := h.same i (h.off hi)
theorem Grew.trans {m m1 m2 : M} {A B : List Int} (h : Grew m m1 A) (h' : Grew m1 m2 B) : Grew m m2 (A ++ B) where
  nodup := List.nodup_append.2 ⟨h.nodup, h'.nodup, fun a ha b hb e => by subst e; exact h.there a ha (h'.was hb)⟩
  mem := fun i => by
    have h2 := h'.mem i
    rw [h.free] at h2
    rw [List.mem_append, h.mem, h2, List.length_append, List.take_add, List.mem_append]
  free := by rw [h'.free, h.free, List.drop_drop, List.length_append]
  few := by
    have := h'.few
    rw [h.free, List.length_drop] at this
    have := h.few
    rw [List.length_append]; omega
  same := fun i hi => by
    rw [List.mem_append, not_or] at hi
    rw [h'.same i hi.2, h.same i hi.1]
  there := fun i hi => by
    rcases List.mem_append.1 hi with hi | hi
    · rw [h'.keep (h.there i hi)]; exact h.there i hi
    · exact h'.there i hi
theorem take_tail {m : M} {i : Int} {r : List Int} (h : freeL m = i :: r) : m i = none ∧ 1 ≤ i ∧ i ≤ 255 ∧ i ∉ r := by
  have h1 := (mem_freeL (m := m) (i := i)).1 (by rw [h]; exact List.mem_cons_self ..)
  have hr := freeL_rise m
  rw [h, List.pairwise_cons] at hr
  exact ⟨h1.2.2, h1.1, h1.2.1, fun hm => by have := hr.1 i hm; omega⟩
/-- A fresh number, and what grows there. -/
theorem Grew.fresh {m m1 : M} {k : Int} {r T : List Int} {d : Nd} (hf : freeL m = k :: r) (h : Grew (setM m k nd1) m1 T) : Grew m (setM m1 k d) (k :: T) := by
  have hfr : freeL (setM m k nd1) = r := freeL_take hf
  obtain ⟨hk, _, _, hkr⟩ := take_tail hf
  have hkT : k ∉ T := h.off (by rw [setM_same]; simp)
  have hk1 : m1 k ≠ none := by rw [h.same k hkT, setM_same]; simp
  refine ⟨List.nodup_cons.2 ⟨hkT, h.nodup⟩, fun i => ?_, ?_, ?_, fun i hi => ?_, fun i hi => ?_⟩
  · have := h.mem i
    rw [hfr] at this
    rw [hf, List.length_cons, List.take_succ_cons, List.mem_cons, List.mem_cons, this]
  · rw [freeL_set hk1, h.free, hfr, hf]; rfl
  · have := h.few
    rw [hfr] at this
    rw [hf, List.length_cons, List.length_cons]; omega
  · rw [List.mem_cons, not_or] at hi
    rw [setM_ne hi.1, h.same i hi.2, setM_ne hi.1]
  · by_cases e : i = k
    · subst e; rw [setM_same]; simp
    · rw [setM_ne e]
      rcases List.mem_cons.1 hi with e' | hi
      · exact absurd e' e
      · exact h.there i hi
theorem ChP_congr {m m' : M} : ∀ {I : List Int} {L : List Pt}, (∀ i ∈ I, m' i = m i) → ChP m I L → ChP m' I L
  | [], _, _, h => h
  | [id], L, e, h => ⟨h.1, by rw [e id (List.mem_cons_self ..)]; exact h.2⟩
  | id :: nx :: r, L, e, h => ⟨h.1, by rw [e id (List.mem_cons_self ..)]; exact h.2.1, ChP_congr (fun i hi => e i (List.mem_cons_of_mem _ hi)) h.2.2⟩
theorem ChP_len {m : M} : ∀ {I : List Int} {L : List Pt}, ChP m I L → I.length = nch L.length
  | [id], L, h => by unfold nch; rw [if_pos h.1]; rfl
  | id :: nx :: r, L, h => by
    have := ChP_len h.2.2
    rw [nch_step h.1]
    simp at this ⊢
    exact this
theorem SubP_congr {T T' : Int → List Pt → List Int → Prop} {k c : Int} {L : List Pt} {I : List Int} (h : T k L I → T' k L I) (hs : SubP T k c L I) : SubP T' k c L I := by
  rcases hs with hs | ⟨h1, h2, h3, h4⟩
  · exact .inl hs
  · exact .inr ⟨h1, h2, h3, h h4⟩
theorem mem_four {α : Type} {J : Nat → List α} {x : α} {q : Nat} (hq : q < 4) (h : x ∈ J q) : x ∈ J 0 ++ (J 1 ++ (J 2 ++ J 3)) := by
  simp only [List.mem_append]
  have : q = 0 ∨ q = 1 ∨ q = 2 ∨ q = 3 := by omega
  rcases this with rfl | rfl | rfl | rfl <;> simp [h]
theorem TrP_congr {m m' : M} : ∀ {h : Nat} {id : Int} {L : List Pt} {I : List Int}, (∀ i ∈ I, m' i = m i) → TrP m h id L I → TrP m' h id L I
  | 0, id, L, I, e, h => ⟨h.1, ChP_congr e h.2⟩
  | n + 1, id, L, I, e, h => by
    unfold TrP at h ⊢
    split
    · rename_i hl
      rw [if_pos hl] at h
      exact ⟨h.1, ChP_congr e h.2⟩
    · rename_i hl
      rw [if_neg hl] at h
      obtain ⟨ks, cs, J, h1, h2, h3, rfl, h4⟩ := h
      refine ⟨ks, cs, J, by rw [e id (List.mem_cons_self ..)]; exact h1, h2, h3, rfl, fun q hq => SubP_congr (TrP_congr fun i hi => e i (List.mem_cons_of_mem _ (mem_four hq hi))) (h4 q hq)⟩
theorem nq_nil (f : List Pt → Nat) : nq f [] = 0 := rfl
theorem nq_some {f : List Pt → Nat} {L : List Pt} (h : L ≠ []) : nq f L = f L := if_neg h
theorem TrP_len {m : M} : ∀ {h : Nat} {id : Int} {L : List Pt} {I : List Int}, TrP m h id L I → I.length = nds h L
  | 0, id, L, I, h => ChP_len h.2
  | n + 1, id, L, I, h => by
    unfold TrP at h
    unfold nds
    split at h
    · rename_i hl
      rw [if_pos hl, h.1]; rfl
    · rename_i hl
      rw [if_neg hl]
      obtain ⟨ks, cs, J, h1, h2, h3, rfl, h4⟩ := h
      have sub : ∀ q, q < 4 → (J q).length = nq (nds n) (quarter n q L) := fun q hq => by
        rcases h4 q hq with ⟨e1, _, _, e4⟩ | ⟨e1, _, _, e4⟩
        · rw [e1, e4]; rfl
        · rw [nq_some e1]; exact TrP_len e4
      simp only [List.length_cons, List.length_append, sub 0 (by omega), sub 1 (by omega), sub 2 (by omega), sub 3 (by omega)]
      omega
theorem TrP_head {m : M} {h : Nat} {id : Int} {L : List Pt} {I : List Int} (ht : TrP m h id L I) : ∃ T, I = id :: T := by
  cases h with
  | zero =>
    have := ht.1
    cases I with
    | nil => simp at this
    | cons a b => simp at this; exact ⟨b, by rw [this]⟩
  | succ n =>
    unfold TrP at ht
    split at ht
    · exact ⟨[], ht.1⟩
    · obtain ⟨ks, cs, J, h1, h2, h3, e, h4⟩ := ht
      exact ⟨_, e⟩
/-- What becomes of growing: it's there, or there are too few numbers. -/
def GrowOK (F : Option M) (m : M) (id : Int) (T : M → List Int → Prop) (n : Nat) : Prop :=
  (n - 1 ≤ (freeL m).length → ∃ m1 d I, F = some (setM m1 id d) ∧ Grew m m1 I ∧ I.length = n - 1 ∧ T (setM m1 id d) (id :: I)) ∧ ((freeL m).length < n - 1 → F = none)
theorem chainF_spec : ∀ (n : Nat) (m : M) (id : Int) (L : List Pt), L.length ≤ n → m id ≠ none → GrowOK (chainF m id L) m id (fun m' I => ChP m' I L) (nch L.length) := by
  intro n
  induction n with
  | zero =>
    intro m id L hn hid
    have hL : L.length ≤ 4 := by omega
    unfold chainF
    rw [dif_pos hL]
    have h1 : nch L.length = 1 := by unfold nch; rw [if_pos hL]
    rw [h1]
    exact ⟨fun _ => ⟨m, _, [], rfl, Grew.refl m, rfl, hL, setM_same⟩, fun h => by omega⟩
  | succ n ih =>
    intro m id L hn hid
    by_cases hL : L.length ≤ 4
    · unfold chainF
      rw [dif_pos hL]
      have h1 : nch L.length = 1 := by unfold nch; rw [if_pos hL]
      rw [h1]
      exact ⟨fun _ => ⟨m, _, [], rfl, Grew.refl m, rfl, hL, setM_same⟩, fun h => by omega⟩
    · have hs := nch_step (n := L.length) (by omega)
      have hp := nch_pos (L.length - 4)
      have hd : (L.drop 4).length = L.length - 4 := by simp
      unfold chainF
      rw [dif_neg hL]
      cases hf : freeL m with
      | nil =>
        refine ⟨fun h => ?_, fun _ => rfl⟩
        rw [hf] at h
        simp at h; omega
      | cons k r =>
        obtain ⟨hk1, hk2, hk3, hk4⟩ := take_tail hf
        have hkid : id ≠ k := fun e => hid (e ▸ hk1)
        have hfr : freeL (setM m k nd1) = r := freeL_take hf
        obtain ⟨ih1, ih2⟩ := ih (setM m k nd1) k (L.drop 4) (by omega) (by rw [setM_same]; simp)
        rw [hfr, hd] at ih1 ih2
        unfold GrowOK
        rw [hf]
        simp only [List.head?_cons, List.length_cons]
        constructor
        · intro h
          obtain ⟨m1, d, I, e1, e2, e3, e4⟩ := ih1 (by omega)
          rw [e1]
          have g := e2.fresh (d := d) hf
          have hoff := g.off hid
          refine ⟨_, _, k :: I, rfl, g, by rw [List.length_cons, e3]; omega, by omega, setM_same, ChP_congr (fun i hi => setM_ne ?_) e4⟩
          rintro rfl
          exact hoff hi
        · intro h
          rw [ih2 (by omega)]
          rfl
theorem getD_set {l : List Int} {q k : Nat} {x : Int} (hq : q < l.length) : (l.set q x).getD k 0 = if q = k then x else l.getD k 0 := by
  simp only [List.getD_eq_getElem?_getD, List.getElem?_set]
  by_cases h : q = k
  · subst h; simp [hq]
  · simp [h]
theorem growF_spec : ∀ (h : Nat) (m : M) (id : Int) (L : List Pt), m id ≠ none → GrowOK (growF h m id L) m id (fun m' I => TrP m' h id L I) (nds h L) := by
  intro h
  induction h with
  | zero =>
    intro m id L hid
    obtain ⟨h1, h2⟩ := chainF_spec _ m id L (Nat.le_refl _) hid
    refine ⟨fun hn => ?_, h2⟩
    obtain ⟨m1, d, I, e1, e2, e3, e4⟩ := h1 hn
    exact ⟨m1, d, I, e1, e2, e3, rfl, e4⟩
  | succ h ih =>
    intro m id L hid
    by_cases hL : L.length ≤ 4
    · obtain ⟨h1, h2⟩ := chainF_spec _ m id L (Nat.le_refl _) hid
      have e : nds (h + 1) L = nch L.length := by unfold nds nch; rw [if_pos hL, if_pos hL]
      unfold growF
      rw [if_pos hL, e]
      refine ⟨fun hn => ?_, h2⟩
      obtain ⟨m1, d, I, e1, e2, e3, e4⟩ := h1 hn
      refine ⟨m1, d, I, e1, e2, e3, ?_⟩
      show TrP _ _ _ _ _
      unfold TrP
      rw [if_pos hL]
      have h1 : nch L.length = 1 := by unfold nch; rw [if_pos hL]
      have : I = [] := List.length_eq_zero_iff.1 (by omega)
      subst this
      exact ⟨rfl, e4⟩
    · -- quarter by quarter
      let ns : Nat → Nat := fun q => ((List.range q).map fun i => nq (nds h) (quarter h i L)).sum
      have hns : ∀ q, ns (q + 1) = ns q + nq (nds h) (quarter h q L) := fun q => by
        show ((List.range (q + 1)).map _).sum = _
        rw [List.range_succ, List.map_append, List.sum_append]
        simp [ns]
      have steps : ∀ q, q ≤ 4 → (ns q ≤ (freeL m).length → ∃ m1 ks cs J, stepsF (growF h) h L q m = some (m1, ks, cs) ∧ ks.length = 4 ∧ cs.length = 4 ∧ Grew m m1 ((List.range q).map J).flatten ∧ ((List.range q).map J).flatten.length = ns q ∧
          (∀ i, i < q → SubP (TrP m1 h) (ks.getD i 0) (cs.getD i 0) (quarter h i L) (J i)) ∧ ∀ i, q ≤ i → ks.getD i 0 = 0 ∧ cs.getD i 0 = 0) ∧ ((freeL m).length < ns q → stepsF (growF h) h L q m = none) := by
        intro q
        induction q with
        | zero =>
          intro _
          refine ⟨fun _ => ⟨m, z4, z4, fun _ => [], rfl, rfl, rfl, by simpa using Grew.refl m, rfl, by simp, fun i _ => ?_⟩, fun hn => by simp [ns] at hn⟩
          match i with
          | 0 | 1 | 2 | 3 => exact ⟨rfl, rfl⟩
          | i + 4 => exact ⟨rfl, rfl⟩
        | succ q ihq =>
          intro hq
          obtain ⟨h1, h2⟩ := ihq (by omega)
          rw [hns q]
          by_cases hle : ns q ≤ (freeL m).length
          · obtain ⟨m1, ks, cs, J, e1, e2, e3, e4, e5, e6, e7⟩ := h1 hle
            simp only [stepsF, e1, Option.bind_some]
            unfold stepF
            by_cases hQ : quarter h q L = []
            · rw [if_pos hQ, hQ, nq_nil, Nat.add_zero]
              refine ⟨fun _ => ⟨m1, ks, cs, fun i => if i = q then [] else J i, rfl, e2, e3, ?_, ?_, fun i hi => ?_, fun i hi => e7 i (by omega)⟩, fun hn => by omega⟩
              · rw [List.range_succ, List.map_append, List.flatten_append, List.map_congr_left (g := J) (fun i hi => by rw [if_neg]; have := List.mem_range.1 hi; omega)]
                simpa using e4
              · rw [List.range_succ, List.map_append, List.flatten_append, List.map_congr_left (g := J) (fun i hi => by rw [if_neg]; have := List.mem_range.1 hi; omega)]
                simpa using e5
              · show SubP _ _ _ _ (if i = q then [] else J i)
                by_cases hi' : i = q
                · subst hi'
                  have := e7 i (by omega)
                  rw [if_pos rfl]
                  exact .inl ⟨hQ, this.1, this.2, rfl⟩
                · rw [if_neg hi']; exact e6 i (by omega)
            · rw [if_neg hQ, nq_some hQ]
              have hpos := nds_pos h (quarter h q L)
              have hfree := e4.free
              rw [e5] at hfree
              have hfl : (freeL m1).length = (freeL m).length - ns q := by rw [hfree, List.length_drop]
              cases hf : freeL m1 with
              | nil =>
                rw [hf] at hfl
                simp only [List.length_nil] at hfl
                exact ⟨fun hn => by omega, fun _ => rfl⟩
              | cons k r =>
                simp only [List.head?_cons]
                have hfr : freeL (setM m1 k nd1) = r := freeL_take hf
                have hrl : r.length + 1 = (freeL m).length - ns q := by rw [← hfl, hf]; rfl
                obtain ⟨ih1, ih2⟩ := ih (setM m1 k nd1) k (quarter h q L) (by rw [setM_same]; simp)
                rw [hfr] at ih1 ih2
                constructor
                · intro hn
                  obtain ⟨m2, d, I, f1, f2, f3, f4⟩ := ih1 (by omega)
                  rw [f1]
                  have g := f2.fresh (d := d) hf
                  have hk := take_tail hf
                  refine ⟨_, _, _, fun i => if i = q then k :: I else J i, rfl, by simpa using e2, by simpa using e3, ?_, ?_, fun i hi => ?_, fun i hi => ?_⟩
                  · rw [List.range_succ, List.map_append, List.flatten_append, List.map_congr_left (g := J) (fun i hi => by rw [if_neg]; have := List.mem_range.1 hi; omega)]
                    simpa using e4.trans g
                  · rw [List.range_succ, List.map_append, List.flatten_append, List.map_congr_left (g := J) (fun i hi => by rw [if_neg]; have := List.mem_range.1 hi; omega), List.length_append, e5]
                    simp; omega
                  · show SubP _ _ _ _ (if i = q then k :: I else J i)
                    rw [getD_set (by omega), getD_set (by omega)]
                    by_cases hi' : q = i
                    · subst hi'
                      rw [if_pos rfl, if_pos rfl, if_pos rfl]
                      exact .inr ⟨hQ, hk.2.1, rfl, f4⟩
                    · rw [if_neg hi', if_neg hi', if_neg (Ne.symm hi')]
                      refine SubP_congr (TrP_congr fun j hj => ?_) (e6 i (by omega))
                      refine g.keep (e4.there j ?_)
                      exact List.mem_flatten.2 ⟨J i, List.mem_map.2 ⟨i, List.mem_range.2 (by omega), rfl⟩, hj⟩
                  · rw [getD_set (by omega), getD_set (by omega), if_neg (by omega), if_neg (by omega)]
                    exact e7 i (by omega)
                · intro hn
                  have hlt : r.length < nds h (quarter h q L) - 1 := by clear ih1 ih2 h1 h2 ihq; omega
                  rw [ih2 hlt]
                  rfl
          · have : stepsF (growF h) h L (q + 1) m = none := by
              simp only [stepsF, h2 (by omega), Option.bind_none]
            exact ⟨fun hn => by omega, fun _ => this⟩
      have hn4 : nds (h + 1) L - 1 = ns 4 := by
        unfold nds
        rw [if_neg hL]
        simp [ns, List.range_succ]
      obtain ⟨h1, h2⟩ := steps 4 (by omega)
      unfold growF
      rw [if_neg hL]
      unfold GrowOK
      rw [hn4]
      constructor
      · intro hn
        obtain ⟨m1, ks, cs, J, e1, e2, e3, e4, e5, e6, e7⟩ := h1 hn
        rw [e1]
        have hoff := e4.off hid
        have hfl : ((List.range 4).map J).flatten = J 0 ++ (J 1 ++ (J 2 ++ J 3)) := by simp [List.range_succ]
        rw [hfl] at e4 e5 hoff
        refine ⟨m1, _, _, rfl, e4, e5, ?_⟩
        show TrP _ _ _ _ _
        unfold TrP
        rw [if_neg hL]
        refine ⟨ks, cs, J, setM_same, e2, e3, rfl, fun q hq => SubP_congr (TrP_congr fun i hi => setM_ne ?_) (e6 q hq)⟩
        rintro rfl
        exact hoff (mem_four hq hi)
      · intro hn
        rw [h2 hn]
        rfl
end Cr
