/- Stable sorting of lists, plainly: what it is, that there is one result; swaps, ranges that are swapped, a rotation, a merge. -/
import Derived.Sort.Statements
set_option linter.unusedVariables false
set_option linter.unusedSimpArgs false
namespace Stb
open Go.Sort (SWO)
variable {α : Type} {lt : α → α → Bool}

def eqv (lt : α → α → Bool) (x y : α) : Bool := !lt x y && !lt y x
/-- Alike elements stand in the same order. -/
def Stab (lt : α → α → Bool) (l l' : List α) : Prop := ∀ x, l'.filter (eqv lt x) = l.filter (eqv lt x)
def Srtd (lt : α → α → Bool) (l : List α) : Prop := l.Pairwise fun x y => lt y x = false
theorem Stab.refl (l : List α) : Stab lt l l := fun _ => rfl
theorem Stab.trans {a b c : List α} (h : Stab lt a b) (h' : Stab lt b c) : Stab lt a c := fun x => (h' x).trans (h x)
theorem Stab.app {a b c d : List α} (h : Stab lt a b) (h' : Stab lt c d) : Stab lt (a ++ c) (b ++ d) := fun x => by
  rw [List.filter_append, List.filter_append, h x, h' x]
theorem Stab.len {l l' : List α} (h : Stab lt l l') (hs : SWO lt) : l.length = l'.length := by
  -- by induction on the length of l, taking one class off
  suffices H : ∀ n (l l' : List α), l.length ≤ n → Stab lt l l' → l.length = l'.length from H _ l l' (Nat.le_refl _) h
  intro n
  induction n with
  | zero =>
    intro l l' hl h
    have : l = [] := List.length_eq_zero_iff.1 (by omega)
    subst this
    cases l' with
    | nil => rfl
    | cons y l' =>
      have := h y
      rw [List.filter_cons_of_pos (by simp [eqv, hs.irrefl])] at this
      simp at this
  | succ n ih =>
    intro l l' hl h
    cases l with
    | nil => cases l' with
      | nil => rfl
      | cons y l' =>
        have := h y
        rw [List.filter_cons_of_pos (by simp [eqv, hs.irrefl])] at this
        simp at this
    | cons x l =>
      have hx := h x
      have e1 : ((x :: l).filter (eqv lt x)).length + ((x :: l).filter (fun y => !eqv lt x y)).length = (x :: l).length := by
        have := List.length_eq_countP_add_countP (p := eqv lt x) (l := x :: l)
        rw [List.countP_eq_length_filter, List.countP_eq_length_filter] at this
        simp only [this]
        congr 2
        apply List.filter_congr
        intro y _
        simp
      have e2 : (l'.filter (eqv lt x)).length + (l'.filter (fun y => !eqv lt x y)).length = l'.length := by
        have := List.length_eq_countP_add_countP (p := eqv lt x) (l := l')
        rw [List.countP_eq_length_filter, List.countP_eq_length_filter] at this
        simp only [this]
        congr 2
        apply List.filter_congr
        intro y _
        simp
      have e3 : Stab lt ((x :: l).filter (fun y => !eqv lt x y)) (l'.filter (fun y => !eqv lt x y)) := by
        intro z
        rw [List.filter_filter, List.filter_filter]
        have hc : ∀ m : List α, m.filter (fun y => eqv lt z y && !eqv lt x y) = (m.filter (eqv lt z)).filter (fun y => !eqv lt x y) := by
          intro m
          rw [List.filter_filter]
          apply List.filter_congr
          intro y _
          rw [Bool.and_comm]
        rw [hc, hc, h z]
      have e4 : ((x :: l).filter (fun y => !eqv lt x y)).length ≤ n := by
        have : 1 ≤ ((x :: l).filter (eqv lt x)).length := by
          rw [List.filter_cons_of_pos (by simp [eqv, hs.irrefl])]; simp
        simp only [List.length_cons] at e1 hl
        omega
      have := ih _ _ e4 e3
      rw [← e1, ← e2, hx, this]
theorem eqv_trans (hs : SWO lt) {x y z : α} (h : eqv lt x y = true) (h' : eqv lt x z = true) : eqv lt y z = true := by
  simp only [eqv, Bool.and_eq_true, Bool.not_eq_true'] at *
  exact ⟨hs.ntrans _ _ _ h.2 h'.1, hs.ntrans _ _ _ h'.2 h.1⟩
/-- Two that are not alike may change places. -/
theorem stab_two (hs : SWO lt) {x y : α} (h : lt y x = true) : Stab lt [x, y] [y, x] := by
  intro z
  by_cases hx : eqv lt z x = true
  · have hy : eqv lt z y = false := by
      cases hy : eqv lt z y with
      | false => rfl
      | true =>
        have := eqv_trans hs hx hy
        simp [eqv, h] at this
    simp [List.filter_cons, hx, hy]
  · simp only [Bool.not_eq_true] at hx
    simp [List.filter_cons, hx]
theorem srtd_head {x : α} {l : List α} (h : Srtd lt (x :: l)) : (∀ y ∈ l, lt y x = false) ∧ Srtd lt l := List.pairwise_cons.1 h
/-- There is one sorted list with alike elements in the same order. -/
theorem sorted_one (hs : SWO lt) : ∀ {l l' : List α}, Srtd lt l → Srtd lt l' → Stab lt l l' → l' = l
  | [], l', _, _, h => by
    have := h.len hs
    exact List.length_eq_zero_iff.1 this.symm
  | x :: l, [], _, _, h => by
    have := h.len hs
    simp at this
  | x :: l, y :: l', h1, h2, h => by
    obtain ⟨a1, a2⟩ := srtd_head h1
    obtain ⟨b1, b2⟩ := srtd_head h2
    have mem : ∀ {z : α} {m m' : List α}, Stab lt m m' → z ∈ m' → ∃ u ∈ m, eqv lt z u = true := by
      intro z m m' hm hz
      have : z ∈ m'.filter (eqv lt z) := by simp [hz, eqv, hs.irrefl]
      rw [hm z] at this
      exact ⟨z, by simpa using (List.mem_filter.1 this).1, by simp [eqv, hs.irrefl]⟩
    have e : y = x := by
      -- y is alike some of the first list, x some of the second: neither is less
      obtain ⟨u, hu, hyu⟩ := mem h (List.mem_cons_self .. : y ∈ y :: l')
      have hrev : Stab lt (y :: l') (x :: l) := fun z => (h z).symm
      obtain ⟨v, hv, hxv⟩ := mem hrev (List.mem_cons_self .. : x ∈ x :: l)
      simp only [eqv, Bool.and_eq_true, Bool.not_eq_true'] at hyu hxv
      have hyx : lt y x = false := by
        have hux : lt u x = false := by
          rcases List.mem_cons.1 hu with rfl | hu
          · exact hs.irrefl _
          · exact a1 u hu
        exact hs.ntrans _ _ _ hyu.1 hux
      have hxy : lt x y = false := by
        have hvy : lt v y = false := by
          rcases List.mem_cons.1 hv with rfl | hv
          · exact hs.irrefl _
          · exact b1 v hv
        exact hs.ntrans _ _ _ hxv.1 hvy
      have hk := h x
      rw [List.filter_cons_of_pos (by simp [eqv, hxy, hyx]), List.filter_cons_of_pos (by simp [eqv, hs.irrefl])] at hk
      exact (List.cons.inj hk).1
    subst e
    congr 1
    refine sorted_one hs a2 b2 fun z => ?_
    have := h z
    simp only [List.filter_cons] at this
    split at this
    · exact (List.cons.inj this).2
    · exact this
/-! ### The insertion sort of a list -/
def insR (lt : α → α → Bool) (x : α) : List α → List α
  | [] => [x]
  | y :: l => if lt x y then x :: y :: l else y :: insR lt x l
def isort (lt : α → α → Bool) (l : List α) : List α := l.foldl (fun acc x => insR lt x acc) []
theorem insR_stab (hs : SWO lt) (x : α) : ∀ (l : List α), Srtd lt l → Srtd lt (insR lt x l) ∧ Stab lt (l ++ [x]) (insR lt x l) ∧ ∀ y ∈ insR lt x l, y = x ∨ y ∈ l
  | [], _ => by simp [insR, Srtd, Stab]
  | y :: l, h => by
    obtain ⟨h1, h2⟩ := srtd_head h
    obtain ⟨i1, i2, i3⟩ := insR_stab hs x l h2
    unfold insR
    split
    · rename_i hxy
      refine ⟨?_, ?_, by simp⟩
      · refine List.pairwise_cons.2 ⟨fun z hz => ?_, h⟩
        rcases List.mem_cons.1 hz with rfl | hz
        · cases hq : lt z x with
          | false => rfl
          | true => have := hs.trans _ _ _ hq hxy; rw [hs.irrefl] at this; cases this
        · cases hq : lt z x with
          | false => rfl
          | true => have := hs.trans _ _ _ hq hxy; rw [h1 z hz] at this; cases this
      · -- x goes ahead of all of them: each is greater
        have all : ∀ z ∈ y :: l, lt x z = true := by
          intro z hz
          rcases List.mem_cons.1 hz with rfl | hz
          · exact hxy
          · cases hq : lt x z with
            | true => rfl
            | false => have := hs.ntrans _ _ _ hq (h1 z hz); rw [hxy] at this; cases this
        intro u
        rw [List.filter_append]
        by_cases hu : eqv lt u x = true
        · have : (y :: l).filter (eqv lt u) = [] := by
            rw [List.filter_eq_nil_iff]
            intro z hz hq
            have := eqv_trans hs hu hq
            simp [eqv, all z hz] at this
          rw [this, List.filter_cons_of_pos hu, this]
          simp [hu]
        · simp only [Bool.not_eq_true] at hu
          rw [List.filter_cons_of_neg (by simp [hu])]
          simp [hu]
    · rename_i hxy
      simp only [Bool.not_eq_true] at hxy
      refine ⟨List.pairwise_cons.2 ⟨fun z hz => ?_, i1⟩, ?_, ?_⟩
      · rcases i3 z hz with rfl | hz
        · exact hxy
        · exact h1 z hz
      · exact Stab.app (a := [y]) (b := [y]) (Stab.refl _) i2
      · intro z hz
        rcases List.mem_cons.1 hz with rfl | hz
        · simp
        · rcases i3 z hz with rfl | hz <;> simp [*]
theorem isort_go (hs : SWO lt) : ∀ (l acc : List α), Srtd lt acc → Srtd lt (l.foldl (fun acc x => insR lt x acc) acc) ∧ Stab lt (acc ++ l) (l.foldl (fun acc x => insR lt x acc) acc)
  | [], acc, h => by simp [h, Stab]
  | x :: l, acc, h => by
    obtain ⟨i1, i2, _⟩ := insR_stab hs x acc h
    obtain ⟨g1, g2⟩ := isort_go hs l _ i1
    refine ⟨g1, ?_⟩
    have : Stab lt (acc ++ x :: l) (insR lt x acc ++ l) := by
      have := Stab.app i2 (Stab.refl (lt := lt) l)
      simpa using this
    exact this.trans g2
theorem isort_srtd (hs : SWO lt) (l : List α) : Srtd lt (isort lt l) := (isort_go hs l [] List.Pairwise.nil).1
theorem isort_stab (hs : SWO lt) (l : List α) : Stab lt l (isort lt l) := by
  have := (isort_go hs l [] List.Pairwise.nil).2
  rw [List.nil_append] at this
  exact this
theorem isort_eq (hs : SWO lt) {l l' : List α} (h : Srtd lt l') (h' : Stab lt l l') : l' = isort lt l :=
  sorted_one hs (isort_srtd hs l) h fun x => by rw [h' x, isort_stab hs l x]
theorem isort_snoc (l : List α) (x : α) : isort lt (l ++ [x]) = insR lt x (isort lt l) := by simp [isort, List.foldl_append]
theorem insR_len (x : α) : ∀ l : List α, (insR lt x l).length = l.length + 1
  | [] => rfl
  | y :: l => by unfold insR; split <;> simp [insR_len x l]
theorem isort_len (l : List α) : (isort lt l).length = l.length := by
  have : ∀ (l acc : List α), (l.foldl (fun acc x => insR lt x acc) acc).length = acc.length + l.length := by
    intro l
    induction l with
    | nil => simp
    | cons x l ih => intro acc; rw [List.foldl_cons, ih, insR_len, List.length_cons]; omega
  have h := this l []
  simp only [List.length_nil, Nat.zero_add] at h
  exact h
theorem insR_at (x : α) : ∀ (P Q : List α), (∀ y ∈ P, lt x y = false) → (∀ y ∈ Q, lt x y = true) → insR lt x (P ++ Q) = P ++ x :: Q
  | [], [], _, _ => rfl
  | [], y :: Q, _, h => by simp [insR, h y (List.mem_cons_self ..)]
  | y :: P, Q, h, h' => by
    have := insR_at x P Q (fun z hz => h z (List.mem_cons_of_mem _ hz)) h'
    simp [insR, h y (List.mem_cons_self ..), this]
theorem insR_mem {x z : α} : ∀ {l : List α}, z ∈ insR lt x l ↔ z = x ∨ z ∈ l
  | [] => by simp [insR]
  | y :: l => by
    unfold insR
    split
    · simp
    · simp only [List.mem_cons, insR_mem (l := l)]
      constructor
      · rintro (h | h | h) <;> simp [h]
      · rintro (h | h | h) <;> simp [h]
theorem isort_mem {z : α} {l : List α} : z ∈ isort lt l ↔ z ∈ l := by
  have : ∀ (l acc : List α), z ∈ l.foldl (fun acc x => insR lt x acc) acc ↔ z ∈ acc ∨ z ∈ l := by
    intro l
    induction l with
    | nil => simp
    | cons x l ih =>
      intro acc
      rw [List.foldl_cons, ih, insR_mem, List.mem_cons]
      constructor
      · rintro ((h | h) | h) <;> simp [h]
      · rintro (h | h | h) <;> simp [h]
  have h := this l []
  simp only [List.not_mem_nil, false_or] at h
  exact h
theorem isort_id (hs : SWO lt) {l : List α} (h : Srtd lt l) : isort lt l = l := (isort_eq hs h (Stab.refl l)).symm
/-- Two blocks, each one of the second less than each one of the first, may change places. -/
theorem stab_blocks (hs : SWO lt) {X Y : List α} (h : ∀ x ∈ X, ∀ y ∈ Y, lt y x = true) : Stab lt (X ++ Y) (Y ++ X) := by
  intro z
  rw [List.filter_append, List.filter_append]
  by_cases hx : X.filter (eqv lt z) = []
  · rw [hx]; simp
  · obtain ⟨x, hx⟩ := List.exists_mem_of_ne_nil _ hx
    obtain ⟨hx1, hx2⟩ := List.mem_filter.1 hx
    have : Y.filter (eqv lt z) = [] := by
      rw [List.filter_eq_nil_iff]
      intro y hy hq
      have := eqv_trans hs hx2 hq
      simp [eqv, h x hx1 y hy] at this
    rw [this]; simp
theorem asymm (hs : SWO lt) {x y : α} (h : lt x y = true) : lt y x = false := by
  cases hq : lt y x with
  | false => rfl
  | true => have := hs.trans _ _ _ h hq; rw [hs.irrefl] at this; cases this
/-- Merging in two halves. -/
theorem merge_halves (hs : SWO lt) {X1 X2 Y1 Y2 : List α} (h1 : Srtd lt (X1 ++ X2)) (h2 : Srtd lt (Y1 ++ Y2)) (h3 : ∀ x ∈ X1, ∀ y ∈ Y2, lt y x = false) (h4 : ∀ x ∈ X2, ∀ y ∈ Y1, lt y x = true) :
    isort lt (X1 ++ Y1) ++ isort lt (X2 ++ Y2) = isort lt (X1 ++ X2 ++ (Y1 ++ Y2)) := by
  apply isort_eq hs
  · refine List.pairwise_append.2 ⟨isort_srtd hs _, isort_srtd hs _, fun u hu v hv => ?_⟩
    rw [isort_mem, List.mem_append] at hu hv
    have p1 := List.pairwise_append.1 h1
    have p2 := List.pairwise_append.1 h2
    rcases hu with hu | hu <;> rcases hv with hv | hv
    · exact p1.2.2 u hu v hv
    · exact h3 u hu v hv
    · exact asymm hs (h4 v hv u hu)
    · exact p2.2.2 u hu v hv
  · have e1 : Stab lt (X1 ++ X2 ++ (Y1 ++ Y2)) (X1 ++ Y1 ++ (X2 ++ Y2)) := by
      have := Stab.app (Stab.app (Stab.refl (lt := lt) X1) (stab_blocks hs h4)) (Stab.refl (lt := lt) Y2)
      simpa using this
    exact e1.trans (Stab.app (isort_stab hs _) (isort_stab hs _))
/-- What is known at the borders is known of all. -/
theorem borders (hs : SWO lt) {X1 X2 Y1 Y2 : List α} (h1 : Srtd lt (X1 ++ X2)) (h2 : Srtd lt (Y1 ++ Y2)) (f1 : ∀ x y, X1.getLast? = some x → Y2.head? = some y → lt y x = false) (f2 : ∀ x y, X2.head? = some x → Y1.getLast? = some y → lt y x = true) :
    (∀ x ∈ X1, ∀ y ∈ Y2, lt y x = false) ∧ ∀ x ∈ X2, ∀ y ∈ Y1, lt y x = true := by
  have p1 := List.pairwise_append.1 h1
  have p2 := List.pairwise_append.1 h2
  have last : ∀ {l : List α}, Srtd lt l → ∀ x ∈ l, ∃ z, l.getLast? = some z ∧ lt z x = false := by
    intro l hl x hx
    obtain ⟨A, z, rfl⟩ : ∃ A z, l = A ++ [z] := by
      cases List.eq_nil_or_concat l with
      | inl h => subst h; cases hx
      | inr h => obtain ⟨A, z, h⟩ := h; exact ⟨A, z, by simpa using h⟩
    refine ⟨z, by simp, ?_⟩
    rcases List.mem_append.1 hx with hx | hx
    · exact (List.pairwise_append.1 hl).2.2 x hx z (by simp)
    · simp at hx; subst hx; exact hs.irrefl _
  have head : ∀ {l : List α}, Srtd lt l → ∀ x ∈ l, ∃ z, l.head? = some z ∧ lt x z = false := by
    intro l hl x hx
    cases l with
    | nil => cases hx
    | cons z l =>
      refine ⟨z, rfl, ?_⟩
      rcases List.mem_cons.1 hx with rfl | hx
      · exact hs.irrefl _
      · exact (srtd_head hl).1 x hx
  refine ⟨fun x hx y hy => ?_, fun x hx y hy => ?_⟩
  · obtain ⟨u, hu, hux⟩ := last p1.1 x hx
    obtain ⟨v, hv, hyv⟩ := head p2.2.1 y hy
    exact hs.ntrans _ _ _ (hs.ntrans _ _ _ hyv (f1 u v hu hv)) hux
  · obtain ⟨u, hu, hxu⟩ := head p1.2.1 x hx
    obtain ⟨v, hv, hvy⟩ := last p2.1 y hy
    have h3 := f2 u v hu hv
    cases hq : lt y x with
    | true => rfl
    | false =>
      -- v ≤ .. : lt v y = false, lt y x = false, lt x u = false gives lt v u = false
      have := hs.ntrans _ _ _ (hs.ntrans _ _ _ hvy hq) hxu
      rw [h3] at this; cases this
/-! ### Places in lists -/
theorem set_two {P Q : List α} {x y : α} {k : Nat} (hk : P.length = k) : ((P ++ y :: x :: Q).set (k + 1) y).set k x = P ++ x :: y :: Q := by
  subst hk
  rw [List.set_append_right _ _ (by omega), List.set_append_right _ _ (by omega)]
  simp
theorem get_at {P Q : List α} {x : α} {k : Nat} (hk : P.length = k) : (P ++ x :: Q)[k]? = some x := by
  subst hk; simp
theorem set_far {P Q R : List α} {x y : α} {i j : Nat} (hi : P.length = i) (hj : i + 1 + Q.length = j) : ((P ++ x :: (Q ++ y :: R)).set i y).set j x = P ++ y :: (Q ++ x :: R) := by
  subst hi; subst hj
  rw [List.set_append_right _ _ (Nat.le_refl _), Nat.sub_self, List.set_cons_zero, List.set_append_right _ _ (by omega), show P.length + 1 + Q.length - P.length = Q.length + 1 by omega, List.set_cons_succ, List.set_append_right _ _ (Nat.le_refl _), Nat.sub_self, List.set_cons_zero]
theorem ins_left (hs : SWO lt) {x : α} {Y1 Y2 : List α} (h : Srtd lt (Y1 ++ Y2)) (f1 : ∀ y, Y1.getLast? = some y → lt y x = true) (f2 : ∀ y, Y2.head? = some y → lt y x = false) : isort lt ([x] ++ (Y1 ++ Y2)) = Y1 ++ x :: Y2 := by
  have hb := borders hs (X1 := [x]) (X2 := []) (Y1 := Y1) (Y2 := Y2) (List.pairwise_singleton ..) h (fun u v hu hv => by simp at hu; subst hu; exact f2 v hv) (by simp)
  have hb2 := borders hs (X1 := []) (X2 := [x]) (Y1 := Y1) (Y2 := Y2) (List.pairwise_singleton ..) h (by simp) (fun u v hu hv => by simp at hu; subst hu; exact f1 v hv)
  have p := List.pairwise_append.1 h
  symm
  apply isort_eq hs
  · refine List.pairwise_append.2 ⟨p.1, List.pairwise_cons.2 ⟨fun y hy => hb.1 x (by simp) y hy, p.2.1⟩, fun u hu v hv => ?_⟩
    rcases List.mem_cons.1 hv with rfl | hv
    · exact asymm hs (hb2.2 _ (by simp) u hu)
    · exact p.2.2 u hu v hv
  · have := Stab.app (stab_blocks hs (X := [x]) (Y := Y1) fun u hu y hy => by simp at hu; subst hu; exact hb2.2 _ (by simp) y hy) (Stab.refl (lt := lt) Y2)
    simpa using this
theorem ins_right (hs : SWO lt) {y : α} {X1 X2 : List α} (h : Srtd lt (X1 ++ X2)) (f1 : ∀ x, X1.getLast? = some x → lt y x = false) (f2 : ∀ x, X2.head? = some x → lt y x = true) : isort lt (X1 ++ X2 ++ [y]) = X1 ++ y :: X2 := by
  have hb := borders hs (X1 := X1) (X2 := X2) (Y1 := []) (Y2 := [y]) h (List.pairwise_singleton ..) (fun u v hu hv => by simp at hv; subst hv; exact f1 u hu) (by simp)
  have hb2 := borders hs (X1 := X1) (X2 := X2) (Y1 := [y]) (Y2 := []) h (by simp [Srtd]) (by simp) (fun u v hu hv => by simp at hv; subst hv; exact f2 u hu)
  rw [isort_snoc, isort_id hs h, insR_at]
  · intro x hx; exact hb.1 x hx y (by simp)
  · intro x hx; exact hb2.2 x hx y (by simp)
theorem last_take {l : List α} {k : Nat} (hk : 0 < k) (hl : k ≤ l.length) : (l.take k).getLast? = l[k - 1]? := by
  rw [List.getLast?_eq_getElem?, List.length_take, Nat.min_eq_left hl, List.getElem?_take_of_lt (by omega)]
theorem head_drop {l : List α} {k : Nat} : (l.drop k).head? = l[k]? := by rw [List.head?_drop]
end Stb
