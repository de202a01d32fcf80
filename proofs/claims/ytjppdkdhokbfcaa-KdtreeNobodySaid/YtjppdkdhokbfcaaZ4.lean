/- Own texts, one behind the other: P1, K1, K2, K3, K4, A1, A2, SxSort, A3, D1, E1, E3, SxSortC, E2, E4, E5, E6. -/
import Derived.Sort.Statements
import Derived.Test.YtjppdkdhokbfcaaProg
import Derived.Lib.Mul64
import Derived.IntWalk
import Derived.Shelf.SlSortCmp.NoneTotal
import Derived.Shelf.Sort.Plain
import Derived.Shelf.Slices.In.SortNone
import Derived.Shelf.Slices.CompactI
import Derived.Test.YtjppdkdhokbfcaaZ3
set_option linter.unusedVariables false
set_option linter.unusedSimpArgs false
namespace Stb
open Go.Sort (SWO)
variable {α : Type} {lt : α → α → Bool}

def eqv (lt : α → α → Bool) (x y : α) : Bool := !lt x y && !lt y x
/-- Alike elements stand in the same order. -/
def Stab (lt : α → α → Bool) (l l' : List α) : Prop := ∀ x, l'.filter (eqv lt x) = l.filter (eqv lt x)
def Srtd (lt : α → α → Bool) (l : List α) : Prop := l.Pairwise fun x y => lt y x = false
theorem Stab.refl (l : List α) : Stab lt l l := fun _ => rfl
theorem Stab.trans {a b c : List α} (h : Stab lt a b) (h' : Stab lt b c) : Stab lt a c := fun x => (h' x).trans (h x)
theorem Stab.app {a b c d : List α} (h : Stab lt a b) (h' : Stab lt c d) : Stab lt (a ++ c) (b ++ d) := fun x => by
  rw [List.filter_append, List.filter_append, h x, h' x]
theorem Stab.len {l l' : List α} (h : Stab lt l l') (hs : SWO lt) : l.length = l'.length := by
  -- by induction on the length of l, taking one class off
  suffices H : ∀ n (l l' : List α), l.length ≤ n → Stab lt l l' → l.length = l'.length from H _ l l' (Nat.le_refl _) h
  intro n
  induction n with
  | zero =>
    intro l l' hl h
    have : l = [] := List.length_eq_zero_iff.1 (by omega)
    subst this
    cases l' with
    | nil => rfl
    | cons y l' =>
      have := h y
      rw [List.filter_cons_of_pos (by simp [eqv, hs.irrefl])] at this
      simp at this
  | succ n ih =>
    intro l l' hl h
    cases l with
    | nil => cases l' with
      | nil => rfl
      | cons y l' =>
        have := h y
        rw [List.filter_cons_of_pos (by simp [eqv, hs.irrefl])] at this
        simp at this
    | cons x l =>
      have hx := h x
      have e1 : ((x :: l).filter (eqv lt x)).length + ((x :: l).filter (fun y => !eqv lt x y)).length = (x :: l).length := by
        have := List.length_eq_countP_add_countP (p := eqv lt x) (l := x :: l)
        rw [List.countP_eq_length_filter, List.countP_eq_length_filter] at this
        simp only [this]
        congr 2
        apply List.filter_congr
        intro y _
        simp
      have e2 : (l'.filter (eqv lt x)).length + (l'.filter (fun y => !eqv lt x y)).length = l'.length := by
        have := List.length_eq_countP_add_countP (p := eqv lt x) (l := l')
        rw [List.countP_eq_length_filter, List.countP_eq_length_filter] at this
        simp only [this]
        congr 2
        apply List.filter_congr
        intro y _
        simp
      have e3 : Stab lt ((x :: l).filter (fun y => !eqv lt x y)) (l'.filter (fun y => !eqv lt x y)) := by
        intro z
        rw [List.filter_filter, List.filter_filter]
        have hc : ∀ m : List α, m.filter (fun y => eqv lt z y && !eqv lt x y) = (m.filter (eqv lt z)).filter (fun y => !eqv lt x y) := by
          intro m
          rw [List.filter_filter]
          apply List.filter_congr
          intro y _
          rw [Bool.and_comm]
        rw [hc, hc, h z]
      have e4 : ((x :: l).filter (fun y => !eqv lt x y)).length ≤ n := by
        have : 1 ≤ ((x :: l).filter (eqv lt x)).length := by
          rw [List.filter_cons_of_pos (by simp [eqv, hs.irrefl])]; simp
        simp only [List.length_cons] at e1 hl
        omega
      have := ih _ _ e4 e3
      rw [← e1, ← e2, hx, this]
theorem eqv_trans (hs : SWO lt) {x y z : α} (h : eqv lt x y = true) (h' : eqv lt x z = true) : eqv lt y z = true := by
  simp only [eqv, Bool.and_eq_true, Bool.not_eq_true'] at *
  exact ⟨hs.ntrans _ _ _ h.2 h'.1, hs.ntrans _ _ _ h'.2 h.1⟩
theorem srtd_head {x : α} {l : List α} (h : Srtd lt (x :: l)) : (∀ y ∈ l, lt y x = false) ∧ Srtd lt l := List.pairwise_cons.1 h
/-- There is one sorted list with alike elements in the same order. -/
theorem sorted_one (hs : SWO lt) : ∀ {l l' : List α}, Srtd lt l → Srtd lt l' → Stab lt l l' → l' = l
  | [], l', _, _, h => by
    have := h.len hs
    exact List.length_eq_zero_iff.1 this.symm
  | x :: l, [], _, _, h => by
    have := h.len hs
    simp at this
  | x :: l, y :: l', h1, h2, h => by
    obtain ⟨a1, a2⟩ := srtd_head h1
    obtain ⟨b1, b2⟩ := srtd_head h2
    have mem : ∀ {z : α} {m m' : List α}, Stab lt m m' → z ∈ m' → ∃ u ∈ m, eqv lt z u = true := by
      intro z m m' hm hz
      have : z ∈ m'.filter (eqv lt z) := by simp [hz, eqv, hs.irrefl]
      rw [hm z] at this
      exact ⟨z, by simpa using (List.mem_filter.1 this).1, by simp [eqv, hs.irrefl]⟩
    have e : y = x := by
      -- y is alike some of the first list, x some of the second: neither is less
      obtain ⟨u, hu, hyu⟩ := mem h (List.mem_cons_self .. : y ∈ y :: l')
      have hrev : Stab lt (y :: l') (x :: l) := fun z => (h z).symm
      obtain ⟨v, hv, hxv⟩ := mem hrev (List.mem_cons_self .. : x ∈ x :: l)
      simp only [eqv, Bool.and_eq_true, Bool.not_eq_true'] at hyu hxv
      have hyx : lt y x = false := by
        have hux : lt u x = false := by
          rcases List.mem_cons.1 hu with rfl | hu
          · exact hs.irrefl _
          · exact a1 u hu
        exact hs.ntrans _ _ _ hyu.1 hux
      have hxy : lt x y = false := by
        have hvy : lt v y = false := by
          rcases List.mem_cons.1 hv with rfl | hv
          · exact hs.irrefl _
          · exact b1 v hv
        exact hs.ntrans _ _ _ hxv.1 hvy
      have hk := h x
      rw [List.filter_cons_of_pos (by simp [eqv, hxy, hyx]), List.filter_cons_of_pos (by simp [eqv, hs.irrefl])] at hk
      exact (List.cons.inj hk).1
    subst e
    congr 1
    refine sorted_one hs a2 b2 fun z => ?_
    have := h z
    simp only [List.filter_cons] at this
    split at this
    · exact (List.cons.inj this).2
    · exact this
/-! ### The insertion sort of a list -/
def insR (lt : α → α → Bool) (x : α) : List α → List α
  | [] => [x]
  | y :: l => if lt x y then x :: y :: l else y :: insR lt x l
def isort (lt : α → α → Bool) (l : List α) : List α := l.foldl (fun acc x => insR lt x acc) []
theorem insR_stab (hs : SWO lt) (x : α) : ∀ (l : List α), Srtd lt l → Srtd lt (insR lt x l) ∧ Stab lt (l ++ [x]) (insR lt x l) ∧ ∀ y ∈ insR lt x l, y = x ∨ y ∈ l
  | [], _ => by simp [insR, Srtd, Stab]
  | y :: l, h => by
    obtain ⟨h1, h2⟩ := srtd_head h
    obtain ⟨i1, i2, i3⟩ := insR_stab hs x l h2
    unfold insR
    split
    · rename_i hxy
      refine ⟨?_, ?_, by simp⟩
      · refine List.pairwise_cons.2 ⟨fun z hz => ?_, h⟩
        rcases List.mem_cons.1 hz with rfl | hz
        · cases hq : lt z x with
          | false => rfl
          | true => have := hs.trans _ _ _ hq hxy; rw [hs.irrefl] at this; cases this
        · cases hq : lt z x with
          | false => rfl
          | true => have := hs.trans _ _ _ hq hxy; rw [h1 z hz] at this; cases this
      · -- x goes ahead of all of them: each is greater
        have all : ∀ z ∈ y :: l, lt x z = true := by
          intro z hz
          rcases List.mem_cons.1 hz with rfl | hz
          · exact hxy
          · cases hq : lt x z with
            | true => rfl
            | false => have := hs.ntrans _ _ _ hq (h1 z hz); rw [hxy] at this; cases this
        intro u
        rw [List.filter_append]
        by_cases hu : eqv lt u x = true
        · have : (y :: l).filter (eqv lt u) = [] := by
            rw [List.filter_eq_nil_iff]
            intro z hz hq
            have := eqv_trans hs hu hq
            simp [eqv, all z hz] at this
          rw [this, List.filter_cons_of_pos hu, this]
          simp [hu]
        · simp only [Bool.not_eq_true] at hu
          rw [List.filter_cons_of_neg (by simp [hu])]
          simp [hu]
    · rename_i hxy
      simp only [Bool.not_eq_true] at hxy
      refine ⟨List.pairwise_cons.2 ⟨fun z hz => ?_, i1⟩, ?_, ?_⟩
      · rcases i3 z hz with rfl | hz
        · exact hxy
        · exact h1 z hz
      · exact Stab.app (a := [y]) (b := [y]) (Stab.refl _) i2
      · intro z hz
        rcases List.mem_cons.1 hz with rfl | hz
        · simp
        · rcases i3 z hz with rfl | hz <;> simp [*]
theorem isort_go (hs : SWO lt) : ∀ (l acc : List α), Srtd lt acc → Srtd lt (l.foldl (fun acc x => insR lt x acc) acc) ∧ Stab lt (acc ++ l) (l.foldl (fun acc x => insR lt x acc) acc)
  | [], acc, h => by simp [h, Stab]
  | x :: l, acc, h => by
    obtain ⟨i1, i2, _⟩ := insR_stab hs x acc h
    obtain ⟨g1, g2⟩ := isort_go hs l _ i1
    refine ⟨g1, ?_⟩
    have : Stab lt (acc ++ x :: l) (insR lt x acc ++ l) := by
      have := Stab.app i2 (Stab.refl (lt := lt) l)
      simpa using this
    exact this.trans g2
theorem isort_srtd (hs : SWO lt) (l : List α) : Srtd lt (isort lt l) := (isort_go hs l [] List.Pairwise.nil).1
theorem isort_stab (hs : SWO lt) (l : List α) : Stab lt l (isort lt l) := by
  have := (isort_go hs l [] List.Pairwise.nil).2
  rw [List.nil_append] at this
  exact this
theorem isort_eq (hs : SWO lt) {l l' : List α} (h : Srtd lt l') (h' : Stab lt l l') : l' = isort lt l :=
  sorted_one hs (isort_srtd hs l) h fun x => by rw [h' x, isort_stab hs l x]
theorem isort_snoc (l : List α) (x : α) : isort lt (l ++ [x]) = insR lt x (isort lt l) := by simp [isort, List.foldl_append]
theorem insR_len (x : α) : ∀ l : List α, (insR lt x l).length = l.length + 1
  | [] => rfl
  | y :: l => by unfold insR; split <;> simp [insR_len x l]
theorem isort_len (l : List α) : (isort lt l).length = l.length := by
  have : ∀ (l acc : List α), (l.foldl (fun acc x => insR lt x acc) acc).length = acc.length + l.length := by
    intro l
    induction l with
    | nil => simp
    | cons x l ih => intro acc; rw [List.foldl_cons, ih, insR_len, List.length_cons]; omega
  have h := this l []
  simp only [List.length_nil, Nat.zero_add] at h
  exact h
theorem insR_at (x : α) : ∀ (P Q : List α), (∀ y ∈ P, lt x y = false) → (∀ y ∈ Q, lt x y = true) → insR lt x (P ++ Q) = P ++ x :: Q
  | [], [], _, _ => rfl
  | [], y :: Q, _, h => by simp [insR, h y (List.mem_cons_self ..)]
  | y :: P, Q, h, h' => by
    have := insR_at x P Q (fun z hz => h z (List.mem_cons_of_mem _ hz)) h'
    simp [insR, h y (List.mem_cons_self ..), this]
theorem insR_mem {x z : α} : ∀ {l : List α}, z ∈ insR lt x l ↔ z = x ∨ z ∈ l
  | [] => by simp [insR]
  | y :: l => by
    unfold insR
    split
    · simp
    · simp only [List.mem_cons, insR_mem (l := l)]
      constructor
      · rintro (h | h | h) <;> simp [h]
      · rintro (h | h | h) <;> simp [h]
theorem isort_mem {z : α} {l : List α} : z ∈ isort lt l ↔ z ∈ l := by
  have : ∀ (l acc : List α), z ∈ l.foldl (fun acc x => insR lt x acc) acc ↔ z ∈ acc ∨ z ∈ l := by
    intro l
    induction l with
    | nil => simp
    | cons x l ih =>
      intro acc
      rw [List.foldl_cons, ih, insR_mem, List.mem_cons]
      constructor
      · rintro ((h | h) | h) <;> simp [h]
      · rintro (h | h | h) <;> simp [h]
  have h := this l []
  simp only [List.not_mem_nil, false_or] at h
  exact h
theorem isort_id (hs : SWO lt) {l : List α} (h : Srtd lt l) : isort lt l = l := (isort_eq hs h (Stab.refl l)).symm
/-- Two blocks, each one of the second less than each one of the first, may change places. -/
theorem stab_blocks (hs : SWO lt) {X Y : List α} (h : ∀ x ∈ X, ∀ y ∈ Y, lt y x = true) : Stab lt (X ++ Y) (Y ++ X) := by
  intro z
  rw [List.filter_append, List.filter_append]
  by_cases hx : X.filter (eqv lt z) = []
  · rw [hx]; simp
  · obtain ⟨x, hx⟩ := List.exists_mem_of_ne_nil _ hx
    obtain ⟨hx1, hx2⟩ := List.mem_filter.1 hx
    have : Y.filter (eqv lt z) = [] := by
      rw [List.filter_eq_nil_iff]
      intro y hy hq
      have := eqv_trans hs hx2 hq
      simp [eqv, h x hx1 y hy] at this
    rw [this]; simp
theorem asymm (hs : SWO lt) {x y : α} (h : lt x y = true) : lt y x = false := by
  cases hq : lt y x with
  | false => rfl
  | true => have := hs.trans _ _ _ h hq; rw [hs.irrefl] at this; cases this
/-- Merging in two halves. -/
theorem merge_halves (hs : SWO lt) {X1 X2 Y1 Y2 : List α} (h1 : Srtd lt (X1 ++ X2)) (h2 : Srtd lt (Y1 ++ Y2)) (h3 : ∀ x ∈ X1, ∀ y ∈ Y2, lt y x = false) (h4 : ∀ x ∈ X2, ∀ y ∈ Y1, lt y x = true) :
    isort lt (X1 ++ Y1) ++ isort lt (X2 ++ Y2) = isort lt (X1 ++ X2 ++ (Y1 ++ Y2)) := by
  apply isort_eq hs
  · refine List.pairwise_append.2 ⟨isort_srtd hs _, isort_srtd hs _, fun u hu v hv => ?_⟩
    rw [isort_mem, List.mem_append] at hu hv
    have p1 := List.pairwise_append.1 h1
    have p2 := List.pairwise_append.1 h2
    rcases hu with hu | hu <;> rcases hv with hv | hv
    · exact p1.2.2 u hu v hv
    · exact h3 u hu v hv
    · exact asymm hs (h4 v hv u hu)
    · exact p2.2.2 u hu v hv
  · have e1 : Stab lt (X1 ++ X2 ++ (Y1 ++ Y2)) (X1 ++ Y1 ++ (X2 ++ Y2)) := by
      have := Stab.app (Stab.app (Stab.refl (lt := lt) X1) (stab_blocks hs h4)) (Stab.refl (lt := lt) Y2)
      simpa using this
    exact e1.trans (Stab.app (isort_stab hs _) (isort_stab hs _))
/-- What is known at the borders is known of all. -/
theorem borders (hs : SWO lt) {X1 X2 Y1 Y2 : List α} (h1 : Srtd lt (X1 ++ X2)) (h2 : Srtd lt (Y1 ++ Y2)) (f1 : ∀ x y, X1.getLast? = some x → Y2.head? = some y → lt y x = false) (f2 : ∀ x y, X2.head? = some x → Y1.getLast? = some y → lt y x = true) :
    (∀ x ∈ X1, ∀ y ∈ Y2, lt y x = false) ∧ ∀ x ∈ X2, ∀ y ∈ Y1, lt y x = true := by
  have p1 := List.pairwise_append.1 h1
  have p2 := List.pairwise_append.1 h2
  have last : ∀ {l : List α}, Srtd lt l → ∀ x ∈ l, ∃ z, l.getLast? = some z ∧ lt z x = false := by
    intro l hl x hx
    obtain ⟨A, z, rfl⟩ : ∃ A z, l = A ++ [z] := by
      cases List.eq_nil_or_concat l with
      | inl h => subst h; cases hx
      | inr h => obtain ⟨A, z, h⟩ := h; exact ⟨A, z, by simpa using h⟩
    refine ⟨z, by simp, ?_⟩
    rcases List.mem_append.1 hx with hx | hx
    · exact (List.pairwise_append.1 hl).2.2 x hx z (by simp)
    · simp at hx; subst hx; exact hs.irrefl _
  have head : ∀ {l : List α}, Srtd lt l → ∀ x ∈ l, ∃ z, l.head? = some z ∧ lt x z = false := by
    intro l hl x hx
    cases l with
    | nil => cases hx
    | cons z l =>
      refine ⟨z, rfl, ?_⟩
      rcases List.mem_cons.1 hx with rfl | hx
      · exact hs.irrefl _
      · exact (srtd_head hl).1 x hx
  refine ⟨fun x hx y hy => ?_, fun x hx y hy => ?_⟩
  · obtain ⟨u, hu, hux⟩ := last p1.1 x hx
    obtain ⟨v, hv, hyv⟩ := head p2.2.1 y hy
    exact hs.ntrans _ _ _ (hs.ntrans _ _ _ hyv (f1 u v hu hv)) hux
  · obtain ⟨u, hu, hxu⟩ := head p1.2.1 x hx
    obtain ⟨v, hv, hvy⟩ := last p2.1 y hy
    have h3 := f2 u v hu hv
    cases hq : lt y x with
    | true => rfl
    | false =>
      -- v ≤ .. : lt v y = false, lt y x = false, lt x u = false gives lt v u = false
      have := hs.ntrans _ _ _ (hs.ntrans _ _ _ hvy hq) hxu
      rw [h3] at this; cases this
/-! ### Places in lists -/
theorem set_two {P Q : List α} {x y : α} {k : Nat} (hk : P.length = k) : ((P ++ y :: x :: Q).set (k + 1) y).set k x = P ++ x :: y :: Q := by
  subst hk
  rw [List.set_append_right _ _ (by omega), List.set_append_right _ _ (by omega)]
  simp
theorem get_at {P Q : List α} {x : α} {k : Nat} (hk : P.length = k) : (P ++ x :: Q)[k]? = some x := by
  subst hk; simp
theorem set_far {P Q R : List α} {x y : α} {i j : Nat} (hi : P.length = i) (hj : i + 1 + Q.length = j) : ((P ++ x :: (Q ++ y :: R)).set i y).set j x = P ++ y :: (Q ++ x :: R) := by
  subst hi; subst hj
  rw [List.set_append_right _ _ (Nat.le_refl _), Nat.sub_self, List.set_cons_zero, List.set_append_right _ _ (by omega), show P.length + 1 + Q.length - P.length = Q.length + 1 by omega, List.set_cons_succ, List.set_append_right _ _ (Nat.le_refl _), Nat.sub_self, List.set_cons_zero]
theorem ins_left (hs : SWO lt) {x : α} {Y1 Y2 : List α} (h : Srtd lt (Y1 ++ Y2)) (f1 : ∀ y, Y1.getLast? = some y → lt y x = true) (f2 : ∀ y, Y2.head? = some y → lt y x = false) : isort lt ([x] ++ (Y1 ++ Y2)) = Y1 ++ x :: Y2 := by
  have hb := borders hs (X1 := [x]) (X2 := []) (Y1 := Y1) (Y2 := Y2) (List.pairwise_singleton ..) h (fun u v hu hv => by simp at hu; subst hu; exact f2 v hv) (by simp)
  have hb2 := borders hs (X1 := []) (X2 := [x]) (Y1 := Y1) (Y2 := Y2) (List.pairwise_singleton ..) h (by simp) (fun u v hu hv => by simp at hu; subst hu; exact f1 v hv)
  have p := List.pairwise_append.1 h
  symm
  apply isort_eq hs
  · refine List.pairwise_append.2 ⟨p.1, List.pairwise_cons.2 ⟨fun y hy => hb.1 x (by simp) y hy, p.2.1⟩, fun u hu v hv => ?_⟩
    rcases List.mem_cons.1 hv with rfl | hv
    · exact asymm hs (hb2.2 _ (by simp) u hu)
    · exact p.2.2 u hu v hv
  · have := Stab.app (stab_blocks hs (X := [x]) (Y := Y1) fun u hu y hy => by simp at hu; subst hu; exact hb2.2 _ (by simp) y hy) (Stab.refl (lt := lt) Y2)
    simpa using this
theorem ins_right (hs : SWO lt) {y : α} {X1 X2 : List α} (h : Srtd lt (X1 ++ X2)) (f1 : ∀ x, X1.getLast? = some x → lt y x = false) (f2 : ∀ x, X2.head? = some x → lt y x = true) : isort lt (X1 ++ X2 ++ [y]) = X1 ++ y :: X2 := by
  have hb := borders hs (X1 := X1) (X2 := X2) (Y1 := []) (Y2 := [y]) h (List.pairwise_singleton ..) (fun u v hu hv => by simp at hv; subst hv; exact f1 u hu) (by simp)
  have hb2 := borders hs (X1 := X1) (X2 := X2) (Y1 := [y]) (Y2 := []) h (by simp [Srtd]) (by simp) (fun u v hu hv => by simp at hv; subst hv; exact f2 u hu)
  rw [isort_snoc, isort_id hs h, insR_at]
  · intro x hx; exact hb.1 x hx y (by simp)
  · intro x hx; exact hb2.2 x hx y (by simp)
theorem last_take {l : List α} {k : Nat} (hk : 0 < k) (hl : k ≤ l.length) : (l.take k).getLast? = l[k - 1]? := by
  rw [List.getLast?_eq_getElem?, List.length_take, Nat.min_eq_left hl, List.getElem?_take_of_lt (by omega)]
theorem head_drop {l : List α} {k : Nat} : (l.drop k).head? = l[k]? := by rw [List.head?_drop]
end Stb

set_option linter.unusedVariables false
set_option linter.unusedSimpArgs false
namespace Cr
open Go Sx Stb
open Go.Proofs.Try
@[simp] theorem delLs_nil (H : Heap) : delLs H [] = H := rfl
structure Pt where
  id : Int
  x : Int
  y : Int
  data : ByteArray
  deriving Inhabited, DecidableEq
@[reducible] def ptC (p : Pt) : List Value := [.int .i64 p.id, .int .u32 p.x, .int .u32 p.y, .string p.data]
abbrev ptV (p : Pt) : Value := .agg { toList := [.int .i64 p.id, .int .u32 p.x, .int .u32 p.y, .string p.data] }
abbrev tPt : Nat := 44
abbrev pts (l : List Pt) : List (List Value) := l.map ptC
abbrev vi (n : Int) : Value := .int .i64 n
/-- A comparing function. -/
def CmpOK (g : Nat) (cf : Pt → Pt → Int) : Prop := ∀ (p q : Pt) (H : Heap) (R : Ending → Heap → Prop), R (.returned (vi (cf p q))) H → Meets prog g [ptV p, ptV q] H R
def ltc (cf : Pt → Pt → Int) (p q : Pt) : Bool := decide (cf p q < 0)
theorem ptC_one (p : Pt) : ∀ x ∈ ptC p, one x = true := by intro x hx; simp at hx; rcases hx with rfl | rfl | rfl | rfl <;> rfl
theorem pr_get {H : Heap} {a : Option Addr} {n c : Nat} {l : List Pt} (h : SliceAt H (.slice a n c) 4 (pts l)) {i : Nat} {p : Pt} (he : l[i]? = some p) : ∃ A, a = some A ∧ H.has (A.add (i * 4)) (ptC p) := by
  obtain ⟨A, h1, _, h2⟩ := slice_get h (i := i) (e := ptC p) (by simp [pts, he])
  exact ⟨A, h1, h2⟩
theorem pr_put {H : Heap} {A : Addr} {n c ty : Nat} {l : List Pt} (h : RowAt H (.slice (some A) n c) ty 4 (pts l)) {i : Nat} (hi : i < n) (p : Pt) :
    ∃ cl, (H (A.add (i * 4)).block = some (.cells cl ty (0, 0)) ∧ (A.add (i * 4)).spot = none ∧ (A.add (i * 4)).off + 4 ≤ cl.size) ∧
      RowAt (H.upd (A.add (i * 4)).block (.cells (writeCells cl (A.add (i * 4)).off (ptC p)) ty (0, 0))) (.slice (some A) n c) ty 4 (pts (l.set i p)) ∧
      Mod (.slice (some A) n c) H (H.upd (A.add (i * 4)).block (.cells (writeCells cl (A.add (i * 4)).off (ptC p)) ty (0, 0))) := by
  obtain ⟨A', e, cl, h1, h2, h3⟩ := row_store h hi (cs := ptC p) rfl (ptC_one p)
  cases e
  refine ⟨cl, h1, ?_, h3⟩
  rw [pts, List.map_set]
  exact h2
theorem keep_same (G H Hl : Heap) : Keep G H Hl Hl := fun _ _ h _ => h
end Cr

set_option linter.unusedVariables false
set_option linter.unusedSimpArgs false
namespace Cr
open Go Sx Stb
open Go.Sort (SWO)
open Go.Proofs.Try
set_option maxRecDepth 100000
def h_ins : Hints := { loops := [(1, ⟨[0, 1, 2, 3], [.f 8 (.int .i64)], []⟩), (4, ⟨[0, 1, 2, 3, 8], [.f 9 (.int .i64)], []⟩)] }
def h_swr : Hints := { loops := [(1, ⟨[0, 1, 2, 3, 4], [.f 10 (.int .i64)], []⟩)] }
def h_rot : Hints := { loops := [(2, ⟨[0, 1, 2, 3, 4], [.f 10 (.int .i64), .f 11 (.int .i64)], []⟩)] }
def nf_ins (A : Addr) (n : Nat) (c : Nat) (g : Nat) (a : Int) (b : Int) (R : Ending → Heap → Prop) (H : Heap) : Prop := some A = some A ∧ n = n ∧ c = c ∧ a = a ∧ b = b ∧ Value.func (Fn.func g) { toList := [] } { toList := [] } = Value.func (Fn.func g) { toList := [] } { toList := [] } ∧ LoopP (fun (K : (Int × PUnit) × PUnit → (Nat → Option Obj) → Prop) (p : (Int × PUnit) × PUnit) (H : Nat → Option Obj) ↦ Br (decide (p.fst.fst < b)) (some A = some A ∧ n = n ∧ c = c ∧ a = a ∧ b = b ∧ Value.func (Fn.func g) { toList := [] } { toList := [] } = Value.func (Fn.func g) { toList := [] } { toList := [] } ∧ p.fst.fst = p.fst.fst ∧ LoopP (fun (K_1 : (Int × PUnit) × PUnit → (Nat → Option Obj) → Prop) (p_1 : (Int × PUnit) × PUnit) (H : Nat → Option Obj) ↦ ∃ (G : Nat → Option Obj), G ≤ H ∧ Br (decide (p_1.fst.fst > a)) (((0 : Int) ≤ p_1.fst.fst ∧ p_1.fst.fst < (↑n : Int)) ∧ PtrK (some A) fun (A_1 : Addr) ↦ PtrK (some (Addr.add A_1 (Int.toNat p_1.fst.fst * (4 : Nat)))) fun (a_1 : Addr) ↦ ∃ (n_1 : Int), ∃ (n_2 : Int), ∃ (n_3 : Int), ∃ (s : ByteArray), Heap.has G a_1 [Value.int IntKind.i64 n_1, Value.int IntKind.u32 n_2, Value.int IntKind.u32 n_3, Value.string s] ∧ ((0 : Int) ≤ IntKind.wrap IntKind.i64 (p_1.fst.fst - (1 : Int)) ∧ IntKind.wrap IntKind.i64 (p_1.fst.fst - (1 : Int)) < (↑n : Int)) ∧ PtrK (some A) fun (A_2 : Addr) ↦ PtrK (some (Addr.add A_2 (Int.toNat (IntKind.wrap IntKind.i64 (p_1.fst.fst - (1 : Int))) * (4 : Nat)))) fun (a_2 : Addr) ↦ ∃ (n_4 : Int), ∃ (n_5 : Int), ∃ (n_6 : Int), ∃ (s_1 : ByteArray), Heap.has G a_2 [Value.int IntKind.i64 n_4, Value.int IntKind.u32 n_5, Value.int IntKind.u32 n_6, Value.string s_1] ∧ Meets prog g [Value.agg { toList := [Value.int IntKind.i64 n_1, Value.int IntKind.u32 n_2, Value.int IntKind.u32 n_3, Value.string s] }, Value.agg { toList := [Value.int IntKind.i64 n_4, Value.int IntKind.u32 n_5, Value.int IntKind.u32 n_6, Value.string s_1] }] H fun (e : Ending) (H' : Nat → Option Obj) ↦ Keep G H H H' ∧ ∃ (n_7 : Int), e = Ending.returned (Value.int IntKind.i64 n_7) ∧ Br (decide (n_7 < (0 : Int))) (((0 : Int) ≤ IntKind.wrap IntKind.i64 (p_1.fst.fst - (1 : Int)) ∧ IntKind.wrap IntKind.i64 (p_1.fst.fst - (1 : Int)) < (↑n : Int)) ∧ PtrK (some A) fun (A_3 : Addr) ↦ PtrK (some (Addr.add A_3 (Int.toNat (IntKind.wrap IntKind.i64 (p_1.fst.fst - (1 : Int))) * (4 : Nat)))) fun (a_3 : Addr) ↦ ∃ (n_8 : Int), ∃ (n_9 : Int), ∃ (n_10 : Int), ∃ (s : ByteArray), Heap.has (delLs H' []) a_3 [Value.int IntKind.i64 n_8, Value.int IntKind.u32 n_9, Value.int IntKind.u32 n_10, Value.string s] ∧ ((0 : Int) ≤ p_1.fst.fst ∧ p_1.fst.fst < (↑n : Int)) ∧ PtrK (some A) fun (A_4 : Addr) ↦ PtrK (some (Addr.add A_4 (Int.toNat p_1.fst.fst * (4 : Nat)))) fun (a_4 : Addr) ↦ ∃ (n_11 : Int), ∃ (n_12 : Int), ∃ (n_13 : Int), ∃ (s_2 : ByteArray), Heap.has (delLs H' []) a_4 [Value.int IntKind.i64 n_11, Value.int IntKind.u32 n_12, Value.int IntKind.u32 n_13, Value.string s_2] ∧ ((0 : Int) ≤ p_1.fst.fst ∧ p_1.fst.fst < (↑n : Int)) ∧ PtrK (some A) fun (A_5 : Addr) ↦ PtrK (some (Addr.add A_5 (Int.toNat p_1.fst.fst * (4 : Nat)))) fun (A_6 : Addr) ↦ ∃ (c_1 : Array Value), ∃ (ty : Nat), (delLs H' [] A_6.block = some (Obj.cells c_1 ty) ∧ A_6.spot = none ∧ A_6.off + (4 : Nat) ≤ Array.size c_1) ∧ ((0 : Int) ≤ IntKind.wrap IntKind.i64 (p_1.fst.fst - (1 : Int)) ∧ IntKind.wrap IntKind.i64 (p_1.fst.fst - (1 : Int)) < (↑n : Int)) ∧ PtrK (some A) fun (A_7 : Addr) ↦ PtrK (some (Addr.add A_7 (Int.toNat (IntKind.wrap IntKind.i64 (p_1.fst.fst - (1 : Int))) * (4 : Nat)))) fun (A_8 : Addr) ↦ ∃ (c_2 : Array Value), ∃ (ty_1 : Nat), (Heap.upd (delLs H' ([] ++ ([] ++ ([] ++ ([] ++ ([] ++ []))) ++ ([] ++ ([] ++ ([] ++ ([] ++ []))) ++ [])))) A_6.block (Obj.cells (writeCells c_1 A_6.off [Value.int IntKind.i64 n_8, Value.int IntKind.u32 n_9, Value.int IntKind.u32 n_10, Value.string s]) ty) A_8.block = some (Obj.cells c_2 ty_1) ∧ A_8.spot = none ∧ A_8.off + (4 : Nat) ≤ Array.size c_2) ∧ some A = some A ∧ n = n ∧ c = c ∧ a = a ∧ b = b ∧ Value.func (Fn.func g) { toList := [] } { toList := [] } = Value.func (Fn.func g) { toList := [] } { toList := [] } ∧ p.fst.fst = p.fst.fst ∧ K_1 ((IntKind.wrap IntKind.i64 (p_1.fst.fst - (1 : Int)), PUnit.unit), PUnit.unit) (Heap.upd (Heap.upd (delLs H' []) A_6.block (Obj.cells (writeCells c_1 A_6.off [Value.int IntKind.i64 n_8, Value.int IntKind.u32 n_9, Value.int IntKind.u32 n_10, Value.string s]) ty)) A_8.block (Obj.cells (writeCells c_2 A_8.off [Value.int IntKind.i64 n_11, Value.int IntKind.u32 n_12, Value.int IntKind.u32 n_13, Value.string s_2]) ty_1))) (some A = some A ∧ n = n ∧ c = c ∧ a = a ∧ b = b ∧ Value.func (Fn.func g) { toList := [] } { toList := [] } = Value.func (Fn.func g) { toList := [] } { toList := [] } ∧ K ((IntKind.wrap IntKind.i64 (p.fst.fst + (1 : Int)), PUnit.unit), PUnit.unit) (delLs H' []))) (some A = some A ∧ n = n ∧ c = c ∧ a = a ∧ b = b ∧ Value.func (Fn.func g) { toList := [] } { toList := [] } = Value.func (Fn.func g) { toList := [] } { toList := [] } ∧ K ((IntKind.wrap IntKind.i64 (p.fst.fst + (1 : Int)), PUnit.unit), PUnit.unit) H)) ((p.fst.fst, PUnit.unit), PUnit.unit) H) (R (Ending.returned (Value.tuple { toList := [] })) H)) ((IntKind.wrap IntKind.i64 (a + (1 : Int)), PUnit.unit), PUnit.unit) H
theorem vc_ins (A : Addr) (n : Nat) (c : Nat) (g : Nat) (a : Int) (b : Int) (R : Ending → Heap → Prop) (H : Heap) : vcFun prog h_ins f56 [SV.c (SC.v (Value.slice (some A) n c)), SV.c (SC.v (Value.int IntKind.i64 a)), SV.c (SC.v (Value.int IntKind.i64 b)), SV.c (SC.v (Value.func (Fn.func g) #[] #[]))] R H = nf_ins A n c g a b R H := by kernel_rfl

def nf_swr (A : Addr) (n : Nat) (c : Nat) (g : Nat) (a : Int) (b : Int) (m : Int) (R : Ending → Heap → Prop) (H : Heap) : Prop := some A = some A ∧ n = n ∧ c = c ∧ a = a ∧ b = b ∧ m = m ∧ Value.func (Fn.func g) { toList := [] } { toList := [] } = Value.func (Fn.func g) { toList := [] } { toList := [] } ∧ LoopP (fun (K : (Int × PUnit) × PUnit → (Nat → Option Obj) → Prop) (p : (Int × PUnit) × PUnit) (H : Nat → Option Obj) ↦ Br (decide (p.fst.fst < m)) (((0 : Int) ≤ IntKind.wrap IntKind.i64 (b + p.fst.fst) ∧ IntKind.wrap IntKind.i64 (b + p.fst.fst) < (↑n : Int)) ∧ PtrK (some A) fun (A_1 : Addr) ↦ PtrK (some (Addr.add A_1 (Int.toNat (IntKind.wrap IntKind.i64 (b + p.fst.fst)) * (4 : Nat)))) fun (a_1 : Addr) ↦ ∃ (n_1 : Int), ∃ (n_2 : Int), ∃ (n_3 : Int), ∃ (s : ByteArray), Heap.has H a_1 [Value.int IntKind.i64 n_1, Value.int IntKind.u32 n_2, Value.int IntKind.u32 n_3, Value.string s] ∧ ((0 : Int) ≤ IntKind.wrap IntKind.i64 (a + p.fst.fst) ∧ IntKind.wrap IntKind.i64 (a + p.fst.fst) < (↑n : Int)) ∧ PtrK (some A) fun (A_2 : Addr) ↦ PtrK (some (Addr.add A_2 (Int.toNat (IntKind.wrap IntKind.i64 (a + p.fst.fst)) * (4 : Nat)))) fun (a_2 : Addr) ↦ ∃ (n_4 : Int), ∃ (n_5 : Int), ∃ (n_6 : Int), ∃ (s_1 : ByteArray), Heap.has H a_2 [Value.int IntKind.i64 n_4, Value.int IntKind.u32 n_5, Value.int IntKind.u32 n_6, Value.string s_1] ∧ ((0 : Int) ≤ IntKind.wrap IntKind.i64 (a + p.fst.fst) ∧ IntKind.wrap IntKind.i64 (a + p.fst.fst) < (↑n : Int)) ∧ PtrK (some A) fun (A_3 : Addr) ↦ PtrK (some (Addr.add A_3 (Int.toNat (IntKind.wrap IntKind.i64 (a + p.fst.fst)) * (4 : Nat)))) fun (A_4 : Addr) ↦ ∃ (c_1 : Array Value), ∃ (ty : Nat), (H A_4.block = some (Obj.cells c_1 ty) ∧ A_4.spot = none ∧ A_4.off + (4 : Nat) ≤ Array.size c_1) ∧ ((0 : Int) ≤ IntKind.wrap IntKind.i64 (b + p.fst.fst) ∧ IntKind.wrap IntKind.i64 (b + p.fst.fst) < (↑n : Int)) ∧ PtrK (some A) fun (A_5 : Addr) ↦ PtrK (some (Addr.add A_5 (Int.toNat (IntKind.wrap IntKind.i64 (b + p.fst.fst)) * (4 : Nat)))) fun (A_6 : Addr) ↦ ∃ (c_2 : Array Value), ∃ (ty_1 : Nat), (Heap.upd H A_4.block (Obj.cells (writeCells c_1 A_4.off [Value.int IntKind.i64 n_1, Value.int IntKind.u32 n_2, Value.int IntKind.u32 n_3, Value.string s]) ty) A_6.block = some (Obj.cells c_2 ty_1) ∧ A_6.spot = none ∧ A_6.off + (4 : Nat) ≤ Array.size c_2) ∧ some A = some A ∧ n = n ∧ c = c ∧ a = a ∧ b = b ∧ m = m ∧ Value.func (Fn.func g) { toList := [] } { toList := [] } = Value.func (Fn.func g) { toList := [] } { toList := [] } ∧ K ((IntKind.wrap IntKind.i64 (p.fst.fst + (1 : Int)), PUnit.unit), PUnit.unit) (Heap.upd (Heap.upd H A_4.block (Obj.cells (writeCells c_1 A_4.off [Value.int IntKind.i64 n_1, Value.int IntKind.u32 n_2, Value.int IntKind.u32 n_3, Value.string s]) ty)) A_6.block (Obj.cells (writeCells c_2 A_6.off [Value.int IntKind.i64 n_4, Value.int IntKind.u32 n_5, Value.int IntKind.u32 n_6, Value.string s_1]) ty_1))) (R (Ending.returned (Value.tuple { toList := [] })) H)) (((0 : Int), PUnit.unit), PUnit.unit) H
theorem vc_swr (A : Addr) (n : Nat) (c : Nat) (g : Nat) (a : Int) (b : Int) (m : Int) (R : Ending → Heap → Prop) (H : Heap) : vcFun prog h_swr f85 [SV.c (SC.v (Value.slice (some A) n c)), SV.c (SC.v (Value.int IntKind.i64 a)), SV.c (SC.v (Value.int IntKind.i64 b)), SV.c (SC.v (Value.int IntKind.i64 m)), SV.c (SC.v (Value.func (Fn.func g) #[] #[]))] R H = nf_swr A n c g a b m R H := by kernel_rfl

def nf_rot (A : Addr) (n : Nat) (c : Nat) (g : Nat) (a : Int) (m : Int) (b : Int) (R : Ending → Heap → Prop) (H : Heap) : Prop := some A = some A ∧ n = n ∧ c = c ∧ a = a ∧ m = m ∧ b = b ∧ Value.func (Fn.func g) { toList := [] } { toList := [] } = Value.func (Fn.func g) { toList := [] } { toList := [] } ∧ LoopP (fun (K : (Int × Int × PUnit) × PUnit → (Nat → Option Obj) → Prop) (p : (Int × Int × PUnit) × PUnit) (H : Nat → Option Obj) ↦ Br (p.fst.fst != p.fst.snd.fst) (Br (decide (p.fst.fst > p.fst.snd.fst)) (Meets prog (85 : Nat) [Value.slice (some A) n c, Value.int IntKind.i64 (IntKind.wrap IntKind.i64 (m - p.fst.fst)), Value.int IntKind.i64 m, Value.int IntKind.i64 p.fst.snd.fst, Value.func (Fn.func g) { toList := [] } { toList := [] }] H fun (e : Ending) (H' : Nat → Option Obj) ↦ e = Ending.returned (Value.tuple { toList := [] }) ∧ some A = some A ∧ n = n ∧ c = c ∧ a = a ∧ m = m ∧ b = b ∧ Value.func (Fn.func g) { toList := [] } { toList := [] } = Value.func (Fn.func g) { toList := [] } { toList := [] } ∧ K ((IntKind.wrap IntKind.i64 (p.fst.fst - p.fst.snd.fst), p.fst.snd.fst, PUnit.unit), PUnit.unit) H') (Meets prog (85 : Nat) [Value.slice (some A) n c, Value.int IntKind.i64 (IntKind.wrap IntKind.i64 (m - p.fst.fst)), Value.int IntKind.i64 (IntKind.wrap IntKind.i64 (IntKind.wrap IntKind.i64 (m + p.fst.snd.fst) - p.fst.fst)), Value.int IntKind.i64 p.fst.fst, Value.func (Fn.func g) { toList := [] } { toList := [] }] H fun (e : Ending) (H' : Nat → Option Obj) ↦ e = Ending.returned (Value.tuple { toList := [] }) ∧ some A = some A ∧ n = n ∧ c = c ∧ a = a ∧ m = m ∧ b = b ∧ Value.func (Fn.func g) { toList := [] } { toList := [] } = Value.func (Fn.func g) { toList := [] } { toList := [] } ∧ K ((p.fst.fst, IntKind.wrap IntKind.i64 (p.fst.snd.fst - p.fst.fst), PUnit.unit), PUnit.unit) H')) (Meets prog (85 : Nat) [Value.slice (some A) n c, Value.int IntKind.i64 (IntKind.wrap IntKind.i64 (m - p.fst.fst)), Value.int IntKind.i64 m, Value.int IntKind.i64 p.fst.fst, Value.func (Fn.func g) { toList := [] } { toList := [] }] H fun (e : Ending) (H' : Nat → Option Obj) ↦ e = Ending.returned (Value.tuple { toList := [] }) ∧ R (Ending.returned (Value.tuple { toList := [] })) H')) ((IntKind.wrap IntKind.i64 (m - a), IntKind.wrap IntKind.i64 (b - m), PUnit.unit), PUnit.unit) H
theorem vc_rot (A : Addr) (n : Nat) (c : Nat) (g : Nat) (a : Int) (m : Int) (b : Int) (R : Ending → Heap → Prop) (H : Heap) : vcFun prog h_rot f79 [SV.c (SC.v (Value.slice (some A) n c)), SV.c (SC.v (Value.int IntKind.i64 a)), SV.c (SC.v (Value.int IntKind.i64 m)), SV.c (SC.v (Value.int IntKind.i64 b)), SV.c (SC.v (Value.func (Fn.func g) #[] #[]))] R H = nf_rot A n c g a m b R H := by kernel_rfl

section
variable {R : Ending → Heap → Prop} {H : Heap} {ty : Nat}
theorem w64 {k : Int} (h : -9223372036854775808 ≤ k ∧ k ≤ 9223372036854775807) : IntKind.i64.wrap k = k := IntWalk.i64_in _ (by omega)
theorem s_ins {g : Nat} {cf : Pt → Pt → Int} (hc : CmpOK g cf) (hs : SWO (ltc cf)) {Ad : Addr} {n c : Nat} {A X B : List Pt} {a b : Int} (ha : (A.length : Int) = a) (hb : a + X.length = b)
    (hrow : RowAt H (.slice (some Ad) n c) ty 4 (pts (A ++ X ++ B))) (hn : n ≤ 1000000) (h : ∀ H', RowAt H' (.slice (some Ad) n c) ty 4 (pts (A ++ isort (ltc cf) X ++ B)) → Mod (.slice (some Ad) n c) H H' → R (.returned (.tuple #[])) H') :
    Meets prog 56 [.slice (some Ad) n c, vi a, vi b, .func (.func g) #[] #[]] H R := by
  refine spec_of func56 (by kernel_rfl) (fun t h => by cases h) ?_ (vc_ins Ad n c g a b R H) ?_
  · simp [argsR, SV.rep, SC.rep, one]
  unfold nf_ins
  simp only [true_and, delLs_nil, List.nil_append, List.append_nil]
  have hlen0 := (row_len hrow).1
  simp only [pts, List.length_map, List.length_append] at hlen0
  have hw1 : IntKind.i64.wrap (a + 1) = a + 1 := w64 (by omega)
  rw [hw1]
  refine ⟨fun p H' => ∃ t : Nat, p.1.1 = a + t ∧ 1 ≤ t ∧ (t ≤ X.length ∨ (t = 1 ∧ X = [])) ∧ RowAt H' (.slice (some Ad) n c) ty 4 (pts (A ++ isort (ltc cf) (X.take t) ++ X.drop t ++ B)) ∧ Mod (.slice (some Ad) n c) H H', fun p _ => (b + 2 - p.1.1).toNat, ⟨1, by simp, by omega, ?_, ?_, Mod.refl _ _⟩, ?_⟩
  · cases X <;> simp
  · have : isort (ltc cf) (X.take 1) = X.take 1 := by cases X <;> simp [isort, insR]
    rw [this, List.append_assoc A, List.take_append_drop]
    exact hrow
  rintro ⟨⟨i, _⟩, _⟩ H1 ⟨t, hi, ht1, ht2, hrow1, hmod1⟩
  simp only at hi ⊢
  subst hi
  refine br (fun q => ?_) fun q => ?_
  · simp only [decide_eq_true_eq] at q
    have htl : t < X.length := by omega
    obtain ⟨x, hx⟩ : ∃ x, X[t]? = some x := ⟨X[t], by simp [htl]⟩
    have htake : X.take (t + 1) = X.take t ++ [x] := by rw [List.take_add_one, hx]; rfl
    have hdrop : X.drop t = x :: X.drop (t + 1) := by
      rw [List.drop_eq_getElem_cons htl]
      congr 1
      rw [List.getElem?_eq_getElem htl] at hx
      exact Option.some.inj hx
    have hSl : (isort (ltc cf) (X.take t)).length = t := by rw [isort_len, List.length_take]; omega
    have hSs := isort_srtd hs (X.take t)
    have hstep : isort (ltc cf) (X.take (t + 1)) = insR (ltc cf) x (isort (ltc cf) (X.take t)) := by rw [htake, isort_snoc]
    have hw2 : IntKind.i64.wrap (a + t + 1) = a + ((t + 1 : Nat) : Int) := by rw [w64 (by omega)]; omega
    rw [hw2]
    have hms : (b + 2 - (a + ((t + 1 : Nat) : Int))).toNat < (b + 2 - (a + t)).toNat := by omega
    generalize isort (ltc cf) (X.take t) = S at hSl hSs hstep hrow1
    -- the inner loop
    have done : ∀ (P Q : List Pt) (H2 : Heap), S = P ++ Q → RowAt H2 (.slice (some Ad) n c) ty 4 (pts (A ++ P ++ x :: Q ++ (X.drop (t + 1) ++ B))) → Mod (.slice (some Ad) n c) H H2 → (∀ y ∈ P, ltc cf x y = false) → (∀ y ∈ Q, ltc cf x y = true) →
        (∃ t' : Nat, a + ((t + 1 : Nat) : Int) = a + t' ∧ 1 ≤ t' ∧ (t' ≤ X.length ∨ (t' = 1 ∧ X = [])) ∧ RowAt H2 (.slice (some Ad) n c) ty 4 (pts (A ++ isort (ltc cf) (X.take t') ++ X.drop t' ++ B)) ∧ Mod (.slice (some Ad) n c) H H2) ∧ (b + 2 - (a + ((t + 1 : Nat) : Int))).toNat < (b + 2 - (a + t)).toNat := by
      intro P Q H2 e hr hm h1 h2
      refine ⟨⟨t + 1, rfl, by omega, .inl (by omega), ?_, hm⟩, hms⟩
      rw [hstep, e, insR_at x P Q h1 h2]
      simpa using hr
    refine ⟨fun p H' => ∃ P Q : List Pt, S = P ++ Q ∧ p.1.1 = a + P.length ∧ RowAt H' (.slice (some Ad) n c) ty 4 (pts (A ++ P ++ x :: Q ++ (X.drop (t + 1) ++ B))) ∧ Mod (.slice (some Ad) n c) H H' ∧ (∀ y ∈ Q, ltc cf x y = true), fun p _ => (p.1.1).toNat, ⟨S, [], by simp, by simp [hSl], ?_, hmod1, by simp⟩, ?_⟩
    · rw [hdrop] at hrow1
      simpa using hrow1
    rintro ⟨⟨j, _⟩, _⟩ H2 ⟨P, Q, hPQ, hj, hrow2, hmod2, hQ⟩
    simp only at hj ⊢
    subst hj
    have hPQl : P.length + Q.length = t := by rw [← hSl, hPQ, List.length_append]
    refine ⟨H2, heap_refl _, br (fun q1 => ?_) fun q1 => ?_⟩
    · simp only [decide_eq_true_eq] at q1
      obtain ⟨P', y, rfl⟩ : ∃ P' y, P = P' ++ [y] := by
        cases List.eq_nil_or_concat P with
        | inl h => subst h; simp at q1
        | inr h => obtain ⟨A, z, h⟩ := h; exact ⟨A, z, by simpa using h⟩
      have hl2 : (P' ++ [y]).length = P'.length + 1 := by simp
      rw [hl2] at q1 hPQl ⊢
      have hw3 : IntKind.i64.wrap (a + ((P'.length + 1 : Nat) : Int) - 1) = a + P'.length := by rw [w64 (by omega)]; omega
      rw [hw3]
      have hk1 : (a + ((P'.length + 1 : Nat) : Int)).toNat = (A ++ P').length + 1 := by simp; omega
      have hk0 : (a + (P'.length : Int)).toNat = (A ++ P').length := by simp; omega
      rw [hk1, hk0]
      have hb0 : 0 ≤ a + (P'.length : Int) ∧ a + (P'.length : Int) < n := by omega
      have hb1 : 0 ≤ a + ((P'.length + 1 : Nat) : Int) ∧ a + ((P'.length + 1 : Nat) : Int) < n := by omega
      have hL : A ++ (P' ++ [y]) ++ x :: Q ++ (X.drop (t + 1) ++ B) = (A ++ P') ++ y :: x :: (Q ++ (X.drop (t + 1) ++ B)) := by simp
      rw [hL] at hrow2
      have hsl := row_slice hrow2
      obtain ⟨A1, e1, g1⟩ := pr_get hsl (i := (A ++ P').length + 1) (p := x) (by rw [List.getElem?_append_right (by omega)]; simp)
      obtain ⟨A0, e0, g0⟩ := pr_get hsl (i := (A ++ P').length) (p := y) (get_at rfl)
      cases e1; cases e0
      refine ⟨hb1, ptr rfl (ptr rfl ⟨_, _, _, _, g1, hb0, ptr rfl (ptr rfl ⟨_, _, _, _, g0, ?_⟩)⟩)⟩
      refine hc x y _ _ ⟨keep_same _ _ _, _, rfl, br (fun q2 => ?_) fun q2 => ?_⟩
      · have hlt : (A ++ P').length + 1 < n := by
          have := (row_len hrow2).1
          simp at this ⊢; omega
        obtain ⟨c1, m1, r1, d1⟩ := pr_put hrow2 (i := (A ++ P').length + 1) hlt y
        obtain ⟨c2, m2, r2, d2⟩ := pr_put r1 (i := (A ++ P').length) (by omega) x
        refine ⟨hb0, ptr rfl (ptr rfl ⟨_, _, _, _, g0, hb1, ptr rfl (ptr rfl ⟨_, _, _, _, g1, hb1, ptr rfl (ptr rfl ⟨_, _, m1, hb0, ptr rfl (ptr rfl ⟨_, _, m2, ?_⟩)⟩)⟩)⟩)⟩
        refine ⟨⟨P', y :: Q, by rw [hPQ]; simp, rfl, ?_, (hmod2.trans d1).trans d2, ?_⟩, by omega⟩
        · rw [set_two rfl] at r2
          simpa using r2
        · intro z hz
          rcases List.mem_cons.1 hz with rfl | hz
          · exact q2
          · exact hQ z hz
      · refine done (P' ++ [y]) Q H2 hPQ (by rw [hL]; exact hrow2) hmod2 ?_ hQ
        intro z hz
        rcases List.mem_append.1 hz with hz | hz
        · have h5 : ltc cf y z = false := by
            rw [hPQ] at hSs
            have := (List.pairwise_append.1 (List.pairwise_append.1 hSs).1).2.2 z hz y (by simp)
            exact this
          exact hs.ntrans _ _ _ q2 h5
        · simp at hz; subst hz; exact q2
    · simp only [decide_eq_false_iff_not] at q1
      have : P = [] := List.length_eq_zero_iff.1 (by omega)
      subst this
      exact done [] Q H2 hPQ hrow2 hmod2 (by simp) hQ
  · simp only [decide_eq_false_iff_not] at q
    have e1 : X.take t = X := List.take_of_length_le (by omega)
    have e2 : X.drop t = [] := List.drop_of_length_le (by omega)
    rw [e1, e2, List.append_nil] at hrow1
    exact h _ hrow1 hmod1
theorem split_at {α : Type} {X : List α} {k : Nat} (h : k < X.length) : ∃ x, X = X.take k ++ x :: X.drop (k + 1) ∧ (X.take k).length = k := by
  refine ⟨X[k], ?_, by rw [List.length_take]; omega⟩
  rw [← List.drop_eq_getElem_cons h, List.take_append_drop]
theorem s_swr {g : Nat} {Ad : Addr} {n c : Nat} {A U M V B : List Pt} {a b m : Int} (ha : (A.length : Int) = a) (hu : (U.length : Int) = m) (hv : (V.length : Int) = m) (hb : a + m + M.length = b)
    (hrow : RowAt H (.slice (some Ad) n c) ty 4 (pts (A ++ U ++ M ++ V ++ B))) (hn : n ≤ 1000000) (h : ∀ H', RowAt H' (.slice (some Ad) n c) ty 4 (pts (A ++ V ++ M ++ U ++ B)) → Mod (.slice (some Ad) n c) H H' → R (.returned (.tuple #[])) H') :
    Meets prog 85 [.slice (some Ad) n c, vi a, vi b, vi m, .func (.func g) #[] #[]] H R := by
  refine spec_of func85 (by kernel_rfl) (fun t h => by cases h) ?_ (vc_swr Ad n c g a b m R H) ?_
  · simp [argsR, SV.rep, SC.rep, one]
  unfold nf_swr
  simp only [true_and, delLs_nil, List.nil_append, List.append_nil]
  have hlen0 := (row_len hrow).1
  simp only [pts, List.length_map, List.length_append] at hlen0
  refine ⟨fun p H' => ∃ k : Nat, p.1.1 = k ∧ k ≤ U.length ∧ RowAt H' (.slice (some Ad) n c) ty 4 (pts (A ++ (V.take k ++ U.drop k) ++ M ++ (U.take k ++ V.drop k) ++ B)) ∧ Mod (.slice (some Ad) n c) H H', fun p _ => (m - p.1.1).toNat, ⟨0, rfl, by omega, by simpa using hrow, Mod.refl _ _⟩, ?_⟩
  rintro ⟨⟨i, _⟩, _⟩ H1 ⟨k, hi, hk, hrow1, hmod1⟩
  simp only at hi ⊢
  subst hi
  refine br (fun q => ?_) fun q => ?_
  · simp only [decide_eq_true_eq] at q
    obtain ⟨u, hU, hUl⟩ := split_at (X := U) (k := k) (by omega)
    obtain ⟨v, hV, hVl⟩ := split_at (X := V) (k := k) (by omega)
    have hUd : U.drop k = u :: U.drop (k + 1) := by
      conv => lhs; rw [hU]
      rw [List.drop_append_of_le_length (by omega), List.drop_of_length_le (by omega)]; rfl
    have hVd : V.drop k = v :: V.drop (k + 1) := by
      conv => lhs; rw [hV]
      rw [List.drop_append_of_le_length (by omega), List.drop_of_length_le (by omega)]; rfl
    have hUt : U.take (k + 1) = U.take k ++ [u] := by
      conv => lhs; rw [hU]
      rw [List.take_append, hUl, List.take_of_length_le (by omega)]; simp
    have hVt : V.take (k + 1) = V.take k ++ [v] := by
      conv => lhs; rw [hV]
      rw [List.take_append, hVl, List.take_of_length_le (by omega)]; simp
    have hL : A ++ (V.take k ++ U.drop k) ++ M ++ (U.take k ++ V.drop k) ++ B = (A ++ V.take k) ++ u :: ((U.drop (k + 1) ++ M ++ U.take k) ++ v :: (V.drop (k + 1) ++ B)) := by rw [hUd, hVd]; simp
    have hi1 : (A ++ V.take k).length = (a + k).toNat := by simp only [List.length_append, hVl]; omega
    have hj1 : (a + k).toNat + 1 + (U.drop (k + 1) ++ M ++ U.take k).length = (b + k).toNat := by
      simp only [List.length_append, hUl, List.length_drop]; omega
    rw [hL] at hrow1
    have hb1 : 0 ≤ a + (k : Int) ∧ a + (k : Int) < n := by omega
    have hb2 : 0 ≤ b + (k : Int) ∧ b + (k : Int) < n := by omega
    rw [w64 (k := b + (k : Int)) (by omega), w64 (k := a + (k : Int)) (by omega), w64 (k := (k : Int) + 1) (by omega)]
    have hsl := row_slice hrow1
    obtain ⟨A1, e1, g1⟩ := pr_get hsl (i := (a + k).toNat) (p := u) (get_at hi1)
    obtain ⟨A2, e2, g2⟩ := pr_get hsl (i := (b + k).toNat) (p := v) (by
      have := get_at (P := (A ++ V.take k) ++ u :: (U.drop (k + 1) ++ M ++ U.take k)) (Q := V.drop (k + 1) ++ B) (x := v) (k := (b + k).toNat) (by rw [List.length_append, List.length_cons, hi1]; omega)
      simpa using this)
    cases e1; cases e2
    obtain ⟨c1, m1, r1, d1⟩ := pr_put hrow1 (i := (a + k).toNat) (by omega) v
    obtain ⟨c2, m2, r2, d2⟩ := pr_put r1 (i := (b + k).toNat) (by omega) u
    refine ⟨hb2, ptr rfl (ptr rfl ⟨_, _, _, _, g2, hb1, ptr rfl (ptr rfl ⟨_, _, _, _, g1, hb1, ptr rfl (ptr rfl ⟨_, _, m1, hb2, ptr rfl (ptr rfl ⟨_, _, m2, ⟨k + 1, by omega, by omega, ?_, (hmod1.trans d1).trans d2⟩, by omega⟩)⟩)⟩)⟩)⟩
    rw [set_far hi1 hj1] at r2
    rw [hUt, hVt]
    simpa using r2
  · simp only [decide_eq_false_iff_not] at q
    have : k = U.length := by omega
    subst this
    have hl : U.length = V.length := by omega
    rw [List.drop_length, List.take_length, hl, List.take_length, List.drop_length, List.append_nil, List.append_nil] at hrow1
    exact h _ hrow1 hmod1
theorem s_rot {g : Nat} {Ad : Addr} {n c : Nat} {A X Y B : List Pt} {a m b : Int} (ha : (A.length : Int) = a) (hm : a + X.length = m) (hb : m + Y.length = b)
    (hrow : RowAt H (.slice (some Ad) n c) ty 4 (pts (A ++ X ++ Y ++ B))) (hx : 0 < X.length) (hy : 0 < Y.length) (hn : n ≤ 1000000) (h : ∀ H', RowAt H' (.slice (some Ad) n c) ty 4 (pts (A ++ Y ++ X ++ B)) → Mod (.slice (some Ad) n c) H H' → R (.returned (.tuple #[])) H') :
    Meets prog 79 [.slice (some Ad) n c, vi a, vi m, vi b, .func (.func g) #[] #[]] H R := by
  refine spec_of func79 (by kernel_rfl) (fun t h => by cases h) ?_ (vc_rot Ad n c g a m b R H) ?_
  · simp [argsR, SV.rep, SC.rep, one]
  unfold nf_rot
  simp only [true_and, delLs_nil, List.nil_append, List.append_nil]
  have hlen0 := (row_len hrow).1
  simp only [pts, List.length_map, List.length_append] at hlen0
  refine ⟨fun p H' => ∃ P X' Y' S : List Pt, p.1.1 = X'.length ∧ p.1.2.1 = Y'.length ∧ 0 < X'.length ∧ 0 < Y'.length ∧ a + P.length + X'.length = m ∧ m + Y'.length + S.length = b ∧ P ++ (Y' ++ X') ++ S = Y ++ X ∧
      RowAt H' (.slice (some Ad) n c) ty 4 (pts (A ++ P ++ X' ++ Y' ++ S ++ B)) ∧ Mod (.slice (some Ad) n c) H H', fun p _ => (p.1.1 + p.1.2.1).toNat, ⟨[], X, Y, [], ?_, ?_, hx, hy, by simp; omega, by simp; omega, by simp, by simpa using hrow, Mod.refl _ _⟩, ?_⟩
  · simp only; rw [w64 (by omega)]; omega
  · simp only; rw [w64 (by omega)]; omega
  rintro ⟨⟨i, j, _⟩, _⟩ H1 ⟨P, X', Y', S, hi, hj, hx', hy', h1, h2, h3, hrow1, hmod1⟩
  simp only at hi hj ⊢
  subst hi; subst hj
  rw [w64 (k := m - (X'.length : Int)) (by omega)]
  refine br (fun q => ?_) fun q => ?_
  · simp only [bne_iff_ne, ne_eq] at q
    refine br (fun q1 => ?_) fun q1 => ?_
    · simp only [decide_eq_true_eq] at q1
      have e : X' = X'.take Y'.length ++ X'.drop Y'.length := (List.take_append_drop _ _).symm
      have hl1 : (X'.take Y'.length).length = Y'.length := by rw [List.length_take]; omega
      have hl2 : (X'.drop Y'.length).length = X'.length - Y'.length := by simp
      refine s_swr (ty := ty) (A := A ++ P) (U := X'.take Y'.length) (M := X'.drop Y'.length) (V := Y') (B := S ++ B) (by simp; omega) (by omega) rfl (by omega) ?_ hn fun H2 hr hmd => ?_
      · rw [e] at hrow1; simpa using hrow1
      · refine ⟨rfl, ⟨P ++ Y', X'.drop Y'.length, X'.take Y'.length, S, ?_, by rw [hl1], by omega, by omega, by simp; omega, by omega, ?_, ?_, hmod1.trans hmd⟩, ?_⟩
        · rw [w64 (by omega)]; omega
        · rw [List.take_append_drop]; simpa using h3
        · simpa using hr
        · rw [w64 (by omega)]; omega
    · simp only [decide_eq_false_iff_not] at q1
      rw [w64 (k := m + (Y'.length : Int)) (by omega), w64 (k := m + (Y'.length : Int) - (X'.length : Int)) (by omega)]
      have e : Y' = Y'.take (Y'.length - X'.length) ++ Y'.drop (Y'.length - X'.length) := (List.take_append_drop _ _).symm
      have hl1 : (Y'.take (Y'.length - X'.length)).length = Y'.length - X'.length := by rw [List.length_take]; omega
      have hl2 : (Y'.drop (Y'.length - X'.length)).length = X'.length := by simp; omega
      refine s_swr (ty := ty) (A := A ++ P) (U := X') (M := Y'.take (Y'.length - X'.length)) (V := Y'.drop (Y'.length - X'.length)) (B := S ++ B) (by simp; omega) rfl (by omega) (by omega) ?_ hn fun H2 hr hmd => ?_
      · rw [e] at hrow1; simpa using hrow1
      · refine ⟨rfl, ⟨P, Y'.drop (Y'.length - X'.length), Y'.take (Y'.length - X'.length), X' ++ S, by rw [hl2], ?_, by omega, by omega, by omega, by simp; omega, ?_, ?_, hmod1.trans hmd⟩, ?_⟩
        · rw [w64 (by omega)]; omega
        · rw [List.take_append_drop]; simpa using h3
        · simpa using hr
        · rw [w64 (by omega)]; omega
  · have q : X'.length = Y'.length := by simp at q; omega
    refine s_swr (ty := ty) (A := A ++ P) (U := X') (M := []) (V := Y') (B := S ++ B) (by simp; omega) rfl (by omega) (by simp only [List.length_nil]; omega) (by simpa using hrow1) hn fun H2 hr hmd => ?_
    refine ⟨rfl, h _ ?_ (hmod1.trans hmd)⟩
    have : A ++ Y ++ X ++ B = A ++ P ++ Y' ++ [] ++ X' ++ (S ++ B) := by
      rw [List.append_assoc A Y X, ← h3]; simp
    rw [this]
    exact hr
end
end Cr

set_option linter.unusedVariables false
set_option linter.unusedSimpArgs false
namespace Cr
open Go Sx Stb
open Go.Sort (SWO)
open Go.Proofs.Try
set_option maxRecDepth 100000
def h_sym : Hints := { loops := [(3, ⟨[0, 1, 2, 3, 4], [.f 10 (.int .i64), .f 11 (.int .i64)], []⟩), (9, ⟨[0, 1, 2, 3, 4, 10], [.f 13 (.int .i64)], []⟩), (15, ⟨[0, 1, 2, 3, 4], [.f 14 (.int .i64), .f 15 (.int .i64)], []⟩), (21, ⟨[0, 1, 2, 3, 4, 14], [.f 17 (.int .i64)], []⟩), (33, ⟨[0, 1, 2, 3, 4, 18, 19, 22], [.f 20 (.int .i64), .f 21 (.int .i64)], []⟩)], cuts := [(32, ⟨[0, 1, 2, 3, 4, 18, 19], [.f 20 (.int .i64), .f 21 (.int .i64)], []⟩), (41, ⟨[0, 1, 3, 4, 18, 20, 24], [], []⟩), (43, ⟨[0, 3, 4, 18, 24], [], []⟩)] }
def h_stb : Hints := { loops := [(2, ⟨[0, 1, 2, 6], [.f 7 (.int .i64), .f 8 (.int .i64)], []⟩), (7, ⟨[0, 1, 2], [.f 6 (.int .i64)], []⟩), (9, ⟨[0, 1, 2, 6], [.f 7 (.int .i64), .f 8 (.int .i64)], []⟩)] }
def nf_sym (A : Addr) (n : Nat) (c : Nat) (g : Nat) (a : Int) (m : Int) (b : Int) (R : Ending → Heap → Prop) (H : Heap) : Prop := Br (IntKind.wrap IntKind.i64 (m - a) == (1 : Int)) (some A = some A ∧ n = n ∧ c = c ∧ a = a ∧ m = m ∧ b = b ∧ Value.func (Fn.func g) { toList := [] } { toList := [] } = Value.func (Fn.func g) { toList := [] } { toList := [] } ∧ LoopP (fun (K : (Int × Int × PUnit) × PUnit → (Nat → Option Obj) → Prop) (p : (Int × Int × PUnit) × PUnit) (H : Nat → Option Obj) ↦ Br (decide (p.fst.fst < p.fst.snd.fst)) ((0 : Int) ≤ (1 : Int) ∧ ∃ (G : Nat → Option Obj), G ≤ H ∧ ((0 : Int) ≤ IntKind.wrap IntKind.i64 (shrI IntKind.u64 (IntKind.wrap IntKind.u64 (IntKind.wrap IntKind.i64 (p.fst.fst + p.fst.snd.fst))) (1 : Int)) ∧ IntKind.wrap IntKind.i64 (shrI IntKind.u64 (IntKind.wrap IntKind.u64 (IntKind.wrap IntKind.i64 (p.fst.fst + p.fst.snd.fst))) (1 : Int)) < (↑n : Int)) ∧ PtrK (some A) fun (A_1 : Addr) ↦ PtrK (some (Addr.add A_1 (Int.toNat (IntKind.wrap IntKind.i64 (shrI IntKind.u64 (IntKind.wrap IntKind.u64 (IntKind.wrap IntKind.i64 (p.fst.fst + p.fst.snd.fst))) (1 : Int))) * (4 : Nat)))) fun (a_1 : Addr) ↦ ∃ (n_1 : Int), ∃ (n_2 : Int), ∃ (n_3 : Int), ∃ (s : ByteArray), Heap.has G a_1 [Value.int IntKind.i64 n_1, Value.int IntKind.u32 n_2, Value.int IntKind.u32 n_3, Value.string s] ∧ ((0 : Int) ≤ a ∧ a < (↑n : Int)) ∧ PtrK (some A) fun (A_2 : Addr) ↦ PtrK (some (Addr.add A_2 (Int.toNat a * (4 : Nat)))) fun (a_2 : Addr) ↦ ∃ (n_4 : Int), ∃ (n_5 : Int), ∃ (n_6 : Int), ∃ (s_1 : ByteArray), Heap.has G a_2 [Value.int IntKind.i64 n_4, Value.int IntKind.u32 n_5, Value.int IntKind.u32 n_6, Value.string s_1] ∧ Meets prog g [Value.agg { toList := [Value.int IntKind.i64 n_1, Value.int IntKind.u32 n_2, Value.int IntKind.u32 n_3, Value.string s] }, Value.agg { toList := [Value.int IntKind.i64 n_4, Value.int IntKind.u32 n_5, Value.int IntKind.u32 n_6, Value.string s_1] }] H fun (e : Ending) (H' : Nat → Option Obj) ↦ Keep G H H H' ∧ ∃ (n_7 : Int), e = Ending.returned (Value.int IntKind.i64 n_7) ∧ Br (decide (n_7 < (0 : Int))) (some A = some A ∧ n = n ∧ c = c ∧ a = a ∧ m = m ∧ b = b ∧ Value.func (Fn.func g) { toList := [] } { toList := [] } = Value.func (Fn.func g) { toList := [] } { toList := [] } ∧ K ((IntKind.wrap IntKind.i64 (IntKind.wrap IntKind.i64 (shrI IntKind.u64 (IntKind.wrap IntKind.u64 (IntKind.wrap IntKind.i64 (p.fst.fst + p.fst.snd.fst))) (1 : Int)) + (1 : Int)), p.fst.snd.fst, PUnit.unit), PUnit.unit) (delLs H' [])) (some A = some A ∧ n = n ∧ c = c ∧ a = a ∧ m = m ∧ b = b ∧ Value.func (Fn.func g) { toList := [] } { toList := [] } = Value.func (Fn.func g) { toList := [] } { toList := [] } ∧ K ((p.fst.fst, IntKind.wrap IntKind.i64 (shrI IntKind.u64 (IntKind.wrap IntKind.u64 (IntKind.wrap IntKind.i64 (p.fst.fst + p.fst.snd.fst))) (1 : Int)), PUnit.unit), PUnit.unit) (delLs H' []))) (some A = some A ∧ n = n ∧ c = c ∧ a = a ∧ m = m ∧ b = b ∧ Value.func (Fn.func g) { toList := [] } { toList := [] } = Value.func (Fn.func g) { toList := [] } { toList := [] } ∧ p.fst.fst = p.fst.fst ∧ LoopP (fun (K : (Int × PUnit) × PUnit → (Nat → Option Obj) → Prop) (p_1 : (Int × PUnit) × PUnit) (H : Nat → Option Obj) ↦ Br (decide (p_1.fst.fst < IntKind.wrap IntKind.i64 (p.fst.fst - (1 : Int)))) (((0 : Int) ≤ IntKind.wrap IntKind.i64 (p_1.fst.fst + (1 : Int)) ∧ IntKind.wrap IntKind.i64 (p_1.fst.fst + (1 : Int)) < (↑n : Int)) ∧ PtrK (some A) fun (A_1 : Addr) ↦ PtrK (some (Addr.add A_1 (Int.toNat (IntKind.wrap IntKind.i64 (p_1.fst.fst + (1 : Int))) * (4 : Nat)))) fun (a_1 : Addr) ↦ ∃ (n_1 : Int), ∃ (n_2 : Int), ∃ (n_3 : Int), ∃ (s : ByteArray), Heap.has H a_1 [Value.int IntKind.i64 n_1, Value.int IntKind.u32 n_2, Value.int IntKind.u32 n_3, Value.string s] ∧ ((0 : Int) ≤ p_1.fst.fst ∧ p_1.fst.fst < (↑n : Int)) ∧ PtrK (some A) fun (A_2 : Addr) ↦ PtrK (some (Addr.add A_2 (Int.toNat p_1.fst.fst * (4 : Nat)))) fun (a_2 : Addr) ↦ ∃ (n_4 : Int), ∃ (n_5 : Int), ∃ (n_6 : Int), ∃ (s_1 : ByteArray), Heap.has H a_2 [Value.int IntKind.i64 n_4, Value.int IntKind.u32 n_5, Value.int IntKind.u32 n_6, Value.string s_1] ∧ ((0 : Int) ≤ p_1.fst.fst ∧ p_1.fst.fst < (↑n : Int)) ∧ PtrK (some A) fun (A_3 : Addr) ↦ PtrK (some (Addr.add A_3 (Int.toNat p_1.fst.fst * (4 : Nat)))) fun (A_4 : Addr) ↦ ∃ (c_1 : Array Value), ∃ (ty : Nat), (H A_4.block = some (Obj.cells c_1 ty) ∧ A_4.spot = none ∧ A_4.off + (4 : Nat) ≤ Array.size c_1) ∧ ((0 : Int) ≤ IntKind.wrap IntKind.i64 (p_1.fst.fst + (1 : Int)) ∧ IntKind.wrap IntKind.i64 (p_1.fst.fst + (1 : Int)) < (↑n : Int)) ∧ PtrK (some A) fun (A_5 : Addr) ↦ PtrK (some (Addr.add A_5 (Int.toNat (IntKind.wrap IntKind.i64 (p_1.fst.fst + (1 : Int))) * (4 : Nat)))) fun (A_6 : Addr) ↦ ∃ (c_2 : Array Value), ∃ (ty_1 : Nat), (Heap.upd H A_4.block (Obj.cells (writeCells c_1 A_4.off [Value.int IntKind.i64 n_1, Value.int IntKind.u32 n_2, Value.int IntKind.u32 n_3, Value.string s]) ty) A_6.block = some (Obj.cells c_2 ty_1) ∧ A_6.spot = none ∧ A_6.off + (4 : Nat) ≤ Array.size c_2) ∧ some A = some A ∧ n = n ∧ c = c ∧ a = a ∧ m = m ∧ b = b ∧ Value.func (Fn.func g) { toList := [] } { toList := [] } = Value.func (Fn.func g) { toList := [] } { toList := [] } ∧ p.fst.fst = p.fst.fst ∧ K ((IntKind.wrap IntKind.i64 (p_1.fst.fst + (1 : Int)), PUnit.unit), PUnit.unit) (Heap.upd (Heap.upd H A_4.block (Obj.cells (writeCells c_1 A_4.off [Value.int IntKind.i64 n_1, Value.int IntKind.u32 n_2, Value.int IntKind.u32 n_3, Value.string s]) ty)) A_6.block (Obj.cells (writeCells c_2 A_6.off [Value.int IntKind.i64 n_4, Value.int IntKind.u32 n_5, Value.int IntKind.u32 n_6, Value.string s_1]) ty_1))) (R (Ending.returned (Value.tuple { toList := [] })) H)) ((a, PUnit.unit), PUnit.unit) H)) ((m, b, PUnit.unit), PUnit.unit) H) (Br (IntKind.wrap IntKind.i64 (b - m) == (1 : Int)) (some A = some A ∧ n = n ∧ c = c ∧ a = a ∧ m = m ∧ b = b ∧ Value.func (Fn.func g) { toList := [] } { toList := [] } = Value.func (Fn.func g) { toList := [] } { toList := [] } ∧ LoopP (fun (K : (Int × Int × PUnit) × PUnit → (Nat → Option Obj) → Prop) (p : (Int × Int × PUnit) × PUnit) (H : Nat → Option Obj) ↦ Br (decide (p.fst.fst < p.fst.snd.fst)) ((0 : Int) ≤ (1 : Int) ∧ ∃ (G : Nat → Option Obj), G ≤ H ∧ ((0 : Int) ≤ m ∧ m < (↑n : Int)) ∧ PtrK (some A) fun (A_1 : Addr) ↦ PtrK (some (Addr.add A_1 (Int.toNat m * (4 : Nat)))) fun (a_1 : Addr) ↦ ∃ (n_1 : Int), ∃ (n_2 : Int), ∃ (n_3 : Int), ∃ (s : ByteArray), Heap.has G a_1 [Value.int IntKind.i64 n_1, Value.int IntKind.u32 n_2, Value.int IntKind.u32 n_3, Value.string s] ∧ ((0 : Int) ≤ IntKind.wrap IntKind.i64 (shrI IntKind.u64 (IntKind.wrap IntKind.u64 (IntKind.wrap IntKind.i64 (p.fst.fst + p.fst.snd.fst))) (1 : Int)) ∧ IntKind.wrap IntKind.i64 (shrI IntKind.u64 (IntKind.wrap IntKind.u64 (IntKind.wrap IntKind.i64 (p.fst.fst + p.fst.snd.fst))) (1 : Int)) < (↑n : Int)) ∧ PtrK (some A) fun (A_2 : Addr) ↦ PtrK (some (Addr.add A_2 (Int.toNat (IntKind.wrap IntKind.i64 (shrI IntKind.u64 (IntKind.wrap IntKind.u64 (IntKind.wrap IntKind.i64 (p.fst.fst + p.fst.snd.fst))) (1 : Int))) * (4 : Nat)))) fun (a_2 : Addr) ↦ ∃ (n_4 : Int), ∃ (n_5 : Int), ∃ (n_6 : Int), ∃ (s_1 : ByteArray), Heap.has G a_2 [Value.int IntKind.i64 n_4, Value.int IntKind.u32 n_5, Value.int IntKind.u32 n_6, Value.string s_1] ∧ Meets prog g [Value.agg { toList := [Value.int IntKind.i64 n_1, Value.int IntKind.u32 n_2, Value.int IntKind.u32 n_3, Value.string s] }, Value.agg { toList := [Value.int IntKind.i64 n_4, Value.int IntKind.u32 n_5, Value.int IntKind.u32 n_6, Value.string s_1] }] H fun (e : Ending) (H' : Nat → Option Obj) ↦ Keep G H H H' ∧ ∃ (n_7 : Int), e = Ending.returned (Value.int IntKind.i64 n_7) ∧ Br (!decide (n_7 < (0 : Int))) (some A = some A ∧ n = n ∧ c = c ∧ a = a ∧ m = m ∧ b = b ∧ Value.func (Fn.func g) { toList := [] } { toList := [] } = Value.func (Fn.func g) { toList := [] } { toList := [] } ∧ K ((IntKind.wrap IntKind.i64 (IntKind.wrap IntKind.i64 (shrI IntKind.u64 (IntKind.wrap IntKind.u64 (IntKind.wrap IntKind.i64 (p.fst.fst + p.fst.snd.fst))) (1 : Int)) + (1 : Int)), p.fst.snd.fst, PUnit.unit), PUnit.unit) (delLs H' [])) (some A = some A ∧ n = n ∧ c = c ∧ a = a ∧ m = m ∧ b = b ∧ Value.func (Fn.func g) { toList := [] } { toList := [] } = Value.func (Fn.func g) { toList := [] } { toList := [] } ∧ K ((p.fst.fst, IntKind.wrap IntKind.i64 (shrI IntKind.u64 (IntKind.wrap IntKind.u64 (IntKind.wrap IntKind.i64 (p.fst.fst + p.fst.snd.fst))) (1 : Int)), PUnit.unit), PUnit.unit) (delLs H' []))) (some A = some A ∧ n = n ∧ c = c ∧ a = a ∧ m = m ∧ b = b ∧ Value.func (Fn.func g) { toList := [] } { toList := [] } = Value.func (Fn.func g) { toList := [] } { toList := [] } ∧ p.fst.fst = p.fst.fst ∧ LoopP (fun (K : (Int × PUnit) × PUnit → (Nat → Option Obj) → Prop) (p_1 : (Int × PUnit) × PUnit) (H : Nat → Option Obj) ↦ Br (decide (p_1.fst.fst > p.fst.fst)) (((0 : Int) ≤ IntKind.wrap IntKind.i64 (p_1.fst.fst - (1 : Int)) ∧ IntKind.wrap IntKind.i64 (p_1.fst.fst - (1 : Int)) < (↑n : Int)) ∧ PtrK (some A) fun (A_1 : Addr) ↦ PtrK (some (Addr.add A_1 (Int.toNat (IntKind.wrap IntKind.i64 (p_1.fst.fst - (1 : Int))) * (4 : Nat)))) fun (a_1 : Addr) ↦ ∃ (n_1 : Int), ∃ (n_2 : Int), ∃ (n_3 : Int), ∃ (s : ByteArray), Heap.has H a_1 [Value.int IntKind.i64 n_1, Value.int IntKind.u32 n_2, Value.int IntKind.u32 n_3, Value.string s] ∧ ((0 : Int) ≤ p_1.fst.fst ∧ p_1.fst.fst < (↑n : Int)) ∧ PtrK (some A) fun (A_2 : Addr) ↦ PtrK (some (Addr.add A_2 (Int.toNat p_1.fst.fst * (4 : Nat)))) fun (a_2 : Addr) ↦ ∃ (n_4 : Int), ∃ (n_5 : Int), ∃ (n_6 : Int), ∃ (s_1 : ByteArray), Heap.has H a_2 [Value.int IntKind.i64 n_4, Value.int IntKind.u32 n_5, Value.int IntKind.u32 n_6, Value.string s_1] ∧ ((0 : Int) ≤ p_1.fst.fst ∧ p_1.fst.fst < (↑n : Int)) ∧ PtrK (some A) fun (A_3 : Addr) ↦ PtrK (some (Addr.add A_3 (Int.toNat p_1.fst.fst * (4 : Nat)))) fun (A_4 : Addr) ↦ ∃ (c_1 : Array Value), ∃ (ty : Nat), (H A_4.block = some (Obj.cells c_1 ty) ∧ A_4.spot = none ∧ A_4.off + (4 : Nat) ≤ Array.size c_1) ∧ ((0 : Int) ≤ IntKind.wrap IntKind.i64 (p_1.fst.fst - (1 : Int)) ∧ IntKind.wrap IntKind.i64 (p_1.fst.fst - (1 : Int)) < (↑n : Int)) ∧ PtrK (some A) fun (A_5 : Addr) ↦ PtrK (some (Addr.add A_5 (Int.toNat (IntKind.wrap IntKind.i64 (p_1.fst.fst - (1 : Int))) * (4 : Nat)))) fun (A_6 : Addr) ↦ ∃ (c_2 : Array Value), ∃ (ty_1 : Nat), (Heap.upd H A_4.block (Obj.cells (writeCells c_1 A_4.off [Value.int IntKind.i64 n_1, Value.int IntKind.u32 n_2, Value.int IntKind.u32 n_3, Value.string s]) ty) A_6.block = some (Obj.cells c_2 ty_1) ∧ A_6.spot = none ∧ A_6.off + (4 : Nat) ≤ Array.size c_2) ∧ some A = some A ∧ n = n ∧ c = c ∧ a = a ∧ m = m ∧ b = b ∧ Value.func (Fn.func g) { toList := [] } { toList := [] } = Value.func (Fn.func g) { toList := [] } { toList := [] } ∧ p.fst.fst = p.fst.fst ∧ K ((IntKind.wrap IntKind.i64 (p_1.fst.fst - (1 : Int)), PUnit.unit), PUnit.unit) (Heap.upd (Heap.upd H A_4.block (Obj.cells (writeCells c_1 A_4.off [Value.int IntKind.i64 n_1, Value.int IntKind.u32 n_2, Value.int IntKind.u32 n_3, Value.string s]) ty)) A_6.block (Obj.cells (writeCells c_2 A_6.off [Value.int IntKind.i64 n_4, Value.int IntKind.u32 n_5, Value.int IntKind.u32 n_6, Value.string s_1]) ty_1))) (R (Ending.returned (Value.tuple { toList := [] })) H)) ((m, PUnit.unit), PUnit.unit) H)) ((a, m, PUnit.unit), PUnit.unit) H) ((0 : Int) ≤ (1 : Int) ∧ CutP (fun (I : (Int × Int × PUnit) × PUnit → (Nat → Option Obj) → Prop) ↦ Br (decide (m > IntKind.wrap IntKind.i64 (shrI IntKind.u64 (IntKind.wrap IntKind.u64 (IntKind.wrap IntKind.i64 (a + b))) (1 : Int)))) (some A = some A ∧ n = n ∧ c = c ∧ a = a ∧ m = m ∧ b = b ∧ Value.func (Fn.func g) { toList := [] } { toList := [] } = Value.func (Fn.func g) { toList := [] } { toList := [] } ∧ IntKind.wrap IntKind.i64 (shrI IntKind.u64 (IntKind.wrap IntKind.u64 (IntKind.wrap IntKind.i64 (a + b))) (1 : Int)) = IntKind.wrap IntKind.i64 (shrI IntKind.u64 (IntKind.wrap IntKind.u64 (IntKind.wrap IntKind.i64 (a + b))) (1 : Int)) ∧ IntKind.wrap IntKind.i64 (IntKind.wrap IntKind.i64 (shrI IntKind.u64 (IntKind.wrap IntKind.u64 (IntKind.wrap IntKind.i64 (a + b))) (1 : Int)) + m) = IntKind.wrap IntKind.i64 (IntKind.wrap IntKind.i64 (shrI IntKind.u64 (IntKind.wrap IntKind.u64 (IntKind.wrap IntKind.i64 (a + b))) (1 : Int)) + m) ∧ I ((IntKind.wrap IntKind.i64 (IntKind.wrap IntKind.i64 (IntKind.wrap IntKind.i64 (shrI IntKind.u64 (IntKind.wrap IntKind.u64 (IntKind.wrap IntKind.i64 (a + b))) (1 : Int)) + m) - b), IntKind.wrap IntKind.i64 (shrI IntKind.u64 (IntKind.wrap IntKind.u64 (IntKind.wrap IntKind.i64 (a + b))) (1 : Int)), PUnit.unit), PUnit.unit) H) (some A = some A ∧ n = n ∧ c = c ∧ a = a ∧ m = m ∧ b = b ∧ Value.func (Fn.func g) { toList := [] } { toList := [] } = Value.func (Fn.func g) { toList := [] } { toList := [] } ∧ IntKind.wrap IntKind.i64 (shrI IntKind.u64 (IntKind.wrap IntKind.u64 (IntKind.wrap IntKind.i64 (a + b))) (1 : Int)) = IntKind.wrap IntKind.i64 (shrI IntKind.u64 (IntKind.wrap IntKind.u64 (IntKind.wrap IntKind.i64 (a + b))) (1 : Int)) ∧ IntKind.wrap IntKind.i64 (IntKind.wrap IntKind.i64 (shrI IntKind.u64 (IntKind.wrap IntKind.u64 (IntKind.wrap IntKind.i64 (a + b))) (1 : Int)) + m) = IntKind.wrap IntKind.i64 (IntKind.wrap IntKind.i64 (shrI IntKind.u64 (IntKind.wrap IntKind.u64 (IntKind.wrap IntKind.i64 (a + b))) (1 : Int)) + m) ∧ I ((a, m, PUnit.unit), PUnit.unit) H)) fun (p : (Int × Int × PUnit) × PUnit) (H : Nat → Option Obj) ↦ some A = some A ∧ n = n ∧ c = c ∧ a = a ∧ m = m ∧ b = b ∧ Value.func (Fn.func g) { toList := [] } { toList := [] } = Value.func (Fn.func g) { toList := [] } { toList := [] } ∧ IntKind.wrap IntKind.i64 (shrI IntKind.u64 (IntKind.wrap IntKind.u64 (IntKind.wrap IntKind.i64 (a + b))) (1 : Int)) = IntKind.wrap IntKind.i64 (shrI IntKind.u64 (IntKind.wrap IntKind.u64 (IntKind.wrap IntKind.i64 (a + b))) (1 : Int)) ∧ IntKind.wrap IntKind.i64 (IntKind.wrap IntKind.i64 (shrI IntKind.u64 (IntKind.wrap IntKind.u64 (IntKind.wrap IntKind.i64 (a + b))) (1 : Int)) + m) = IntKind.wrap IntKind.i64 (IntKind.wrap IntKind.i64 (shrI IntKind.u64 (IntKind.wrap IntKind.u64 (IntKind.wrap IntKind.i64 (a + b))) (1 : Int)) + m) ∧ IntKind.wrap IntKind.i64 (IntKind.wrap IntKind.i64 (IntKind.wrap IntKind.i64 (shrI IntKind.u64 (IntKind.wrap IntKind.u64 (IntKind.wrap IntKind.i64 (a + b))) (1 : Int)) + m) - (1 : Int)) = IntKind.wrap IntKind.i64 (IntKind.wrap IntKind.i64 (IntKind.wrap IntKind.i64 (shrI IntKind.u64 (IntKind.wrap IntKind.u64 (IntKind.wrap IntKind.i64 (a + b))) (1 : Int)) + m) - (1 : Int)) ∧ LoopP (fun (K : (Int × Int × PUnit) × PUnit → (Nat → Option Obj) → Prop) (p : (Int × Int × PUnit) × PUnit) (H : Nat → Option Obj) ↦ Br (decide (p.fst.fst < p.fst.snd.fst)) ((0 : Int) ≤ (1 : Int) ∧ ∃ (G : Nat → Option Obj), G ≤ H ∧ ((0 : Int) ≤ IntKind.wrap IntKind.i64 (IntKind.wrap IntKind.i64 (IntKind.wrap IntKind.i64 (IntKind.wrap IntKind.i64 (shrI IntKind.u64 (IntKind.wrap IntKind.u64 (IntKind.wrap IntKind.i64 (a + b))) (1 : Int)) + m) - (1 : Int)) - IntKind.wrap IntKind.i64 (shrI IntKind.u64 (IntKind.wrap IntKind.u64 (IntKind.wrap IntKind.i64 (p.fst.fst + p.fst.snd.fst))) (1 : Int))) ∧ IntKind.wrap IntKind.i64 (IntKind.wrap IntKind.i64 (IntKind.wrap IntKind.i64 (IntKind.wrap IntKind.i64 (shrI IntKind.u64 (IntKind.wrap IntKind.u64 (IntKind.wrap IntKind.i64 (a + b))) (1 : Int)) + m) - (1 : Int)) - IntKind.wrap IntKind.i64 (shrI IntKind.u64 (IntKind.wrap IntKind.u64 (IntKind.wrap IntKind.i64 (p.fst.fst + p.fst.snd.fst))) (1 : Int))) < (↑n : Int)) ∧ PtrK (some A) fun (A_1 : Addr) ↦ PtrK (some (Addr.add A_1 (Int.toNat (IntKind.wrap IntKind.i64 (IntKind.wrap IntKind.i64 (IntKind.wrap IntKind.i64 (IntKind.wrap IntKind.i64 (shrI IntKind.u64 (IntKind.wrap IntKind.u64 (IntKind.wrap IntKind.i64 (a + b))) (1 : Int)) + m) - (1 : Int)) - IntKind.wrap IntKind.i64 (shrI IntKind.u64 (IntKind.wrap IntKind.u64 (IntKind.wrap IntKind.i64 (p.fst.fst + p.fst.snd.fst))) (1 : Int)))) * (4 : Nat)))) fun (a_1 : Addr) ↦ ∃ (n_1 : Int), ∃ (n_2 : Int), ∃ (n_3 : Int), ∃ (s : ByteArray), Heap.has G a_1 [Value.int IntKind.i64 n_1, Value.int IntKind.u32 n_2, Value.int IntKind.u32 n_3, Value.string s] ∧ ((0 : Int) ≤ IntKind.wrap IntKind.i64 (shrI IntKind.u64 (IntKind.wrap IntKind.u64 (IntKind.wrap IntKind.i64 (p.fst.fst + p.fst.snd.fst))) (1 : Int)) ∧ IntKind.wrap IntKind.i64 (shrI IntKind.u64 (IntKind.wrap IntKind.u64 (IntKind.wrap IntKind.i64 (p.fst.fst + p.fst.snd.fst))) (1 : Int)) < (↑n : Int)) ∧ PtrK (some A) fun (A_2 : Addr) ↦ PtrK (some (Addr.add A_2 (Int.toNat (IntKind.wrap IntKind.i64 (shrI IntKind.u64 (IntKind.wrap IntKind.u64 (IntKind.wrap IntKind.i64 (p.fst.fst + p.fst.snd.fst))) (1 : Int))) * (4 : Nat)))) fun (a_2 : Addr) ↦ ∃ (n_4 : Int), ∃ (n_5 : Int), ∃ (n_6 : Int), ∃ (s_1 : ByteArray), Heap.has G a_2 [Value.int IntKind.i64 n_4, Value.int IntKind.u32 n_5, Value.int IntKind.u32 n_6, Value.string s_1] ∧ Meets prog g [Value.agg { toList := [Value.int IntKind.i64 n_1, Value.int IntKind.u32 n_2, Value.int IntKind.u32 n_3, Value.string s] }, Value.agg { toList := [Value.int IntKind.i64 n_4, Value.int IntKind.u32 n_5, Value.int IntKind.u32 n_6, Value.string s_1] }] H fun (e : Ending) (H' : Nat → Option Obj) ↦ Keep G H H H' ∧ ∃ (n_7 : Int), e = Ending.returned (Value.int IntKind.i64 n_7) ∧ Br (!decide (n_7 < (0 : Int))) (some A = some A ∧ n = n ∧ c = c ∧ a = a ∧ m = m ∧ b = b ∧ Value.func (Fn.func g) { toList := [] } { toList := [] } = Value.func (Fn.func g) { toList := [] } { toList := [] } ∧ IntKind.wrap IntKind.i64 (shrI IntKind.u64 (IntKind.wrap IntKind.u64 (IntKind.wrap IntKind.i64 (a + b))) (1 : Int)) = IntKind.wrap IntKind.i64 (shrI IntKind.u64 (IntKind.wrap IntKind.u64 (IntKind.wrap IntKind.i64 (a + b))) (1 : Int)) ∧ IntKind.wrap IntKind.i64 (IntKind.wrap IntKind.i64 (shrI IntKind.u64 (IntKind.wrap IntKind.u64 (IntKind.wrap IntKind.i64 (a + b))) (1 : Int)) + m) = IntKind.wrap IntKind.i64 (IntKind.wrap IntKind.i64 (shrI IntKind.u64 (IntKind.wrap IntKind.u64 (IntKind.wrap IntKind.i64 (a + b))) (1 : Int)) + m) ∧ IntKind.wrap IntKind.i64 (IntKind.wrap IntKind.i64 (IntKind.wrap IntKind.i64 (shrI IntKind.u64 (IntKind.wrap IntKind.u64 (IntKind.wrap IntKind.i64 (a + b))) (1 : Int)) + m) - (1 : Int)) = IntKind.wrap IntKind.i64 (IntKind.wrap IntKind.i64 (IntKind.wrap IntKind.i64 (shrI IntKind.u64 (IntKind.wrap IntKind.u64 (IntKind.wrap IntKind.i64 (a + b))) (1 : Int)) + m) - (1 : Int)) ∧ K ((IntKind.wrap IntKind.i64 (IntKind.wrap IntKind.i64 (shrI IntKind.u64 (IntKind.wrap IntKind.u64 (IntKind.wrap IntKind.i64 (p.fst.fst + p.fst.snd.fst))) (1 : Int)) + (1 : Int)), p.fst.snd.fst, PUnit.unit), PUnit.unit) (delLs H' [])) (some A = some A ∧ n = n ∧ c = c ∧ a = a ∧ m = m ∧ b = b ∧ Value.func (Fn.func g) { toList := [] } { toList := [] } = Value.func (Fn.func g) { toList := [] } { toList := [] } ∧ IntKind.wrap IntKind.i64 (shrI IntKind.u64 (IntKind.wrap IntKind.u64 (IntKind.wrap IntKind.i64 (a + b))) (1 : Int)) = IntKind.wrap IntKind.i64 (shrI IntKind.u64 (IntKind.wrap IntKind.u64 (IntKind.wrap IntKind.i64 (a + b))) (1 : Int)) ∧ IntKind.wrap IntKind.i64 (IntKind.wrap IntKind.i64 (shrI IntKind.u64 (IntKind.wrap IntKind.u64 (IntKind.wrap IntKind.i64 (a + b))) (1 : Int)) + m) = IntKind.wrap IntKind.i64 (IntKind.wrap IntKind.i64 (shrI IntKind.u64 (IntKind.wrap IntKind.u64 (IntKind.wrap IntKind.i64 (a + b))) (1 : Int)) + m) ∧ IntKind.wrap IntKind.i64 (IntKind.wrap IntKind.i64 (IntKind.wrap IntKind.i64 (shrI IntKind.u64 (IntKind.wrap IntKind.u64 (IntKind.wrap IntKind.i64 (a + b))) (1 : Int)) + m) - (1 : Int)) = IntKind.wrap IntKind.i64 (IntKind.wrap IntKind.i64 (IntKind.wrap IntKind.i64 (shrI IntKind.u64 (IntKind.wrap IntKind.u64 (IntKind.wrap IntKind.i64 (a + b))) (1 : Int)) + m) - (1 : Int)) ∧ K ((p.fst.fst, IntKind.wrap IntKind.i64 (shrI IntKind.u64 (IntKind.wrap IntKind.u64 (IntKind.wrap IntKind.i64 (p.fst.fst + p.fst.snd.fst))) (1 : Int)), PUnit.unit), PUnit.unit) (delLs H' []))) (CutP (fun (I : PUnit × PUnit → (Nat → Option Obj) → Prop) ↦ Br (decide (p.fst.fst < m)) (Br (decide (m < IntKind.wrap IntKind.i64 (IntKind.wrap IntKind.i64 (IntKind.wrap IntKind.i64 (shrI IntKind.u64 (IntKind.wrap IntKind.u64 (IntKind.wrap IntKind.i64 (a + b))) (1 : Int)) + m) - p.fst.fst))) (Meets prog (79 : Nat) [Value.slice (some A) n c, Value.int IntKind.i64 p.fst.fst, Value.int IntKind.i64 m, Value.int IntKind.i64 (IntKind.wrap IntKind.i64 (IntKind.wrap IntKind.i64 (IntKind.wrap IntKind.i64 (shrI IntKind.u64 (IntKind.wrap IntKind.u64 (IntKind.wrap IntKind.i64 (a + b))) (1 : Int)) + m) - p.fst.fst)), Value.func (Fn.func g) { toList := [] } { toList := [] }] H fun (e : Ending) (H' : Nat → Option Obj) ↦ e = Ending.returned (Value.tuple { toList := [] }) ∧ some A = some A ∧ n = n ∧ c = c ∧ a = a ∧ b = b ∧ Value.func (Fn.func g) { toList := [] } { toList := [] } = Value.func (Fn.func g) { toList := [] } { toList := [] } ∧ IntKind.wrap IntKind.i64 (shrI IntKind.u64 (IntKind.wrap IntKind.u64 (IntKind.wrap IntKind.i64 (a + b))) (1 : Int)) = IntKind.wrap IntKind.i64 (shrI IntKind.u64 (IntKind.wrap IntKind.u64 (IntKind.wrap IntKind.i64 (a + b))) (1 : Int)) ∧ p.fst.fst = p.fst.fst ∧ IntKind.wrap IntKind.i64 (IntKind.wrap IntKind.i64 (IntKind.wrap IntKind.i64 (shrI IntKind.u64 (IntKind.wrap IntKind.u64 (IntKind.wrap IntKind.i64 (a + b))) (1 : Int)) + m) - p.fst.fst) = IntKind.wrap IntKind.i64 (IntKind.wrap IntKind.i64 (IntKind.wrap IntKind.i64 (shrI IntKind.u64 (IntKind.wrap IntKind.u64 (IntKind.wrap IntKind.i64 (a + b))) (1 : Int)) + m) - p.fst.fst) ∧ I (PUnit.unit, PUnit.unit) H') (some A = some A ∧ n = n ∧ c = c ∧ a = a ∧ b = b ∧ Value.func (Fn.func g) { toList := [] } { toList := [] } = Value.func (Fn.func g) { toList := [] } { toList := [] } ∧ IntKind.wrap IntKind.i64 (shrI IntKind.u64 (IntKind.wrap IntKind.u64 (IntKind.wrap IntKind.i64 (a + b))) (1 : Int)) = IntKind.wrap IntKind.i64 (shrI IntKind.u64 (IntKind.wrap IntKind.u64 (IntKind.wrap IntKind.i64 (a + b))) (1 : Int)) ∧ p.fst.fst = p.fst.fst ∧ IntKind.wrap IntKind.i64 (IntKind.wrap IntKind.i64 (IntKind.wrap IntKind.i64 (shrI IntKind.u64 (IntKind.wrap IntKind.u64 (IntKind.wrap IntKind.i64 (a + b))) (1 : Int)) + m) - p.fst.fst) = IntKind.wrap IntKind.i64 (IntKind.wrap IntKind.i64 (IntKind.wrap IntKind.i64 (shrI IntKind.u64 (IntKind.wrap IntKind.u64 (IntKind.wrap IntKind.i64 (a + b))) (1 : Int)) + m) - p.fst.fst) ∧ I (PUnit.unit, PUnit.unit) H)) (some A = some A ∧ n = n ∧ c = c ∧ a = a ∧ b = b ∧ Value.func (Fn.func g) { toList := [] } { toList := [] } = Value.func (Fn.func g) { toList := [] } { toList := [] } ∧ IntKind.wrap IntKind.i64 (shrI IntKind.u64 (IntKind.wrap IntKind.u64 (IntKind.wrap IntKind.i64 (a + b))) (1 : Int)) = IntKind.wrap IntKind.i64 (shrI IntKind.u64 (IntKind.wrap IntKind.u64 (IntKind.wrap IntKind.i64 (a + b))) (1 : Int)) ∧ p.fst.fst = p.fst.fst ∧ IntKind.wrap IntKind.i64 (IntKind.wrap IntKind.i64 (IntKind.wrap IntKind.i64 (shrI IntKind.u64 (IntKind.wrap IntKind.u64 (IntKind.wrap IntKind.i64 (a + b))) (1 : Int)) + m) - p.fst.fst) = IntKind.wrap IntKind.i64 (IntKind.wrap IntKind.i64 (IntKind.wrap IntKind.i64 (shrI IntKind.u64 (IntKind.wrap IntKind.u64 (IntKind.wrap IntKind.i64 (a + b))) (1 : Int)) + m) - p.fst.fst) ∧ I (PUnit.unit, PUnit.unit) H)) fun (p_1 : PUnit × PUnit) (H : Nat → Option Obj) ↦ CutP (fun (I : PUnit × PUnit → (Nat → Option Obj) → Prop) ↦ Br (decide (a < p.fst.fst)) (Br (decide (p.fst.fst < IntKind.wrap IntKind.i64 (shrI IntKind.u64 (IntKind.wrap IntKind.u64 (IntKind.wrap IntKind.i64 (a + b))) (1 : Int)))) (Meets prog (67 : Nat) [Value.slice (some A) n c, Value.int IntKind.i64 a, Value.int IntKind.i64 p.fst.fst, Value.int IntKind.i64 (IntKind.wrap IntKind.i64 (shrI IntKind.u64 (IntKind.wrap IntKind.u64 (IntKind.wrap IntKind.i64 (a + b))) (1 : Int))), Value.func (Fn.func g) { toList := [] } { toList := [] }] H fun (e : Ending) (H' : Nat → Option Obj) ↦ e = Ending.returned (Value.tuple { toList := [] }) ∧ some A = some A ∧ n = n ∧ c = c ∧ b = b ∧ Value.func (Fn.func g) { toList := [] } { toList := [] } = Value.func (Fn.func g) { toList := [] } { toList := [] } ∧ IntKind.wrap IntKind.i64 (shrI IntKind.u64 (IntKind.wrap IntKind.u64 (IntKind.wrap IntKind.i64 (a + b))) (1 : Int)) = IntKind.wrap IntKind.i64 (shrI IntKind.u64 (IntKind.wrap IntKind.u64 (IntKind.wrap IntKind.i64 (a + b))) (1 : Int)) ∧ IntKind.wrap IntKind.i64 (IntKind.wrap IntKind.i64 (IntKind.wrap IntKind.i64 (shrI IntKind.u64 (IntKind.wrap IntKind.u64 (IntKind.wrap IntKind.i64 (a + b))) (1 : Int)) + m) - p.fst.fst) = IntKind.wrap IntKind.i64 (IntKind.wrap IntKind.i64 (IntKind.wrap IntKind.i64 (shrI IntKind.u64 (IntKind.wrap IntKind.u64 (IntKind.wrap IntKind.i64 (a + b))) (1 : Int)) + m) - p.fst.fst) ∧ I (PUnit.unit, PUnit.unit) H') (some A = some A ∧ n = n ∧ c = c ∧ b = b ∧ Value.func (Fn.func g) { toList := [] } { toList := [] } = Value.func (Fn.func g) { toList := [] } { toList := [] } ∧ IntKind.wrap IntKind.i64 (shrI IntKind.u64 (IntKind.wrap IntKind.u64 (IntKind.wrap IntKind.i64 (a + b))) (1 : Int)) = IntKind.wrap IntKind.i64 (shrI IntKind.u64 (IntKind.wrap IntKind.u64 (IntKind.wrap IntKind.i64 (a + b))) (1 : Int)) ∧ IntKind.wrap IntKind.i64 (IntKind.wrap IntKind.i64 (IntKind.wrap IntKind.i64 (shrI IntKind.u64 (IntKind.wrap IntKind.u64 (IntKind.wrap IntKind.i64 (a + b))) (1 : Int)) + m) - p.fst.fst) = IntKind.wrap IntKind.i64 (IntKind.wrap IntKind.i64 (IntKind.wrap IntKind.i64 (shrI IntKind.u64 (IntKind.wrap IntKind.u64 (IntKind.wrap IntKind.i64 (a + b))) (1 : Int)) + m) - p.fst.fst) ∧ I (PUnit.unit, PUnit.unit) H)) (some A = some A ∧ n = n ∧ c = c ∧ b = b ∧ Value.func (Fn.func g) { toList := [] } { toList := [] } = Value.func (Fn.func g) { toList := [] } { toList := [] } ∧ IntKind.wrap IntKind.i64 (shrI IntKind.u64 (IntKind.wrap IntKind.u64 (IntKind.wrap IntKind.i64 (a + b))) (1 : Int)) = IntKind.wrap IntKind.i64 (shrI IntKind.u64 (IntKind.wrap IntKind.u64 (IntKind.wrap IntKind.i64 (a + b))) (1 : Int)) ∧ IntKind.wrap IntKind.i64 (IntKind.wrap IntKind.i64 (IntKind.wrap IntKind.i64 (shrI IntKind.u64 (IntKind.wrap IntKind.u64 (IntKind.wrap IntKind.i64 (a + b))) (1 : Int)) + m) - p.fst.fst) = IntKind.wrap IntKind.i64 (IntKind.wrap IntKind.i64 (IntKind.wrap IntKind.i64 (shrI IntKind.u64 (IntKind.wrap IntKind.u64 (IntKind.wrap IntKind.i64 (a + b))) (1 : Int)) + m) - p.fst.fst) ∧ I (PUnit.unit, PUnit.unit) H)) fun (p_2 : PUnit × PUnit) (H : Nat → Option Obj) ↦ Br (decide (IntKind.wrap IntKind.i64 (shrI IntKind.u64 (IntKind.wrap IntKind.u64 (IntKind.wrap IntKind.i64 (a + b))) (1 : Int)) < IntKind.wrap IntKind.i64 (IntKind.wrap IntKind.i64 (IntKind.wrap IntKind.i64 (shrI IntKind.u64 (IntKind.wrap IntKind.u64 (IntKind.wrap IntKind.i64 (a + b))) (1 : Int)) + m) - p.fst.fst))) (Br (decide (IntKind.wrap IntKind.i64 (IntKind.wrap IntKind.i64 (IntKind.wrap IntKind.i64 (shrI IntKind.u64 (IntKind.wrap IntKind.u64 (IntKind.wrap IntKind.i64 (a + b))) (1 : Int)) + m) - p.fst.fst) < b)) (Meets prog (67 : Nat) [Value.slice (some A) n c, Value.int IntKind.i64 (IntKind.wrap IntKind.i64 (shrI IntKind.u64 (IntKind.wrap IntKind.u64 (IntKind.wrap IntKind.i64 (a + b))) (1 : Int))), Value.int IntKind.i64 (IntKind.wrap IntKind.i64 (IntKind.wrap IntKind.i64 (IntKind.wrap IntKind.i64 (shrI IntKind.u64 (IntKind.wrap IntKind.u64 (IntKind.wrap IntKind.i64 (a + b))) (1 : Int)) + m) - p.fst.fst)), Value.int IntKind.i64 b, Value.func (Fn.func g) { toList := [] } { toList := [] }] H fun (e : Ending) (H' : Nat → Option Obj) ↦ e = Ending.returned (Value.tuple { toList := [] }) ∧ R (Ending.returned (Value.tuple { toList := [] })) H') (R (Ending.returned (Value.tuple { toList := [] })) H)) (R (Ending.returned (Value.tuple { toList := [] })) H))) ((p.fst.fst, p.fst.snd.fst, PUnit.unit), PUnit.unit) H))
theorem vc_sym (A : Addr) (n : Nat) (c : Nat) (g : Nat) (a : Int) (m : Int) (b : Int) (R : Ending → Heap → Prop) (H : Heap) : vcFun prog h_sym f67 [SV.c (SC.v (Value.slice (some A) n c)), SV.c (SC.v (Value.int IntKind.i64 a)), SV.c (SC.v (Value.int IntKind.i64 m)), SV.c (SC.v (Value.int IntKind.i64 b)), SV.c (SC.v (Value.func (Fn.func g) #[] #[]))] R H = nf_sym A n c g a m b R H := by kernel_rfl

def nf_stb (A : Addr) (n : Nat) (c : Nat) (g : Nat) (m : Int) (R : Ending → Heap → Prop) (H : Heap) : Prop := some A = some A ∧ n = n ∧ c = c ∧ m = m ∧ Value.func (Fn.func g) { toList := [] } { toList := [] } = Value.func (Fn.func g) { toList := [] } { toList := [] } ∧ (20 : Int) = (20 : Int) ∧ LoopP (fun (K : (Int × Int × PUnit) × PUnit → (Nat → Option Obj) → Prop) (p : (Int × Int × PUnit) × PUnit) (H : Nat → Option Obj) ↦ Br (decide (p.fst.snd.fst ≤ m)) (Meets prog (56 : Nat) [Value.slice (some A) n c, Value.int IntKind.i64 p.fst.fst, Value.int IntKind.i64 p.fst.snd.fst, Value.func (Fn.func g) { toList := [] } { toList := [] }] H fun (e : Ending) (H' : Nat → Option Obj) ↦ e = Ending.returned (Value.tuple { toList := [] }) ∧ some A = some A ∧ n = n ∧ c = c ∧ m = m ∧ Value.func (Fn.func g) { toList := [] } { toList := [] } = Value.func (Fn.func g) { toList := [] } { toList := [] } ∧ (20 : Int) = (20 : Int) ∧ K ((p.fst.snd.fst, IntKind.wrap IntKind.i64 (p.fst.snd.fst + (20 : Int)), PUnit.unit), PUnit.unit) H') (Meets prog (56 : Nat) [Value.slice (some A) n c, Value.int IntKind.i64 p.fst.fst, Value.int IntKind.i64 m, Value.func (Fn.func g) { toList := [] } { toList := [] }] H fun (e : Ending) (H' : Nat → Option Obj) ↦ e = Ending.returned (Value.tuple { toList := [] }) ∧ some A = some A ∧ n = n ∧ c = c ∧ m = m ∧ Value.func (Fn.func g) { toList := [] } { toList := [] } = Value.func (Fn.func g) { toList := [] } { toList := [] } ∧ LoopP (fun (K : (Int × PUnit) × PUnit → (Nat → Option Obj) → Prop) (p : (Int × PUnit) × PUnit) (H : Nat → Option Obj) ↦ Br (decide (p.fst.fst < m)) (some A = some A ∧ n = n ∧ c = c ∧ m = m ∧ Value.func (Fn.func g) { toList := [] } { toList := [] } = Value.func (Fn.func g) { toList := [] } { toList := [] } ∧ p.fst.fst = p.fst.fst ∧ LoopP (fun (K_1 : (Int × Int × PUnit) × PUnit → (Nat → Option Obj) → Prop) (p_1 : (Int × Int × PUnit) × PUnit) (H : Nat → Option Obj) ↦ Br (decide (p_1.fst.snd.fst ≤ m)) (Meets prog (67 : Nat) [Value.slice (some A) n c, Value.int IntKind.i64 p_1.fst.fst, Value.int IntKind.i64 (IntKind.wrap IntKind.i64 (p_1.fst.fst + p.fst.fst)), Value.int IntKind.i64 p_1.fst.snd.fst, Value.func (Fn.func g) { toList := [] } { toList := [] }] H fun (e : Ending) (H' : Nat → Option Obj) ↦ e = Ending.returned (Value.tuple { toList := [] }) ∧ some A = some A ∧ n = n ∧ c = c ∧ m = m ∧ Value.func (Fn.func g) { toList := [] } { toList := [] } = Value.func (Fn.func g) { toList := [] } { toList := [] } ∧ p.fst.fst = p.fst.fst ∧ K_1 ((p_1.fst.snd.fst, IntKind.wrap IntKind.i64 (p_1.fst.snd.fst + IntKind.wrap IntKind.i64 ((2 : Int) * p.fst.fst)), PUnit.unit), PUnit.unit) H') (Br (decide (IntKind.wrap IntKind.i64 (p_1.fst.fst + p.fst.fst) < m)) (Meets prog (67 : Nat) [Value.slice (some A) n c, Value.int IntKind.i64 p_1.fst.fst, Value.int IntKind.i64 (IntKind.wrap IntKind.i64 (p_1.fst.fst + p.fst.fst)), Value.int IntKind.i64 m, Value.func (Fn.func g) { toList := [] } { toList := [] }] H fun (e : Ending) (H' : Nat → Option Obj) ↦ e = Ending.returned (Value.tuple { toList := [] }) ∧ some A = some A ∧ n = n ∧ c = c ∧ m = m ∧ Value.func (Fn.func g) { toList := [] } { toList := [] } = Value.func (Fn.func g) { toList := [] } { toList := [] } ∧ K ((IntKind.wrap IntKind.i64 (p.fst.fst * (2 : Int)), PUnit.unit), PUnit.unit) H') (some A = some A ∧ n = n ∧ c = c ∧ m = m ∧ Value.func (Fn.func g) { toList := [] } { toList := [] } = Value.func (Fn.func g) { toList := [] } { toList := [] } ∧ K ((IntKind.wrap IntKind.i64 (p.fst.fst * (2 : Int)), PUnit.unit), PUnit.unit) H))) (((0 : Int), IntKind.wrap IntKind.i64 ((2 : Int) * p.fst.fst), PUnit.unit), PUnit.unit) H) (R (Ending.returned (Value.tuple { toList := [] })) H)) (((20 : Int), PUnit.unit), PUnit.unit) H')) (((0 : Int), (20 : Int), PUnit.unit), PUnit.unit) H
theorem vc_stb (A : Addr) (n : Nat) (c : Nat) (g : Nat) (m : Int) (R : Ending → Heap → Prop) (H : Heap) : vcFun prog h_stb f49 [SV.c (SC.v (Value.slice (some A) n c)), SV.c (SC.v (Value.int IntKind.i64 m)), SV.c (SC.v (Value.func (Fn.func g) #[] #[]))] R H = nf_stb A n c g m R H := by kernel_rfl

end Cr

set_option linter.unusedVariables false
set_option linter.unusedSimpArgs false
namespace Cr
open Go Sx Stb
open Go.Sort (SWO)
open Go.Proofs.Try
set_option maxRecDepth 100000
section
variable {R : Ending → Heap → Prop} {H : Heap} {ty : Nat}
theorem half64 {u : Int} (h : 0 ≤ u ∧ u ≤ 4611686018427387904) : IntKind.i64.wrap (shrI .u64 (IntKind.u64.wrap (IntKind.i64.wrap u)) 1) = u / 2 := by
  rw [w64 (k := u) (by omega), IntWalk.u64_in u (by omega)]
  have : shrI .u64 u 1 = u / 2 := by
    unfold shrI
    rw [show min (Int.toNat 1) (IntKind.u64).bits = 1 by decide, show ((2 : Int) ^ 1) = 2 by decide, Int.fdiv_eq_ediv_of_nonneg _ (by decide)]
  rw [this, w64 (by omega)]
theorem get_X {A X Y B : List Pt} {k j : Nat} (hk : k < X.length) (hj : A.length + k = j) : (A ++ X ++ Y ++ B)[j]? = some X[k] := by
  subst hj
  rw [List.append_assoc, List.append_assoc, List.getElem?_append_right (by omega), Nat.add_sub_cancel_left, List.getElem?_append_left hk, List.getElem?_eq_getElem hk]
theorem get_Y {A X Y B : List Pt} {k j : Nat} (hk : k < Y.length) (hj : A.length + X.length + k = j) : (A ++ X ++ Y ++ B)[j]? = some Y[k] := by
  subst hj
  rw [List.append_assoc, List.getElem?_append_right (by simp only [List.length_append]; omega), List.length_append, Nat.add_sub_cancel_left, List.getElem?_append_left hk, List.getElem?_eq_getElem hk]
theorem drop_cons {α : Type} {l : List α} {k : Nat} (h : k < l.length) : ∃ y, l.drop k = y :: l.drop (k + 1) ∧ l.take (k + 1) = l.take k ++ [y] ∧ l[k]? = some y :=
  ⟨l[k], List.drop_eq_getElem_cons h, by rw [List.take_add_one, List.getElem?_eq_getElem h]; rfl, List.getElem?_eq_getElem h⟩
theorem s_sym {g : Nat} {cf : Pt → Pt → Int} (hc : CmpOK g cf) (hs : SWO (ltc cf)) {Ad : Addr} {n c : Nat} (hn : n ≤ 1000000) : ∀ (N : Nat) {A X Y B : List Pt} {a m b : Int} (hN : X.length + Y.length = N) (ha : (A.length : Int) = a) (hm : a + X.length = m) (hb : m + Y.length = b) (hx : 0 < X.length) (hy : 0 < Y.length)
    (sX : Srtd (ltc cf) X) (sY : Srtd (ltc cf) Y) {R : Ending → Heap → Prop} {H : Heap}
    (hrow : RowAt H (.slice (some Ad) n c) ty 4 (pts (A ++ X ++ Y ++ B))) (h : ∀ H', RowAt H' (.slice (some Ad) n c) ty 4 (pts (A ++ isort (ltc cf) (X ++ Y) ++ B)) → Mod (.slice (some Ad) n c) H H' → R (.returned (.tuple #[])) H'),
    Meets prog 67 [.slice (some Ad) n c, vi a, vi m, vi b, .func (.func g) #[] #[]] H R := by
  intro N
  induction N using Nat.strongRecOn with
  | _ N ih =>
  intro A X Y B a m b hN ha hm hb hx hy sX sY R H hrow h
  refine spec_of func67 (by kernel_rfl) (fun t h => by cases h) ?_ (vc_sym Ad n c g a m b R H) ?_
  · simp [argsR, SV.rep, SC.rep, one]
  unfold nf_sym
  simp only [true_and, delLs_nil, List.nil_append, List.append_nil]
  have hlen0 := (row_len hrow).1
  simp only [pts, List.length_map, List.length_append] at hlen0
  have hsl := row_slice hrow
  rw [w64 (k := m - a) (by omega), w64 (k := b - m) (by omega)]
  refine br (fun q => ?_) fun q => br (fun q1 => ?_) fun q1 => ?_
  · -- one on the left
    have hx1 : X.length = 1 := by simp at q; omega
    obtain ⟨x, rfl⟩ := List.length_eq_one_iff.1 hx1
    simp only [List.length_singleton] at hm hlen0 hN
    refine ⟨fun p H' => ∃ s t : Nat, p.1.1 = m + s ∧ p.1.2.1 = m + t ∧ s ≤ t ∧ t ≤ Y.length ∧ (∀ y, 0 < s → Y[s - 1]? = some y → ltc cf y x = true) ∧ (∀ y, t < Y.length → Y[t]? = some y → ltc cf y x = false) ∧ H' = H, fun p _ => (p.1.2.1 - p.1.1).toNat, ⟨0, Y.length, by simp, by simp only; omega, by omega, by omega, by omega, by omega, rfl⟩, ?_⟩
    rintro ⟨⟨i, j, _⟩, _⟩ H1 ⟨s, t, hi, hj, hst, htl, f1, f2, rfl⟩
    simp only at hi hj ⊢
    subst hi; subst hj
    refine br (fun q2 => ?_) fun q2 => ?_
    · simp only [decide_eq_true_eq] at q2
      rw [half64 (by omega)]
      obtain ⟨k, hk⟩ : ∃ k : Nat, (m + (s : Int) + (m + (t : Int))) / 2 = m + k ∧ s ≤ k ∧ k < t := ⟨(s + t) / 2, by omega, by omega, by omega⟩
      rw [hk.1, w64 (k := m + k + 1) (by omega)]
      obtain ⟨A1, e1, g1⟩ := pr_get hsl (i := (m + k).toNat) (p := Y[k]) (get_Y (by omega) (by simp only [List.length_singleton]; omega))
      obtain ⟨A2, e2, g2⟩ := pr_get hsl (i := a.toNat) (p := x) (get_X (X := [x]) (k := 0) (by simp) (by omega))
      cases e1; cases e2
      refine ⟨by decide, _, heap_refl _, ⟨by omega, by omega⟩, ptr rfl (ptr rfl ⟨_, _, _, _, g1, ⟨by omega, by omega⟩, ptr rfl (ptr rfl ⟨_, _, _, _, g2, ?_⟩)⟩)⟩
      refine hc _ _ _ _ ⟨keep_same _ _ _, _, rfl, br (fun q3 => ?_) fun q3 => ?_⟩
      · refine ⟨⟨k + 1, t, by omega, rfl, by omega, htl, fun y _ hy => ?_, f2, rfl⟩, by omega⟩
        rw [Nat.add_sub_cancel, List.getElem?_eq_getElem (by omega)] at hy
        cases hy
        exact q3
      · refine ⟨⟨s, k, rfl, rfl, by omega, by omega, f1, fun y _ hy => ?_, rfl⟩, by omega⟩
        rw [List.getElem?_eq_getElem (by omega)] at hy
        cases hy
        exact q3
    · simp only [decide_eq_false_iff_not] at q2
      have hst' : t = s := by omega
      subst hst'
      have hins : isort (ltc cf) ([x] ++ Y) = Y.take t ++ x :: Y.drop t := by
        have := ins_left hs (x := x) (Y1 := Y.take t) (Y2 := Y.drop t) (by rw [List.take_append_drop]; exact sY) (fun y hy => ?_) (fun y hy => ?_)
        · rwa [List.take_append_drop] at this
        · rcases Nat.eq_zero_or_pos t with h0 | h0
          · subst h0; simp at hy
          · rw [last_take h0 htl] at hy
            exact f1 y h0 hy
        · rw [head_drop] at hy
          have : t < Y.length := by
            rcases Nat.lt_or_ge t Y.length with h | h
            · exact h
            · rw [List.getElem?_eq_none h] at hy; cases hy
          exact f2 y this hy
      rw [w64 (k := m + t - 1) (by omega)]
      refine ⟨fun p H' => ∃ u : Nat, p.1.1 = a + u ∧ u ≤ t ∧ RowAt H' (.slice (some Ad) n c) ty 4 (pts (A ++ Y.take u ++ x :: Y.drop u ++ B)) ∧ Mod (.slice (some Ad) n c) H1 H', fun p _ => (m + t - p.1.1).toNat, ⟨0, by simp, by omega, by simpa using hrow, Mod.refl _ _⟩, ?_⟩
      rintro ⟨⟨i, _⟩, _⟩ H2 ⟨u, hi, hut, hrow2, hmod2⟩
      simp only at hi ⊢
      subst hi
      refine br (fun q3 => ?_) fun q3 => ?_
      · simp only [decide_eq_true_eq] at q3
        obtain ⟨y, hd, ht, _⟩ := drop_cons (l := Y) (k := u) (by omega)
        rw [w64 (k := a + u + 1) (by omega)]
        have hL : A ++ Y.take u ++ x :: Y.drop u ++ B = (A ++ Y.take u) ++ x :: ([] ++ y :: (Y.drop (u + 1) ++ B)) := by rw [hd]; simp
        rw [hL] at hrow2
        have hl1 : (A ++ Y.take u).length = (a + u).toNat := by rw [List.length_append, List.length_take]; omega
        have hl2 : (a + u).toNat + 1 + ([] : List Pt).length = (a + u + 1).toNat := by simp only [List.length_nil]; omega
        have hsl2 := row_slice hrow2
        obtain ⟨A1, e1, g1⟩ := pr_get hsl2 (i := (a + u).toNat) (p := x) (get_at hl1)
        obtain ⟨A2, e2, g2⟩ := pr_get hsl2 (i := (a + u + 1).toNat) (p := y) (by
          have := get_at (P := (A ++ Y.take u) ++ [x]) (Q := Y.drop (u + 1) ++ B) (x := y) (k := (a + u + 1).toNat) (by rw [List.length_append, hl1]; simp only [List.length_singleton]; omega)
          simpa using this)
        cases e1; cases e2
        obtain ⟨c1, m1, r1, d1⟩ := pr_put hrow2 (i := (a + u).toNat) (by omega) y
        obtain ⟨c2, m2, r2, d2⟩ := pr_put r1 (i := (a + u + 1).toNat) (by omega) x
        rw [set_far hl1 hl2] at r2
        refine ⟨⟨by omega, by omega⟩, ptr rfl (ptr rfl ⟨_, _, _, _, g2, ⟨by omega, by omega⟩, ptr rfl (ptr rfl ⟨_, _, _, _, g1, ⟨by omega, by omega⟩, ptr rfl (ptr rfl ⟨_, _, m1, ⟨by omega, by omega⟩, ptr rfl (ptr rfl ⟨_, _, m2, ⟨u + 1, by omega, by omega, ?_, (hmod2.trans d1).trans d2⟩, by omega⟩)⟩)⟩)⟩)⟩
        rw [ht]
        simpa using r2
      · simp only [decide_eq_false_iff_not] at q3
        have : u = t := by omega
        subst this
        refine h _ ?_ hmod2
        rw [hins]
        simpa using hrow2
  · -- one on the right
    have hy1 : Y.length = 1 := by simp at q1; omega
    obtain ⟨y, rfl⟩ := List.length_eq_one_iff.1 hy1
    simp only [List.length_singleton] at hb hlen0 hN
    refine ⟨fun p H' => ∃ s t : Nat, p.1.1 = a + s ∧ p.1.2.1 = a + t ∧ s ≤ t ∧ t ≤ X.length ∧ (∀ x, 0 < s → X[s - 1]? = some x → ltc cf y x = false) ∧ (∀ x, t < X.length → X[t]? = some x → ltc cf y x = true) ∧ H' = H, fun p _ => (p.1.2.1 - p.1.1).toNat, ⟨0, X.length, by simp, by simp only; omega, by omega, by omega, by omega, by omega, rfl⟩, ?_⟩
    rintro ⟨⟨i, j, _⟩, _⟩ H1 ⟨s, t, hi, hj, hst, htl, f1, f2, rfl⟩
    simp only at hi hj ⊢
    subst hi; subst hj
    refine br (fun q2 => ?_) fun q2 => ?_
    · simp only [decide_eq_true_eq] at q2
      rw [half64 (by omega)]
      obtain ⟨k, hk⟩ : ∃ k : Nat, (a + (s : Int) + (a + (t : Int))) / 2 = a + k ∧ s ≤ k ∧ k < t := ⟨(s + t) / 2, by omega, by omega, by omega⟩
      rw [hk.1, w64 (k := a + k + 1) (by omega)]
      obtain ⟨A1, e1, g1⟩ := pr_get hsl (i := (a + k).toNat) (p := X[k]) (get_X (by omega) (by omega))
      obtain ⟨A2, e2, g2⟩ := pr_get hsl (i := m.toNat) (p := y) (get_Y (Y := [y]) (k := 0) (by simp) (by omega))
      cases e1; cases e2
      refine ⟨by decide, _, heap_refl _, ⟨by omega, by omega⟩, ptr rfl (ptr rfl ⟨_, _, _, _, g2, ⟨by omega, by omega⟩, ptr rfl (ptr rfl ⟨_, _, _, _, g1, ?_⟩)⟩)⟩
      refine hc _ _ _ _ ⟨keep_same _ _ _, _, rfl, br (fun q3 => ?_) fun q3 => ?_⟩
      · refine ⟨⟨k + 1, t, by omega, rfl, by omega, htl, fun x _ hx => ?_, f2, rfl⟩, by omega⟩
        rw [Nat.add_sub_cancel, List.getElem?_eq_getElem (by omega)] at hx
        cases hx
        simpa [ltc] using q3
      · refine ⟨⟨s, k, rfl, rfl, by omega, by omega, f1, fun x _ hx => ?_, rfl⟩, by omega⟩
        rw [List.getElem?_eq_getElem (by omega)] at hx
        cases hx
        simpa [ltc] using q3
    · simp only [decide_eq_false_iff_not] at q2
      have hst' : t = s := by omega
      subst hst'
      have hins : isort (ltc cf) (X ++ [y]) = X.take t ++ y :: X.drop t := by
        have := ins_right hs (y := y) (X1 := X.take t) (X2 := X.drop t) (by rw [List.take_append_drop]; exact sX) (fun x hx => ?_) (fun x hx => ?_)
        · rwa [List.take_append_drop] at this
        · rcases Nat.eq_zero_or_pos t with h0 | h0
          · subst h0; simp at hx
          · rw [last_take h0 htl] at hx
            exact f1 x h0 hx
        · rw [head_drop] at hx
          have : t < X.length := by
            rcases Nat.lt_or_ge t X.length with h | h
            · exact h
            · rw [List.getElem?_eq_none h] at hx; cases hx
          exact f2 x this hx
      refine ⟨fun p H' => ∃ u : Nat, p.1.1 = a + u ∧ t ≤ u ∧ u ≤ X.length ∧ RowAt H' (.slice (some Ad) n c) ty 4 (pts (A ++ X.take u ++ y :: X.drop u ++ B)) ∧ Mod (.slice (some Ad) n c) H1 H', fun p _ => (p.1.1).toNat, ⟨X.length, by simp only; omega, by omega, by omega, by simpa using hrow, Mod.refl _ _⟩, ?_⟩
      rintro ⟨⟨i, _⟩, _⟩ H2 ⟨u, hi, hut, hul, hrow2, hmod2⟩
      simp only at hi ⊢
      subst hi
      refine br (fun q3 => ?_) fun q3 => ?_
      · simp only [decide_eq_true_eq] at q3
        obtain ⟨v, rfl⟩ : ∃ v, u = v + 1 := ⟨u - 1, by omega⟩
        obtain ⟨x, hd, ht, _⟩ := drop_cons (l := X) (k := v) (by omega)
        rw [w64 (k := a + ((v + 1 : Nat) : Int) - 1) (by omega)]
        have hL : A ++ X.take (v + 1) ++ y :: X.drop (v + 1) ++ B = (A ++ X.take v) ++ x :: y :: (X.drop (v + 1) ++ B) := by rw [ht]; simp
        rw [hL] at hrow2
        have hl1 : (A ++ X.take v).length = (a + ((v + 1 : Nat) : Int) - 1).toNat := by rw [List.length_append, List.length_take]; omega
        have hk : (a + ((v + 1 : Nat) : Int)).toNat = (a + ((v + 1 : Nat) : Int) - 1).toNat + 1 := by omega
        rw [hk]
        have hsl2 := row_slice hrow2
        obtain ⟨A1, e1, g1⟩ := pr_get hsl2 (i := (a + ((v + 1 : Nat) : Int) - 1).toNat) (p := x) (get_at hl1)
        obtain ⟨A2, e2, g2⟩ := pr_get hsl2 (i := (a + ((v + 1 : Nat) : Int) - 1).toNat + 1) (p := y) (by
          have := get_at (P := (A ++ X.take v) ++ [x]) (Q := X.drop (v + 1) ++ B) (x := y) (k := (a + ((v + 1 : Nat) : Int) - 1).toNat + 1) (by rw [List.length_append, hl1]; simp only [List.length_singleton])
          simpa using this)
        cases e1; cases e2
        obtain ⟨c1, m1, r1, d1⟩ := pr_put hrow2 (i := (a + ((v + 1 : Nat) : Int) - 1).toNat + 1) (by omega) x
        obtain ⟨c2, m2, r2, d2⟩ := pr_put r1 (i := (a + ((v + 1 : Nat) : Int) - 1).toNat) (by omega) y
        rw [set_two hl1] at r2
        refine ⟨⟨by omega, by omega⟩, ptr rfl (ptr rfl ⟨_, _, _, _, g1, ⟨by omega, by omega⟩, ptr rfl (ptr rfl ⟨_, _, _, _, g2, ⟨by omega, by omega⟩, ptr rfl (ptr rfl ⟨_, _, m1, ⟨by omega, by omega⟩, ptr rfl (ptr rfl ⟨_, _, m2, ⟨v, by omega, by omega, by omega, ?_, (hmod2.trans d1).trans d2⟩, by omega⟩)⟩)⟩)⟩)⟩
        rw [hd]
        simpa using r2
      · simp only [decide_eq_false_iff_not] at q3
        have : u = t := by omega
        subst this
        refine h _ ?_ hmod2
        rw [hins]
        simpa using hrow2
  · -- both longer
    have hx2 : 2 ≤ X.length := by simp at q; omega
    have hy2 : 2 ≤ Y.length := by simp at q1; omega
    rw [half64 (u := a + b) (by omega)]
    generalize hmid : (a + b) / 2 = mid
    have hmb : a + 2 ≤ mid ∧ mid + 2 ≤ b := by omega
    rw [w64 (k := mid + m) (by omega), w64 (k := mid + m - b) (by omega), w64 (k := mid + m - 1) (by omega)]
    refine ⟨by decide, fun p H' => H' = H ∧ ((m > mid ∧ p.1.1 = mid + m - b ∧ p.1.2.1 = mid) ∨ (m ≤ mid ∧ p.1.1 = a ∧ p.1.2.1 = m)), br (fun q2 => ?_) fun q2 => ?_, ?_⟩
    · simp only [decide_eq_true_eq] at q2
      exact ⟨rfl, .inl ⟨q2, rfl, rfl⟩⟩
    · simp only [decide_eq_false_iff_not] at q2
      exact ⟨rfl, .inr ⟨by omega, rfl, rfl⟩⟩
    rintro ⟨⟨st0, r0, _⟩, _⟩ H1 ⟨rfl, hsr⟩
    simp only at hsr ⊢
    have hsr' : a ≤ st0 ∧ st0 ≤ r0 ∧ r0 ≤ m ∧ r0 ≤ mid ∧ mid + m - st0 ≤ b ∧ (a < st0 → mid + m - st0 = b) ∧ (r0 < m → r0 = mid) := by omega
    refine ⟨fun p H' => ∃ s t : Nat, p.1.1 = a + s ∧ p.1.2.1 = a + t ∧ s ≤ t ∧ st0 ≤ a + s ∧ a + t ≤ r0 ∧ (∀ x y, st0 < a + s → X[s - 1]? = some x → Y[(mid - a - s).toNat]? = some y → ltc cf y x = false) ∧ (∀ x y, a + t < r0 → X[t]? = some x → Y[(mid - a - t - 1).toNat]? = some y → ltc cf y x = true) ∧ H' = H1, fun p _ => (p.1.2.1 - p.1.1).toNat, ⟨(st0 - a).toNat, (r0 - a).toNat, by simp only; omega, by simp only; omega, by omega, by omega, by omega, by omega, by omega, rfl⟩, ?_⟩
    rintro ⟨⟨i, j, _⟩, _⟩ H2 ⟨s, t, hi, hj, hst, hs0, ht0, f1, f2, rfl⟩
    simp only at hi hj ⊢
    subst hi; subst hj
    refine br (fun q2 => ?_) fun q2 => ?_
    · simp only [decide_eq_true_eq] at q2
      rw [half64 (by omega)]
      obtain ⟨k, hk⟩ : ∃ k : Nat, (a + (s : Int) + (a + (t : Int))) / 2 = a + k ∧ s ≤ k ∧ k < t := ⟨(s + t) / 2, by omega, by omega, by omega⟩
      rw [hk.1, w64 (k := a + k + 1) (by omega), w64 (k := mid + m - 1 - (a + k)) (by omega)]
      have hkx : k < X.length := by omega
      have hky : (mid - a - k - 1).toNat < Y.length := by omega
      obtain ⟨A1, e1, g1⟩ := pr_get hsl (i := (a + k).toNat) (p := X[k]) (get_X hkx (by omega))
      obtain ⟨A2, e2, g2⟩ := pr_get hsl (i := (mid + m - 1 - (a + k)).toNat) (p := Y[(mid - a - k - 1).toNat]) (get_Y hky (by omega))
      cases e1; cases e2
      refine ⟨by decide, _, heap_refl _, ⟨by omega, by omega⟩, ptr rfl (ptr rfl ⟨_, _, _, _, g2, ⟨by omega, by omega⟩, ptr rfl (ptr rfl ⟨_, _, _, _, g1, ?_⟩)⟩)⟩
      refine hc _ _ _ _ ⟨keep_same _ _ _, _, rfl, br (fun q3 => ?_) fun q3 => ?_⟩
      · refine ⟨⟨k + 1, t, by omega, rfl, by omega, by omega, ht0, fun x y _ hx hy => ?_, f2, rfl⟩, by omega⟩
        rw [Nat.add_sub_cancel, List.getElem?_eq_getElem hkx] at hx
        rw [show (mid - a - ((k + 1 : Nat) : Int)).toNat = (mid - a - k - 1).toNat by omega, List.getElem?_eq_getElem hky] at hy
        cases hx; cases hy
        simpa [ltc] using q3
      · refine ⟨⟨s, k, rfl, rfl, by omega, hs0, by omega, f1, fun x y _ hx hy => ?_, rfl⟩, by omega⟩
        rw [List.getElem?_eq_getElem hkx] at hx
        rw [List.getElem?_eq_getElem hky] at hy
        cases hx; cases hy
        simpa [ltc] using q3
    · simp only [decide_eq_false_iff_not] at q2
      have hst' : t = s := by omega
      subst hst'
      -- the four parts
      obtain ⟨d, hd⟩ : ∃ d : Nat, mid = a + t + d := ⟨(mid - a - t).toNat, by omega⟩
      have hXs : X.take t ++ X.drop t = X := List.take_append_drop ..
      have hYs : Y.take d ++ Y.drop d = Y := List.take_append_drop ..
      have lX1 : (X.take t).length = t := by rw [List.length_take]; omega
      have lX2 : (X.drop t).length = X.length - t := by simp
      have lY1 : (Y.take d).length = d := by rw [List.length_take]; omega
      have lY2 : (Y.drop d).length = Y.length - d := by simp
      have hfin : isort (ltc cf) (X.take t ++ Y.take d) ++ isort (ltc cf) (X.drop t ++ Y.drop d) = isort (ltc cf) (X ++ Y) := by
        have hb1 := borders hs (X1 := X.take t) (X2 := X.drop t) (Y1 := Y.take d) (Y2 := Y.drop d) (by rw [hXs]; exact sX) (by rw [hYs]; exact sY) (fun x y hx hy => ?_) (fun x y hx hy => ?_)
        · have := merge_halves hs (X1 := X.take t) (X2 := X.drop t) (Y1 := Y.take d) (Y2 := Y.drop d) (by rw [hXs]; exact sX) (by rw [hYs]; exact sY) hb1.1 hb1.2
          rwa [hXs, hYs] at this
        · rw [head_drop] at hy
          have h3 : d < Y.length := by
            rcases Nat.lt_or_ge d Y.length with h | h
            · exact h
            · rw [List.getElem?_eq_none h] at hy; cases hy
          have h4 : 0 < t := by
            rcases Nat.eq_zero_or_pos t with h0 | h0
            · subst h0; simp at hx
            · exact h0
          rw [last_take h4 (by omega)] at hx
          refine f1 x y (by omega) hx ?_
          rw [show (mid - a - (t : Int)).toNat = d by omega]; exact hy
        · rw [head_drop] at hx
          have h3 : t < X.length := by
            rcases Nat.lt_or_ge t X.length with h | h
            · exact h
            · rw [List.getElem?_eq_none h] at hx; cases hx
          have h4 : 0 < d := by
            rcases Nat.eq_zero_or_pos d with h0 | h0
            · subst h0; simp at hy
            · exact h0
          rw [last_take h4 (by omega)] at hy
          refine f2 x y (by omega) hx ?_
          rw [show (mid - a - (t : Int) - 1).toNat = d - 1 by omega]; exact hy
      rw [← hXs] at sX
      rw [← hYs] at sY
      have pX := List.pairwise_append.1 sX
      have pY := List.pairwise_append.1 sY
      rw [← hXs, ← hYs] at hrow
      rw [hfin.symm] at h
      generalize X.take t = X1 at *
      generalize X.drop t = X2 at *
      generalize Y.take d = Y1 at *
      generalize Y.drop d = Y2 at *
      rw [w64 (k := mid + m - (a + t)) (by omega)]
      have hend : mid + m - (a + (t : Int)) = m + d := by omega
      rw [hend]
      refine ⟨fun _ H' => RowAt H' (.slice (some Ad) n c) ty 4 (pts (A ++ (X1 ++ Y1) ++ (X2 ++ Y2) ++ B)) ∧ Mod (.slice (some Ad) n c) H2 H', ?_, ?_⟩
      · refine br (fun q3 => br (fun q4 => ?_) fun q4 => ?_) fun q3 => ?_
        · simp only [decide_eq_true_eq] at q3 q4
          refine s_rot (ty := ty) (A := A ++ X1) (X := X2) (Y := Y1) (B := Y2 ++ B) (by simp; omega) (by omega) (by omega) (by simpa using hrow) (by omega) (by omega) hn fun H3 hr hmd => ⟨rfl, by simpa using hr, hmd⟩
        · simp only [decide_eq_false_iff_not] at q4
          have : Y1 = [] := List.length_eq_zero_iff.1 (by omega)
          subst this
          exact ⟨by simpa using hrow, Mod.refl _ _⟩
        · simp only [decide_eq_false_iff_not] at q3
          have : X2 = [] := List.length_eq_zero_iff.1 (by omega)
          subst this
          exact ⟨by simpa using hrow, Mod.refl _ _⟩
      rintro _ H3 ⟨hrow3, hmod3⟩
      refine ⟨fun _ H' => RowAt H' (.slice (some Ad) n c) ty 4 (pts (A ++ isort (ltc cf) (X1 ++ Y1) ++ (X2 ++ Y2) ++ B)) ∧ Mod (.slice (some Ad) n c) H2 H', ?_, ?_⟩
      · refine br (fun q3 => br (fun q4 => ?_) fun q4 => ?_) fun q3 => ?_
        · simp only [decide_eq_true_eq] at q3 q4
          refine ih (X1.length + Y1.length) (by omega) (A := A) (X := X1) (Y := Y1) (B := X2 ++ Y2 ++ B) rfl ha (by omega) (by omega) (by omega) (by omega) pX.1 pY.1 (by simpa using hrow3) fun H4 hr hmd => ⟨rfl, by simpa using hr, hmod3.trans hmd⟩
        · simp only [decide_eq_false_iff_not] at q4
          have : Y1 = [] := List.length_eq_zero_iff.1 (by omega)
          subst this
          rw [List.append_nil, isort_id hs pX.1]
          exact ⟨by simpa using hrow3, hmod3⟩
        · simp only [decide_eq_false_iff_not] at q3
          have : X1 = [] := List.length_eq_zero_iff.1 (by omega)
          subst this
          rw [List.nil_append, isort_id hs pY.1]
          exact ⟨by simpa using hrow3, hmod3⟩
      rintro _ H4 ⟨hrow4, hmod4⟩
      have hl4 : (isort (ltc cf) (X1 ++ Y1)).length = X1.length + Y1.length := by rw [isort_len, List.length_append]
      refine br (fun q3 => br (fun q4 => ?_) fun q4 => ?_) fun q3 => ?_
      · simp only [decide_eq_true_eq] at q3 q4
        refine ih (X2.length + Y2.length) (by omega) (A := A ++ isort (ltc cf) (X1 ++ Y1)) (X := X2) (Y := Y2) (B := B) rfl (by rw [List.length_append, hl4]; omega) (by omega) (by omega) (by omega) (by omega) pX.2.1 pY.2.1 (by simpa using hrow4) fun H5 hr hmd => ⟨rfl, h _ (by simpa using hr) (hmod4.trans hmd)⟩
      · simp only [decide_eq_false_iff_not] at q4
        have : Y2 = [] := List.length_eq_zero_iff.1 (by omega)
        subst this
        rw [List.append_nil] at hrow4 h
        rw [isort_id hs pX.2.1] at h
        exact h _ (by simpa using hrow4) hmod4
      · simp only [decide_eq_false_iff_not] at q3
        have : X2 = [] := List.length_eq_zero_iff.1 (by omega)
        subst this
        rw [List.nil_append] at hrow4 h
        rw [isort_id hs pY.2.1] at h
        exact h _ (by simpa using hrow4) hmod4
theorem flat_len {α : Type} {k : Nat} : ∀ {Ls : List (List α)}, (∀ l ∈ Ls, l.length = k) → Ls.flatten.length = Ls.length * k
  | [], _ => by simp
  | l :: Ls, h => by
    rw [List.flatten_cons, List.length_append, flat_len (fun l hl => h l (List.mem_cons_of_mem _ hl)), h l (List.mem_cons_self ..), List.length_cons, Nat.add_mul, Nat.one_mul, Nat.add_comm]
/-- Sorted blocks of one length, and a shorter rest. -/
structure Blk (lt : Pt → Pt → Bool) (k : Nat) (Ls : List (List Pt)) : Prop where
  len : ∀ l ∈ Ls, l.length = k
  srt : ∀ l ∈ Ls, Srtd lt l
theorem Blk.nil (lt : Pt → Pt → Bool) (k : Nat) : Blk lt k [] := ⟨by simp, by simp⟩
theorem Blk.snoc {lt : Pt → Pt → Bool} {k : Nat} {Ls : List (List Pt)} (h : Blk lt k Ls) {l : List Pt} (h1 : l.length = k) (h2 : Srtd lt l) : Blk lt k (Ls ++ [l]) :=
  ⟨fun x hx => (List.mem_append.1 hx).elim (h.len x) fun hx => by simp at hx; subst hx; exact h1, fun x hx => (List.mem_append.1 hx).elim (h.srt x) fun hx => by simp at hx; subst hx; exact h2⟩
theorem Blk.tail {lt : Pt → Pt → Bool} {k : Nat} {l : List Pt} {Ls : List (List Pt)} (h : Blk lt k (l :: Ls)) : l.length = k ∧ Srtd lt l ∧ Blk lt k Ls :=
  ⟨h.len l (List.mem_cons_self ..), h.srt l (List.mem_cons_self ..), fun x hx => h.len x (List.mem_cons_of_mem _ hx), fun x hx => h.srt x (List.mem_cons_of_mem _ hx)⟩
theorem stab_mid {lt : Pt → Pt → Bool} (hs : SWO lt) {L A X B : List Pt} (h : Stab lt L (A ++ X ++ B)) : Stab lt L (A ++ isort lt X ++ B) :=
  h.trans (Stab.app (Stab.app (Stab.refl A) (isort_stab hs X)) (Stab.refl B))
theorem s_stb {g : Nat} {cf : Pt → Pt → Int} (hc : CmpOK g cf) (hs : SWO (ltc cf)) {Ad : Addr} {n c : Nat} (hn : n ≤ 1000000) {L : List Pt} {m : Int} (hm : (L.length : Int) = m) {R : Ending → Heap → Prop} {H : Heap}
    (hrow : RowAt H (.slice (some Ad) n c) ty 4 (pts L)) (h : ∀ H', RowAt H' (.slice (some Ad) n c) ty 4 (pts (isort (ltc cf) L)) → Mod (.slice (some Ad) n c) H H' → R (.returned (.tuple #[])) H') :
    Meets prog 49 [.slice (some Ad) n c, vi m, .func (.func g) #[] #[]] H R := by
  refine spec_of func49 (by kernel_rfl) (fun t h => by cases h) ?_ (vc_stb Ad n c g m R H) ?_
  · simp [argsR, SV.rep, SC.rep, one]
  unfold nf_stb
  simp only [true_and, delLs_nil, List.nil_append, List.append_nil]
  have hlen0 := (row_len hrow).1
  simp only [pts, List.length_map] at hlen0
  refine ⟨fun p H' => ∃ (Ls : List (List Pt)) (T : List Pt), p.1.1 = Ls.flatten.length ∧ p.1.2.1 = Ls.flatten.length + 20 ∧ Blk (ltc cf) 20 Ls ∧ Stab (ltc cf) L (Ls.flatten ++ T) ∧ RowAt H' (.slice (some Ad) n c) ty 4 (pts (Ls.flatten ++ T)) ∧ Mod (.slice (some Ad) n c) H H', fun p _ => (m + 40 - p.1.2.1).toNat, ⟨[], L, by simp, by simp, Blk.nil .., Stab.refl _, hrow, Mod.refl _ _⟩, ?_⟩
  rintro ⟨⟨i, j, _⟩, _⟩ H1 ⟨Ls, T, hi, hj, hB, hS, hrow1, hmod1⟩
  simp only at hi hj ⊢
  subst hi; subst hj
  have hl1 := hS.len hs
  rw [List.length_append] at hl1
  refine br (fun q => ?_) fun q => ?_
  · simp only [decide_eq_true_eq] at q
    have e : T.take 20 ++ T.drop 20 = T := List.take_append_drop ..
    have l1 : (T.take 20).length = 20 := by rw [List.length_take]; omega
    have e2 : Ls.flatten ++ T = Ls.flatten ++ T.take 20 ++ T.drop 20 := by rw [List.append_assoc, e]
    rw [e2] at hS hrow1
    refine s_ins hc hs (A := Ls.flatten) (X := T.take 20) (B := T.drop 20) rfl (by omega) hrow1 hn fun H2 hr hmd => ⟨rfl, ⟨Ls ++ [isort (ltc cf) (T.take 20)], T.drop 20, ?_, ?_, hB.snoc (by rw [isort_len, l1]) (isort_srtd hs _), ?_, ?_, hmod1.trans hmd⟩, ?_⟩
    · simp only [List.flatten_append, List.flatten_cons, List.flatten_nil, List.append_nil, List.length_append, isort_len, l1]; omega
    · simp only [List.flatten_append, List.flatten_cons, List.flatten_nil, List.append_nil, List.length_append, isort_len, l1]; rw [w64 (by omega)]; omega
    · have := stab_mid hs hS; simpa using this
    · simpa using hr
    · rw [w64 (by omega)]; omega
  · simp only [decide_eq_false_iff_not] at q
    have e2 : Ls.flatten ++ T = Ls.flatten ++ T ++ [] := by simp
    rw [e2] at hrow1
    refine s_ins hc hs (A := Ls.flatten) (X := T) (B := []) rfl (by omega) hrow1 hn fun H2 hr hmd => ⟨rfl, ?_⟩
    refine ⟨fun p H' => ∃ (k : Nat) (Ls : List (List Pt)) (T : List Pt), p.1.1 = k ∧ 20 ≤ k ∧ k ≤ 2000000 ∧ Blk (ltc cf) k Ls ∧ T.length < k ∧ Srtd (ltc cf) T ∧ Stab (ltc cf) L (Ls.flatten ++ T) ∧ RowAt H' (.slice (some Ad) n c) ty 4 (pts (Ls.flatten ++ T)) ∧ Mod (.slice (some Ad) n c) H H', fun p _ => (4000000 - p.1.1).toNat, ⟨20, Ls, isort (ltc cf) T, rfl, by omega, by omega, hB, by rw [isort_len]; omega, isort_srtd hs _, ?_, by simpa using hr, hmod1.trans hmd⟩, ?_⟩
    · have := stab_mid hs (A := Ls.flatten) (X := T) (B := []) (by simpa using hS); simpa using this
    clear hr hmd hmod1 hrow1 e2 q hl1 hS hB
    rintro ⟨⟨i, _⟩, _⟩ H3 ⟨k, Ls, T, hi, hk, hk2, hB, hT, sT, hS, hrow1, hmod1⟩
    simp only at hi ⊢
    subst hi
    have hl1 := hS.len hs
    rw [List.length_append] at hl1
    have hfl := flat_len hB.len
    refine br (fun q => ?_) fun q => ?_
    · simp only [decide_eq_true_eq] at q
      rw [w64 (k := 2 * (k : Int)) (by omega), w64 (k := (k : Int) * 2) (by omega)]
      refine ⟨fun p H' => ∃ (Ms Ls : List (List Pt)), p.1.1 = Ms.flatten.length ∧ p.1.2.1 = Ms.flatten.length + 2 * k ∧ Blk (ltc cf) (k * 2) Ms ∧ Blk (ltc cf) k Ls ∧ Stab (ltc cf) L (Ms.flatten ++ Ls.flatten ++ T) ∧ RowAt H' (.slice (some Ad) n c) ty 4 (pts (Ms.flatten ++ Ls.flatten ++ T)) ∧ Mod (.slice (some Ad) n c) H H', fun p _ => (m + 2 * k + 2 * k - p.1.2.1).toNat, ⟨[], Ls, by simp, by simp, Blk.nil .., hB, by simpa using hS, by simpa using hrow1, hmod1⟩, ?_⟩
      clear hB hS hrow1 hmod1 hl1 hfl
      rintro ⟨⟨i, j, _⟩, _⟩ H4 ⟨Ms, Ls, hi, hj, hM, hB, hS, hrow1, hmod1⟩
      simp only at hi hj ⊢
      subst hi; subst hj
      have hl1 := hS.len hs
      rw [List.length_append, List.length_append] at hl1
      have hfl := flat_len hB.len
      rw [w64 (k := (Ms.flatten.length : Int) + k) (by omega)]
      refine br (fun q1 => ?_) fun q1 => br (fun q2 => ?_) fun q2 => ?_
      · simp only [decide_eq_true_eq] at q1
        match Ls, hB, hS, hrow1, hl1, hfl with
        | [], _, _, _, hl1, _ => rw [List.flatten_nil, List.length_nil] at hl1; omega
        | [X], _, _, _, hl1, hfl => rw [hfl] at hl1; simp only [List.length_singleton] at hl1; omega
        | X :: Y :: Ls, hB, hS, hrow1, hl1, hfl =>
          obtain ⟨lX, sX, hB⟩ := hB.tail
          obtain ⟨lY, sY, hB⟩ := hB.tail
          have e : Ms.flatten ++ (X :: Y :: Ls).flatten ++ T = Ms.flatten ++ (X ++ Y) ++ (Ls.flatten ++ T) := by simp
          rw [e] at hS hrow1
          refine s_sym hc hs hn _ (A := Ms.flatten) (X := X) (Y := Y) (B := Ls.flatten ++ T) rfl rfl (by omega) (by omega) (by omega) (by omega) sX sY (by simpa using hrow1) fun H5 hr hmd => ⟨rfl, ⟨Ms ++ [isort (ltc cf) (X ++ Y)], Ls, ?_, ?_, hM.snoc (by rw [isort_len, List.length_append]; omega) (isort_srtd hs _), hB, ?_, ?_, hmod1.trans hmd⟩, ?_⟩
          · simp only [List.flatten_append, List.flatten_cons, List.flatten_nil, List.append_nil, List.length_append, isort_len, lX, lY]; omega
          · simp only [List.flatten_append, List.flatten_cons, List.flatten_nil, List.append_nil, List.length_append, isort_len, lX, lY]; rw [w64 (by omega)]; omega
          · have := stab_mid hs hS; simpa using this
          · simpa using hr
          · rw [w64 (by omega)]; omega
      · simp only [decide_eq_false_iff_not, decide_eq_true_eq] at q1 q2
        match Ls, hB, hS, hrow1, hl1, hfl with
        | [], _, _, _, hl1, _ => rw [List.flatten_nil, List.length_nil] at hl1; omega
        | X :: Y :: Ls, _, _, _, hl1, hfl =>
          rw [hfl, List.length_cons, List.length_cons, Nat.add_mul, Nat.add_mul] at hl1; omega
        | [X], hB, hS, hrow1, hl1, hfl =>
          obtain ⟨lX, sX, hB⟩ := hB.tail
          have e : Ms.flatten ++ [X].flatten ++ T = Ms.flatten ++ (X ++ T) ++ [] := by simp
          rw [e] at hS hrow1
          rw [hfl] at hl1
          simp only [List.length_singleton] at hl1
          refine s_sym hc hs hn _ (A := Ms.flatten) (X := X) (Y := T) (B := []) rfl rfl (by omega) (by omega) (by omega) (by omega) sX sT (by simpa using hrow1) fun H5 hr hmd => ⟨rfl, ⟨k * 2, Ms, isort (ltc cf) (X ++ T), by omega, by omega, by omega, hM, by rw [isort_len, List.length_append]; omega, isort_srtd hs _, ?_, by simpa using hr, hmod1.trans hmd⟩, by omega⟩
          have := stab_mid hs hS; simpa using this
      · simp only [decide_eq_false_iff_not] at q1 q2
        match Ls, hB, hS, hrow1, hl1, hfl with
        | [], hB, hS, hrow1, _, _ =>
          exact ⟨⟨k * 2, Ms, T, by omega, by omega, by omega, hM, by omega, sT, by simpa using hS, by simpa using hrow1, hmod1⟩, by omega⟩
        | X :: Y :: Ls, _, _, _, hl1, hfl =>
          rw [hfl, List.length_cons, List.length_cons, Nat.add_mul, Nat.add_mul] at hl1; omega
        | [X], hB, hS, hrow1, hl1, hfl =>
          obtain ⟨lX, sX, hB⟩ := hB.tail
          rw [hfl] at hl1
          simp only [List.length_singleton] at hl1
          have : T = [] := List.length_eq_zero_iff.1 (by omega)
          subst this
          exact ⟨⟨k * 2, Ms, X, by omega, by omega, by omega, hM, by omega, sX, by simpa using hS, by simpa using hrow1, hmod1⟩, by omega⟩
    · simp only [decide_eq_false_iff_not] at q
      have hfin : Ls.flatten ++ T = isort (ltc cf) L := by
        refine isort_eq hs ?_ hS
        match Ls, hB, hl1, hfl with
        | [], _, _, _ => simpa using sT
        | X :: Y :: Ls, _, hl1, hfl => rw [hfl, List.length_cons, List.length_cons, Nat.add_mul, Nat.add_mul] at hl1; omega
        | [X], hB, hl1, hfl =>
          obtain ⟨lX, sX, hB⟩ := hB.tail
          rw [hfl] at hl1
          simp only [List.length_singleton] at hl1
          have : T = [] := List.length_eq_zero_iff.1 (by omega)
          subst this
          simpa using sX
      rw [hfin] at hrow1
      exact h _ hrow1 hmod1
end
end Cr

set_option linter.unusedVariables false
set_option linter.unusedSimpArgs false
namespace Cr
open Go Sx
open Go.Proofs.Try
set_option maxRecDepth 100000
def h_or : Hints := { loops := [(3, ⟨[0, 3, 6, 7], [.f 8 (.int .i64)], []⟩)] }
def nf_nani (x : Int) (R : Ending → Heap → Prop) (H : Heap) : Prop := R (Ending.returned (Value.bool (x != x))) H
theorem vc_nani (x : Int) (R : Ending → Heap → Prop) (H : Heap) : vcFun prog { } f50 [SV.c (SC.v (Value.int IntKind.i64 x))] R H = nf_nani x R H := by kernel_rfl

def nf_cmpi (x : Int) (y : Int) (R : Ending → Heap → Prop) (H : Heap) : Prop := Meets prog (50 : Nat) [Value.int IntKind.i64 x] H fun (e : Ending) (H' : Nat → Option Obj) ↦ ∃ (b : Bool), e = Ending.returned (Value.bool b) ∧ Meets prog (50 : Nat) [Value.int IntKind.i64 y] H' fun (e : Ending) (H' : Nat → Option Obj) ↦ ∃ (b_1 : Bool), e = Ending.returned (Value.bool b_1) ∧ Br b (Br b_1 (R (Ending.returned (Value.int IntKind.i64 (0 : Int))) H') (R (Ending.returned (Value.int IntKind.i64 (-1 : Int))) H')) (Br b_1 (R (Ending.returned (Value.int IntKind.i64 (1 : Int))) H') (Br (decide (x < y)) (R (Ending.returned (Value.int IntKind.i64 (-1 : Int))) H') (Br (decide (x > y)) (R (Ending.returned (Value.int IntKind.i64 (1 : Int))) H') (R (Ending.returned (Value.int IntKind.i64 (0 : Int))) H'))))
theorem vc_cmpi (x : Int) (y : Int) (R : Ending → Heap → Prop) (H : Heap) : vcFun prog { } f37 [SV.c (SC.v (Value.int IntKind.i64 x)), SV.c (SC.v (Value.int IntKind.i64 y))] R H = nf_cmpi x y R H := by kernel_rfl

def nf_cor (a : Option Addr) (n : Nat) (c : Nat) (R : Ending → Heap → Prop) (H : Heap) : Prop := a = a ∧ n = n ∧ c = c ∧ (0 : Int) = (0 : Int) ∧ a = a ∧ n = n ∧ c = c ∧ (↑n : Int) = (↑n : Int) ∧ LoopP (fun (K : (Int × PUnit) × PUnit → (Nat → Option Obj) → Prop) (p : (Int × PUnit) × PUnit) (H : Nat → Option Obj) ↦ Br (decide (p.fst.fst < (↑n : Int))) (((0 : Int) ≤ p.fst.fst ∧ p.fst.fst < (↑n : Int)) ∧ PtrK a fun (A : Addr) ↦ PtrK (some (Addr.add A (Int.toNat p.fst.fst * (1 : Nat)))) fun (a_1 : Addr) ↦ ∃ (n_1 : Int), Heap.has H a_1 [Value.int IntKind.i64 n_1] ∧ Br (n_1 != (0 : Int)) (R (Ending.returned (Value.int IntKind.i64 n_1)) H) (a = a ∧ n = n ∧ c = c ∧ (0 : Int) = (0 : Int) ∧ a = a ∧ n = n ∧ c = c ∧ (↑n : Int) = (↑n : Int) ∧ K ((IntKind.wrap IntKind.i64 (p.fst.fst + (1 : Int)), PUnit.unit), PUnit.unit) H)) (R (Ending.returned (Value.int IntKind.i64 (0 : Int))) H)) (((0 : Int), PUnit.unit), PUnit.unit) H
theorem vc_cor (a : Option Addr) (n : Nat) (c : Nat) (R : Ending → Heap → Prop) (H : Heap) : vcFun prog h_or f47 [SV.c (SC.v (Value.slice a n c))] R H = nf_cor a n c R H := by kernel_rfl

end Cr

set_option linter.unusedVariables false
set_option linter.unusedSimpArgs false
namespace Cr
open Go Sx
open Go.Proofs.Try
set_option maxRecDepth 100000
theorem heap_trans {A B D : Heap} (h : A ≤ B) (h' : B ≤ D) : A ≤ D := fun b o e => h' b o (h b o e)
/-- What was lent is taken off again. -/
theorem lend_off {H H' : Heap} {v : Value} (hle : H ≤ H') (hf : ∀ b, blockOf v = some b → H b = none) (hb : ∀ b o, H' b = some o → H b = some o ∨ blockOf v = some b) : H'.delO (blockOf v) = H := by
  funext b
  cases e : blockOf v with
  | none =>
    show H' b = H b
    cases q : H' b with
    | none => cases q2 : H b with
      | none => rfl
      | some o => rw [hle _ _ q2] at q; cases q
    | some o =>
      rcases hb b o q with h | h
      · exact h.symm
      · rw [e] at h; cases h
  | some k =>
    show (if b = k then none else H' b) = H b
    by_cases hbk : b = k
    · subst hbk; rw [if_pos rfl, hf b e]
    · rw [if_neg hbk]
      cases q : H' b with
      | none => cases q2 : H b with
        | none => rfl
        | some o => rw [hle _ _ q2] at q; cases q
      | some o =>
        rcases hb b o q with h | h
        · exact h.symm
        · rw [e] at h; cases h; exact (hbk rfl).elim
theorem rowat_known {H : Heap} {v : Value} {ty sz : Nat} {es : List (List Value)} (h : RowAt H v ty sz es) {b : Nat} (hb : blockOf v = some b) : H b ≠ none := by
  rcases h with ⟨rfl, _⟩ | ⟨b', o, cap, c, rfl, h1, _⟩
  · cases hb
  · simp only [blockOf, Option.some.injEq] at hb
    subst hb
    rw [h1]; simp
theorem row_delO {H : Heap} {v : Value} {ty sz : Nat} {es : List (List Value)} {o : Option Nat} (h : RowAt H v ty sz es) (hn : ∀ b, blockOf v = some b → o ≠ some b) : RowAt (H.delO o) v ty sz es := by
  rcases h with h | ⟨b, off, cap, c, rfl, h1, h2⟩
  · exact .inl h
  · refine .inr ⟨b, off, cap, c, rfl, ?_, h2⟩
    cases o with
    | none => exact h1
    | some k => show (if b = k then none else H b) = _; rw [if_neg (fun e => hn b rfl (by rw [e]))]; exact h1
theorem wi64 {k : Int} (h : -9223372036854775808 ≤ k ∧ k ≤ 9223372036854775807) : IntKind.i64.wrap k = k := IntWalk.i64_in _ (by omega)
/-- -1, 0, 1. -/
def sgn3 (x y : Int) : Int := if x < y then -1 else if x > y then 1 else 0
/-- The first that is not 0. -/
def orL : List Int → Int
  | [] => 0
  | x :: r => if x ≠ 0 then x else orL r
section
variable {H : Heap} {R : Ending → Heap → Prop}
theorem s_nani {x : Int} (k : R (.returned (.bool false)) H) : Meets prog 50 [.int .i64 x] H R := by
  refine spec_of func50 (by kernel_rfl) (fun t h => by cases h) ?_ (vc_nani x R H) ?_
  · simp [argsR, SV.rep, SC.rep, one]
  unfold nf_nani
  rw [bne_self_eq_false]
  exact k
theorem sgn3_br {x y : Int} {Q : Int → Prop} (k : Q (sgn3 x y)) : Br (decide (x < y)) (Q (-1)) (Br (decide (x > y)) (Q 1) (Q 0)) := by
  unfold sgn3 at k
  refine br (fun q => ?_) fun q => br (fun q2 => ?_) fun q2 => ?_
  · rw [if_pos (by simpa using q)] at k; exact k
  · rw [if_neg (by simpa using q), if_pos (by simpa using q2)] at k; exact k
  · rw [if_neg (by simpa using q), if_neg (by simpa using q2)] at k; exact k
theorem s_cmpi {x y : Int} (k : R (.returned (vi (sgn3 x y))) H) : Meets prog 37 [vi x, vi y] H R := by
  refine spec_of func37 (by kernel_rfl) (fun t h => by cases h) ?_ (vc_cmpi x y R H) ?_
  · simp [argsR, SV.rep, SC.rep, one]
  unfold nf_cmpi
  refine s_nani ⟨false, rfl, s_nani ⟨false, rfl, br (fun q => by cases q) fun _ => br (fun q => by cases q) fun _ => ?_⟩⟩
  exact sgn3_br (Q := fun n => R (.returned (vi n)) H) k
@[reducible] def cells (l : List Int) : List (List Value) := l.map fun x => [vi x]
theorem ir_get {H : Heap} {a : Option Addr} {n cp : Nat} {l : List Int} (h : SliceAt H (.slice a n cp) 1 (cells l)) {i : Nat} {x : Int} (hx : l[i]? = some x) : ∃ A, a = some A ∧ H.has (A.add (i * 1)) [vi x] := by
  obtain ⟨A, e, _, g⟩ := slice_get h (i := i) (e := [vi x]) (by simp [cells, hx])
  exact ⟨A, e, g⟩
theorem s_cor {v : Value} {l : List Int} (h : SliceAt H v 1 (cells l)) (hl : l.length ≤ 10000000000000) (k : R (.returned (vi (orL l))) H) : Meets prog 47 [v] H R := by
  obtain ⟨a, n, c, e, hn⟩ := h
  subst e
  have h : SliceAt H (.slice a n c) 1 (cells l) := ⟨a, n, c, rfl, hn⟩
  have hln : l.length = n := by simpa [cells] using hn.1
  refine spec_of func47 (by kernel_rfl) (fun t h => by cases h) ?_ (vc_cor a n c R H) ?_
  · simp [argsR, SV.rep, SC.rep, one]
  unfold nf_cor
  simp only [true_and]
  refine ⟨fun p H' => ∃ t : Nat, p.1.1 = (t : Int) ∧ t ≤ n ∧ orL l = orL (l.drop t) ∧ H' = H, fun p _ => (n - p.1.1).toNat, ⟨0, rfl, by omega, by simp, rfl⟩, ?_⟩
  rintro ⟨⟨i, _⟩, _⟩ H1 ⟨t, hi, ht, f, rfl⟩
  simp only at hi ⊢
  subst hi
  refine br (fun q1 => ?_) fun q1 => ?_
  · simp only [decide_eq_true_eq] at q1
    obtain ⟨y, hd, htk, hx⟩ := drop_cons (l := l) (k := t) (by omega)
    obtain ⟨A, e, g1⟩ := ir_get h (i := t) hx
    subst e
    refine ⟨⟨by omega, by omega⟩, ptr rfl (ptr rfl ⟨_, g1, br (fun q2 => ?_) fun q2 => ?_⟩)⟩
    · rw [f, hd, orL, if_pos (by simpa using q2)] at k
      exact k
    · rw [wi64 (by omega)]
      refine ⟨⟨t + 1, by omega, by omega, ?_, by trivial⟩, by omega⟩
      rw [f, hd, orL, if_neg (by simpa using q2)]
  · simp only [decide_eq_false_iff_not] at q1
    rw [f, List.drop_of_length_le (by omega)] at k
    exact k
abbrev U32 (x : Int) : Prop := 0 ≤ x ∧ x ≤ 4294967295
end
end Cr

set_option linter.unusedVariables false
set_option linter.unusedSimpArgs false
namespace Sx
open Go Go.Proofs Go.Shelf Go.RowKit Go.Lib Go.Sort
/-- A row's block holds other cells: what is known then. -/
theorem put_row {β : Type} [Inhabited β] {H : Heap} {w : World} {b o cap ty sz : Nat} {c : Array Value} {es es' : List (List Value)} (hs : H.sub w)
    (hb : H b = some (.cells c ty (0, 0))) (hcap : es.length ≤ cap) (hsz : o + cap * sz ≤ c.size)
    (e : β → Value) (d : Array β) (rest : List Value) (hd : d.toList.map e = es'.flatten ++ rest) (hlen : es'.length ≤ es.length) (hds : d.size = es.length * sz)
    (h1 : ∀ x ∈ es', x.length = sz) (h2 : ∀ x ∈ es', ∀ y ∈ x, one y = true) (m : Nat) (os : Array Obj) :
    ∃ H', Step H w H' (grow (putRow e (Sort.ahead w m) b o d) os) ∧ RowAt H' (.slice (some ⟨b, o, none⟩) es'.length cap) ty sz es' ∧ Mod (.slice (some ⟨b, o, none⟩) es'.length cap) H H' := by
  have hwb := hs b _ hb
  have hlt : b < w.heap.size := (Array.getElem?_eq_some_iff.1 hwb).1
  have hm2 : es.length * sz ≤ cap * sz := Nat.mul_le_mul_right _ hcap
  have hc' : (putCells e o d c).size = c.size := by simp [putCells]
  have hheap : (grow (putRow e (Sort.ahead w m) b o d) os).heap = (w.heap.modify b (onCells (putCells e o d))) ++ os := rfl
  have hat : ∀ b', b' < w.heap.size → (grow (putRow e (Sort.ahead w m) b o d) os).heap[b']? = if b = b' then some (.cells (putCells e o d c) ty (0, 0)) else w.heap[b']? := by
    intro b' hb'
    rw [hheap, Array.getElem?_append_left (by simpa using hb'), Array.getElem?_modify]
    by_cases q : b = b'
    · subst q
      rw [if_pos rfl, if_pos rfl, hwb]
      rfl
    · rw [if_neg q, if_neg q]
  refine ⟨H.upd b (.cells (putCells e o d c) ty (0, 0)), ⟨?_, rfl, ⟨rfl, Nat.le_add_right _ _⟩, rfl, ?_, ?_, ?_⟩, .inr ⟨b, o, cap, putCells e o d c, rfl, upd_same _ _ _, by omega, by rw [hc']; exact hsz, h1, ?_, h2⟩, ?_⟩
  · intro b' ob hb'
    by_cases q : b' = b
    · subst q
      rw [upd_same] at hb'
      rw [hat _ hlt, if_pos rfl]
      exact hb'
    · rw [upd_ne _ _ q] at hb'
      have := hs b' ob hb'
      rw [hat b' (Array.getElem?_eq_some_iff.1 this).1, if_neg (Ne.symm q)]
      exact this
  · rw [hheap]; simp
  · intro b' hb' e'
    rw [hat b' hb', if_neg (by rintro rfl; rw [hb] at e'; cases e')]
  · intro b' hb' e'
    rw [upd_ne _ _ (by rintro rfl; rw [hb] at e'; cases e')]
    exact e'
  · have hfl : es'.flatten.length = es'.length * sz := by
      have : ∀ (l : List (List Value)), (∀ x ∈ l, x.length = sz) → l.flatten.length = l.length * sz := by
        intro l
        induction l with
        | nil => intro _; simp
        | cons x r ih =>
          intro h
          rw [List.flatten_cons, List.length_append, ih fun y hy => h y (List.mem_cons_of_mem _ hy), h x List.mem_cons_self, List.length_cons, Nat.add_mul, Nat.one_mul, Nat.add_comm]
      exact this es' h1
    have hml : es'.length * sz ≤ es.length * sz := Nat.mul_le_mul_right _ hlen
    refine List.ext_getElem? fun j => ?_
    by_cases hj : j < es'.length * sz
    · rw [List.getElem?_take_of_lt hj, List.getElem?_drop, Array.getElem?_toList]
      have hjc : o + j < c.size := by omega
      have e1 : (putCells e o d c)[o + j]? = some (e d[j]!) := by
        unfold putCells
        rw [Array.getElem?_mapIdx, Array.getElem?_eq_getElem hjc]
        simp only [Option.map_some]
        rw [if_pos ⟨by omega, by omega⟩]
        congr 3
        omega
      rw [e1]
      have hjd : j < d.size := by omega
      have e2 : (d.toList.map e)[j]? = some (e d[j]!) := by
        rw [List.getElem?_map, Array.getElem?_toList, Array.getElem?_eq_getElem hjd, getElem!_pos d j hjd]
        rfl
      rw [hd, List.getElem?_append_left (by omega)] at e2
      exact e2.symm
    · rw [List.getElem?_eq_none (by rw [List.length_take]; omega), List.getElem?_eq_none (by omega)]
  · intro b' hb'
    simp [blockOf] at hb'
    exact upd_ne _ _ (fun e => hb' e.symm)
section
variable {P : Program} {ρ : Ren} {α : Type} [Inhabited α]
theorem grow_of {w w' : World} (st : Step (full w) w (full w) w') : ∃ q os, w' = grow (w.drewN q) os := by
  refine ⟨w'.drawn - w.drawn, w'.heap.extract w.heap.size w'.heap.size, ?_⟩
  have e1 : w'.heap = w.heap ++ w'.heap.extract w.heap.size w'.heap.size := by
    apply Array.ext_getElem?
    intro i
    by_cases hi : i < w.heap.size
    · rw [Array.getElem?_append_left hi]
      have : full w i = some w.heap[i] := Array.getElem?_eq_getElem hi
      rw [st.sub i _ this, Array.getElem?_eq_getElem hi]
    · rw [Array.getElem?_append_right (by omega), Array.getElem?_extract]
      have := st.size
      split
      · congr 1; omega
      · rw [Array.getElem?_eq_none (by omega)]
  have e2 := st.tape.dr
  cases w; cases w'
  have h1 := st.os; have h2 := st.tape.eq; have h3 := st.output
  simp only at h1 h2 h3 e1 e2
  subst h1 h2 h3
  simp only [grow, World.drewN]
  congr 1
  omega
theorem flatK_list {enc : α → List Value} {k : Nat} (hk : ∀ x, (enc x).length = k) (d : Array α) : (flatK enc k d).toList.map id = (d.toList.map enc).flatten ++ [] := by
  rw [List.map_id, List.append_nil]
  have hfl : ∀ l : List α, (l.map enc).flatten.length = l.length * k := by
    intro l
    induction l with
    | nil => simp
    | cons x r ih => rw [List.map_cons, List.flatten_cons, List.length_append, ih, hk, List.length_cons, Nat.add_mul, Nat.one_mul, Nat.add_comm]
  refine List.ext_getElem? fun j => ?_
  by_cases hj : j < d.size * k
  · have hk0 : 0 < k := by cases k with | zero => simp at hj | succ n => omega
    have e0 := get_flatK enc k d j hj
    have hs : j < (flatK enc k d).size := by simpa using hj
    rw [Array.getElem?_toList, Array.getElem?_eq_getElem hs, ← getElem!_pos _ j hs, e0]
    have hq : j / k < d.size := (Nat.div_lt_iff_lt_mul hk0).2 hj
    have hes : ∀ e ∈ d.toList.map enc, e.length = k := by intro e he; simp at he; obtain ⟨x, _, rfl⟩ := he; exact hk x
    have he : (d.toList.map enc)[j / k]? = some (enc d[j / k]!) := by
      rw [List.getElem?_map, Array.getElem?_toList, Array.getElem?_eq_getElem hq, getElem!_pos d _ hq]; rfl
    have := flatten_get hes he (q := j % k) (Nat.mod_lt _ hk0)
    rw [Nat.div_add_mod' j k] at this
    rw [this, List.getElem!_eq_getElem?_getD, List.getElem?_eq_getElem (by rw [hk]; exact Nat.mod_lt _ hk0)]
    rfl
  · rw [List.getElem?_eq_none (by simpa using hj), List.getElem?_eq_none (by rw [hfl]; simpa using hj)]
theorem holds_row {H : Heap} {w : World} {b o cap ty sz : Nat} {c : Array Value} {es : List (List Value)} {β : Type} [Inhabited β] (hs : H.sub w)
    (hb : H b = some (.cells c ty (0, 0))) (hcap : es.length ≤ cap) (hsz : o + cap * sz ≤ c.size) (hes : ∀ x ∈ es, x.length = sz) (hfl : (c.toList.drop o).take (es.length * sz) = es.flatten)
    (e : β → Value) (d : Array β) (hd : d.toList.map e = es.flatten) (hds : d.size = es.length * sz) : Holds e w b o d := by
  intro j hj
  have hwb := hs b _ hb
  have hm2 : es.length * sz ≤ cap * sz := Nat.mul_le_mul_right _ hcap
  refine ⟨?_, ?_⟩
  · unfold World.cell?
    rw [show (⟨b, o + j, none⟩ : Addr).block = b from rfl, hwb]
    show (if (none : Option _).isSome then none else c[o + j]?) = _
    rw [if_neg (by simp)]
    have e1 : (es.flatten)[j]? = c[o + j]? := by
      rw [← hfl, List.getElem?_take_of_lt (by omega), List.getElem?_drop, Array.getElem?_toList]
    rw [← e1, ← hd, List.getElem?_map, Array.getElem?_toList, Array.getElem?_eq_getElem hj, getElem!_pos d j hj]
    rfl
  · unfold World.frozen?
    rw [show (⟨b, o + j, none⟩ : Addr).block = b from rfl, hwb]
    show (decide (0 ≤ o + j) && decide (o + j < 0)) = false
    simp
theorem callable_enters {g : Nat} (h : callable P g = true) : ∀ args w, (callFunc g args).run P w = .ok (.enter g args) w := fun args w => callable_run h args
end
end Sx

set_option linter.unusedVariables false
set_option linter.unusedSimpArgs false
set_option maxRecDepth 100000
namespace Go.Proofs
def sortPt_ren : Go.Shelf.Ren := ⟨fun | 6 => 33 | 15 => 45 | 14 => 44 | 28 => 64 | 29 => 65 | 20 => 56 | 21 => 57 | 22 => 58 | 23 => 59 | 24 => 60 | 25 => 61 | 26 => 62 | 27 => 63 | 46 => 74 | 47 => 75 | 48 => 76 | 49 => 77 | 50 => 78 | 57 => 84 | n => n, fun | 22 => 22 | 24 => 44 | 25 => 71 | 3 => 3 | 39 => 83 | 0 => 0 | 53 => 34 | 55 => 62 | 4 => 4 | 46 => 96 | 45 => 95 | 50 => 89 | 5 => 5 | 9 => 9 | 66 => 110 | 70 => 114 | 76 => 120 | 77 => 121 | n => n, fun | n => n⟩
theorem sortPt : Go.Proofs.SlLaysF0.n6 Try.prog sortPt_ren := {
  mixed := by kernel_rfl,
  f6 := ⟨Try.f33.name, by decide, Try.func33.trans (congrArg some (by kernel_rfl))⟩,
  f14 := ⟨Try.f44.name, by decide, Try.func44.trans (congrArg some (by kernel_rfl))⟩,
  f15 := Try.func45.trans (congrArg some (by kernel_rfl)),
  f20 := ⟨Try.f56.name, by decide, Try.func56.trans (congrArg some (by kernel_rfl))⟩,
  f21 := ⟨Try.f57.name, by decide, Try.func57.trans (congrArg some (by kernel_rfl))⟩,
  f22 := ⟨Try.f58.name, by decide, Try.func58.trans (congrArg some (by kernel_rfl))⟩,
  f23 := ⟨Try.f59.name, by decide, Try.func59.trans (congrArg some (by kernel_rfl))⟩,
  f24 := ⟨Try.f60.name, by decide, Try.func60.trans (congrArg some (by kernel_rfl))⟩,
  f25 := ⟨Try.f61.name, by decide, Try.func61.trans (congrArg some (by kernel_rfl))⟩,
  f26 := ⟨Try.f62.name, by decide, Try.func62.trans (congrArg some (by kernel_rfl))⟩,
  f27 := ⟨Try.f63.name, by decide, Try.func63.trans (congrArg some (by kernel_rfl))⟩,
  f28 := Try.func64.trans (congrArg some (by kernel_rfl)),
  f29 := Try.func65.trans (congrArg some (by kernel_rfl)),
  f46 := ⟨Try.f74.name, by decide, Try.func74.trans (congrArg some (by kernel_rfl))⟩,
  f47 := Try.func75.trans (congrArg some (by kernel_rfl)),
  f48 := Try.func76.trans (congrArg some (by kernel_rfl)),
  f49 := ⟨Try.f77.name, by decide, Try.func77.trans (congrArg some (by kernel_rfl))⟩,
  f50 := ⟨Try.f78.name, by decide, Try.func78.trans (congrArg some (by kernel_rfl))⟩,
  f57 := ⟨Try.f84.name, by decide, Try.func84.trans (congrArg some (by kernel_rfl))⟩,
  t0 := Try.underlying0,
  a0 := Try.isAgg0,
  z0 := Try.sizeOf0,
  v0 := Try.zeroValue0,
  t3 := Try.underlying3,
  a3 := Try.isAgg3,
  z3 := Try.sizeOf3,
  v3 := Try.zeroValue3,
  t4 := Try.underlying4,
  a4 := Try.isAgg4,
  z4 := Try.sizeOf4,
  v4 := Try.zeroValue4,
  t5 := Try.underlying5,
  a5 := Try.isAgg5,
  z5 := Try.sizeOf5,
  v5 := Try.zeroValue5,
  t9 := Try.underlying9,
  a9 := Try.isAgg9,
  z9 := Try.sizeOf9,
  v9 := Try.zeroValue9,
  t22 := Try.underlying22,
  a22 := Try.isAgg22,
  z22 := Try.sizeOf22,
  v22 := Try.zeroValue22,
  t25 := Try.underlying71,
  a25 := Try.isAgg71,
  z25 := Try.sizeOf71,
  v25 := Try.zeroValue71,
  t39 := Try.underlying83,
  a39 := Try.isAgg83,
  z39 := Try.sizeOf83,
  v39 := Try.zeroValue83,
  t45 := Try.underlying95,
  a45 := Try.isAgg95,
  z45 := Try.sizeOf95,
  v45 := Try.zeroValue95,
  t46 := Try.underlying96,
  a46 := Try.isAgg96,
  z46 := Try.sizeOf96,
  v46 := Try.zeroValue96,
  t50 := Try.underlying89,
  a50 := Try.isAgg89,
  z50 := Try.sizeOf89,
  v50 := Try.zeroValue89,
  t53 := Try.underlying34,
  a53 := Try.isAgg34,
  z53 := Try.sizeOf34,
  v53 := Try.zeroValue34,
  t55 := Try.underlying62,
  a55 := Try.isAgg62,
  z55 := Try.sizeOf62,
  v55 := Try.zeroValue62,
  t66 := Try.underlying110,
  a66 := Try.isAgg110,
  z66 := Try.sizeOf110,
  v66 := Try.zeroValue110,
  t70 := Try.underlying114,
  a70 := Try.isAgg114,
  z70 := Try.sizeOf114,
  v70 := Try.zeroValue114,
  t76 := Try.underlying120,
  a76 := Try.isAgg120,
  z76 := Try.sizeOf120,
  v76 := Try.zeroValue120,
  t77 := Try.underlying121,
  a77 := Try.isAgg121,
  z77 := Try.sizeOf121,
  v77 := Try.zeroValue121 }

-- not laid sortInt
-- not laid compInt
end Go.Proofs

set_option linter.unusedVariables false
set_option linter.unusedSimpArgs false
namespace Cr
open Go Sx Stb
open Go.Sort (SWO)
open Go.Proofs.Try
set_option maxRecDepth 100000
abbrev ptA (i x y : Int) (d : ByteArray) : SV := .agg [.c (.v (.int .i64 i)), .c (.v (.int .u32 x)), .c (.v (.int .u32 y)), .c (.v (.string d))]
def h_ints : Hints := { loops := [(4, ⟨[0, 1, 4], [.f 5 (.int .i64)], []⟩)] }
def nf_clone (a : Option Addr) (n : Nat) (c : Nat) (R : Ending → Heap → Prop) (H : Heap) : Prop := Br (Option.isNone a) (R (Ending.returned (Value.slice none (0 : Nat) (0 : Nat))) H) (∃ (es2 : List (List Value)), SliceAt H (Value.slice a n c) (4 : Nat) es2 ∧ List.length es2 * (32 : Nat) ≤ (140737488355328 : Nat) ∧ ∀ (v : Value) (H' : Nat → Option Obj), H ≤ H' → (∀ (b : Nat), blockOf v = some b → H b = none) → (∀ (b : Nat) (o : Obj), H' b = some o → H b = some o ∨ blockOf v = some b) → RowAt H' v (44 : Nat) (4 : Nat) es2 → R (Ending.returned v) H')
theorem vc_clone (a : Option Addr) (n : Nat) (c : Nat) (R : Ending → Heap → Prop) (H : Heap) : vcFun prog { } f32 [SV.c (SC.v (Value.slice a n c))] R H = nf_clone a n c R H := by kernel_rfl

def nf_cmpc (x : Int) (y : Int) (R : Ending → Heap → Prop) (H : Heap) : Prop := Meets prog (50 : Nat) [Value.int IntKind.i64 x] H fun (e : Ending) (H' : Nat → Option Obj) ↦ ∃ (b : Bool), e = Ending.returned (Value.bool b) ∧ Meets prog (50 : Nat) [Value.int IntKind.i64 y] H' fun (e : Ending) (H' : Nat → Option Obj) ↦ ∃ (b_1 : Bool), e = Ending.returned (Value.bool b_1) ∧ Br b (Br b_1 (R (Ending.returned (Value.int IntKind.i64 (0 : Int))) H') (R (Ending.returned (Value.int IntKind.i64 (-1 : Int))) H')) (Br b_1 (R (Ending.returned (Value.int IntKind.i64 (1 : Int))) H') (Br (decide (x < y)) (R (Ending.returned (Value.int IntKind.i64 (-1 : Int))) H') (Br (decide (x > y)) (R (Ending.returned (Value.int IntKind.i64 (1 : Int))) H') (R (Ending.returned (Value.int IntKind.i64 (0 : Int))) H'))))
theorem vc_cmpc (x : Int) (y : Int) (R : Ending → Heap → Prop) (H : Heap) : vcFun prog { } f37 [SV.c (SC.v (Value.int IntKind.i64 x)), SV.c (SC.v (Value.int IntKind.i64 y))] R H = nf_cmpc x y R H := by kernel_rfl

def nf_isnan (x : Int) (R : Ending → Heap → Prop) (H : Heap) : Prop := R (Ending.returned (Value.bool (x != x))) H
theorem vc_isnan (x : Int) (R : Ending → Heap → Prop) (H : Heap) : vcFun prog { } f50 [SV.c (SC.v (Value.int IntKind.i64 x))] R H = nf_isnan x R H := by kernel_rfl

def nf_srt1 (i : Int) (x : Int) (y : Int) (d : ByteArray) (i' : Int) (x' : Int) (y' : Int) (d' : ByteArray) (R : Ending → Heap → Prop) (H : Heap) : Prop := Meets prog (37 : Nat) [Value.int IntKind.i64 i, Value.int IntKind.i64 i'] H fun (e : Ending) (H' : Nat → Option Obj) ↦ ∃ (n : Int), e = Ending.returned (Value.int IntKind.i64 n) ∧ R (Ending.returned (Value.int IntKind.i64 n)) H'
theorem vc_srt1 (i : Int) (x : Int) (y : Int) (d : ByteArray) (i' : Int) (x' : Int) (y' : Int) (d' : ByteArray) (R : Ending → Heap → Prop) (H : Heap) : vcFun prog { } f36 [ptA i x y d, ptA i' x' y' d'] R H = nf_srt1 i x y d i' x' y' d' R H := by kernel_rfl

def nf_sst (a : Option Addr) (n : Nat) (c : Nat) (g : Nat) (R : Ending → Heap → Prop) (H : Heap) : Prop := Meets prog (49 : Nat) [Value.slice a n c, Value.int IntKind.i64 (↑n : Int), Value.func (Fn.func g) { toList := [] } { toList := [] }] H fun (e : Ending) (H' : Nat → Option Obj) ↦ e = Ending.returned (Value.tuple { toList := [] }) ∧ R (Ending.returned (Value.tuple { toList := [] })) H'
theorem vc_sst (a : Option Addr) (n : Nat) (c : Nat) (g : Nat) (R : Ending → Heap → Prop) (H : Heap) : vcFun prog { } f35 [SV.c (SC.v (Value.slice a n c)), SV.c (SC.v (Value.func (Fn.func g) #[] #[]))] R H = nf_sst a n c g R H := by kernel_rfl

def nf_stb0 (g : Nat) (R : Ending → Heap → Prop) (H : Heap) : Prop := (none : Option Addr) = none ∧ (0 : Nat) = (0 : Nat) ∧ (0 : Nat) = (0 : Nat) ∧ (0 : Int) = (0 : Int) ∧ Value.func (Fn.func g) { toList := [] } { toList := [] } = Value.func (Fn.func g) { toList := [] } { toList := [] } ∧ (20 : Int) = (20 : Int) ∧ LoopP (fun (K : (Int × Int × PUnit) × PUnit → (Nat → Option Obj) → Prop) (p : (Int × Int × PUnit) × PUnit) (H : Nat → Option Obj) ↦ Br (decide (p.fst.snd.fst ≤ (0 : Int))) (Meets prog (56 : Nat) [Value.slice none (0 : Nat) (0 : Nat), Value.int IntKind.i64 p.fst.fst, Value.int IntKind.i64 p.fst.snd.fst, Value.func (Fn.func g) { toList := [] } { toList := [] }] H fun (e : Ending) (H' : Nat → Option Obj) ↦ e = Ending.returned (Value.tuple { toList := [] }) ∧ (none : Option Addr) = none ∧ (0 : Nat) = (0 : Nat) ∧ (0 : Nat) = (0 : Nat) ∧ (0 : Int) = (0 : Int) ∧ Value.func (Fn.func g) { toList := [] } { toList := [] } = Value.func (Fn.func g) { toList := [] } { toList := [] } ∧ (20 : Int) = (20 : Int) ∧ K ((p.fst.snd.fst, IntKind.wrap IntKind.i64 (p.fst.snd.fst + (20 : Int)), PUnit.unit), PUnit.unit) H') (Meets prog (56 : Nat) [Value.slice none (0 : Nat) (0 : Nat), Value.int IntKind.i64 p.fst.fst, Value.int IntKind.i64 (0 : Int), Value.func (Fn.func g) { toList := [] } { toList := [] }] H fun (e : Ending) (H' : Nat → Option Obj) ↦ e = Ending.returned (Value.tuple { toList := [] }) ∧ (none : Option Addr) = none ∧ (0 : Nat) = (0 : Nat) ∧ (0 : Nat) = (0 : Nat) ∧ (0 : Int) = (0 : Int) ∧ Value.func (Fn.func g) { toList := [] } { toList := [] } = Value.func (Fn.func g) { toList := [] } { toList := [] } ∧ LoopP (fun (K : (Int × PUnit) × PUnit → (Nat → Option Obj) → Prop) (p : (Int × PUnit) × PUnit) (H : Nat → Option Obj) ↦ Br (decide (p.fst.fst < (0 : Int))) ((none : Option Addr) = none ∧ (0 : Nat) = (0 : Nat) ∧ (0 : Nat) = (0 : Nat) ∧ (0 : Int) = (0 : Int) ∧ Value.func (Fn.func g) { toList := [] } { toList := [] } = Value.func (Fn.func g) { toList := [] } { toList := [] } ∧ p.fst.fst = p.fst.fst ∧ LoopP (fun (K_1 : (Int × Int × PUnit) × PUnit → (Nat → Option Obj) → Prop) (p_1 : (Int × Int × PUnit) × PUnit) (H : Nat → Option Obj) ↦ Br (decide (p_1.fst.snd.fst ≤ (0 : Int))) (Meets prog (67 : Nat) [Value.slice none (0 : Nat) (0 : Nat), Value.int IntKind.i64 p_1.fst.fst, Value.int IntKind.i64 (IntKind.wrap IntKind.i64 (p_1.fst.fst + p.fst.fst)), Value.int IntKind.i64 p_1.fst.snd.fst, Value.func (Fn.func g) { toList := [] } { toList := [] }] H fun (e : Ending) (H' : Nat → Option Obj) ↦ e = Ending.returned (Value.tuple { toList := [] }) ∧ (none : Option Addr) = none ∧ (0 : Nat) = (0 : Nat) ∧ (0 : Nat) = (0 : Nat) ∧ (0 : Int) = (0 : Int) ∧ Value.func (Fn.func g) { toList := [] } { toList := [] } = Value.func (Fn.func g) { toList := [] } { toList := [] } ∧ p.fst.fst = p.fst.fst ∧ K_1 ((p_1.fst.snd.fst, IntKind.wrap IntKind.i64 (p_1.fst.snd.fst + IntKind.wrap IntKind.i64 ((2 : Int) * p.fst.fst)), PUnit.unit), PUnit.unit) H') (Br (decide (IntKind.wrap IntKind.i64 (p_1.fst.fst + p.fst.fst) < (0 : Int))) (Meets prog (67 : Nat) [Value.slice none (0 : Nat) (0 : Nat), Value.int IntKind.i64 p_1.fst.fst, Value.int IntKind.i64 (IntKind.wrap IntKind.i64 (p_1.fst.fst + p.fst.fst)), Value.int IntKind.i64 (0 : Int), Value.func (Fn.func g) { toList := [] } { toList := [] }] H fun (e : Ending) (H' : Nat → Option Obj) ↦ e = Ending.returned (Value.tuple { toList := [] }) ∧ (none : Option Addr) = none ∧ (0 : Nat) = (0 : Nat) ∧ (0 : Nat) = (0 : Nat) ∧ (0 : Int) = (0 : Int) ∧ Value.func (Fn.func g) { toList := [] } { toList := [] } = Value.func (Fn.func g) { toList := [] } { toList := [] } ∧ K ((IntKind.wrap IntKind.i64 (p.fst.fst * (2 : Int)), PUnit.unit), PUnit.unit) H') ((none : Option Addr) = none ∧ (0 : Nat) = (0 : Nat) ∧ (0 : Nat) = (0 : Nat) ∧ (0 : Int) = (0 : Int) ∧ Value.func (Fn.func g) { toList := [] } { toList := [] } = Value.func (Fn.func g) { toList := [] } { toList := [] } ∧ K ((IntKind.wrap IntKind.i64 (p.fst.fst * (2 : Int)), PUnit.unit), PUnit.unit) H))) (((0 : Int), IntKind.wrap IntKind.i64 ((2 : Int) * p.fst.fst), PUnit.unit), PUnit.unit) H) (R (Ending.returned (Value.tuple { toList := [] })) H)) (((20 : Int), PUnit.unit), PUnit.unit) H')) (((0 : Int), (20 : Int), PUnit.unit), PUnit.unit) H
theorem vc_stb0 (g : Nat) (R : Ending → Heap → Prop) (H : Heap) : vcFun prog h_stb f49 [SV.c (SC.v (Value.slice none (0 : Nat) (0 : Nat))), SV.c (SC.v (Value.int IntKind.i64 (0 : Int))), SV.c (SC.v (Value.func (Fn.func g) #[] #[]))] R H = nf_stb0 g R H := by kernel_rfl

def nf_ins0 (g : Nat) (R : Ending → Heap → Prop) (H : Heap) : Prop := (none : Option Addr) = none ∧ (0 : Nat) = (0 : Nat) ∧ (0 : Nat) = (0 : Nat) ∧ (0 : Int) = (0 : Int) ∧ (0 : Int) = (0 : Int) ∧ Value.func (Fn.func g) { toList := [] } { toList := [] } = Value.func (Fn.func g) { toList := [] } { toList := [] } ∧ LoopP (fun (K : (Int × PUnit) × PUnit → (Nat → Option Obj) → Prop) (p : (Int × PUnit) × PUnit) (H : Nat → Option Obj) ↦ Br (decide (p.fst.fst < (0 : Int))) ((none : Option Addr) = none ∧ (0 : Nat) = (0 : Nat) ∧ (0 : Nat) = (0 : Nat) ∧ (0 : Int) = (0 : Int) ∧ (0 : Int) = (0 : Int) ∧ Value.func (Fn.func g) { toList := [] } { toList := [] } = Value.func (Fn.func g) { toList := [] } { toList := [] } ∧ p.fst.fst = p.fst.fst ∧ LoopP (fun (K_1 : (Int × PUnit) × PUnit → (Nat → Option Obj) → Prop) (p_1 : (Int × PUnit) × PUnit) (H : Nat → Option Obj) ↦ ∃ (G : Nat → Option Obj), G ≤ H ∧ Br (decide (p_1.fst.fst > (0 : Int))) (((0 : Int) ≤ p_1.fst.fst ∧ p_1.fst.fst < (↑(0 : Nat) : Int)) ∧ PtrK none fun (A : Addr) ↦ PtrK (some (Addr.add A (Int.toNat p_1.fst.fst * (4 : Nat)))) fun (a : Addr) ↦ ∃ (n : Int), ∃ (n_1 : Int), ∃ (n_2 : Int), ∃ (s : ByteArray), Heap.has G a [Value.int IntKind.i64 n, Value.int IntKind.u32 n_1, Value.int IntKind.u32 n_2, Value.string s] ∧ ((0 : Int) ≤ IntKind.wrap IntKind.i64 (p_1.fst.fst - (1 : Int)) ∧ IntKind.wrap IntKind.i64 (p_1.fst.fst - (1 : Int)) < (↑(0 : Nat) : Int)) ∧ PtrK none fun (A : Addr) ↦ PtrK (some (Addr.add A (Int.toNat (IntKind.wrap IntKind.i64 (p_1.fst.fst - (1 : Int))) * (4 : Nat)))) fun (a : Addr) ↦ ∃ (n_3 : Int), ∃ (n_4 : Int), ∃ (n_5 : Int), ∃ (s_1 : ByteArray), Heap.has G a [Value.int IntKind.i64 n_3, Value.int IntKind.u32 n_4, Value.int IntKind.u32 n_5, Value.string s_1] ∧ Meets prog g [Value.agg { toList := [Value.int IntKind.i64 n, Value.int IntKind.u32 n_1, Value.int IntKind.u32 n_2, Value.string s] }, Value.agg { toList := [Value.int IntKind.i64 n_3, Value.int IntKind.u32 n_4, Value.int IntKind.u32 n_5, Value.string s_1] }] H fun (e : Ending) (H' : Nat → Option Obj) ↦ Keep G H H H' ∧ ∃ (n : Int), e = Ending.returned (Value.int IntKind.i64 n) ∧ Br (decide (n < (0 : Int))) (((0 : Int) ≤ IntKind.wrap IntKind.i64 (p_1.fst.fst - (1 : Int)) ∧ IntKind.wrap IntKind.i64 (p_1.fst.fst - (1 : Int)) < (↑(0 : Nat) : Int)) ∧ PtrK none fun (A : Addr) ↦ PtrK (some (Addr.add A (Int.toNat (IntKind.wrap IntKind.i64 (p_1.fst.fst - (1 : Int))) * (4 : Nat)))) fun (a : Addr) ↦ ∃ (n : Int), ∃ (n_6 : Int), ∃ (n_7 : Int), ∃ (s : ByteArray), Heap.has (delLs H' []) a [Value.int IntKind.i64 n, Value.int IntKind.u32 n_6, Value.int IntKind.u32 n_7, Value.string s] ∧ ((0 : Int) ≤ p_1.fst.fst ∧ p_1.fst.fst < (↑(0 : Nat) : Int)) ∧ PtrK none fun (A : Addr) ↦ PtrK (some (Addr.add A (Int.toNat p_1.fst.fst * (4 : Nat)))) fun (a : Addr) ↦ ∃ (n_8 : Int), ∃ (n_9 : Int), ∃ (n_10 : Int), ∃ (s_2 : ByteArray), Heap.has (delLs H' []) a [Value.int IntKind.i64 n_8, Value.int IntKind.u32 n_9, Value.int IntKind.u32 n_10, Value.string s_2] ∧ ((0 : Int) ≤ p_1.fst.fst ∧ p_1.fst.fst < (↑(0 : Nat) : Int)) ∧ PtrK none fun (A : Addr) ↦ PtrK (some (Addr.add A (Int.toNat p_1.fst.fst * (4 : Nat)))) fun (A : Addr) ↦ ∃ (c : Array Value), ∃ (ty : Nat), (delLs H' [] A.block = some (Obj.cells c ty) ∧ A.spot = none ∧ A.off + (4 : Nat) ≤ Array.size c) ∧ ((0 : Int) ≤ IntKind.wrap IntKind.i64 (p_1.fst.fst - (1 : Int)) ∧ IntKind.wrap IntKind.i64 (p_1.fst.fst - (1 : Int)) < (↑(0 : Nat) : Int)) ∧ PtrK none fun (A_1 : Addr) ↦ PtrK (some (Addr.add A_1 (Int.toNat (IntKind.wrap IntKind.i64 (p_1.fst.fst - (1 : Int))) * (4 : Nat)))) fun (A_2 : Addr) ↦ ∃ (c_1 : Array Value), ∃ (ty_1 : Nat), (Heap.upd (delLs H' ([] ++ ([] ++ ([] ++ ([] ++ ([] ++ []))) ++ ([] ++ ([] ++ ([] ++ ([] ++ []))) ++ [])))) A.block (Obj.cells (writeCells c A.off [Value.int IntKind.i64 n, Value.int IntKind.u32 n_6, Value.int IntKind.u32 n_7, Value.string s]) ty) A_2.block = some (Obj.cells c_1 ty_1) ∧ A_2.spot = none ∧ A_2.off + (4 : Nat) ≤ Array.size c_1) ∧ (none : Option Addr) = none ∧ (0 : Nat) = (0 : Nat) ∧ (0 : Nat) = (0 : Nat) ∧ (0 : Int) = (0 : Int) ∧ (0 : Int) = (0 : Int) ∧ Value.func (Fn.func g) { toList := [] } { toList := [] } = Value.func (Fn.func g) { toList := [] } { toList := [] } ∧ p.fst.fst = p.fst.fst ∧ K_1 ((IntKind.wrap IntKind.i64 (p_1.fst.fst - (1 : Int)), PUnit.unit), PUnit.unit) (Heap.upd (Heap.upd (delLs H' []) A.block (Obj.cells (writeCells c A.off [Value.int IntKind.i64 n, Value.int IntKind.u32 n_6, Value.int IntKind.u32 n_7, Value.string s]) ty)) A_2.block (Obj.cells (writeCells c_1 A_2.off [Value.int IntKind.i64 n_8, Value.int IntKind.u32 n_9, Value.int IntKind.u32 n_10, Value.string s_2]) ty_1))) ((none : Option Addr) = none ∧ (0 : Nat) = (0 : Nat) ∧ (0 : Nat) = (0 : Nat) ∧ (0 : Int) = (0 : Int) ∧ (0 : Int) = (0 : Int) ∧ Value.func (Fn.func g) { toList := [] } { toList := [] } = Value.func (Fn.func g) { toList := [] } { toList := [] } ∧ K ((IntKind.wrap IntKind.i64 (p.fst.fst + (1 : Int)), PUnit.unit), PUnit.unit) (delLs H' []))) ((none : Option Addr) = none ∧ (0 : Nat) = (0 : Nat) ∧ (0 : Nat) = (0 : Nat) ∧ (0 : Int) = (0 : Int) ∧ (0 : Int) = (0 : Int) ∧ Value.func (Fn.func g) { toList := [] } { toList := [] } = Value.func (Fn.func g) { toList := [] } { toList := [] } ∧ K ((IntKind.wrap IntKind.i64 (p.fst.fst + (1 : Int)), PUnit.unit), PUnit.unit) H)) ((p.fst.fst, PUnit.unit), PUnit.unit) H) (R (Ending.returned (Value.tuple { toList := [] })) H)) ((IntKind.wrap IntKind.i64 ((0 : Int) + (1 : Int)), PUnit.unit), PUnit.unit) H
theorem vc_ins0 (g : Nat) (R : Ending → Heap → Prop) (H : Heap) : vcFun prog h_ins f56 [SV.c (SC.v (Value.slice none (0 : Nat) (0 : Nat))), SV.c (SC.v (Value.int IntKind.i64 (0 : Int))), SV.c (SC.v (Value.int IntKind.i64 (0 : Int))), SV.c (SC.v (Value.func (Fn.func g) #[] #[]))] R H = nf_ins0 g R H := by kernel_rfl

def nf_srt (a : Option Addr) (n : Nat) (c : Nat) (R : Ending → Heap → Prop) (H : Heap) : Prop := Meets prog (32 : Nat) [Value.slice a n c] H fun (e : Ending) (H' : Nat → Option Obj) ↦ ∃ (a : Option Addr), ∃ (n : Nat), ∃ (c : Nat), e = Ending.returned (Value.slice a n c) ∧ Meets prog (35 : Nat) [Value.slice a n c, Value.func (Fn.func (36 : Nat)) { toList := [] } { toList := [] }] H' fun (e : Ending) (H' : Nat → Option Obj) ↦ e = Ending.returned (Value.tuple { toList := [] }) ∧ R (Ending.returned (Value.slice a n c)) H'
theorem vc_srt (a : Option Addr) (n : Nat) (c : Nat) (R : Ending → Heap → Prop) (H : Heap) : vcFun prog { } f23 [SV.c (SC.v (Value.slice a n c))] R H = nf_srt a n c R H := by kernel_rfl

def nf_ints (a : Option Addr) (n : Nat) (c : Nat) (a' : Option Addr) (n' : Nat) (c' : Nat) (R : Ending → Heap → Prop) (H : Heap) : Prop := Br ((↑n : Int) != (↑n' : Int)) (R (Ending.returned (Value.bool false)) H) (a = a ∧ n = n ∧ c = c ∧ a' = a' ∧ n' = n' ∧ c' = c' ∧ false = false ∧ LoopP (fun (K : (Int × PUnit) × PUnit → (Nat → Option Obj) → Prop) (p : (Int × PUnit) × PUnit) (H : Nat → Option Obj) ↦ Br (decide (p.fst.fst < (↑n : Int))) (((0 : Int) ≤ p.fst.fst ∧ p.fst.fst < (↑n : Int)) ∧ PtrK a fun (A : Addr) ↦ PtrK (some (Addr.add A (Int.toNat p.fst.fst * (1 : Nat)))) fun (a_1 : Addr) ↦ ∃ (n_1 : Int), Heap.has H a_1 [Value.int IntKind.i64 n_1] ∧ ((0 : Int) ≤ p.fst.fst ∧ p.fst.fst < (↑n' : Int)) ∧ PtrK a' fun (A : Addr) ↦ PtrK (some (Addr.add A (Int.toNat p.fst.fst * (1 : Nat)))) fun (a_2 : Addr) ↦ ∃ (n_2 : Int), Heap.has H a_2 [Value.int IntKind.i64 n_2] ∧ Br (n_1 != n_2) (R (Ending.returned (Value.bool false)) H) (a = a ∧ n = n ∧ c = c ∧ a' = a' ∧ n' = n' ∧ c' = c' ∧ false = false ∧ K ((IntKind.wrap IntKind.i64 (p.fst.fst + (1 : Int)), PUnit.unit), PUnit.unit) H)) (R (Ending.returned (Value.bool true)) H)) (((0 : Int), PUnit.unit), PUnit.unit) H)
theorem vc_ints (a : Option Addr) (n : Nat) (c : Nat) (a' : Option Addr) (n' : Nat) (c' : Nat) (R : Ending → Heap → Prop) (H : Heap) : vcFun prog h_ints f10 [SV.c (SC.v (Value.slice a n c)), SV.c (SC.v (Value.slice a' n' c'))] R H = nf_ints a n c a' n' c' R H := by kernel_rfl

section
variable {H : Heap} {R : Ending → Heap → Prop}
@[simp] theorem add0 (a : Addr) : Addr.add a 0 = a := rfl
theorem slice_nil (H : Heap) {sz : Nat} : SliceAt H (.slice none 0 0) sz [] := ⟨none, 0, 0, rfl, rfl, Nat.le_refl _, by simp, by simp, by simp⟩
theorem s_clone {v : Value} {l : List Pt} (h : SliceAt H v 4 (pts l)) (hl : l.length ≤ 1000000) (k : ∀ v H', H ≤ H' → (∀ b, blockOf v = some b → H b = none) → RowAt H' v tPt 4 (pts l) → R (.returned v) H') :
    Meets prog 32 [v] H R := by
  obtain ⟨a, n, c, e, hn⟩ := h
  subst e
  have h : SliceAt H (.slice a n c) 4 (pts l) := ⟨a, n, c, rfl, hn⟩
  refine spec_of func32 (by kernel_rfl) (fun t h => by cases h) ?_ (vc_clone a n c R H) ?_
  · simp [argsR, SV.rep, SC.rep, one]
  unfold nf_clone
  refine br (fun q => ?_) fun q => ?_
  · have : l = [] := by
      cases l with
      | nil => rfl
      | cons p l =>
        obtain ⟨A, e, _⟩ := pr_get h (i := 0) (p := p) rfl
        subst e
        simp at q
    subst this
    exact k _ _ (fun _ _ h => h) (by simp [blockOf]) (.inl ⟨rfl, rfl⟩)
  · refine ⟨_, h, ?_, fun v H' h1 h2 h3 h4 => k v H' h1 h2 h4⟩
    simp [pts]; omega
theorem upd_le {H : Heap} {b : Nat} {o : Obj} (h : H b = none) : H ≤ H.upd b o := fun x y e => by
  rw [upd_ne _ _ (fun q => by subst q; rw [h] at e; cases e)]; exact e
abbrev ltI (p q : Pt) : Bool := decide (p.id < q.id)
def cmpI (p q : Pt) : Int := if p.id < q.id then -1 else if p.id > q.id then 1 else 0
theorem ltc_cmpI : ltc cmpI = ltI := by
  funext p q
  unfold ltc cmpI ltI
  split
  · simp_all
  · split <;> simp_all
theorem swo_I : SWO ltI := ⟨fun x => by simp, fun x y z => by simp; omega, fun x y z => by simp; omega⟩
/-- Points, by Id. -/
def sortP (l : List Pt) : List Pt := isort ltI l
theorem sortP_len (l : List Pt) : (sortP l).length = l.length := isort_len l
theorem s_cmpc {x y : Int} (k : R (.returned (vi (if x < y then -1 else if x > y then 1 else 0))) H) : Meets prog 37 [vi x, vi y] H R := by
  refine spec_of func37 (by kernel_rfl) (fun t h => by cases h) ?_ (vc_cmpc x y R H) ?_
  · simp [argsR, SV.rep, SC.rep, one]
  unfold nf_cmpc
  have nan : ∀ (z : Int) (R : Ending → Heap → Prop) (H : Heap), R (.returned (.bool false)) H → Meets prog 50 [vi z] H R := fun z R H k => by
    refine spec_of func50 (by kernel_rfl) (fun t h => by cases h) ?_ (vc_isnan z R H) ?_
    · simp [argsR, SV.rep, SC.rep, one]
    unfold nf_isnan
    simpa using k
  refine nan _ _ _ ⟨_, rfl, nan _ _ _ ⟨_, rfl, br (fun q => by cases q) fun _ => br (fun q => by cases q) fun _ => br (fun q => ?_) fun q => br (fun q1 => ?_) fun q1 => ?_⟩⟩
  all_goals simp only [decide_eq_true_eq, decide_eq_false_iff_not] at *
  · rwa [if_pos q] at k
  · rwa [if_neg q, if_pos q1] at k
  · rwa [if_neg q, if_neg q1] at k
theorem cmp_srt1 : CmpOK 36 cmpI := fun p q H R k => by
  refine spec_of func36 (by kernel_rfl) (fun t h => by cases h) ?_ (vc_srt1 p.id p.x p.y p.data q.id q.x q.y q.data R H) ?_
  · simp [argsR, SV.rep, SegsRep, SC.rep, one]
  unfold nf_srt1
  exact s_cmpc ⟨_, rfl, k⟩
theorem s_sst {g : Nat} {cf : Pt → Pt → Int} (hc : CmpOK g cf) (hs : SWO (ltc cf)) {v : Value} {ty : Nat} {l : List Pt} (hrow : RowAt H v ty 4 (pts l)) (hl : l.length ≤ 1000000) (hcap : ∀ a n c, v = .slice a n c → n ≤ 1000000)
    (k : ∀ H', RowAt H' v ty 4 (pts (isort (ltc cf) l)) → Mod v H H' → R (.returned (.tuple #[])) H') : Meets prog 35 [v, .func (.func g) #[] #[]] H R := by
  obtain ⟨a, c, rfl⟩ := row_val hrow
  have hpl : (pts l).length = l.length := by simp [pts]
  rw [hpl] at hrow k ⊢
  refine spec_of func35 (by kernel_rfl) (fun t h => by cases h) ?_ (vc_sst a l.length c g R H) ?_
  · simp [argsR, SV.rep, SC.rep, one]
  unfold nf_sst
  cases a with
  | some A => exact s_stb hc hs hl rfl hrow fun H' h1 h2 => ⟨rfl, k H' h1 h2⟩
  | none =>
    obtain ⟨rfl, rfl⟩ : l = [] ∧ c = 0 := by
      rcases hrow with ⟨e, e2⟩ | ⟨_, _, _, _, e, _⟩
      · simp only [Value.slice.injEq] at e
        exact ⟨by simpa [pts] using e2, e.2.2⟩
      · cases e
    refine spec_of func49 (by kernel_rfl) (fun t h => by cases h) ?_ (vc_stb0 g _ H) ?_
    · simp [argsR, SV.rep, SC.rep, one]
    unfold nf_stb0
    have i0 : ∀ (R : Ending → Heap → Prop), R (.returned (.tuple #[])) H → Meets prog 56 [.slice none 0 0, vi 0, vi 0, .func (.func g) #[] #[]] H R := fun R k => by
      refine spec_of func56 (by kernel_rfl) (fun t h => by cases h) ?_ (vc_ins0 g _ H) ?_
      · simp [argsR, SV.rep, SC.rep, one]
      unfold nf_ins0
      simp only [true_and]
      refine ⟨fun p H' => p.1.1 = 1 ∧ H' = H, fun _ _ => 0, ⟨by decide, rfl⟩, ?_⟩
      rintro ⟨⟨i, _⟩, _⟩ H1 ⟨h1, rfl⟩
      simp only at h1 ⊢
      subst h1
      exact br (fun q => by simp at q) fun _ => k
    simp only [true_and]
    refine ⟨fun p H' => p.1.1 = 0 ∧ p.1.2.1 = 20 ∧ H' = H, fun _ _ => 0, ⟨rfl, rfl, rfl⟩, ?_⟩
    rintro ⟨⟨i, j, _⟩, _⟩ H1 ⟨h1, h2, rfl⟩
    simp only at h1 h2 ⊢
    subst h1; subst h2
    refine br (fun q => by simp at q) fun _ => i0 _ ⟨rfl, fun p H' => p.1.1 = 20 ∧ H' = H1, fun _ _ => 0, ⟨rfl, rfl⟩, ?_⟩
    rintro ⟨⟨i, _⟩, _⟩ H2 ⟨h1, rfl⟩
    simp only at h1 ⊢
    subst h1
    exact br (fun q => by simp at q) fun _ => k _ hrow (Mod.refl _ _)
/-- What is new is apart from what there was. -/
theorem mod_le {v : Value} {H H' H'' : Heap} (h : H ≤ H') (hn : ∀ b, blockOf v = some b → H b = none) (hm : Mod v H' H'') : H ≤ H'' := fun b o e => by
  rw [hm b fun q => by rw [hn b q] at e; cases e]
  exact h b o e
theorem s_srt {v : Value} {l : List Pt} (h : SliceAt H v 4 (pts l)) (hl : l.length ≤ 1000000) (k : ∀ v H', H ≤ H' → (∀ b, blockOf v = some b → H b = none) → RowAt H' v tPt 4 (pts (sortP l)) → R (.returned v) H') :
    Meets prog 23 [v] H R := by
  obtain ⟨a, n, c, e, hn⟩ := h
  subst e
  refine spec_of func23 (by kernel_rfl) (fun t h => by cases h) ?_ (vc_srt a n c R H) ?_
  · simp [argsR, SV.rep, SC.rep, one]
  unfold nf_srt
  refine s_clone ⟨a, n, c, rfl, hn⟩ hl fun v H' h1 h2 h3 => ?_
  obtain ⟨a', c', rfl⟩ := row_val h3
  refine ⟨_, _, _, rfl, s_sst cmp_srt1 (ltc_cmpI ▸ swo_I) h3 hl (fun _ _ _ e => by cases e; simpa [pts] using hl) fun H'' h4 h5 => ⟨rfl, ?_⟩⟩
  rw [ltc_cmpI] at h4
  have e : (pts (sortP l)).length = (pts l).length := by simp [pts, sortP_len]
  exact k _ _ (mod_le h1 h2 h5) h2 h4
theorem s_ints {v v' : Value} {l l' : List Int} (h : SliceAt H v 1 (cells l)) (h' : SliceAt H v' 1 (cells l')) (hl : l.length ≤ 10000000000000) (k : R (.returned (.bool (decide (l = l')))) H) : Meets prog 10 [v, v'] H R := by
  obtain ⟨a, n, c, e, hn⟩ := h
  subst e
  have h : SliceAt H (.slice a n c) 1 (cells l) := ⟨a, n, c, rfl, hn⟩
  have hln : l.length = n := by simpa [cells] using hn.1
  obtain ⟨a', n', c', e, hn'⟩ := h'
  subst e
  have h' : SliceAt H (.slice a' n' c') 1 (cells l') := ⟨a', n', c', rfl, hn'⟩
  have hln' : l'.length = n' := by simpa [cells] using hn'.1
  refine spec_of func10 (by kernel_rfl) (fun t h => by cases h) ?_ (vc_ints a n c a' n' c' R H) ?_
  · simp [argsR, SV.rep, SC.rep, one]
  unfold nf_ints
  refine br (fun q => ?_) fun q => ?_
  · have : decide (l = l') = false := decide_eq_false (by rintro rfl; simp at q; omega)
    rwa [this] at k
  simp only [bne_eq_false_iff_eq, Int.natCast_inj] at q
  simp only [true_and]
  refine ⟨fun p H' => ∃ t : Nat, p.1.1 = (t : Int) ∧ t ≤ n ∧ l.take t = l'.take t ∧ H' = H, fun p _ => (n - p.1.1).toNat, ⟨0, rfl, by omega, by simp, rfl⟩, ?_⟩
  rintro ⟨⟨i, _⟩, _⟩ H1 ⟨t, hi, ht, f, rfl⟩
  simp only at hi ⊢
  subst hi
  refine br (fun q1 => ?_) fun q1 => ?_
  · simp only [decide_eq_true_eq] at q1
    obtain ⟨y, hd, htk, hx⟩ := drop_cons (l := l) (k := t) (by omega)
    obtain ⟨y', hd', htk', hx'⟩ := drop_cons (l := l') (k := t) (by omega)
    obtain ⟨A, e, g1⟩ := ir_get h (i := t) hx
    subst e
    obtain ⟨A', e, g1'⟩ := ir_get h' (i := t) hx'
    subst e
    refine ⟨⟨by omega, by omega⟩, ptr rfl (ptr rfl ⟨_, g1, ⟨by omega, by omega⟩, ptr rfl (ptr rfl ⟨_, g1', br (fun q2 => ?_) fun q2 => ?_⟩)⟩)⟩
    · have : decide (l = l') = false := decide_eq_false (by rintro rfl; rw [hx] at hx'; cases hx'; simp at q2)
      rwa [this] at k
    · rw [w64 (by omega)]
      simp only [bne_eq_false_iff_eq] at q2
      exact ⟨⟨t + 1, by omega, by omega, by rw [htk, htk', f, q2], by trivial⟩, by omega⟩
  · simp only [decide_eq_false_iff_not] at q1
    rw [List.take_of_length_le (by omega), List.take_of_length_le (by omega)] at f
    rwa [decide_eq_true f] at k
theorem le_delO {H H' : Heap} {v : Value} (h : H ≤ H') (hn : ∀ b, blockOf v = some b → H b = none) : H ≤ H'.delO (blockOf v) := fun b o e => by
  cases hb : blockOf v with
  | none => exact h b o e
  | some b' =>
    show (if b = b' then none else H' b) = some o
    rw [if_neg (by rintro rfl; rw [hn b hb] at e; cases e)]
    exact h b o e
/-- A part of a slice. -/
theorem slice_sub {H : Heap} {a : Option Addr} {n c sz lo hi : Nat} {es : List (List Value)} (h : SliceAt H (.slice a n c) sz es) (h1 : lo ≤ hi) (h2 : hi ≤ n) : SliceAt H (.slice (subAddr a c lo sz) (hi - lo) (c - lo)) sz ((es.drop lo).take (hi - lo)) := by
  obtain ⟨a', n', c', e, hl, hc, h3, h4, h5⟩ := h
  cases e
  refine ⟨_, _, _, rfl, by rw [List.length_take, List.length_drop]; omega, by omega, fun e he => h3 e (List.mem_of_mem_drop (List.mem_of_mem_take he)), fun e he => h4 e (List.mem_of_mem_drop (List.mem_of_mem_take he)), fun i e he => ?_⟩
  have hi' : i < hi - lo := by
    have := (List.getElem?_eq_some_iff.1 he).1
    rw [List.length_take] at this; omega
  rw [List.getElem?_take_of_lt hi', List.getElem?_drop] at he
  obtain ⟨A, rfl, q2, q3⟩ := h5 (lo + i) e he
  have hlc : c ≠ lo := by omega
  refine ⟨A.add (lo * sz), by simp [subAddr, hlc], by rw [add_spot q2], ?_⟩
  have : (A.add (lo * sz)).add (i * sz) = A.add ((lo + i) * sz) := by
    rw [add_spot q2, add_spot q2, add_spot rfl]
    simp [Nat.add_mul, Nat.add_assoc]
  rw [this]; exact q3
theorem slice_suf {H : Heap} {a : Option Addr} {n c sz lo : Nat} {es : List (List Value)} (h : SliceAt H (.slice a n c) sz es) (h2 : lo ≤ n) : SliceAt H (.slice (subAddr a c lo sz) (n - lo) (c - lo)) sz (es.drop lo) := by
  have hl := (slice_len h).1
  have := slice_sub h h2 (Nat.le_refl n)
  rwa [List.take_of_length_le (by rw [List.length_drop]; omega)] at this
end
end Cr

set_option linter.unusedVariables false
set_option linter.unusedSimpArgs false
namespace Cr
open Go Sx Stb
open Go.Proofs.Try
set_option maxRecDepth 100000
def nf_kby1 (i : Int) (x : Int) (y : Int) (d : ByteArray) (i' : Int) (x' : Int) (y' : Int) (d' : ByteArray) (A : Addr) (R : Ending → Heap → Prop) (H : Heap) : Prop := PtrK (some A) fun (a : Addr) ↦ ∃ (n : Int), Heap.has H a [Value.int IntKind.i64 n] ∧ Br (bitOp BinOp.and IntKind.i64 n (1 : Int) == (1 : Int)) (∃ (G : Nat → Option Obj), G ≤ H ∧ Meets prog (48 : Nat) [Value.int IntKind.u32 y, Value.int IntKind.u32 y'] H fun (e : Ending) (H' : Nat → Option Obj) ↦ Keep G H H H' ∧ ∃ (n : Int), e = Ending.returned (Value.int IntKind.i64 n) ∧ Meets prog (37 : Nat) [Value.int IntKind.i64 i, Value.int IntKind.i64 i'] (delLs H' []) fun (e : Ending) (H'_1 : Nat → Option Obj) ↦ Keep G (delLs H' []) (delLs H' []) H'_1 ∧ ∃ (n_1 : Int), e = Ending.returned (Value.int IntKind.i64 n_1) ∧ ∀ (v : Value) (H' : Nat → Option Obj), delLs H'_1 [] ≤ H' → (∀ (b : Nat), blockOf v = some b → delLs H'_1 [] b = none) → (∀ (b : Nat) (o : Obj), H' b = some o → delLs H'_1 [] b = some o ∨ blockOf v = some b) → RowAt H' v (3 : Nat) (1 : Nat) [[Value.int IntKind.i64 n], [Value.int IntKind.i64 n_1]] → Meets prog (47 : Nat) [v] H' fun (e : Ending) (H'_2 : Nat → Option Obj) ↦ Keep G (delLs H'_1 []) H' H'_2 ∧ ∃ (n : Int), e = Ending.returned (Value.int IntKind.i64 n) ∧ R (Ending.returned (Value.int IntKind.i64 n)) (delLs H'_2 [{ site := (19 : Nat), val := v, kind := LK.row (3 : Nat) (1 : Nat) }])) (∃ (G : Nat → Option Obj), G ≤ H ∧ Meets prog (48 : Nat) [Value.int IntKind.u32 x, Value.int IntKind.u32 x'] H fun (e : Ending) (H' : Nat → Option Obj) ↦ Keep G H H H' ∧ ∃ (n : Int), e = Ending.returned (Value.int IntKind.i64 n) ∧ Meets prog (37 : Nat) [Value.int IntKind.i64 i, Value.int IntKind.i64 i'] (delLs H' []) fun (e : Ending) (H'_1 : Nat → Option Obj) ↦ Keep G (delLs H' []) (delLs H' []) H'_1 ∧ ∃ (n_1 : Int), e = Ending.returned (Value.int IntKind.i64 n_1) ∧ ∀ (v : Value) (H' : Nat → Option Obj), delLs H'_1 [] ≤ H' → (∀ (b : Nat), blockOf v = some b → delLs H'_1 [] b = none) → (∀ (b : Nat) (o : Obj), H' b = some o → delLs H'_1 [] b = some o ∨ blockOf v = some b) → RowAt H' v (3 : Nat) (1 : Nat) [[Value.int IntKind.i64 n], [Value.int IntKind.i64 n_1]] → Meets prog (47 : Nat) [v] H' fun (e : Ending) (H'_2 : Nat → Option Obj) ↦ Keep G (delLs H'_1 []) H' H'_2 ∧ ∃ (n : Int), e = Ending.returned (Value.int IntKind.i64 n) ∧ R (Ending.returned (Value.int IntKind.i64 n)) (delLs H'_2 [{ site := (31 : Nat), val := v, kind := LK.row (3 : Nat) (1 : Nat) }]))
theorem vc_kby1 (i : Int) (x : Int) (y : Int) (d : ByteArray) (i' : Int) (x' : Int) (y' : Int) (d' : ByteArray) (A : Addr) (R : Ending → Heap → Prop) (H : Heap) : vcFun prog { } f46 [ptA i x y d, ptA i' x' y' d', SV.c (SC.v (Value.pointer (some A)))] R H = nf_kby1 i x y d i' x' y' d' A R H := by kernel_rfl

def nf_kby (dp : Int) (R : Ending → Heap → Prop) (H : Heap) : Prop := ∀ (b : Nat), H b = none → R (Ending.returned (Value.func (Fn.func (46 : Nat)) { toList := [] } { toList := [Value.pointer (some { block := b, off := (0 : Nat) })] })) (Heap.upd H b (Obj.cells { toList := [Value.int IntKind.i64 dp] } (3 : Nat)))
theorem vc_kby (dp : Int) (R : Ending → Heap → Prop) (H : Heap) : vcFun prog { } f34 [SV.c (SC.v (Value.int IntKind.i64 dp))] R H = nf_kby dp R H := by kernel_rfl

def nf_knew1 (i : Int) (x : Int) (y : Int) (d : ByteArray) (i' : Int) (x' : Int) (y' : Int) (d' : ByteArray) (R : Ending → Heap → Prop) (H : Heap) : Prop := R (Ending.returned (Value.bool (i == i'))) H
theorem vc_knew1 (i : Int) (x : Int) (y : Int) (d : ByteArray) (i' : Int) (x' : Int) (y' : Int) (d' : ByteArray) (R : Ending → Heap → Prop) (H : Heap) : vcFun prog { } f24 [ptA i x y d, ptA i' x' y' d'] R H = nf_knew1 i x y d i' x' y' d' R H := by kernel_rfl

def nf_knew (a : Option Addr) (n : Nat) (c : Nat) (R : Ending → Heap → Prop) (H : Heap) : Prop := Meets prog (23 : Nat) [Value.slice a n c] H fun (e : Ending) (H' : Nat → Option Obj) ↦ ∃ (a : Option Addr), ∃ (n : Nat), ∃ (c : Nat), e = Ending.returned (Value.slice a n c) ∧ Meets prog (22 : Nat) [Value.slice a n c, Value.func (Fn.func (24 : Nat)) { toList := [] } { toList := [] }] H' fun (e : Ending) (H' : Nat → Option Obj) ↦ ∃ (a : Option Addr), ∃ (n : Nat), ∃ (c : Nat), e = Ending.returned (Value.slice a n c) ∧ Meets prog (21 : Nat) [Value.slice a n c, Value.int IntKind.i64 (0 : Int)] H' fun (e : Ending) (H' : Nat → Option Obj) ↦ ∃ (a : Option Addr), e = Ending.returned (Value.pointer a) ∧ R (Ending.returned (Value.pointer a)) H'
theorem vc_knew (a : Option Addr) (n : Nat) (c : Nat) (R : Ending → Heap → Prop) (H : Heap) : vcFun prog { } f9 [SV.c (SC.v (Value.slice a n c))] R H = nf_knew a n c R H := by kernel_rfl

def nf_kis (t : Option Addr) (R : Ending → Heap → Prop) (H : Heap) : Prop := Br (!Option.isNone t) (PtrK t fun (a : Addr) ↦ PtrK (some a) fun (a : Addr) ↦ PtrK (some (Addr.add a (0 : Nat))) fun (a : Addr) ↦ ∃ (b : Bool), Heap.has H a [Value.bool b] ∧ R (Ending.returned (Value.bool b)) H) (R (Ending.returned (Value.bool false)) H)
theorem vc_kis (t : Option Addr) (R : Ending → Heap → Prop) (H : Heap) : vcFun prog { } f25 [SV.c (SC.v (Value.pointer t))] R H = nf_kis t R H := by kernel_rfl

def nf_kdep (t : Option Addr) (R : Ending → Heap → Prop) (H : Heap) : Prop := Meets prog (25 : Nat) [Value.pointer t] H fun (e : Ending) (H' : Nat → Option Obj) ↦ ∃ (b : Bool), e = Ending.returned (Value.bool b) ∧ Br (!b) (R (Ending.returned (Value.int IntKind.i64 (0 : Int))) H') (∃ (G : Nat → Option Obj), G ≤ H' ∧ PtrK t fun (a : Addr) ↦ PtrK (some a) fun (a : Addr) ↦ PtrK (some (Addr.add a (5 : Nat))) fun (a : Addr) ↦ ∃ (a_1 : Option Addr), Heap.has G a [Value.pointer a_1] ∧ PtrK t fun (a : Addr) ↦ PtrK (some a) fun (a : Addr) ↦ PtrK (some (Addr.add a (6 : Nat))) fun (a : Addr) ↦ ∃ (a_2 : Option Addr), Heap.has G a [Value.pointer a_2] ∧ Meets prog (12 : Nat) [Value.pointer a_1] H' fun (e : Ending) (H'_1 : Nat → Option Obj) ↦ Keep G H' H' H'_1 ∧ ∃ (n : Int), e = Ending.returned (Value.int IntKind.i64 n) ∧ Meets prog (12 : Nat) [Value.pointer a_2] (delLs H'_1 []) fun (e : Ending) (H' : Nat → Option Obj) ↦ Keep G (delLs H'_1 []) (delLs H'_1 []) H' ∧ ∃ (n_1 : Int), e = Ending.returned (Value.int IntKind.i64 n_1) ∧ R (Ending.returned (Value.int IntKind.i64 (IntKind.wrap IntKind.i64 ((1 : Int) + maxI n n_1)))) (delLs H' []))
theorem vc_kdep (t : Option Addr) (R : Ending → Heap → Prop) (H : Heap) : vcFun prog { } f12 [SV.c (SC.v (Value.pointer t))] R H = nf_kdep t R H := by kernel_rfl

end Cr

set_option linter.unusedVariables false
set_option linter.unusedSimpArgs false
namespace Cr
open Go Sx Stb
open Go.Proofs.Try
set_option maxRecDepth 100000
def nf_kgrow (a : Option Addr) (n : Nat) (c : Nat) (dp : Int) (R : Ending → Heap → Prop) (H : Heap) : Prop := Br ((↑n : Int) == (0 : Int)) (R (Ending.returned (Value.pointer none)) H) (Meets prog (32 : Nat) [Value.slice a n c] H fun (e : Ending) (H' : Nat → Option Obj) ↦ ∃ (a : Option Addr), ∃ (n : Nat), ∃ (c : Nat), e = Ending.returned (Value.slice a n c) ∧ Meets prog (34 : Nat) [Value.int IntKind.i64 dp] H' fun (e : Ending) (H' : Nat → Option Obj) ↦ ∃ (f : Value), one f = true ∧ e = Ending.returned f ∧ Meets prog (33 : Nat) [Value.slice a n c, f] H' fun (e : Ending) (H' : Nat → Option Obj) ↦ e = Ending.returned (Value.tuple { toList := [] }) ∧ (2 : Int) ≠ (0 : Int) ∧ ∃ (G : Nat → Option Obj), G ≤ H' ∧ ((0 : Int) ≤ IntKind.wrap IntKind.i64 (Int.tdiv (↑n : Int) (2 : Int)) ∧ IntKind.wrap IntKind.i64 (Int.tdiv (↑n : Int) (2 : Int)) < (↑n : Int)) ∧ PtrK a fun (A : Addr) ↦ PtrK (some (Addr.add A (Int.toNat (IntKind.wrap IntKind.i64 (Int.tdiv (↑n : Int) (2 : Int))) * (4 : Nat)))) fun (a_1 : Addr) ↦ ∃ (n_1 : Int), ∃ (n_2 : Int), ∃ (n_3 : Int), ∃ (s : ByteArray), Heap.has G a_1 [Value.int IntKind.i64 n_1, Value.int IntKind.u32 n_2, Value.int IntKind.u32 n_3, Value.string s] ∧ ((0 : Int) ≤ IntKind.wrap IntKind.i64 (Int.tdiv (↑n : Int) (2 : Int)) ∧ IntKind.wrap IntKind.i64 (Int.tdiv (↑n : Int) (2 : Int)) ≤ (↑c : Int)) ∧ ((0 : Int) ≤ IntKind.wrap IntKind.i64 (IntKind.wrap IntKind.i64 (Int.tdiv (↑n : Int) (2 : Int)) + (1 : Int)) ∧ IntKind.wrap IntKind.i64 (IntKind.wrap IntKind.i64 (Int.tdiv (↑n : Int) (2 : Int)) + (1 : Int)) ≤ (↑n : Int)) ∧ Meets prog (21 : Nat) [Value.slice (subAddr a c (0 : Nat) (4 : Nat)) (Int.toNat (IntKind.wrap IntKind.i64 (Int.tdiv (↑n : Int) (2 : Int))) - (0 : Nat)) (c - (0 : Nat)), Value.int IntKind.i64 (IntKind.wrap IntKind.i64 (dp + (1 : Int)))] H' fun (e : Ending) (H'_1 : Nat → Option Obj) ↦ Keep G H' H' H'_1 ∧ ∃ (a_2 : Option Addr), e = Ending.returned (Value.pointer a_2) ∧ Meets prog (21 : Nat) [Value.slice (subAddr a c (Int.toNat (IntKind.wrap IntKind.i64 (IntKind.wrap IntKind.i64 (Int.tdiv (↑n : Int) (2 : Int)) + (1 : Int)))) (4 : Nat)) (n - Int.toNat (IntKind.wrap IntKind.i64 (IntKind.wrap IntKind.i64 (Int.tdiv (↑n : Int) (2 : Int)) + (1 : Int)))) (c - Int.toNat (IntKind.wrap IntKind.i64 (IntKind.wrap IntKind.i64 (Int.tdiv (↑n : Int) (2 : Int)) + (1 : Int)))), Value.int IntKind.i64 (IntKind.wrap IntKind.i64 (dp + (1 : Int)))] (delLs H'_1 []) fun (e : Ending) (H' : Nat → Option Obj) ↦ Keep G (delLs H'_1 []) (delLs H'_1 []) H' ∧ ∃ (a : Option Addr), e = Ending.returned (Value.pointer a) ∧ ∀ (b : Nat), delLs H' [] b = none → R (Ending.returned (Value.pointer (some { block := b, off := (0 : Nat) }))) (Heap.upd (delLs H' []) b (Obj.cells { toList := [Value.bool true, Value.int IntKind.i64 n_1, Value.int IntKind.u32 n_2, Value.int IntKind.u32 n_3, Value.string s, Value.pointer a_2, Value.pointer a] } (46 : Nat))))
theorem vc_kgrow (a : Option Addr) (n : Nat) (c : Nat) (dp : Int) (R : Ending → Heap → Prop) (H : Heap) : vcFun prog { } f21 [SV.c (SC.v (Value.slice a n c)), SV.c (SC.v (Value.int IntKind.i64 dp))] R H = nf_kgrow a n c dp R H := by kernel_rfl

def nf_kal44 (R : Ending → Heap → Prop) (H : Heap) : Prop := ∀ (v : Value) (H' : Nat → Option Obj), H ≤ H' → (∀ (b : Nat), blockOf v = some b → H b = none) → (∀ (b : Nat) (o : Obj), H' b = some o → H b = some o ∨ blockOf v = some b) → RowAt H' v (44 : Nat) (4 : Nat) [[Value.int IntKind.i64 (5 : Int), Value.int IntKind.u32 (0 : Int), Value.int IntKind.u32 (0 : Int), Value.string { data := #[] }]] → Meets prog (9 : Nat) [v] H' fun (e : Ending) (H' : Nat → Option Obj) ↦ ∃ (a : Option Addr), e = Ending.returned (Value.pointer a) ∧ ∃ (es : List (List Value)), RowAt H' v (44 : Nat) (4 : Nat) es ∧ Meets prog (12 : Nat) [Value.pointer a] (Heap.delO H' (blockOf v)) fun (e : Ending) (H' : Nat → Option Obj) ↦ ∃ (n : Int), e = Ending.returned (Value.int IntKind.i64 n) ∧ Br (n == (1 : Int)) (Meets prog (11 : Nat) [Value.pointer a] H' fun (e : Ending) (H' : Nat → Option Obj) ↦ ∃ (a : Option Addr), ∃ (n : Nat), ∃ (c : Nat), e = Ending.returned (Value.slice a n c) ∧ ∀ (v : Value) (H'_1 : Nat → Option Obj), H' ≤ H'_1 → (∀ (b : Nat), blockOf v = some b → H' b = none) → (∀ (b : Nat) (o : Obj), H'_1 b = some o → H' b = some o ∨ blockOf v = some b) → RowAt H'_1 v (3 : Nat) (1 : Nat) [[Value.int IntKind.i64 (5 : Int)]] → Meets prog (10 : Nat) [Value.slice a n c, v] H'_1 fun (e : Ending) (H' : Nat → Option Obj) ↦ ∃ (b : Bool), e = Ending.returned (Value.bool b) ∧ ∃ (es : List (List Value)), RowAt H' v (3 : Nat) (1 : Nat) es ∧ R (Ending.returned (Value.bool b)) (Heap.delO H' (blockOf v))) (R (Ending.returned (Value.bool false)) H')
theorem vc_kal44 (R : Ending → Heap → Prop) (H : Heap) : vcFun prog { } f6 [] R H = nf_kal44 R H := by kernel_rfl

end Cr

set_option linter.unusedVariables false
set_option linter.unusedSimpArgs false
namespace Sx
open Go Go.Proofs Go.Shelf Go.RowKit Go.Lib Go.Sort
section
variable {P : Program} {ρ : Ren} {α : Type} [Inhabited α]
/-- A comparing closure over structs, where what it holds is known. -/
def CmpC (P : Program) (g : Nat) (cb : Array Value) (enc : α → List Value) (cf : α → α → Int) (G : Heap) : Prop :=
  ∀ (x y : α) (H : Heap) (R : Ending → Heap → Prop), G ≤ H → R (.returned (.int .i64 (cf x y))) H → Meets P g ([.agg (enc x).toArray, .agg (enc y).toArray] ++ cb.toList) H R
theorem meets_sortFuncC (L : SlLaysF0.n6 P ρ) {k : Nat} (aE : ∀ w, (isAgg (ρ.t 24)).run P w = .ok true w) (zE : ∀ w, (Go.sizeOf (ρ.t 24)).run P w = .ok k w) {enc : α → List Value} (hk : ∀ x, (enc x).length = k)
    (h1 : ∀ x, ∀ v ∈ enc x, one v = true) {cf : α → α → Int} (hO : SWO (ltOf cf)) {g : Nat} {cb : Array Value} {G : Heap} (hg : callable P g = true) (hsf : callable P (ρ.f 6) = true) (hc : CmpC P g cb enc cf G)
    {H : Heap} {R : Ending → Heap → Prop} {v : Value} {ty : Nat} {l : List α} (h : RowAt H v ty k (l.map enc)) (hG : G ≤ H) (hGb : ∀ b, blockOf v = some b → G b = none) (hl : l.length < 4611686018427387904)
    (K : ∀ (d : List α) (H' : Heap), d.Perm l → d.Pairwise (fun x y => ltOf cf y x = false) → RowAt H' v ty k (d.map enc) → Mod v H H' → R (.returned (.tuple #[])) H') :
    Meets P (ρ.f 6) [v, .func (.func g) #[] cb] H R := by
  refine ⟨hsf, fun w hw => ?_⟩
  rcases h with ⟨rfl, he⟩ | ⟨b, o, cap, c, rfl, hb, hcap, hsz, hes, hfl, hon⟩
  · have hl0 : l = [] := by cases l with | nil => rfl | cons _ _ => simp at he
    subst hl0
    refine (AnyF.slices_SortFunc_none L none 0 (.func (.func g) #[] cb) w).mono ?_
    rintro e w' ⟨rfl, rfl⟩
    exact ⟨H, ⟨hw, rfl, Tp.refl _, rfl, Nat.le_refl _, fun _ _ _ => rfl, fun _ _ e => e⟩, K [] H (List.Perm.refl _) List.Pairwise.nil (.inl ⟨rfl, rfl⟩) (Mod.refl _ _)⟩
  · have hH : HoldsK enc k w b o l.toArray := by
      refine holds_row (es := l.map enc) hw hb hcap hsz hes hfl id (flatK enc k l.toArray) ?_ (by simp)
      have := flatK_list hk l.toArray
      rw [this]; simp
    have hblk : b < w.heap.size := (Array.getElem?_eq_some_iff.1 (hw b _ hb)).1
    have hone : ∀ x, ∀ v ∈ enc x, v.oneCell' = true := fun x v hv => by
      have := h1 x v hv
      cases v <;> first | rfl | cases this
    have put : ∀ (d : Array α) (n : Nat) (os : Array Obj), d.size = l.length → _ := fun d n os hdl =>
      put_row (es := l.map enc) (es' := d.toList.map enc) hw hb hcap hsz id (flatK enc k d) [] (flatK_list hk d) (by simp [hdl]) (by simp [hdl])
        (by intro x hx; simp at hx; obtain ⟨y, _, rfl⟩ := hx; exact hk y) (by intro x hx y hy; simp at hx; obtain ⟨z, _, rfl⟩ := hx; exact h1 z y hy) n os
    have lays : CmpLays P g cb enc k cf b o l.toArray.size w := by
      intro m os dk hs x y
      obtain ⟨H', st, _, hm⟩ := put dk m os (by simpa using hs)
      have hGf : G ≤ full (sortWorldK enc k w b o m dk os) := fun b' ob e => by
        refine st.sub b' ob ?_
        rw [hm b' ?_]
        · exact hG b' ob e
        · intro e2
          have := hGb b' (by simpa [blockOf] using e2)
          rw [this] at e; cases e
      have h := (hc x y (full (sortWorldK enc k w b o m dk os)) (fun e H' => e = .returned (.int .i64 (cf x y)) ∧ H' = full (sortWorldK enc k w b o m dk os)) hGf ⟨rfl, rfl⟩).2 _ (fun b o e => e)
      have ea : (#[Value.agg (enc x).toArray, .agg (enc y).toArray] ++ cb : Array Value) = ([Value.agg (enc x).toArray, .agg (enc y).toArray] ++ cb.toList).toArray := by simp
      rw [ea]
      refine h.mono ?_
      rintro e w' ⟨H', st, rfl, rfl⟩
      exact ⟨rfl, grow_of st⟩
    have h := AnyQ.slices_SortFunc L k aE zE enc hk hone cf hO g cb b o cap l.toArray w (callable_enters hg) lays hH hblk (by simpa using hl)
    have ea : (#[.slice (some ⟨b, o, none⟩) l.toArray.size cap, .func (.func g) #[] cb] : Array Value) = [Value.slice (some ⟨b, o, none⟩) (l.map enc).length cap, .func (.func g) #[] cb].toArray := by simp
    rw [ea] at h
    refine h.mono ?_
    rintro e w' ⟨rfl, d, n, os, hp, hso, rfl⟩
    obtain ⟨hds, _, hperm⟩ := hp
    have e1 : (d.extract 0 l.toArray.size).toList = d.toList := by rw [← hds]; simp
    have e2 : (l.toArray.extract 0 l.toArray.size).toList = l := by simp
    rw [e1, e2] at hperm
    have hdl : d.size = l.length := by simpa using hds
    obtain ⟨H', st, hr, hm⟩ := put d n os hdl
    have el : (d.toList.map enc).length = (l.map enc).length := by simp [hdl]
    rw [el] at hr hm
    refine ⟨H', st, K d.toList H' hperm ?_ hr hm⟩
    rw [List.pairwise_iff_getElem]
    intro i j hi hj hij
    have := hso i j (Nat.zero_le _) hij (by simpa [hdl] using hj)
    rw [getElem!_pos d j (by simpa using hj), getElem!_pos d i (by simpa using hi)] at this
    simpa using this
end
end Sx

set_option linter.unusedVariables false
set_option linter.unusedSimpArgs false
namespace Cr
open Go Sx Go.Proofs Go.Sort
open Go.Proofs.Try
set_option maxRecDepth 100000
def nf_nanw (x : Int) (R : Ending → Heap → Prop) (H : Heap) : Prop := R (Ending.returned (Value.bool (x != x))) H
theorem vc_nanw (x : Int) (R : Ending → Heap → Prop) (H : Heap) : vcFun prog { } f66 [SV.c (SC.v (Value.int IntKind.u32 x))] R H = nf_nanw x R H := by kernel_rfl

def nf_cmpw (x : Int) (y : Int) (R : Ending → Heap → Prop) (H : Heap) : Prop := Meets prog (66 : Nat) [Value.int IntKind.u32 x] H fun (e : Ending) (H' : Nat → Option Obj) ↦ ∃ (b : Bool), e = Ending.returned (Value.bool b) ∧ Meets prog (66 : Nat) [Value.int IntKind.u32 y] H' fun (e : Ending) (H' : Nat → Option Obj) ↦ ∃ (b_1 : Bool), e = Ending.returned (Value.bool b_1) ∧ Br b (Br b_1 (R (Ending.returned (Value.int IntKind.i64 (0 : Int))) H') (R (Ending.returned (Value.int IntKind.i64 (-1 : Int))) H')) (Br b_1 (R (Ending.returned (Value.int IntKind.i64 (1 : Int))) H') (Br (decide (x < y)) (R (Ending.returned (Value.int IntKind.i64 (-1 : Int))) H') (Br (decide (x > y)) (R (Ending.returned (Value.int IntKind.i64 (1 : Int))) H') (R (Ending.returned (Value.int IntKind.i64 (0 : Int))) H'))))
theorem vc_cmpw (x : Int) (y : Int) (R : Ending → Heap → Prop) (H : Heap) : vcFun prog { } f48 [SV.c (SC.v (Value.int IntKind.u32 x)), SV.c (SC.v (Value.int IntKind.u32 y))] R H = nf_cmpw x y R H := by kernel_rfl

/-- The coordinate that a depth looks at. -/
def odd (dp : Int) : Bool := bitOp .and .i64 dp 1 == 1
def coK (dp : Int) (p : Pt) : Int := if odd dp then p.y else p.x
def cfK (dp : Int) (p q : Pt) : Int := orL [sgn3 (coK dp p) (coK dp q), sgn3 p.id q.id]
theorem ltK {dp : Int} {p q : Pt} : ltOf (cfK dp) p q = decide (coK dp p < coK dp q ∨ (coK dp p = coK dp q ∧ p.id < q.id)) := by
  unfold ltOf
  congr 1
  unfold cfK orL orL orL sgn3
  apply propext
  repeat' split
  all_goals omega
theorem swoK (dp : Int) : SWO (ltOf (cfK dp)) where
  irrefl x := by rw [ltK]; simp
  trans x y z h1 h2 := by rw [ltK, decide_eq_true_eq] at *; omega
  ntrans x y z h1 h2 := by rw [ltK, decide_eq_false_iff_not] at *; omega
section
variable {H : Heap} {R : Ending → Heap → Prop}
theorem s_nanw {x : Int} (k : R (.returned (.bool false)) H) : Meets prog 66 [.int .u32 x] H R := by
  refine spec_of func66 (by kernel_rfl) (fun t h => by cases h) ?_ (vc_nanw x R H) ?_
  · simp [argsR, SV.rep, SC.rep, Sx.one]
  unfold nf_nanw
  rw [bne_self_eq_false]
  exact k
theorem s_cmpw {x y : Int} (k : R (.returned (vi (sgn3 x y))) H) : Meets prog 48 [.int .u32 x, .int .u32 y] H R := by
  refine spec_of func48 (by kernel_rfl) (fun t h => by cases h) ?_ (vc_cmpw x y R H) ?_
  · simp [argsR, SV.rep, SC.rep, Sx.one]
  unfold nf_cmpw
  refine s_nanw ⟨false, rfl, s_nanw ⟨false, rfl, br (fun q => by cases q) fun _ => br (fun q => by cases q) fun _ => ?_⟩⟩
  exact sgn3_br (Q := fun n => R (.returned (vi n)) H) k
theorem cmpC_by {dp : Int} {A : Addr} {G : Heap} (hG : G.has A [vi dp]) : CmpC prog 46 #[.pointer (some A)] ptC (cfK dp) G := by
  intro p q H R hle k
  refine spec_of func46 (by kernel_rfl) (fun t h => by cases h) ?_ (vc_kby1 p.id p.x p.y p.data q.id q.x q.y q.data A R H) ?_
  · simp [argsR, SV.rep, SC.rep, Sx.one, SegsRep]
  unfold nf_kby1
  refine ptr rfl ⟨dp, fun j x hj => ?_, br (fun o => ?_) fun o => ?_⟩
  · exact has_le hG hle j x hj
  all_goals
    refine ⟨H, fun _ _ e => e, s_cmpw ⟨keep_same _ _ _, _, rfl, s_cmpi ⟨keep_same _ _ _, _, rfl, fun v H' hle hf hb hrow => ?_⟩⟩⟩
    simp only [delLs_nil] at hle hf hb ⊢
  · refine s_cor (l := [sgn3 p.y q.y, sgn3 p.id q.id]) (row_slice hrow) (by simp) ⟨keep_same _ _ _, _, rfl, ?_⟩
    show R _ (Heap.delO H' (blockOf v))
    rw [lend_off hle hf hb]
    unfold cfK coK odd at k
    rw [o] at k
    exact k
  · refine s_cor (l := [sgn3 p.x q.x, sgn3 p.id q.id]) (row_slice hrow) (by simp) ⟨keep_same _ _ _, _, rfl, ?_⟩
    show R _ (Heap.delO H' (blockOf v))
    rw [lend_off hle hf hb]
    unfold cfK coK odd at k
    rw [show (bitOp BinOp.and IntKind.i64 dp 1 == 1) = false by simpa using o] at k
    exact k
end
end Cr

set_option linter.unusedVariables false
set_option linter.unusedSimpArgs false
namespace Cr
open Go Sx Go.Proofs Go.Sort
open Go.Proofs.Try
set_option maxRecDepth 100000
inductive KT | nil | node (p : Pt) (l r : KT)
abbrev nodeC (p : Pt) (a b : Option Addr) : List Value := [.bool true, vi p.id, .int .u32 p.x, .int .u32 p.y, .string p.data, .pointer a, .pointer b]
def KAt (H : Heap) : KT → Option Addr → Prop
  | .nil, t => t = none
  | .node p l r, t => ∃ A a b, t = some A ∧ H.has A (nodeC p a b) ∧ KAt H l a ∧ KAt H r b
def KT.dep : KT → Nat
  | .nil => 0
  | .node _ l r => 1 + max l.dep r.dep
def KT.some : KT → Bool
  | .nil => false
  | .node .. => true
def KT.pre : KT → List Int
  | .nil => []
  | .node p l r => p.id :: (l.pre ++ r.pre)
theorem kAt_le {H H' : Heap} (h : H ≤ H') : ∀ {T : KT} {t : Option Addr}, KAt H T t → KAt H' T t
  | .nil, _, e => e
  | .node _ _ _, _, ⟨A, a, b, e, g, h1, h2⟩ => ⟨A, a, b, e, has_le g h, kAt_le h h1, kAt_le h h2⟩
theorem has_at {H : Heap} {A : Addr} {l : List Value} (h : H.has A l) {k : Nat} {x : Value} (e : l[k]? = some x) : H.has (A.add k) [x] := by
  intro j y hj
  have hj0 : j = 0 := by have := (List.getElem?_eq_some_iff.1 hj).1; simp at this; omega
  subst hj0
  have e1 : (A.add k).add 0 = A.add k := by cases A with | mk b o s => cases s <;> rfl
  rw [e1]
  cases hj
  exact h k x e
section
variable {H : Heap} {R : Ending → Heap → Prop}
theorem s_kis {T : KT} {t : Option Addr} (h : KAt H T t) (k : R (.returned (.bool T.some)) H) : Meets prog 25 [.pointer t] H R := by
  refine spec_of func25 (by kernel_rfl) (fun t h => by cases h) ?_ (vc_kis t R H) ?_
  · simp [argsR, SV.rep, SC.rep, Sx.one]
  unfold nf_kis
  cases T with
  | nil =>
    obtain rfl : t = none := h
    exact br (fun q => by simp at q) fun _ => k
  | node p l r =>
    obtain ⟨A, a, b, rfl, g, _, _⟩ := h
    exact br (fun _ => ptr rfl (ptr rfl (ptr rfl ⟨true, has_at g rfl, k⟩))) fun q => by simp at q
theorem s_kdep : ∀ (T : KT) {H : Heap} {R : Ending → Heap → Prop} {t : Option Addr}, KAt H T t → T.dep ≤ 1000000 → R (.returned (vi T.dep)) H → Meets prog 12 [.pointer t] H R
  | .nil, H, R, t, h, hd, k => by
    refine spec_of func12 (by kernel_rfl) (fun t h => by cases h) ?_ (vc_kdep t R H) ?_
    · simp [argsR, SV.rep, SC.rep, Sx.one]
    unfold nf_kdep
    exact s_kis h ⟨_, rfl, br (fun _ => k) fun q => by simp [KT.some] at q⟩
  | .node p l r, H, R, t, h, hd, k => by
    have h0 := h
    obtain ⟨A, a, b, rfl, g, h1, h2⟩ := h
    have hd : 1 + max l.dep r.dep ≤ 1000000 := hd
    refine spec_of func12 (by kernel_rfl) (fun t h => by cases h) ?_ (vc_kdep (some A) R H) ?_
    · simp [argsR, SV.rep, SC.rep, Sx.one]
    unfold nf_kdep
    refine s_kis h0 ⟨_, rfl, br (fun q => by simp [KT.some] at q) fun _ => ⟨H, fun _ _ e => e, ptr rfl (ptr rfl (ptr rfl ⟨a, has_at g rfl, ptr rfl (ptr rfl (ptr rfl ⟨b, has_at g rfl, ?_⟩))⟩))⟩⟩
    refine s_kdep l h1 (by omega) ⟨keep_same _ _ _, _, rfl, ?_⟩
    simp only [delLs_nil]
    refine s_kdep r h2 (by omega) ⟨keep_same _ _ _, _, rfl, ?_⟩
    have e : IntKind.wrap .i64 (1 + maxI (l.dep : Int) (r.dep : Int)) = ((KT.node p l r).dep : Int) := by
      rw [wi64 (by unfold maxI; split <;> omega)]
      unfold maxI
      simp only [KT.dep]
      split <;> omega
    rw [e]
    exact k
end
end Cr

set_option linter.unusedVariables false
set_option linter.unusedSimpArgs false
namespace Cr
open Go Sx Go.Proofs Go.Sort
open Go.Proofs.Try
set_option maxRecDepth 100000
/-- A tree of some points, halved at a depth and below. -/
inductive Grow : Int → List Pt → KT → Prop
  | nil {dp : Int} : Grow dp [] .nil
  | node {dp : Int} {l s : List Pt} {p : Pt} {a b : KT} : s.Perm l → s.Pairwise (fun x y => ltOf (cfK dp) y x = false) → s[s.length / 2]? = some p →
      Grow (dp + 1) (s.take (s.length / 2)) a → Grow (dp + 1) (s.drop (s.length / 2 + 1)) b → Grow dp l (.node p a b)
theorem new_has {H : Heap} {b ty : Nat} {cs : List Value} : (H.upd b (.cells cs.toArray ty (0, 0))).has ⟨b, 0, none⟩ cs := by
  intro j x hj
  by_cases e : j = 0
  · subst e; simpa [Heap.cell?, Addr.add, upd_same] using hj
  · simpa [Heap.cell?, Addr.add, upd_same, e] using hj
/-- What is new in a memory. -/
def offH (H H' : Heap) : Heap := fun b => match H b with | none => H' b | some _ => none
theorem off_some {H H' : Heap} {b : Nat} {o : Obj} : offH H H' b = some o ↔ H b = none ∧ H' b = some o := by
  unfold offH
  cases H b <;> simp
theorem off_mono {H H' A A' : Heap} (h : H ≤ A) (h' : A' ≤ H') : offH A A' ≤ offH H H' := fun b o e => by
  obtain ⟨h1, h2⟩ := off_some.1 e
  refine off_some.2 ⟨?_, h' b o h2⟩
  cases q : H b with
  | none => rfl
  | some x => rw [h b x q] at h1; cases h1
theorem off_del {H H' : Heap} {o : Option Nat} (h : ∀ b, o = some b → H b ≠ none) : offH H H' ≤ H'.delO o := fun b x e => by
  obtain ⟨h1, h2⟩ := off_some.1 e
  cases o with
  | none => exact h2
  | some z => show (if b = z then none else H' b) = some x; rw [if_neg (fun q => h z rfl (by rw [← q]; exact h1))]; exact h2
theorem off_new {H H' : Heap} {b ty : Nat} {cs : List Value} (h : H b = none) : (offH H (H'.upd b (.cells cs.toArray ty (0, 0)))).has ⟨b, 0, none⟩ cs := by
  intro j x hj
  have := new_has (H := H') (b := b) (ty := ty) j x hj
  unfold Heap.cell? at this ⊢
  have e : (({ block := b, off := 0, spot := none } : Addr).add j).block = b := by unfold Addr.add; split <;> (try split) <;> rfl
  rw [e] at this ⊢
  have e2 : offH H (H'.upd b (.cells cs.toArray ty (0, 0))) b = (H'.upd b (.cells cs.toArray ty (0, 0))) b := by unfold offH; rw [h]
  rw [e2]
  exact this
section
variable {H : Heap} {R : Ending → Heap → Prop}
theorem s_kby {dp : Int} (k : ∀ A H', H ≤ H' → H A.block = none → H'.has A [vi dp] → R (.returned (.func (.func 46) #[] #[.pointer (some A)])) H') : Meets prog 34 [vi dp] H R := by
  refine spec_of func34 (by kernel_rfl) (fun t h => by cases h) ?_ (vc_kby dp R H) ?_
  · simp [argsR, SV.rep, SC.rep, Sx.one]
  unfold nf_kby
  intro b hb
  exact k ⟨b, 0, none⟩ _ (upd_le hb) hb new_has
theorem s_kgrow : ∀ (N : Nat) {l : List Pt} {dp : Int} {H : Heap} {R : Ending → Heap → Prop} {v : Value}, l.length ≤ N → SliceAt H v 4 (pts l) → l.length ≤ 100000 → 0 ≤ dp → dp + N ≤ 1000000 →
    (∀ T t H', Grow dp l T → KAt (offH H H') T t → H ≤ H' → R (.returned (.pointer t)) H') → Meets prog 21 [v, vi dp] H R := by
  intro N
  induction N with
  | zero =>
    intro l dp H R v hN h hl h0 hd k
    obtain ⟨a, n, c, e, hn⟩ := h
    subst e
    have hln : l.length = n := by simpa using hn.1
    obtain rfl := List.eq_nil_of_length_eq_zero (show l.length = 0 by omega)
    refine spec_of func21 (by kernel_rfl) (fun t h => by cases h) ?_ (vc_kgrow a n c dp R H) ?_
    · simp [argsR, SV.rep, SC.rep, Sx.one]
    unfold nf_kgrow
    exact br (fun _ => k .nil none H .nil rfl fun _ _ e => e) fun q => by simp at q hln; omega
  | succ N ih =>
    intro l dp H R v hN h hl h0 hd k
    obtain ⟨a, n, c, e, hn⟩ := h
    subst e
    have h : SliceAt H (.slice a n c) 4 (pts l) := ⟨a, n, c, rfl, hn⟩
    have hln : l.length = n := by simpa using hn.1
    refine spec_of func21 (by kernel_rfl) (fun t h => by cases h) ?_ (vc_kgrow a n c dp R H) ?_
    · simp [argsR, SV.rep, SC.rep, Sx.one]
    unfold nf_kgrow
    refine br (fun q => ?_) fun q => ?_
    · obtain rfl := List.eq_nil_of_length_eq_zero (show l.length = 0 by simp at q; omega)
      exact k .nil none H .nil rfl fun _ _ e => e
    have hpos : 0 < l.length := by simp at q; omega
    refine s_clone h (by omega) fun v1 H1 hle1 hf1 hrow1 => ?_
    obtain ⟨a1, c1, rfl⟩ := row_val hrow1
    refine ⟨a1, _, c1, rfl, s_kby fun A H2 hle2 hA hg => ⟨_, rfl, rfl, ?_⟩⟩
    have hG : (fun b => if b = A.block then H2 b else none : Heap) ≤ H2 := fun b o e => by
      simp only at e
      split at e
      · exact e
      · cases e
    have hGA : Heap.has (fun b => if b = A.block then H2 b else none) A [vi dp] := fun j x hj => by
      have := hg j x hj
      unfold Heap.cell? at this ⊢
      have e : (A.add j).block = A.block := by unfold Addr.add; split <;> (try split) <;> rfl
      rw [e] at this ⊢
      simpa using this
    have hrow2 := row_le hrow1 (H' := H2) fun b o _ e => hle2 b o e
    refine meets_sortFuncC (enc := ptC) (cf := cfK dp) (k := 4) Go.Proofs.sortPt isAgg44 sizeOf44 (fun _ => rfl) (fun x v hv => by simp at hv; rcases hv with rfl | rfl | rfl | rfl <;> rfl) (swoK dp) (by kernel_rfl) (by kernel_rfl) (cmpC_by hGA) hrow2 hG (fun b hb => ?_) (by omega) ?_
    · show (if b = A.block then H2 b else none) = none
      rw [if_neg]
      rintro rfl
      rcases hrow1 with ⟨e, _⟩ | ⟨b', o, cap, c, e, hb', _⟩
      · rw [e] at hb; simp [blockOf] at hb
      · rw [e] at hb
        simp [blockOf] at hb
        rw [← hb, hb'] at hA
        cases hA
    intro s H3 hp hs hr3 hm
    have hle3 : H ≤ H3 := fun b o e => by
      rw [hm b fun e2 => by rw [hf1 b e2] at e; cases e]
      exact hle2 b o (hle1 b o e)
    have hsl : s.length = l.length := hp.length_eq
    have pl : (pts l).length = l.length := by simp [pts]
    have hs3 := row_slice hr3
    obtain ⟨p, hpm⟩ : ∃ p, s[l.length / 2]? = some p := ⟨_, List.getElem?_eq_getElem (by omega)⟩
    obtain ⟨B, e, g⟩ := pr_get hs3 (i := l.length / 2) hpm
    subst e
    have em : IntKind.wrap .i64 (Int.tdiv ((pts l).length : Int) 2) = ((l.length / 2 : Nat) : Int) := by
      rw [pl, show Int.tdiv (l.length : Int) 2 = ((l.length / 2 : Nat) : Int) from (Int.ofNat_tdiv l.length 2).symm]
      exact wi64 (by omega)
    have em1 : IntKind.wrap .i64 (((l.length / 2 : Nat) : Int) + 1) = ((l.length / 2 : Nat) : Int) + 1 := wi64 (by omega)
    have ed : IntKind.wrap .i64 (dp + 1) = dp + 1 := wi64 (by omega)
    rw [em, em1, ed, Int.toNat_natCast, show (((l.length / 2 : Nat) : Int) + 1).toNat = l.length / 2 + 1 by omega]
    have hc1 : (pts l).length ≤ c1 := by
      obtain ⟨_, _, _, e, _, hcc, _⟩ := hs3
      have e2 := Value.slice.inj e
      omega
    have hsa := slice_sub hs3 (lo := 0) (hi := l.length / 2) (by omega) (by omega)
    have hsb := slice_suf hs3 (lo := l.length / 2 + 1) (by omega)
    have e1 : List.take (l.length / 2 - 0) (List.drop 0 (s.map ptC)) = pts (s.take (l.length / 2)) := by simp [pts, List.map_take]
    have e2 : List.drop (l.length / 2 + 1) (s.map ptC) = pts (s.drop (l.length / 2 + 1)) := by simp [pts, List.map_drop]
    rw [e1] at hsa
    rw [e2] at hsb
    refine ⟨rfl, by decide, H3, fun _ _ e => e, ⟨by omega, by omega⟩, ptr rfl (ptr rfl ⟨_, _, _, _, g, ⟨by omega, by omega⟩, ⟨by omega, by omega⟩, ?_⟩)⟩
    refine ih (l := s.take (l.length / 2)) (by rw [List.length_take]; omega) hsa (by rw [List.length_take]; omega) (by omega) (by omega) fun T1 t1 H4 g1 k1 hle4 => ⟨fun b o h _ => hle4 b o h, t1, rfl, ?_⟩
    refine ih (l := s.drop (l.length / 2 + 1)) (by rw [List.length_drop]; omega) (slice_le hsb hle4) (by rw [List.length_drop]; omega) (by omega) (by omega) fun T2 t2 H5 g2 k2 hle5 => ⟨fun b o h _ => hle5 b o h, t2, rfl, fun b hb => ?_⟩
    have hb : H5 b = none := hb
    show R _ (H5.upd b _)
    exact k (.node p T1 T2) _ _ (.node hp hs (by rw [hsl]; exact hpm) (by rw [hsl]; exact g1) (by rw [hsl]; exact g2)) ⟨_, _, _, rfl, off_new (by
      cases q : H b with
      | none => rfl
      | some o => rw [hle5 b o (hle4 b o (hle3 b o q))] at hb; cases hb), kAt_le (off_mono hle3 (heap_trans hle5 (upd_le hb))) k1, kAt_le (off_mono (heap_trans hle3 hle4) (upd_le hb)) k2⟩ (heap_trans hle3 (heap_trans hle4 (heap_trans hle5 (upd_le hb))))
end
end Cr

set_option linter.unusedVariables false
set_option linter.unusedSimpArgs false
namespace Cr
open Go Sx Stb
open Go.Proofs.Try
set_option maxRecDepth 100000
def h_grw : Hints := { apr := [22] }
def h_cct : Hints := { apr := [33], loops := [(3, ⟨[0, 9, 10], [.f 3 (.int .i64), .f 11 (.int .i64)], []⟩), (11, ⟨[0, 25, 26], [.f 6 .slc, .f 27 (.int .i64)], []⟩)] }
def h_ord : Hints := { pub := [22] }
def nf_grw (a : Option Addr) (n : Nat) (c : Nat) (k : Int) (R : Ending → Heap → Prop) (H : Heap) : Prop := Br (decide (k < (0 : Int))) (R (Ending.panicked [{ v := Value.iface (9 : Nat) (Value.string { data := #[(99 : UInt8), (97 : UInt8), (110 : UInt8), (110 : UInt8), (111 : UInt8), (116 : UInt8), (32 : UInt8), (98 : UInt8), (101 : UInt8), (32 : UInt8), (110 : UInt8), (101 : UInt8), (103 : UInt8), (97 : UInt8), (116 : UInt8), (105 : UInt8), (118 : UInt8), (101 : UInt8)] }), recovered := false }]) H) (Br (decide (IntKind.wrap IntKind.i64 (k - IntKind.wrap IntKind.i64 ((↑c : Int) - (↑n : Int))) > (0 : Int))) (((0 : Int) ≤ (↑c : Int) ∧ (↑c : Int) ≤ (↑c : Int)) ∧ ∃ (es : List (List Value)), SliceAt H (Value.slice (subAddr a c (0 : Nat) (1 : Nat)) (Int.toNat (↑c : Int) - (0 : Nat)) (c - (0 : Nat))) (1 : Nat) es ∧ ((0 : Int) ≤ IntKind.wrap IntKind.i64 (k - IntKind.wrap IntKind.i64 ((↑c : Int) - (↑n : Int))) ∧ IntKind.wrap IntKind.i64 (k - IntKind.wrap IntKind.i64 ((↑c : Int) - (↑n : Int))) * (↑(8 : Nat) : Int) ≤ (↑(140737488355328 : Nat) : Int)) ∧ (Int.toNat (↑c : Int) - (0 : Nat) + List.length (List.replicate (Int.toNat (IntKind.wrap IntKind.i64 (k - IntKind.wrap IntKind.i64 ((↑c : Int) - (↑n : Int))))) [Value.int IntKind.i64 (0 : Int)]) ≤ c - (0 : Nat) → FillX (subAddr a c (0 : Nat) (1 : Nat)) (Int.toNat (↑c : Int) - (0 : Nat)) (1 : Nat) (List.replicate (Int.toNat (IntKind.wrap IntKind.i64 (k - IntKind.wrap IntKind.i64 ((↑c : Int) - (↑n : Int))))) [Value.int IntKind.i64 (0 : Int)]) H fun (H' : Nat → Option Obj) ↦ ((0 : Int) ≤ (↑n : Int) ∧ (↑n : Int) ≤ (↑(c - (0 : Nat)) : Int)) ∧ R (Ending.returned (Value.slice (subAddr (subAddr a c (0 : Nat) (1 : Nat)) (c - (0 : Nat)) (0 : Nat) (1 : Nat)) (Int.toNat (↑n : Int) - (0 : Nat)) (c - (0 : Nat) - (0 : Nat)))) H') ∧ (c - (0 : Nat) < Int.toNat (↑c : Int) - (0 : Nat) + List.length (List.replicate (Int.toNat (IntKind.wrap IntKind.i64 (k - IntKind.wrap IntKind.i64 ((↑c : Int) - (↑n : Int))))) [Value.int IntKind.i64 (0 : Int)]) → (Int.toNat (↑c : Int) - (0 : Nat) + List.length (List.replicate (Int.toNat (IntKind.wrap IntKind.i64 (k - IntKind.wrap IntKind.i64 ((↑c : Int) - (↑n : Int))))) [Value.int IntKind.i64 (0 : Int)])) * (8 : Nat) ≤ (140737488355328 : Nat) ∧ ∀ (b cap : Nat) (H' : Nat → Option Obj), H ≤ H' → H b = none → (∀ (x : Nat) (o : Obj), H' x = some o → H x = some o ∨ x = b) → RowAt H' (Value.slice (some { block := b, off := (0 : Nat) }) (Int.toNat (↑c : Int) - (0 : Nat) + List.length (List.replicate (Int.toNat (IntKind.wrap IntKind.i64 (k - IntKind.wrap IntKind.i64 ((↑c : Int) - (↑n : Int))))) [Value.int IntKind.i64 (0 : Int)])) cap) (3 : Nat) (1 : Nat) (List.append es (List.replicate (Int.toNat (IntKind.wrap IntKind.i64 (k - IntKind.wrap IntKind.i64 ((↑c : Int) - (↑n : Int))))) (Value.cells (Value.int IntKind.i64 (0 : Int))).toList)) → ((0 : Int) ≤ (↑n : Int) ∧ (↑n : Int) ≤ (↑cap : Int)) ∧ R (Ending.returned (Value.slice (subAddr (some { block := b, off := (0 : Nat) }) cap (0 : Nat) (1 : Nat)) (Int.toNat (↑n : Int) - (0 : Nat)) (cap - (0 : Nat)))) H')) (R (Ending.returned (Value.slice a n c)) H))
theorem vc_grw (a : Option Addr) (n : Nat) (c : Nat) (k : Int) (R : Ending → Heap → Prop) (H : Heap) : vcFun prog h_grw f38 [SV.c (SC.v (Value.slice a n c)), SV.c (SC.v (Value.int IntKind.i64 k))] R H = nf_grw a n c k R H := by kernel_rfl

def nf_cct (a : Option Addr) (n : Nat) (c : Nat) (R : Ending → Heap → Prop) (H : Heap) : Prop := a = a ∧ n = n ∧ c = c ∧ a = a ∧ n = n ∧ c = c ∧ (↑n : Int) = (↑n : Int) ∧ LoopP (fun (K : (Int × Int × PUnit) × PUnit → (Nat → Option Obj) → Prop) (p : (Int × Int × PUnit) × PUnit) (H : Nat → Option Obj) ↦ Br (decide (p.fst.snd.fst < (↑n : Int))) (((0 : Int) ≤ p.fst.snd.fst ∧ p.fst.snd.fst < (↑n : Int)) ∧ PtrK a fun (A : Addr) ↦ PtrK (some (Addr.add A (Int.toNat p.fst.snd.fst * (1 : Nat)))) fun (a_1 : Addr) ↦ ∃ (a_2 : Option Addr), ∃ (n_1 : Nat), ∃ (c_1 : Nat), Heap.has H a_1 [Value.slice a_2 n_1 c_1] ∧ Br (decide (IntKind.wrap IntKind.i64 (p.fst.fst + (↑n_1 : Int)) < (0 : Int))) (R (Ending.panicked [{ v := Value.iface (9 : Nat) (Value.string { data := #[(108 : UInt8), (101 : UInt8), (110 : UInt8), (32 : UInt8), (111 : UInt8), (117 : UInt8), (116 : UInt8), (32 : UInt8), (111 : UInt8), (102 : UInt8), (32 : UInt8), (114 : UInt8), (97 : UInt8), (110 : UInt8), (103 : UInt8), (101 : UInt8)] }), recovered := false }]) H) (a = a ∧ n = n ∧ c = c ∧ a = a ∧ n = n ∧ c = c ∧ (↑n : Int) = (↑n : Int) ∧ K ((IntKind.wrap IntKind.i64 (p.fst.fst + (↑n_1 : Int)), IntKind.wrap IntKind.i64 (p.fst.snd.fst + (1 : Int)), PUnit.unit), PUnit.unit) H)) (Meets prog (38 : Nat) [Value.slice none (0 : Nat) (0 : Nat), Value.int IntKind.i64 p.fst.fst] H fun (e : Ending) (H' : Nat → Option Obj) ↦ ∃ (a_1 : Option Addr), ∃ (n_1 : Nat), ∃ (c_1 : Nat), e = Ending.returned (Value.slice a_1 n_1 c_1) ∧ a = a ∧ n = n ∧ c = c ∧ a = a ∧ n = n ∧ c = c ∧ (↑n : Int) = (↑n : Int) ∧ LoopP (fun (K : ((Option Addr × Nat × Nat) × Int × PUnit) × PUnit → (Nat → Option Obj) → Prop) (p : ((Option Addr × Nat × Nat) × Int × PUnit) × PUnit) (H : Nat → Option Obj) ↦ Br (decide (p.fst.snd.fst < (↑n : Int))) (((0 : Int) ≤ p.fst.snd.fst ∧ p.fst.snd.fst < (↑n : Int)) ∧ PtrK a fun (A : Addr) ↦ PtrK (some (Addr.add A (Int.toNat p.fst.snd.fst * (1 : Nat)))) fun (a_2 : Addr) ↦ ∃ (a_3 : Option Addr), ∃ (n_2 : Nat), ∃ (c_2 : Nat), Heap.has H a_2 [Value.slice a_3 n_2 c_2] ∧ ∃ (es : List (List Value)), SliceAt H (Value.slice p.fst.fst.1 p.fst.fst.snd.fst p.fst.fst.snd.snd) (1 : Nat) es ∧ ∃ (es_1 : List (List Value)), SliceAt H (Value.slice a_3 n_2 c_2) (1 : Nat) es_1 ∧ (p.fst.fst.snd.fst + List.length es_1 ≤ p.fst.fst.snd.snd → FillX p.fst.fst.1 p.fst.fst.snd.fst (1 : Nat) es_1 H fun (H' : Nat → Option Obj) ↦ a = a ∧ n = n ∧ c = c ∧ a = a ∧ n = n ∧ c = c ∧ (↑n : Int) = (↑n : Int) ∧ K (((p.fst.fst.1, p.fst.fst.snd.fst + List.length es_1, p.fst.fst.snd.snd), IntKind.wrap IntKind.i64 (p.fst.snd.fst + (1 : Int)), PUnit.unit), PUnit.unit) H') ∧ (p.fst.fst.snd.snd < p.fst.fst.snd.fst + List.length es_1 → (p.fst.fst.snd.fst + List.length es_1) * (8 : Nat) ≤ (140737488355328 : Nat) ∧ ∀ (b cap : Nat) (H' : Nat → Option Obj), H ≤ H' → H b = none → (∀ (x : Nat) (o : Obj), H' x = some o → H x = some o ∨ x = b) → RowAt H' (Value.slice (some { block := b, off := (0 : Nat) }) (p.fst.fst.snd.fst + List.length es_1) cap) (3 : Nat) (1 : Nat) (List.append es es_1) → a = a ∧ n = n ∧ c = c ∧ a = a ∧ n = n ∧ c = c ∧ (↑n : Int) = (↑n : Int) ∧ K (((some { block := b, off := (0 : Nat) }, p.fst.fst.snd.fst + List.length es_1, cap), IntKind.wrap IntKind.i64 (p.fst.snd.fst + (1 : Int)), PUnit.unit), PUnit.unit) H')) (R (Ending.returned (Value.slice p.fst.fst.1 p.fst.fst.snd.fst p.fst.fst.snd.snd)) H)) (((a_1, n_1, c_1), (0 : Int), PUnit.unit), PUnit.unit) H')) (((0 : Int), (0 : Int), PUnit.unit), PUnit.unit) H
theorem vc_cct (a : Option Addr) (n : Nat) (c : Nat) (R : Ending → Heap → Prop) (H : Heap) : vcFun prog h_cct f26 [SV.c (SC.v (Value.slice a n c))] R H = nf_cct a n c R H := by kernel_rfl

def nf_kord (t : Option Addr) (R : Ending → Heap → Prop) (H : Heap) : Prop := Meets prog (25 : Nat) [Value.pointer t] H fun (e : Ending) (H' : Nat → Option Obj) ↦ ∃ (b : Bool), e = Ending.returned (Value.bool b) ∧ Br (!b) (R (Ending.returned (Value.slice none (0 : Nat) (0 : Nat))) H') (∃ (G : Nat → Option Obj), G ≤ H' ∧ PtrK t fun (a : Addr) ↦ PtrK (some a) fun (a : Addr) ↦ PtrK (some (Addr.add a (1 : Nat))) fun (a : Addr) ↦ PtrK (some (Addr.add a (0 : Nat))) fun (a : Addr) ↦ ∃ (n : Int), Heap.has G a [Value.int IntKind.i64 n] ∧ PtrK t fun (a : Addr) ↦ PtrK (some a) fun (a : Addr) ↦ PtrK (some (Addr.add a (5 : Nat))) fun (a : Addr) ↦ ∃ (a_1 : Option Addr), Heap.has G a [Value.pointer a_1] ∧ PtrK t fun (a : Addr) ↦ PtrK (some a) fun (a : Addr) ↦ PtrK (some (Addr.add a (6 : Nat))) fun (a : Addr) ↦ ∃ (a_2 : Option Addr), Heap.has G a [Value.pointer a_2] ∧ Meets prog (11 : Nat) [Value.pointer a_1] H' fun (e : Ending) (H'_1 : Nat → Option Obj) ↦ Keep G H' H' H'_1 ∧ ∃ (a : Option Addr), ∃ (n_1 : Nat), ∃ (c : Nat), e = Ending.returned (Value.slice a n_1 c) ∧ Meets prog (11 : Nat) [Value.pointer a_2] (delLs H'_1 []) fun (e : Ending) (H' : Nat → Option Obj) ↦ Keep G (delLs H'_1 []) (delLs H'_1 []) H' ∧ ∃ (a_3 : Option Addr), ∃ (n_2 : Nat), ∃ (c_1 : Nat), e = Ending.returned (Value.slice a_3 n_2 c_1) ∧ ∀ (v : Value) (H'_2 : Nat → Option Obj), delLs H' [] ≤ H'_2 → (∀ (b : Nat), blockOf v = some b → delLs H' [] b = none) → (∀ (b : Nat) (o : Obj), H'_2 b = some o → delLs H' [] b = some o ∨ blockOf v = some b) → RowAt H'_2 v (3 : Nat) (1 : Nat) [[Value.int IntKind.i64 n]] → ∀ (v_1 : Value) (H' : Nat → Option Obj), H'_2 ≤ H' → (∀ (b : Nat), blockOf v_1 = some b → H'_2 b = none) → (∀ (b : Nat) (o : Obj), H' b = some o → H'_2 b = some o ∨ blockOf v_1 = some b) → RowAt H' v_1 (24 : Nat) (1 : Nat) [[v], [Value.slice a n_1 c], [Value.slice a_3 n_2 c_1]] → Meets prog (26 : Nat) [v_1] H' fun (e : Ending) (H'_3 : Nat → Option Obj) ↦ Keep G H'_2 H' H'_3 ∧ ∃ (a : Option Addr), ∃ (n : Nat), ∃ (c : Nat), e = Ending.returned (Value.slice a n c) ∧ R (Ending.returned (Value.slice a n c)) (delLs H'_3 [{ site := (22 : Nat), val := v_1, kind := LK.row (24 : Nat) (1 : Nat) }]))
theorem vc_kord (t : Option Addr) (R : Ending → Heap → Prop) (H : Heap) : vcFun prog h_ord f11 [SV.c (SC.v (Value.pointer t))] R H = nf_kord t R H := by kernel_rfl

def nf_kgat (t : Option Addr) (x0 : Int) (y0 : Int) (x1 : Int) (y1 : Int) (dp : Int) (R : Ending → Heap → Prop) (H : Heap) : Prop := Meets prog (25 : Nat) [Value.pointer t] H fun (e : Ending) (H' : Nat → Option Obj) ↦ ∃ (b : Bool), e = Ending.returned (Value.bool b) ∧ Br (!b) (R (Ending.returned (Value.slice none (0 : Nat) (0 : Nat))) H') (∃ (G : Nat → Option Obj), G ≤ H' ∧ PtrK t fun (a : Addr) ↦ PtrK (some a) fun (a : Addr) ↦ PtrK (some (Addr.add a (1 : Nat))) fun (a : Addr) ↦ PtrK (some (Addr.add a (1 : Nat))) fun (a : Addr) ↦ ∃ (n : Int), Heap.has G a [Value.int IntKind.u32 n] ∧ PtrK t fun (a : Addr) ↦ PtrK (some a) fun (a : Addr) ↦ PtrK (some (Addr.add a (1 : Nat))) fun (a : Addr) ↦ PtrK (some (Addr.add a (2 : Nat))) fun (a : Addr) ↦ ∃ (n_1 : Int), Heap.has G a [Value.int IntKind.u32 n_1] ∧ Meets prog (39 : Nat) [Value.agg { toList := [Value.int IntKind.u32 x0, Value.int IntKind.u32 y0, Value.int IntKind.u32 x1, Value.int IntKind.u32 y1] }, Value.int IntKind.u32 n, Value.int IntKind.u32 n_1] H' fun (e : Ending) (H'_1 : Nat → Option Obj) ↦ Keep G H' H' H'_1 ∧ ∃ (b : Bool), e = Ending.returned (Value.bool b) ∧ Br b (PtrK t fun (a : Addr) ↦ PtrK (some a) fun (a : Addr) ↦ PtrK (some (Addr.add a (1 : Nat))) fun (a : Addr) ↦ ∃ (n : Int), ∃ (n_2 : Int), ∃ (n_3 : Int), ∃ (s : ByteArray), Heap.has (delLs H'_1 []) a [Value.int IntKind.i64 n, Value.int IntKind.u32 n_2, Value.int IntKind.u32 n_3, Value.string s] ∧ List.length [[Value.int IntKind.i64 n, Value.int IntKind.u32 n_2, Value.int IntKind.u32 n_3, Value.string s]] * (32 : Nat) ≤ (140737488355328 : Nat) ∧ PtrK t fun (a : Addr) ↦ PtrK (some a) fun (a : Addr) ↦ PtrK (some (Addr.add a (1 : Nat))) fun (a : Addr) ↦ ∃ (n_4 : Int), ∃ (n_5 : Int), ∃ (n_6 : Int), ∃ (s_1 : ByteArray), Heap.has (delLs H'_1 []) a [Value.int IntKind.i64 n_4, Value.int IntKind.u32 n_5, Value.int IntKind.u32 n_6, Value.string s_1] ∧ Meets prog (40 : Nat) [Value.agg { toList := [Value.int IntKind.i64 n_4, Value.int IntKind.u32 n_5, Value.int IntKind.u32 n_6, Value.string s_1] }, Value.int IntKind.i64 dp] (delLs H'_1 []) fun (e : Ending) (H' : Nat → Option Obj) ↦ ∃ (n_7 : Int), e = Ending.returned (Value.int IntKind.u32 n_7) ∧ Meets prog (40 : Nat) [Value.agg { toList := [Value.int IntKind.i64 (0 : Int), Value.int IntKind.u32 x0, Value.int IntKind.u32 y0, Value.string { data := #[] }] }, Value.int IntKind.i64 dp] H' fun (e : Ending) (H' : Nat → Option Obj) ↦ ∃ (n_8 : Int), e = Ending.returned (Value.int IntKind.u32 n_8) ∧ Br (decide (n_8 ≤ n_7)) (∃ (G : Nat → Option Obj), G ≤ H' ∧ PtrK t fun (a : Addr) ↦ PtrK (some a) fun (a : Addr) ↦ PtrK (some (Addr.add a (5 : Nat))) fun (a : Addr) ↦ ∃ (a_1 : Option Addr), Heap.has G a [Value.pointer a_1] ∧ Meets prog (27 : Nat) [Value.pointer a_1, Value.agg { toList := [Value.int IntKind.u32 x0, Value.int IntKind.u32 y0, Value.int IntKind.u32 x1, Value.int IntKind.u32 y1] }, Value.int IntKind.i64 (IntKind.wrap IntKind.i64 (dp + (1 : Int)))] H' fun (e : Ending) (H'_2 : Nat → Option Obj) ↦ Keep G H' H' H'_2 ∧ ∃ (a : Option Addr), ∃ (n_9 : Nat), ∃ (c : Nat), e = Ending.returned (Value.slice a n_9 c) ∧ ∃ (es2 : List (List Value)), SliceAt (delLs H'_2 []) (Value.slice a n_9 c) (4 : Nat) es2 ∧ List.length ([Value.int IntKind.i64 n, Value.int IntKind.u32 n_2, Value.int IntKind.u32 n_3, Value.string s] :: es2) * (32 : Nat) ≤ (140737488355328 : Nat) ∧ Meets prog (40 : Nat) [Value.agg { toList := [Value.int IntKind.i64 (0 : Int), Value.int IntKind.u32 x1, Value.int IntKind.u32 y1, Value.string { data := #[] }] }, Value.int IntKind.i64 dp] (delLs H'_2 []) fun (e : Ending) (H' : Nat → Option Obj) ↦ ∃ (n_10 : Int), e = Ending.returned (Value.int IntKind.u32 n_10) ∧ Br (decide (n_10 ≥ n_7)) (∃ (G : Nat → Option Obj), G ≤ H' ∧ PtrK t fun (a : Addr) ↦ PtrK (some a) fun (a : Addr) ↦ PtrK (some (Addr.add a (6 : Nat))) fun (a : Addr) ↦ ∃ (a_2 : Option Addr), Heap.has G a [Value.pointer a_2] ∧ Meets prog (27 : Nat) [Value.pointer a_2, Value.agg { toList := [Value.int IntKind.u32 x0, Value.int IntKind.u32 y0, Value.int IntKind.u32 x1, Value.int IntKind.u32 y1] }, Value.int IntKind.i64 (IntKind.wrap IntKind.i64 (dp + (1 : Int)))] H' fun (e : Ending) (H'_3 : Nat → Option Obj) ↦ Keep G H' H' H'_3 ∧ ∃ (a : Option Addr), ∃ (n_11 : Nat), ∃ (c : Nat), e = Ending.returned (Value.slice a n_11 c) ∧ ∃ (es2_1 : List (List Value)), SliceAt (delLs H'_3 []) (Value.slice a n_11 c) (4 : Nat) es2_1 ∧ List.length ([Value.int IntKind.i64 n, Value.int IntKind.u32 n_2, Value.int IntKind.u32 n_3, Value.string s] :: List.append es2 es2_1) * (32 : Nat) ≤ (140737488355328 : Nat) ∧ ∀ (v : Value) (H' : Nat → Option Obj), delLs H'_3 [] ≤ H' → (∀ (b : Nat), blockOf v = some b → delLs H'_3 [] b = none) → (∀ (b : Nat) (o : Obj), H' b = some o → delLs H'_3 [] b = some o ∨ blockOf v = some b) → RowAt H' v (44 : Nat) (4 : Nat) ([Value.int IntKind.i64 n, Value.int IntKind.u32 n_2, Value.int IntKind.u32 n_3, Value.string s] :: List.append es2 es2_1) → R (Ending.returned v) H') (∀ (v : Value) (H'_3 : Nat → Option Obj), H' ≤ H'_3 → (∀ (b : Nat), blockOf v = some b → H' b = none) → (∀ (b : Nat) (o : Obj), H'_3 b = some o → H' b = some o ∨ blockOf v = some b) → RowAt H'_3 v (44 : Nat) (4 : Nat) ([Value.int IntKind.i64 n, Value.int IntKind.u32 n_2, Value.int IntKind.u32 n_3, Value.string s] :: es2) → R (Ending.returned v) H'_3)) (Meets prog (40 : Nat) [Value.agg { toList := [Value.int IntKind.i64 (0 : Int), Value.int IntKind.u32 x1, Value.int IntKind.u32 y1, Value.string { data := #[] }] }, Value.int IntKind.i64 dp] H' fun (e : Ending) (H' : Nat → Option Obj) ↦ ∃ (n_9 : Int), e = Ending.returned (Value.int IntKind.u32 n_9) ∧ Br (decide (n_9 ≥ n_7)) (∃ (G : Nat → Option Obj), G ≤ H' ∧ PtrK t fun (a : Addr) ↦ PtrK (some a) fun (a : Addr) ↦ PtrK (some (Addr.add a (6 : Nat))) fun (a : Addr) ↦ ∃ (a_1 : Option Addr), Heap.has G a [Value.pointer a_1] ∧ Meets prog (27 : Nat) [Value.pointer a_1, Value.agg { toList := [Value.int IntKind.u32 x0, Value.int IntKind.u32 y0, Value.int IntKind.u32 x1, Value.int IntKind.u32 y1] }, Value.int IntKind.i64 (IntKind.wrap IntKind.i64 (dp + (1 : Int)))] H' fun (e : Ending) (H'_2 : Nat → Option Obj) ↦ Keep G H' H' H'_2 ∧ ∃ (a : Option Addr), ∃ (n_10 : Nat), ∃ (c : Nat), e = Ending.returned (Value.slice a n_10 c) ∧ ∃ (es2 : List (List Value)), SliceAt (delLs H'_2 []) (Value.slice a n_10 c) (4 : Nat) es2 ∧ List.length ([Value.int IntKind.i64 n, Value.int IntKind.u32 n_2, Value.int IntKind.u32 n_3, Value.string s] :: es2) * (32 : Nat) ≤ (140737488355328 : Nat) ∧ ∀ (v : Value) (H' : Nat → Option Obj), delLs H'_2 [] ≤ H' → (∀ (b : Nat), blockOf v = some b → delLs H'_2 [] b = none) → (∀ (b : Nat) (o : Obj), H' b = some o → delLs H'_2 [] b = some o ∨ blockOf v = some b) → RowAt H' v (44 : Nat) (4 : Nat) ([Value.int IntKind.i64 n, Value.int IntKind.u32 n_2, Value.int IntKind.u32 n_3, Value.string s] :: es2) → R (Ending.returned v) H') (∀ (v : Value) (H'_2 : Nat → Option Obj), H' ≤ H'_2 → (∀ (b : Nat), blockOf v = some b → H' b = none) → (∀ (b : Nat) (o : Obj), H'_2 b = some o → H' b = some o ∨ blockOf v = some b) → RowAt H'_2 v (44 : Nat) (4 : Nat) [[Value.int IntKind.i64 n, Value.int IntKind.u32 n_2, Value.int IntKind.u32 n_3, Value.string s]] → R (Ending.returned v) H'_2))) (PtrK t fun (a : Addr) ↦ PtrK (some a) fun (a : Addr) ↦ PtrK (some (Addr.add a (1 : Nat))) fun (a : Addr) ↦ ∃ (n : Int), ∃ (n_2 : Int), ∃ (n_3 : Int), ∃ (s : ByteArray), Heap.has (delLs H'_1 []) a [Value.int IntKind.i64 n, Value.int IntKind.u32 n_2, Value.int IntKind.u32 n_3, Value.string s] ∧ Meets prog (40 : Nat) [Value.agg { toList := [Value.int IntKind.i64 n, Value.int IntKind.u32 n_2, Value.int IntKind.u32 n_3, Value.string s] }, Value.int IntKind.i64 dp] (delLs H'_1 []) fun (e : Ending) (H' : Nat → Option Obj) ↦ ∃ (n : Int), e = Ending.returned (Value.int IntKind.u32 n) ∧ Meets prog (40 : Nat) [Value.agg { toList := [Value.int IntKind.i64 (0 : Int), Value.int IntKind.u32 x0, Value.int IntKind.u32 y0, Value.string { data := #[] }] }, Value.int IntKind.i64 dp] H' fun (e : Ending) (H' : Nat → Option Obj) ↦ ∃ (n_4 : Int), e = Ending.returned (Value.int IntKind.u32 n_4) ∧ Br (decide (n_4 ≤ n)) (∃ (G : Nat → Option Obj), G ≤ H' ∧ PtrK t fun (a : Addr) ↦ PtrK (some a) fun (a : Addr) ↦ PtrK (some (Addr.add a (5 : Nat))) fun (a : Addr) ↦ ∃ (a_1 : Option Addr), Heap.has G a [Value.pointer a_1] ∧ Meets prog (27 : Nat) [Value.pointer a_1, Value.agg { toList := [Value.int IntKind.u32 x0, Value.int IntKind.u32 y0, Value.int IntKind.u32 x1, Value.int IntKind.u32 y1] }, Value.int IntKind.i64 (IntKind.wrap IntKind.i64 (dp + (1 : Int)))] H' fun (e : Ending) (H'_2 : Nat → Option Obj) ↦ Keep G H' H' H'_2 ∧ ∃ (a : Option Addr), ∃ (n_5 : Nat), ∃ (c : Nat), e = Ending.returned (Value.slice a n_5 c) ∧ ∃ (es2 : List (List Value)), SliceAt (delLs H'_2 []) (Value.slice a n_5 c) (4 : Nat) es2 ∧ List.length es2 * (32 : Nat) ≤ (140737488355328 : Nat) ∧ Meets prog (40 : Nat) [Value.agg { toList := [Value.int IntKind.i64 (0 : Int), Value.int IntKind.u32 x1, Value.int IntKind.u32 y1, Value.string { data := #[] }] }, Value.int IntKind.i64 dp] (delLs H'_2 []) fun (e : Ending) (H' : Nat → Option Obj) ↦ ∃ (n_6 : Int), e = Ending.returned (Value.int IntKind.u32 n_6) ∧ Br (decide (n_6 ≥ n)) (∃ (G : Nat → Option Obj), G ≤ H' ∧ PtrK t fun (a : Addr) ↦ PtrK (some a) fun (a : Addr) ↦ PtrK (some (Addr.add a (6 : Nat))) fun (a : Addr) ↦ ∃ (a_2 : Option Addr), Heap.has G a [Value.pointer a_2] ∧ Meets prog (27 : Nat) [Value.pointer a_2, Value.agg { toList := [Value.int IntKind.u32 x0, Value.int IntKind.u32 y0, Value.int IntKind.u32 x1, Value.int IntKind.u32 y1] }, Value.int IntKind.i64 (IntKind.wrap IntKind.i64 (dp + (1 : Int)))] H' fun (e : Ending) (H'_3 : Nat → Option Obj) ↦ Keep G H' H' H'_3 ∧ ∃ (a : Option Addr), ∃ (n : Nat), ∃ (c : Nat), e = Ending.returned (Value.slice a n c) ∧ ∃ (es2_1 : List (List Value)), SliceAt (delLs H'_3 []) (Value.slice a n c) (4 : Nat) es2_1 ∧ List.length (List.append es2 es2_1) * (32 : Nat) ≤ (140737488355328 : Nat) ∧ ∀ (v : Value) (H' : Nat → Option Obj), delLs H'_3 [] ≤ H' → (∀ (b : Nat), blockOf v = some b → delLs H'_3 [] b = none) → (∀ (b : Nat) (o : Obj), H' b = some o → delLs H'_3 [] b = some o ∨ blockOf v = some b) → RowAt H' v (44 : Nat) (4 : Nat) (List.append es2 es2_1) → R (Ending.returned v) H') (∀ (v : Value) (H'_3 : Nat → Option Obj), H' ≤ H'_3 → (∀ (b : Nat), blockOf v = some b → H' b = none) → (∀ (b : Nat) (o : Obj), H'_3 b = some o → H' b = some o ∨ blockOf v = some b) → RowAt H'_3 v (44 : Nat) (4 : Nat) es2 → R (Ending.returned v) H'_3)) (Meets prog (40 : Nat) [Value.agg { toList := [Value.int IntKind.i64 (0 : Int), Value.int IntKind.u32 x1, Value.int IntKind.u32 y1, Value.string { data := #[] }] }, Value.int IntKind.i64 dp] H' fun (e : Ending) (H' : Nat → Option Obj) ↦ ∃ (n_5 : Int), e = Ending.returned (Value.int IntKind.u32 n_5) ∧ Br (decide (n_5 ≥ n)) (∃ (G : Nat → Option Obj), G ≤ H' ∧ PtrK t fun (a : Addr) ↦ PtrK (some a) fun (a : Addr) ↦ PtrK (some (Addr.add a (6 : Nat))) fun (a : Addr) ↦ ∃ (a_1 : Option Addr), Heap.has G a [Value.pointer a_1] ∧ Meets prog (27 : Nat) [Value.pointer a_1, Value.agg { toList := [Value.int IntKind.u32 x0, Value.int IntKind.u32 y0, Value.int IntKind.u32 x1, Value.int IntKind.u32 y1] }, Value.int IntKind.i64 (IntKind.wrap IntKind.i64 (dp + (1 : Int)))] H' fun (e : Ending) (H'_2 : Nat → Option Obj) ↦ Keep G H' H' H'_2 ∧ ∃ (a : Option Addr), ∃ (n : Nat), ∃ (c : Nat), e = Ending.returned (Value.slice a n c) ∧ ∃ (es2 : List (List Value)), SliceAt (delLs H'_2 []) (Value.slice a n c) (4 : Nat) es2 ∧ List.length es2 * (32 : Nat) ≤ (140737488355328 : Nat) ∧ ∀ (v : Value) (H' : Nat → Option Obj), delLs H'_2 [] ≤ H' → (∀ (b : Nat), blockOf v = some b → delLs H'_2 [] b = none) → (∀ (b : Nat) (o : Obj), H' b = some o → delLs H'_2 [] b = some o ∨ blockOf v = some b) → RowAt H' v (44 : Nat) (4 : Nat) es2 → R (Ending.returned v) H') (R (Ending.returned (Value.slice none (0 : Nat) (0 : Nat))) H'))))
theorem vc_kgat (t : Option Addr) (x0 : Int) (y0 : Int) (x1 : Int) (y1 : Int) (dp : Int) (R : Ending → Heap → Prop) (H : Heap) : vcFun prog { } f27 [SV.c (SC.v (Value.pointer t)), SV.agg [Seg.c (SC.v (Value.int IntKind.u32 x0)), Seg.c (SC.v (Value.int IntKind.u32 y0)), Seg.c (SC.v (Value.int IntKind.u32 x1)), Seg.c (SC.v (Value.int IntKind.u32 y1))], SV.c (SC.v (Value.int IntKind.i64 dp))] R H = nf_kgat t x0 y0 x1 y1 dp R H := by kernel_rfl

def nf_kran (t : Option Addr) (x0 : Int) (y0 : Int) (x1 : Int) (y1 : Int) (R : Ending → Heap → Prop) (H : Heap) : Prop := Meets prog (27 : Nat) [Value.pointer t, Value.agg { toList := [Value.int IntKind.u32 x0, Value.int IntKind.u32 y0, Value.int IntKind.u32 x1, Value.int IntKind.u32 y1] }, Value.int IntKind.i64 (0 : Int)] H fun (e : Ending) (H' : Nat → Option Obj) ↦ ∃ (a : Option Addr), ∃ (n : Nat), ∃ (c : Nat), e = Ending.returned (Value.slice a n c) ∧ Meets prog (23 : Nat) [Value.slice a n c] H' fun (e : Ending) (H' : Nat → Option Obj) ↦ ∃ (a : Option Addr), ∃ (n : Nat), ∃ (c : Nat), e = Ending.returned (Value.slice a n c) ∧ R (Ending.returned (Value.slice a n c)) H'
theorem vc_kran (t : Option Addr) (x0 : Int) (y0 : Int) (x1 : Int) (y1 : Int) (R : Ending → Heap → Prop) (H : Heap) : vcFun prog { } f14 [SV.c (SC.v (Value.pointer t)), SV.agg [Seg.c (SC.v (Value.int IntKind.u32 x0)), Seg.c (SC.v (Value.int IntKind.u32 y0)), Seg.c (SC.v (Value.int IntKind.u32 x1)), Seg.c (SC.v (Value.int IntKind.u32 y1))]] R H = nf_kran t x0 y0 x1 y1 R H := by kernel_rfl

def nf_kvis (f : Option Addr) (t : Option Addr) (dp : Int) (R : Ending → Heap → Prop) (H : Heap) : Prop := Meets prog (25 : Nat) [Value.pointer t] H fun (e : Ending) (H' : Nat → Option Obj) ↦ ∃ (b : Bool), e = Ending.returned (Value.bool b) ∧ Br (!b) (R (Ending.returned (Value.tuple { toList := [] })) H') (PtrK f fun (a : Addr) ↦ PtrK (some a) fun (a : Addr) ↦ PtrK (some (Addr.add a (2 : Nat))) fun (a : Addr) ↦ ∃ (n : Int), Heap.has H' a [Value.int IntKind.i64 n] ∧ Br (n == (0 : Int)) (R (Ending.returned (Value.tuple { toList := [] })) H') (PtrK t fun (a : Addr) ↦ PtrK (some a) fun (a : Addr) ↦ PtrK (some (Addr.add a (1 : Nat))) fun (a : Addr) ↦ ∃ (n : Int), ∃ (n_1 : Int), ∃ (n_2 : Int), ∃ (s : ByteArray), Heap.has H' a [Value.int IntKind.i64 n, Value.int IntKind.u32 n_1, Value.int IntKind.u32 n_2, Value.string s] ∧ Meets prog (41 : Nat) [Value.pointer f, Value.agg { toList := [Value.int IntKind.i64 n, Value.int IntKind.u32 n_1, Value.int IntKind.u32 n_2, Value.string s] }] H' fun (e : Ending) (H' : Nat → Option Obj) ↦ e = Ending.returned (Value.tuple { toList := [] }) ∧ PtrK t fun (a : Addr) ↦ PtrK (some a) fun (a : Addr) ↦ PtrK (some (Addr.add a (5 : Nat))) fun (a : Addr) ↦ ∃ (a_1 : Option Addr), Heap.has H' a [Value.pointer a_1] ∧ PtrK t fun (a : Addr) ↦ PtrK (some a) fun (a : Addr) ↦ PtrK (some (Addr.add a (6 : Nat))) fun (a : Addr) ↦ ∃ (a_2 : Option Addr), Heap.has H' a [Value.pointer a_2] ∧ ∃ (G : Nat → Option Obj), G ≤ H' ∧ PtrK f fun (a : Addr) ↦ PtrK (some a) fun (a : Addr) ↦ PtrK (some (Addr.add a (0 : Nat))) fun (a : Addr) ↦ ∃ (n : Int), Heap.has G a [Value.int IntKind.u32 n] ∧ PtrK f fun (a : Addr) ↦ PtrK (some a) fun (a : Addr) ↦ PtrK (some (Addr.add a (1 : Nat))) fun (a : Addr) ↦ ∃ (n_3 : Int), Heap.has G a [Value.int IntKind.u32 n_3] ∧ PtrK t fun (a : Addr) ↦ PtrK (some a) fun (a : Addr) ↦ PtrK (some (Addr.add a (1 : Nat))) fun (a : Addr) ↦ ∃ (n_4 : Int), ∃ (n_5 : Int), ∃ (n_6 : Int), ∃ (s : ByteArray), Heap.has G a [Value.int IntKind.i64 n_4, Value.int IntKind.u32 n_5, Value.int IntKind.u32 n_6, Value.string s] ∧ Meets prog (40 : Nat) [Value.agg { toList := [Value.int IntKind.i64 (0 : Int), Value.int IntKind.u32 n, Value.int IntKind.u32 n_3, Value.string { data := #[] }] }, Value.int IntKind.i64 dp] H' fun (e : Ending) (H'_1 : Nat → Option Obj) ↦ Keep G H' H' H'_1 ∧ ∃ (n : Int), e = Ending.returned (Value.int IntKind.u32 n) ∧ Meets prog (40 : Nat) [Value.agg { toList := [Value.int IntKind.i64 n_4, Value.int IntKind.u32 n_5, Value.int IntKind.u32 n_6, Value.string s] }, Value.int IntKind.i64 dp] (delLs H'_1 []) fun (e : Ending) (H' : Nat → Option Obj) ↦ Keep G (delLs H'_1 []) (delLs H'_1 []) H' ∧ ∃ (n_7 : Int), e = Ending.returned (Value.int IntKind.u32 n_7) ∧ Br (decide (n > n_7)) (Meets prog (29 : Nat) [Value.pointer f, Value.pointer a_2, Value.int IntKind.i64 (IntKind.wrap IntKind.i64 (dp + (1 : Int)))] (delLs H' []) fun (e : Ending) (H' : Nat → Option Obj) ↦ e = Ending.returned (Value.tuple { toList := [] }) ∧ PtrK t fun (a : Addr) ↦ PtrK (some a) fun (a : Addr) ↦ PtrK (some (Addr.add a (1 : Nat))) fun (a : Addr) ↦ ∃ (n : Int), ∃ (n_8 : Int), ∃ (n_9 : Int), ∃ (s : ByteArray), Heap.has H' a [Value.int IntKind.i64 n, Value.int IntKind.u32 n_8, Value.int IntKind.u32 n_9, Value.string s] ∧ Meets prog (42 : Nat) [Value.pointer f, Value.agg { toList := [Value.int IntKind.i64 n, Value.int IntKind.u32 n_8, Value.int IntKind.u32 n_9, Value.string s] }, Value.int IntKind.i64 dp] H' fun (e : Ending) (H' : Nat → Option Obj) ↦ ∃ (b : Bool), e = Ending.returned (Value.bool b) ∧ Br (!b) (Meets prog (29 : Nat) [Value.pointer f, Value.pointer a_1, Value.int IntKind.i64 (IntKind.wrap IntKind.i64 (dp + (1 : Int)))] H' fun (e : Ending) (H' : Nat → Option Obj) ↦ e = Ending.returned (Value.tuple { toList := [] }) ∧ R (Ending.returned (Value.tuple { toList := [] })) H') (R (Ending.returned (Value.tuple { toList := [] })) H')) (Meets prog (29 : Nat) [Value.pointer f, Value.pointer a_1, Value.int IntKind.i64 (IntKind.wrap IntKind.i64 (dp + (1 : Int)))] (delLs H' []) fun (e : Ending) (H' : Nat → Option Obj) ↦ e = Ending.returned (Value.tuple { toList := [] }) ∧ PtrK t fun (a : Addr) ↦ PtrK (some a) fun (a : Addr) ↦ PtrK (some (Addr.add a (1 : Nat))) fun (a : Addr) ↦ ∃ (n : Int), ∃ (n_8 : Int), ∃ (n_9 : Int), ∃ (s : ByteArray), Heap.has H' a [Value.int IntKind.i64 n, Value.int IntKind.u32 n_8, Value.int IntKind.u32 n_9, Value.string s] ∧ Meets prog (42 : Nat) [Value.pointer f, Value.agg { toList := [Value.int IntKind.i64 n, Value.int IntKind.u32 n_8, Value.int IntKind.u32 n_9, Value.string s] }, Value.int IntKind.i64 dp] H' fun (e : Ending) (H' : Nat → Option Obj) ↦ ∃ (b : Bool), e = Ending.returned (Value.bool b) ∧ Br (!b) (Meets prog (29 : Nat) [Value.pointer f, Value.pointer a_2, Value.int IntKind.i64 (IntKind.wrap IntKind.i64 (dp + (1 : Int)))] H' fun (e : Ending) (H' : Nat → Option Obj) ↦ e = Ending.returned (Value.tuple { toList := [] }) ∧ R (Ending.returned (Value.tuple { toList := [] })) H') (R (Ending.returned (Value.tuple { toList := [] })) H'))))
theorem vc_kvis (f : Option Addr) (t : Option Addr) (dp : Int) (R : Ending → Heap → Prop) (H : Heap) : vcFun prog { } f29 [SV.c (SC.v (Value.pointer f)), SV.c (SC.v (Value.pointer t)), SV.c (SC.v (Value.int IntKind.i64 dp))] R H = nf_kvis f t dp R H := by kernel_rfl

end Cr
