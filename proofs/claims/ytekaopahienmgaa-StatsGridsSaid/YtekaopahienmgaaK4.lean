/- Stable sorting of points: the merge in place, the stable sort. -/
import Derived.Test.YtekaopahienmgaaK3
set_option linter.unusedVariables false
set_option linter.unusedSimpArgs false
namespace Cr
open Go Sx Stb
open Go.Sort (SWO)
open Go.Proofs.Try
set_option maxRecDepth 100000
section
variable {R : Ending → Heap → Prop} {H : Heap} {ty : Nat}
theorem half64 {u : Int} (h : 0 ≤ u ∧ u ≤ 4611686018427387904) : IntKind.i64.wrap (shrI .u64 (IntKind.u64.wrap (IntKind.i64.wrap u)) 1) = u / 2 := by
  rw [w64 (k := u) (by omega), IntWalk.u64_in u (by omega)]
  have : shrI .u64 u 1 = u / 2 := by
    unfold shrI
    rw [show min (Int.toNat 1) (IntKind.u64).bits = 1 by decide, show ((2 : Int) ^ 1) = 2 by decide, Int.fdiv_eq_ediv_of_nonneg _ (by decide)]
  rw [this, w64 (by omega)]
theorem get_X {A X Y B : List Pt} {k j : Nat} (hk : k < X.length) (hj : A.length + k = j) : (A ++ X ++ Y ++ B)[j]? = some X[k] := by
  subst hj
  rw [List.append_assoc, List.append_assoc, List.getElem?_append_right (by omega), Nat.add_sub_cancel_left, List.getElem?_append_left hk, List.getElem?_eq_getElem hk]
theorem get_Y {A X Y B : List Pt} {k j : Nat} (hk : k < Y.length) (hj : A.length + X.length + k = j) : (A ++ X ++ Y ++ B)[j]? = some Y[k] := by
  subst hj
  rw [List.append_assoc, List.getElem?_append_right (by simp only [List.length_append]; omega), List.length_append, Nat.add_sub_cancel_left, List.getElem?_append_left hk, List.getElem?_eq_getElem hk]
theorem drop_cons {α : Type} {l : List α} {k : Nat} (h : k < l.length) : ∃ y, l.drop k = y :: l.drop (k + 1) ∧ l.take (k + 1) = l.take k ++ [y] ∧ l[k]? = some y :=
  ⟨l[k], List.drop_eq_getElem_cons h, by rw [List.take_add_one, List.getElem?_eq_getElem h]; rfl, List.getElem?_eq_getElem h⟩
theorem s_sym {g : Nat} {cf : Pt → Pt → Int} (hc : CmpOK g cf) (hs : SWO (ltc cf)) {Ad : Addr} {n c : Nat} (hn : n ≤ 1000000) : ∀ (N : Nat) {A X Y B : List Pt} {a m b : Int} (hN : X.length + Y.length = N) (ha : (A.length : Int) = a) (hm : a + X.length = m) (hb : m + Y.length = b) (hx : 0 < X.length) (hy : 0 < Y.length)
    (sX : Srtd (ltc cf) X) (sY : Srtd (ltc cf) Y) {R : Ending → Heap → Prop} {H : Heap}
    (hrow : RowAt H (.slice (some Ad) n c) ty 4 (pts (A ++ X ++ Y ++ B))) (h : ∀ H', RowAt H' (.slice (some Ad) n c) ty 4 (pts (A ++ isort (ltc cf) (X ++ Y) ++ B)) → Mod (.slice (some Ad) n c) H H' → R (.returned (.tuple #[])) H'),
    Meets prog 134 [.slice (some Ad) n c, vi a, vi m, vi b, .func (.func g) #[] #[]] H R := by
  intro N
  induction N using Nat.strongRecOn with
  | _ N ih =>
  intro A X Y B a m b hN ha hm hb hx hy sX sY R H hrow h
  refine spec_of func134 (by kernel_rfl) (fun t h => by cases h) ?_ (vc_sym Ad n c g a m b R H) ?_
  · simp [argsR, SV.rep, SC.rep, one]
  unfold nf_sym
  simp only [true_and, delLs_nil, List.nil_append, List.append_nil]
  have hlen0 := (row_len hrow).1
  simp only [pts, List.length_map, List.length_append] at hlen0
  have hsl := row_slice hrow
  rw [w64 (k := m - a) (by omega), w64 (k := b - m) (by omega)]
  refine br (fun q => ?_) fun q => br (fun q1 => ?_) fun q1 => ?_
  · -- one on the left
    have hx1 : X.length = 1 := by simp at q; omega
    obtain ⟨x, rfl⟩ := List.length_eq_one_iff.1 hx1
    simp only [List.length_singleton] at hm hlen0 hN
    refine ⟨fun p H' => ∃ s t : Nat, p.1.1 = m + s ∧ p.1.2.1 = m + t ∧ s ≤ t ∧ t ≤ Y.length ∧ (∀ y, 0 < s → Y[s - 1]? = some y → ltc cf y x = true) ∧ (∀ y, t < Y.length → Y[t]? = some y → ltc cf y x = false) ∧ H' = H, fun p _ => (p.1.2.1 - p.1.1).toNat, ⟨0, Y.length, by simp, by simp only; omega, by omega, by omega, by omega, by omega, rfl⟩, ?_⟩
    rintro ⟨⟨i, j, _⟩, _⟩ H1 ⟨s, t, hi, hj, hst, htl, f1, f2, rfl⟩
    simp only at hi hj ⊢
    subst hi; subst hj
    refine br (fun q2 => ?_) fun q2 => ?_
    · simp only [decide_eq_true_eq] at q2
      rw [half64 (by omega)]
      obtain ⟨k, hk⟩ : ∃ k : Nat, (m + (s : Int) + (m + (t : Int))) / 2 = m + k ∧ s ≤ k ∧ k < t := ⟨(s + t) / 2, by omega, by omega, by omega⟩
      rw [hk.1, w64 (k := m + k + 1) (by omega)]
      obtain ⟨A1, e1, g1⟩ := pr_get hsl (i := (m + k).toNat) (p := Y[k]) (get_Y (by omega) (by simp only [List.length_singleton]; omega))
      obtain ⟨A2, e2, g2⟩ := pr_get hsl (i := a.toNat) (p := x) (get_X (X := [x]) (k := 0) (by simp) (by omega))
      cases e1; cases e2
      refine ⟨by decide, _, heap_refl _, ⟨by omega, by omega⟩, ptr rfl (ptr rfl ⟨_, _, _, _, g1, ⟨by omega, by omega⟩, ptr rfl (ptr rfl ⟨_, _, _, _, g2, ?_⟩)⟩)⟩
      refine hc _ _ _ _ ⟨keep_same _ _ _, _, rfl, br (fun q3 => ?_) fun q3 => ?_⟩
      · refine ⟨⟨k + 1, t, by omega, rfl, by omega, htl, fun y _ hy => ?_, f2, rfl⟩, by omega⟩
        rw [Nat.add_sub_cancel, List.getElem?_eq_getElem (by omega)] at hy
        cases hy
        exact q3
      · refine ⟨⟨s, k, rfl, rfl, by omega, by omega, f1, fun y _ hy => ?_, rfl⟩, by omega⟩
        rw [List.getElem?_eq_getElem (by omega)] at hy
        cases hy
        exact q3
    · simp only [decide_eq_false_iff_not] at q2
      have hst' : t = s := by omega
      subst hst'
      have hins : isort (ltc cf) ([x] ++ Y) = Y.take t ++ x :: Y.drop t := by
        have := ins_left hs (x := x) (Y1 := Y.take t) (Y2 := Y.drop t) (by rw [List.take_append_drop]; exact sY) (fun y hy => ?_) (fun y hy => ?_)
        · rwa [List.take_append_drop] at this
        · rcases Nat.eq_zero_or_pos t with h0 | h0
          · subst h0; simp at hy
          · rw [last_take h0 htl] at hy
            exact f1 y h0 hy
        · rw [head_drop] at hy
          have : t < Y.length := by
            rcases Nat.lt_or_ge t Y.length with h | h
            · exact h
            · rw [List.getElem?_eq_none h] at hy; cases hy
          exact f2 y this hy
      rw [w64 (k := m + t - 1) (by omega)]
      refine ⟨fun p H' => ∃ u : Nat, p.1.1 = a + u ∧ u ≤ t ∧ RowAt H' (.slice (some Ad) n c) ty 4 (pts (A ++ Y.take u ++ x :: Y.drop u ++ B)) ∧ Mod (.slice (some Ad) n c) H1 H', fun p _ => (m + t - p.1.1).toNat, ⟨0, by simp, by omega, by simpa using hrow, Mod.refl _ _⟩, ?_⟩
      rintro ⟨⟨i, _⟩, _⟩ H2 ⟨u, hi, hut, hrow2, hmod2⟩
      simp only at hi ⊢
      subst hi
      refine br (fun q3 => ?_) fun q3 => ?_
      · simp only [decide_eq_true_eq] at q3
        obtain ⟨y, hd, ht, _⟩ := drop_cons (l := Y) (k := u) (by omega)
        rw [w64 (k := a + u + 1) (by omega)]
        have hL : A ++ Y.take u ++ x :: Y.drop u ++ B = (A ++ Y.take u) ++ x :: ([] ++ y :: (Y.drop (u + 1) ++ B)) := by rw [hd]; simp
        rw [hL] at hrow2
        have hl1 : (A ++ Y.take u).length = (a + u).toNat := by rw [List.length_append, List.length_take]; omega
        have hl2 : (a + u).toNat + 1 + ([] : List Pt).length = (a + u + 1).toNat := by simp only [List.length_nil]; omega
        have hsl2 := row_slice hrow2
        obtain ⟨A1, e1, g1⟩ := pr_get hsl2 (i := (a + u).toNat) (p := x) (get_at hl1)
        obtain ⟨A2, e2, g2⟩ := pr_get hsl2 (i := (a + u + 1).toNat) (p := y) (by
          have := get_at (P := (A ++ Y.take u) ++ [x]) (Q := Y.drop (u + 1) ++ B) (x := y) (k := (a + u + 1).toNat) (by rw [List.length_append, hl1]; simp only [List.length_singleton]; omega)
          simpa using this)
        cases e1; cases e2
        obtain ⟨c1, m1, r1, d1⟩ := pr_put hrow2 (i := (a + u).toNat) (by omega) y
        obtain ⟨c2, m2, r2, d2⟩ := pr_put r1 (i := (a + u + 1).toNat) (by omega) x
        rw [set_far hl1 hl2] at r2
        refine ⟨⟨by omega, by omega⟩, ptr rfl (ptr rfl ⟨_, _, _, _, g2, ⟨by omega, by omega⟩, ptr rfl (ptr rfl ⟨_, _, _, _, g1, ⟨by omega, by omega⟩, ptr rfl (ptr rfl ⟨_, _, m1, ⟨by omega, by omega⟩, ptr rfl (ptr rfl ⟨_, _, m2, ⟨u + 1, by omega, by omega, ?_, (hmod2.trans d1).trans d2⟩, by omega⟩)⟩)⟩)⟩)⟩
        rw [ht]
        simpa using r2
      · simp only [decide_eq_false_iff_not] at q3
        have : u = t := by omega
        subst this
        refine h _ ?_ hmod2
        rw [hins]
        simpa using hrow2
  · -- one on the right
    have hy1 : Y.length = 1 := by simp at q1; omega
    obtain ⟨y, rfl⟩ := List.length_eq_one_iff.1 hy1
    simp only [List.length_singleton] at hb hlen0 hN
    refine ⟨fun p H' => ∃ s t : Nat, p.1.1 = a + s ∧ p.1.2.1 = a + t ∧ s ≤ t ∧ t ≤ X.length ∧ (∀ x, 0 < s → X[s - 1]? = some x → ltc cf y x = false) ∧ (∀ x, t < X.length → X[t]? = some x → ltc cf y x = true) ∧ H' = H, fun p _ => (p.1.2.1 - p.1.1).toNat, ⟨0, X.length, by simp, by simp only; omega, by omega, by omega, by omega, by omega, rfl⟩, ?_⟩
    rintro ⟨⟨i, j, _⟩, _⟩ H1 ⟨s, t, hi, hj, hst, htl, f1, f2, rfl⟩
    simp only at hi hj ⊢
    subst hi; subst hj
    refine br (fun q2 => ?_) fun q2 => ?_
    · simp only [decide_eq_true_eq] at q2
      rw [half64 (by omega)]
      obtain ⟨k, hk⟩ : ∃ k : Nat, (a + (s : Int) + (a + (t : Int))) / 2 = a + k ∧ s ≤ k ∧ k < t := ⟨(s + t) / 2, by omega, by omega, by omega⟩
      rw [hk.1, w64 (k := a + k + 1) (by omega)]
      obtain ⟨A1, e1, g1⟩ := pr_get hsl (i := (a + k).toNat) (p := X[k]) (get_X (by omega) (by omega))
      obtain ⟨A2, e2, g2⟩ := pr_get hsl (i := m.toNat) (p := y) (get_Y (Y := [y]) (k := 0) (by simp) (by omega))
      cases e1; cases e2
      refine ⟨by decide, _, heap_refl _, ⟨by omega, by omega⟩, ptr rfl (ptr rfl ⟨_, _, _, _, g2, ⟨by omega, by omega⟩, ptr rfl (ptr rfl ⟨_, _, _, _, g1, ?_⟩)⟩)⟩
      refine hc _ _ _ _ ⟨keep_same _ _ _, _, rfl, br (fun q3 => ?_) fun q3 => ?_⟩
      · refine ⟨⟨k + 1, t, by omega, rfl, by omega, htl, fun x _ hx => ?_, f2, rfl⟩, by omega⟩
        rw [Nat.add_sub_cancel, List.getElem?_eq_getElem (by omega)] at hx
        cases hx
        simpa [ltc] using q3
      · refine ⟨⟨s, k, rfl, rfl, by omega, by omega, f1, fun x _ hx => ?_, rfl⟩, by omega⟩
        rw [List.getElem?_eq_getElem (by omega)] at hx
        cases hx
        simpa [ltc] using q3
    · simp only [decide_eq_false_iff_not] at q2
      have hst' : t = s := by omega
      subst hst'
      have hins : isort (ltc cf) (X ++ [y]) = X.take t ++ y :: X.drop t := by
        have := ins_right hs (y := y) (X1 := X.take t) (X2 := X.drop t) (by rw [List.take_append_drop]; exact sX) (fun x hx => ?_) (fun x hx => ?_)
        · rwa [List.take_append_drop] at this
        · rcases Nat.eq_zero_or_pos t with h0 | h0
          · subst h0; simp at hx
          · rw [last_take h0 htl] at hx
            exact f1 x h0 hx
        · rw [head_drop] at hx
          have : t < X.length := by
            rcases Nat.lt_or_ge t X.length with h | h
            · exact h
            · rw [List.getElem?_eq_none h] at hx; cases hx
          exact f2 x this hx
      refine ⟨fun p H' => ∃ u : Nat, p.1.1 = a + u ∧ t ≤ u ∧ u ≤ X.length ∧ RowAt H' (.slice (some Ad) n c) ty 4 (pts (A ++ X.take u ++ y :: X.drop u ++ B)) ∧ Mod (.slice (some Ad) n c) H1 H', fun p _ => (p.1.1).toNat, ⟨X.length, by simp only; omega, by omega, by omega, by simpa using hrow, Mod.refl _ _⟩, ?_⟩
      rintro ⟨⟨i, _⟩, _⟩ H2 ⟨u, hi, hut, hul, hrow2, hmod2⟩
      simp only at hi ⊢
      subst hi
      refine br (fun q3 => ?_) fun q3 => ?_
      · simp only [decide_eq_true_eq] at q3
        obtain ⟨v, rfl⟩ : ∃ v, u = v + 1 := ⟨u - 1, by omega⟩
        obtain ⟨x, hd, ht, _⟩ := drop_cons (l := X) (k := v) (by omega)
        rw [w64 (k := a + ((v + 1 : Nat) : Int) - 1) (by omega)]
        have hL : A ++ X.take (v + 1) ++ y :: X.drop (v + 1) ++ B = (A ++ X.take v) ++ x :: y :: (X.drop (v + 1) ++ B) := by rw [ht]; simp
        rw [hL] at hrow2
        have hl1 : (A ++ X.take v).length = (a + ((v + 1 : Nat) : Int) - 1).toNat := by rw [List.length_append, List.length_take]; omega
        have hk : (a + ((v + 1 : Nat) : Int)).toNat = (a + ((v + 1 : Nat) : Int) - 1).toNat + 1 := by omega
        rw [hk]
        have hsl2 := row_slice hrow2
        obtain ⟨A1, e1, g1⟩ := pr_get hsl2 (i := (a + ((v + 1 : Nat) : Int) - 1).toNat) (p := x) (get_at hl1)
        obtain ⟨A2, e2, g2⟩ := pr_get hsl2 (i := (a + ((v + 1 : Nat) : Int) - 1).toNat + 1) (p := y) (by
          have := get_at (P := (A ++ X.take v) ++ [x]) (Q := X.drop (v + 1) ++ B) (x := y) (k := (a + ((v + 1 : Nat) : Int) - 1).toNat + 1) (by rw [List.length_append, hl1]; simp only [List.length_singleton])
          simpa using this)
        cases e1; cases e2
        obtain ⟨c1, m1, r1, d1⟩ := pr_put hrow2 (i := (a + ((v + 1 : Nat) : Int) - 1).toNat + 1) (by omega) x
        obtain ⟨c2, m2, r2, d2⟩ := pr_put r1 (i := (a + ((v + 1 : Nat) : Int) - 1).toNat) (by omega) y
        rw [set_two hl1] at r2
        refine ⟨⟨by omega, by omega⟩, ptr rfl (ptr rfl ⟨_, _, _, _, g1, ⟨by omega, by omega⟩, ptr rfl (ptr rfl ⟨_, _, _, _, g2, ⟨by omega, by omega⟩, ptr rfl (ptr rfl ⟨_, _, m1, ⟨by omega, by omega⟩, ptr rfl (ptr rfl ⟨_, _, m2, ⟨v, by omega, by omega, by omega, ?_, (hmod2.trans d1).trans d2⟩, by omega⟩)⟩)⟩)⟩)⟩
        rw [hd]
        simpa using r2
      · simp only [decide_eq_false_iff_not] at q3
        have : u = t := by omega
        subst this
        refine h _ ?_ hmod2
        rw [hins]
        simpa using hrow2
  · -- both longer
    have hx2 : 2 ≤ X.length := by simp at q; omega
    have hy2 : 2 ≤ Y.length := by simp at q1; omega
    rw [half64 (u := a + b) (by omega)]
    generalize hmid : (a + b) / 2 = mid
    have hmb : a + 2 ≤ mid ∧ mid + 2 ≤ b := by omega
    rw [w64 (k := mid + m) (by omega), w64 (k := mid + m - b) (by omega), w64 (k := mid + m - 1) (by omega)]
    refine ⟨by decide, fun p H' => H' = H ∧ ((m > mid ∧ p.1.1 = mid + m - b ∧ p.1.2.1 = mid) ∨ (m ≤ mid ∧ p.1.1 = a ∧ p.1.2.1 = m)), br (fun q2 => ?_) fun q2 => ?_, ?_⟩
    · simp only [decide_eq_true_eq] at q2
      exact ⟨rfl, .inl ⟨q2, rfl, rfl⟩⟩
    · simp only [decide_eq_false_iff_not] at q2
      exact ⟨rfl, .inr ⟨by omega, rfl, rfl⟩⟩
    rintro ⟨⟨st0, r0, _⟩, _⟩ H1 ⟨rfl, hsr⟩
    simp only at hsr ⊢
    have hsr' : a ≤ st0 ∧ st0 ≤ r0 ∧ r0 ≤ m ∧ r0 ≤ mid ∧ mid + m - st0 ≤ b ∧ (a < st0 → mid + m - st0 = b) ∧ (r0 < m → r0 = mid) := by omega
    refine ⟨fun p H' => ∃ s t : Nat, p.1.1 = a + s ∧ p.1.2.1 = a + t ∧ s ≤ t ∧ st0 ≤ a + s ∧ a + t ≤ r0 ∧ (∀ x y, st0 < a + s → X[s - 1]? = some x → Y[(mid - a - s).toNat]? = some y → ltc cf y x = false) ∧ (∀ x y, a + t < r0 → X[t]? = some x → Y[(mid - a - t - 1).toNat]? = some y → ltc cf y x = true) ∧ H' = H1, fun p _ => (p.1.2.1 - p.1.1).toNat, ⟨(st0 - a).toNat, (r0 - a).toNat, by simp only; omega, by simp only; omega, by omega, by omega, by omega, by omega, by omega, rfl⟩, ?_⟩
    rintro ⟨⟨i, j, _⟩, _⟩ H2 ⟨s, t, hi, hj, hst, hs0, ht0, f1, f2, rfl⟩
    simp only at hi hj ⊢
    subst hi; subst hj
    refine br (fun q2 => ?_) fun q2 => ?_
    · simp only [decide_eq_true_eq] at q2
      rw [half64 (by omega)]
      obtain ⟨k, hk⟩ : ∃ k : Nat, (a + (s : Int) + (a + (t : Int))) / 2 = a + k ∧ s ≤ k ∧ k < t := ⟨(s + t) / 2, by omega, by omega, by omega⟩
      rw [hk.1, w64 (k := a + k + 1) (by omega), w64 (k := mid + m - 1 - (a + k)) (by omega)]
      have hkx : k < X.length := by omega
      have hky : (mid - a - k - 1).toNat < Y.length := by omega
      obtain ⟨A1, e1, g1⟩ := pr_get hsl (i := (a + k).toNat) (p := X[k]) (get_X hkx (by omega))
      obtain ⟨A2, e2, g2⟩ := pr_get hsl (i := (mid + m - 1 - (a + k)).toNat) (p := Y[(mid - a - k - 1).toNat]) (get_Y hky (by omega))
      cases e1; cases e2
      refine ⟨by decide, _, heap_refl _, ⟨by omega, by omega⟩, ptr rfl (ptr rfl ⟨_, _, _, _, g2, ⟨by omega, by omega⟩, ptr rfl (ptr rfl ⟨_, _, _, _, g1, ?_⟩)⟩)⟩
      refine hc _ _ _ _ ⟨keep_same _ _ _, _, rfl, br (fun q3 => ?_) fun q3 => ?_⟩
      · refine ⟨⟨k + 1, t, by omega, rfl, by omega, by omega, ht0, fun x y _ hx hy => ?_, f2, rfl⟩, by omega⟩
        rw [Nat.add_sub_cancel, List.getElem?_eq_getElem hkx] at hx
        rw [show (mid - a - ((k + 1 : Nat) : Int)).toNat = (mid - a - k - 1).toNat by omega, List.getElem?_eq_getElem hky] at hy
        cases hx; cases hy
        simpa [ltc] using q3
      · refine ⟨⟨s, k, rfl, rfl, by omega, hs0, by omega, f1, fun x y _ hx hy => ?_, rfl⟩, by omega⟩
        rw [List.getElem?_eq_getElem hkx] at hx
        rw [List.getElem?_eq_getElem hky] at hy
        cases hx; cases hy
        simpa [ltc] using q3
    · simp only [decide_eq_false_iff_not] at q2
      have hst' : t = s := by omega
      subst hst'
      -- the four parts
      obtain ⟨d, hd⟩ : ∃ d : Nat, mid = a + t + d := ⟨(mid - a - t).toNat, by omega⟩
      have hXs : X.take t ++ X.drop t = X := List.take_append_drop ..
      have hYs : Y.take d ++ Y.drop d = Y := List.take_append_drop ..
      have lX1 : (X.take t).length = t := by rw [List.length_take]; omega
      have lX2 : (X.drop t).length = X.length - t := by simp
      have lY1 : (Y.take d).length = d := by rw [List.length_take]; omega
      have lY2 : (Y.drop d).length = Y.length - d := by simp
      have hfin : isort (ltc cf) (X.take t ++ Y.take d) ++ isort (ltc cf) (X.drop t ++ Y.drop d) = isort (ltc cf) (X ++ Y) := by
        have hb1 := borders hs (X1 := X.take t) (X2 := X.drop t) (Y1 := Y.take d) (Y2 := Y.drop d) (by rw [hXs]; exact sX) (by rw [hYs]; exact sY) (fun x y hx hy => ?_) (fun x y hx hy => ?_)
        · have := merge_halves hs (X1 := X.take t) (X2 := X.drop t) (Y1 := Y.take d) (Y2 := Y.drop d) (by rw [hXs]; exact sX) (by rw [hYs]; exact sY) hb1.1 hb1.2
          rwa [hXs, hYs] at this
        · rw [head_drop] at hy
          have h3 : d < Y.length := by
            rcases Nat.lt_or_ge d Y.length with h | h
            · exact h
            · rw [List.getElem?_eq_none h] at hy; cases hy
          have h4 : 0 < t := by
            rcases Nat.eq_zero_or_pos t with h0 | h0
            · subst h0; simp at hx
            · exact h0
          rw [last_take h4 (by omega)] at hx
          refine f1 x y (by omega) hx ?_
          rw [show (mid - a - (t : Int)).toNat = d by omega]; exact hy
        · rw [head_drop] at hx
          have h3 : t < X.length := by
            rcases Nat.lt_or_ge t X.length with h | h
            · exact h
            · rw [List.getElem?_eq_none h] at hx; cases hx
          have h4 : 0 < d := by
            rcases Nat.eq_zero_or_pos d with h0 | h0
            · subst h0; simp at hy
            · exact h0
          rw [last_take h4 (by omega)] at hy
          refine f2 x y (by omega) hx ?_
          rw [show (mid - a - (t : Int) - 1).toNat = d - 1 by omega]; exact hy
      rw [← hXs] at sX
      rw [← hYs] at sY
      have pX := List.pairwise_append.1 sX
      have pY := List.pairwise_append.1 sY
      rw [← hXs, ← hYs] at hrow
      rw [hfin.symm] at h
      generalize X.take t = X1 at *
      generalize X.drop t = X2 at *
      generalize Y.take d = Y1 at *
      generalize Y.drop d = Y2 at *
      rw [w64 (k := mid + m - (a + t)) (by omega)]
      have hend : mid + m - (a + (t : Int)) = m + d := by omega
      rw [hend]
      refine ⟨fun _ H' => RowAt H' (.slice (some Ad) n c) ty 4 (pts (A ++ (X1 ++ Y1) ++ (X2 ++ Y2) ++ B)) ∧ Mod (.slice (some Ad) n c) H2 H', ?_, ?_⟩
      · refine br (fun q3 => br (fun q4 => ?_) fun q4 => ?_) fun q3 => ?_
        · simp only [decide_eq_true_eq] at q3 q4
          refine s_rot (ty := ty) (A := A ++ X1) (X := X2) (Y := Y1) (B := Y2 ++ B) (by simp; omega) (by omega) (by omega) (by simpa using hrow) (by omega) (by omega) hn fun H3 hr hmd => ⟨rfl, by simpa using hr, hmd⟩
        · simp only [decide_eq_false_iff_not] at q4
          have : Y1 = [] := List.length_eq_zero_iff.1 (by omega)
          subst this
          exact ⟨by simpa using hrow, Mod.refl _ _⟩
        · simp only [decide_eq_false_iff_not] at q3
          have : X2 = [] := List.length_eq_zero_iff.1 (by omega)
          subst this
          exact ⟨by simpa using hrow, Mod.refl _ _⟩
      rintro _ H3 ⟨hrow3, hmod3⟩
      refine ⟨fun _ H' => RowAt H' (.slice (some Ad) n c) ty 4 (pts (A ++ isort (ltc cf) (X1 ++ Y1) ++ (X2 ++ Y2) ++ B)) ∧ Mod (.slice (some Ad) n c) H2 H', ?_, ?_⟩
      · refine br (fun q3 => br (fun q4 => ?_) fun q4 => ?_) fun q3 => ?_
        · simp only [decide_eq_true_eq] at q3 q4
          refine ih (X1.length + Y1.length) (by omega) (A := A) (X := X1) (Y := Y1) (B := X2 ++ Y2 ++ B) rfl ha (by omega) (by omega) (by omega) (by omega) pX.1 pY.1 (by simpa using hrow3) fun H4 hr hmd => ⟨rfl, by simpa using hr, hmod3.trans hmd⟩
        · simp only [decide_eq_false_iff_not] at q4
          have : Y1 = [] := List.length_eq_zero_iff.1 (by omega)
          subst this
          rw [List.append_nil, isort_id hs pX.1]
          exact ⟨by simpa using hrow3, hmod3⟩
        · simp only [decide_eq_false_iff_not] at q3
          have : X1 = [] := List.length_eq_zero_iff.1 (by omega)
          subst this
          rw [List.nil_append, isort_id hs pY.1]
          exact ⟨by simpa using hrow3, hmod3⟩
      rintro _ H4 ⟨hrow4, hmod4⟩
      have hl4 : (isort (ltc cf) (X1 ++ Y1)).length = X1.length + Y1.length := by rw [isort_len, List.length_append]
      refine br (fun q3 => br (fun q4 => ?_) fun q4 => ?_) fun q3 => ?_
      · simp only [decide_eq_true_eq] at q3 q4
        refine ih (X2.length + Y2.length) (by omega) (A := A ++ isort (ltc cf) (X1 ++ Y1)) (X := X2) (Y := Y2) (B := B) rfl (by rw [List.length_append, hl4]; omega) (by omega) (by omega) (by omega) (by omega) pX.2.1 pY.2.1 (by simpa using hrow4) fun H5 hr hmd => ⟨rfl, h _ (by simpa using hr) (hmod4.trans hmd)⟩
      · simp only [decide_eq_false_iff_not] at q4
        have : Y2 = [] := List.length_eq_zero_iff.1 (by omega)
        subst this
        rw [List.append_nil] at hrow4 h
        rw [isort_id hs pX.2.1] at h
        exact h _ (by simpa using hrow4) hmod4
      · simp only [decide_eq_false_iff_not] at q3
        have : X2 = [] := List.length_eq_zero_iff.1 (by omega)
        subst this
        rw [List.nil_append] at hrow4 h
        rw [isort_id hs pY.2.1] at h
        exact h _ (by simpa using hrow4) hmod4
theorem flat_len {α : Type} {k : Nat} : ∀ {Ls : List (List α)}, (∀ l ∈ Ls, l.length = k) → Ls.flatten.length = Ls.length * k
  | [], _ => by simp
  | l :: Ls, h => by
    rw [List.flatten_cons, List.length_append, flat_len (fun l hl => h l (List.mem_cons_of_mem _ hl)), h l (List.mem_cons_self ..), List.length_cons, Nat.add_mul, Nat.one_mul, Nat.add_comm]
/-- Sorted blocks of one length, and a shorter rest. -/
structure Blk (lt : Pt → Pt → Bool) (k : Nat) (Ls : List (List Pt)) : Prop where
  len : ∀ l ∈ Ls, l.length = k
  srt : ∀ l ∈ Ls, Srtd lt l
theorem Blk.nil (lt : Pt → Pt → Bool) (k : Nat) : Blk lt k [] := ⟨by simp, by simp⟩
theorem Blk.snoc {lt : Pt → Pt → Bool} {k : Nat} {Ls : List (List Pt)} (h : Blk lt k Ls) {l : List Pt} (h1 : l.length = k) (h2 : Srtd lt l) : Blk lt k (Ls ++ [l]) :=
  ⟨fun x hx => (List.mem_append.1 hx).elim (h.len x) fun hx => by simp at hx; subst hx; exact h1, fun x hx => (List.mem_append.1 hx).elim (h.srt x) fun hx => by simp at hx; subst hx; exact h2⟩
theorem Blk.tail {lt : Pt → Pt → Bool} {k : Nat} {l : List Pt} {Ls : List (List Pt)} (h : Blk lt k (l :: Ls)) : l.length = k ∧ Srtd lt l ∧ Blk lt k Ls :=
  ⟨h.len l (List.mem_cons_self ..), h.srt l (List.mem_cons_self ..), fun x hx => h.len x (List.mem_cons_of_mem _ hx), fun x hx => h.srt x (List.mem_cons_of_mem _ hx)⟩
theorem stab_mid {lt : Pt → Pt → Bool} (hs : SWO lt) {L A X B : List Pt} (h : Stab lt L (A ++ X ++ B)) : Stab lt L (A ++ isort lt X ++ B) :=
  h.trans (Stab.app (Stab.app (Stab.refl A) (isort_stab hs X)) (Stab.refl B))
theorem s_stb {g : Nat} {cf : Pt → Pt → Int} (hc : CmpOK g cf) (hs : SWO (ltc cf)) {Ad : Addr} {n c : Nat} (hn : n ≤ 1000000) {L : List Pt} {m : Int} (hm : (L.length : Int) = m) {R : Ending → Heap → Prop} {H : Heap}
    (hrow : RowAt H (.slice (some Ad) n c) ty 4 (pts L)) (h : ∀ H', RowAt H' (.slice (some Ad) n c) ty 4 (pts (isort (ltc cf) L)) → Mod (.slice (some Ad) n c) H H' → R (.returned (.tuple #[])) H') :
    Meets prog 124 [.slice (some Ad) n c, vi m, .func (.func g) #[] #[]] H R := by
  refine spec_of func124 (by kernel_rfl) (fun t h => by cases h) ?_ (vc_stb Ad n c g m R H) ?_
  · simp [argsR, SV.rep, SC.rep, one]
  unfold nf_stb
  simp only [true_and, delLs_nil, List.nil_append, List.append_nil]
  have hlen0 := (row_len hrow).1
  simp only [pts, List.length_map] at hlen0
  refine ⟨fun p H' => ∃ (Ls : List (List Pt)) (T : List Pt), p.1.1 = Ls.flatten.length ∧ p.1.2.1 = Ls.flatten.length + 20 ∧ Blk (ltc cf) 20 Ls ∧ Stab (ltc cf) L (Ls.flatten ++ T) ∧ RowAt H' (.slice (some Ad) n c) ty 4 (pts (Ls.flatten ++ T)) ∧ Mod (.slice (some Ad) n c) H H', fun p _ => (m + 40 - p.1.2.1).toNat, ⟨[], L, by simp, by simp, Blk.nil .., Stab.refl _, hrow, Mod.refl _ _⟩, ?_⟩
  rintro ⟨⟨i, j, _⟩, _⟩ H1 ⟨Ls, T, hi, hj, hB, hS, hrow1, hmod1⟩
  simp only at hi hj ⊢
  subst hi; subst hj
  have hl1 := hS.len hs
  rw [List.length_append] at hl1
  refine br (fun q => ?_) fun q => ?_
  · simp only [decide_eq_true_eq] at q
    have e : T.take 20 ++ T.drop 20 = T := List.take_append_drop ..
    have l1 : (T.take 20).length = 20 := by rw [List.length_take]; omega
    have e2 : Ls.flatten ++ T = Ls.flatten ++ T.take 20 ++ T.drop 20 := by rw [List.append_assoc, e]
    rw [e2] at hS hrow1
    refine s_ins hc hs (A := Ls.flatten) (X := T.take 20) (B := T.drop 20) rfl (by omega) hrow1 hn fun H2 hr hmd => ⟨rfl, ⟨Ls ++ [isort (ltc cf) (T.take 20)], T.drop 20, ?_, ?_, hB.snoc (by rw [isort_len, l1]) (isort_srtd hs _), ?_, ?_, hmod1.trans hmd⟩, ?_⟩
    · simp only [List.flatten_append, List.flatten_cons, List.flatten_nil, List.append_nil, List.length_append, isort_len, l1]; omega
    · simp only [List.flatten_append, List.flatten_cons, List.flatten_nil, List.append_nil, List.length_append, isort_len, l1]; rw [w64 (by omega)]; omega
    · have := stab_mid hs hS; simpa using this
    · simpa using hr
    · rw [w64 (by omega)]; omega
  · simp only [decide_eq_false_iff_not] at q
    have e2 : Ls.flatten ++ T = Ls.flatten ++ T ++ [] := by simp
    rw [e2] at hrow1
    refine s_ins hc hs (A := Ls.flatten) (X := T) (B := []) rfl (by omega) hrow1 hn fun H2 hr hmd => ⟨rfl, ?_⟩
    refine ⟨fun p H' => ∃ (k : Nat) (Ls : List (List Pt)) (T : List Pt), p.1.1 = k ∧ 20 ≤ k ∧ k ≤ 2000000 ∧ Blk (ltc cf) k Ls ∧ T.length < k ∧ Srtd (ltc cf) T ∧ Stab (ltc cf) L (Ls.flatten ++ T) ∧ RowAt H' (.slice (some Ad) n c) ty 4 (pts (Ls.flatten ++ T)) ∧ Mod (.slice (some Ad) n c) H H', fun p _ => (4000000 - p.1.1).toNat, ⟨20, Ls, isort (ltc cf) T, rfl, by omega, by omega, hB, by rw [isort_len]; omega, isort_srtd hs _, ?_, by simpa using hr, hmod1.trans hmd⟩, ?_⟩
    · have := stab_mid hs (A := Ls.flatten) (X := T) (B := []) (by simpa using hS); simpa using this
    clear hr hmd hmod1 hrow1 e2 q hl1 hS hB
    rintro ⟨⟨i, _⟩, _⟩ H3 ⟨k, Ls, T, hi, hk, hk2, hB, hT, sT, hS, hrow1, hmod1⟩
    simp only at hi ⊢
    subst hi
    have hl1 := hS.len hs
    rw [List.length_append] at hl1
    have hfl := flat_len hB.len
    refine br (fun q => ?_) fun q => ?_
    · simp only [decide_eq_true_eq] at q
      rw [w64 (k := 2 * (k : Int)) (by omega), w64 (k := (k : Int) * 2) (by omega)]
      refine ⟨fun p H' => ∃ (Ms Ls : List (List Pt)), p.1.1 = Ms.flatten.length ∧ p.1.2.1 = Ms.flatten.length + 2 * k ∧ Blk (ltc cf) (k * 2) Ms ∧ Blk (ltc cf) k Ls ∧ Stab (ltc cf) L (Ms.flatten ++ Ls.flatten ++ T) ∧ RowAt H' (.slice (some Ad) n c) ty 4 (pts (Ms.flatten ++ Ls.flatten ++ T)) ∧ Mod (.slice (some Ad) n c) H H', fun p _ => (m + 2 * k + 2 * k - p.1.2.1).toNat, ⟨[], Ls, by simp, by simp, Blk.nil .., hB, by simpa using hS, by simpa using hrow1, hmod1⟩, ?_⟩
      clear hB hS hrow1 hmod1 hl1 hfl
      rintro ⟨⟨i, j, _⟩, _⟩ H4 ⟨Ms, Ls, hi, hj, hM, hB, hS, hrow1, hmod1⟩
      simp only at hi hj ⊢
      subst hi; subst hj
      have hl1 := hS.len hs
      rw [List.length_append, List.length_append] at hl1
      have hfl := flat_len hB.len
      rw [w64 (k := (Ms.flatten.length : Int) + k) (by omega)]
      refine br (fun q1 => ?_) fun q1 => br (fun q2 => ?_) fun q2 => ?_
      · simp only [decide_eq_true_eq] at q1
        match Ls, hB, hS, hrow1, hl1, hfl with
        | [], _, _, _, hl1, _ => rw [List.flatten_nil, List.length_nil] at hl1; omega
        | [X], _, _, _, hl1, hfl => rw [hfl] at hl1; simp only [List.length_singleton] at hl1; omega
        | X :: Y :: Ls, hB, hS, hrow1, hl1, hfl =>
          obtain ⟨lX, sX, hB⟩ := hB.tail
          obtain ⟨lY, sY, hB⟩ := hB.tail
          have e : Ms.flatten ++ (X :: Y :: Ls).flatten ++ T = Ms.flatten ++ (X ++ Y) ++ (Ls.flatten ++ T) := by simp
          rw [e] at hS hrow1
          refine s_sym hc hs hn _ (A := Ms.flatten) (X := X) (Y := Y) (B := Ls.flatten ++ T) rfl rfl (by omega) (by omega) (by omega) (by omega) sX sY (by simpa using hrow1) fun H5 hr hmd => ⟨rfl, ⟨Ms ++ [isort (ltc cf) (X ++ Y)], Ls, ?_, ?_, hM.snoc (by rw [isort_len, List.length_append]; omega) (isort_srtd hs _), hB, ?_, ?_, hmod1.trans hmd⟩, ?_⟩
          · simp only [List.flatten_append, List.flatten_cons, List.flatten_nil, List.append_nil, List.length_append, isort_len, lX, lY]; omega
          · simp only [List.flatten_append, List.flatten_cons, List.flatten_nil, List.append_nil, List.length_append, isort_len, lX, lY]; rw [w64 (by omega)]; omega
          · have := stab_mid hs hS; simpa using this
          · simpa using hr
          · rw [w64 (by omega)]; omega
      · simp only [decide_eq_false_iff_not, decide_eq_true_eq] at q1 q2
        match Ls, hB, hS, hrow1, hl1, hfl with
        | [], _, _, _, hl1, _ => rw [List.flatten_nil, List.length_nil] at hl1; omega
        | X :: Y :: Ls, _, _, _, hl1, hfl =>
          rw [hfl, List.length_cons, List.length_cons, Nat.add_mul, Nat.add_mul] at hl1; omega
        | [X], hB, hS, hrow1, hl1, hfl =>
          obtain ⟨lX, sX, hB⟩ := hB.tail
          have e : Ms.flatten ++ [X].flatten ++ T = Ms.flatten ++ (X ++ T) ++ [] := by simp
          rw [e] at hS hrow1
          rw [hfl] at hl1
          simp only [List.length_singleton] at hl1
          refine s_sym hc hs hn _ (A := Ms.flatten) (X := X) (Y := T) (B := []) rfl rfl (by omega) (by omega) (by omega) (by omega) sX sT (by simpa using hrow1) fun H5 hr hmd => ⟨rfl, ⟨k * 2, Ms, isort (ltc cf) (X ++ T), by omega, by omega, by omega, hM, by rw [isort_len, List.length_append]; omega, isort_srtd hs _, ?_, by simpa using hr, hmod1.trans hmd⟩, by omega⟩
          have := stab_mid hs hS; simpa using this
      · simp only [decide_eq_false_iff_not] at q1 q2
        match Ls, hB, hS, hrow1, hl1, hfl with
        | [], hB, hS, hrow1, _, _ =>
          exact ⟨⟨k * 2, Ms, T, by omega, by omega, by omega, hM, by omega, sT, by simpa using hS, by simpa using hrow1, hmod1⟩, by omega⟩
        | X :: Y :: Ls, _, _, _, hl1, hfl =>
          rw [hfl, List.length_cons, List.length_cons, Nat.add_mul, Nat.add_mul] at hl1; omega
        | [X], hB, hS, hrow1, hl1, hfl =>
          obtain ⟨lX, sX, hB⟩ := hB.tail
          rw [hfl] at hl1
          simp only [List.length_singleton] at hl1
          have : T = [] := List.length_eq_zero_iff.1 (by omega)
          subst this
          exact ⟨⟨k * 2, Ms, X, by omega, by omega, by omega, hM, by omega, sX, by simpa using hS, by simpa using hrow1, hmod1⟩, by omega⟩
    · simp only [decide_eq_false_iff_not] at q
      have hfin : Ls.flatten ++ T = isort (ltc cf) L := by
        refine isort_eq hs ?_ hS
        match Ls, hB, hl1, hfl with
        | [], _, _, _ => simpa using sT
        | X :: Y :: Ls, _, hl1, hfl => rw [hfl, List.length_cons, List.length_cons, Nat.add_mul, Nat.add_mul] at hl1; omega
        | [X], hB, hl1, hfl =>
          obtain ⟨lX, sX, hB⟩ := hB.tail
          rw [hfl] at hl1
          simp only [List.length_singleton] at hl1
          have : T = [] := List.length_eq_zero_iff.1 (by omega)
          subst this
          simpa using sX
      rw [hfin] at hrow1
      exact h _ hrow1 hmod1
end
end Cr
