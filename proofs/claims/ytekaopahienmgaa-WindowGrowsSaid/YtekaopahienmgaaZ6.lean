/- Own texts, one behind the other: V4, V5, V6, V7, W3, V8, S5, V9. -/
import Derived.Deep.Slices
import Derived.Test.YtekaopahienmgaaRows
import Derived.Test.YtekaopahienmgaaZ5
set_option linter.unusedVariables false
set_option linter.unusedSimpArgs false
namespace Cr
open Go Sx Stb Bt
open Go.Proofs.Try
set_option maxRecDepth 100000
/-- How many nodes are looked at. -/
def visF (q : Rc) : Nat → List Pt → Int → Int → Nat
  | 0, L, x, y => nch L.length
  | h + 1, L, x, y => if L.length ≤ 4 then 1 else if withB (h + 1) x y q = true then 1 else
      1 + ((List.range 4).map fun u : Nat => if quarter h u L ≠ [] ∧ meetB h (x + ((u % 2 : Nat) : Int) * 2 ^ h) (y + ((u / 2 : Nat) : Int) * 2 ^ h) q = true then visF q h (quarter h u L) (x + ((u % 2 : Nat) : Int) * 2 ^ h) (y + ((u / 2 : Nat) : Int) * 2 ^ h) else 0).sum
def VFs (q : Rc) (h : Nat) (L : List Pt) (x y : Int) (k : Nat) : Nat := ((List.range k).map fun u : Nat => if quarter h u L ≠ [] ∧ meetB h (x + ((u % 2 : Nat) : Int) * 2 ^ h) (y + ((u / 2 : Nat) : Int) * 2 ^ h) q = true then visF q h (quarter h u L) (x + ((u % 2 : Nat) : Int) * 2 ^ h) (y + ((u / 2 : Nat) : Int) * 2 ^ h) else 0).sum
theorem VFs_succ (q : Rc) (h : Nat) (L : List Pt) (x y : Int) (u : Nat) : VFs q h L x y (u + 1) = VFs q h L x y u + if quarter h u L ≠ [] ∧ meetB h (x + ((u % 2 : Nat) : Int) * 2 ^ h) (y + ((u / 2 : Nat) : Int) * 2 ^ h) q = true then visF q h (quarter h u L) (x + ((u % 2 : Nat) : Int) * 2 ^ h) (y + ((u / 2 : Nat) : Int) * 2 ^ h) else 0 := by
  unfold VFs
  rw [List.range_succ, List.map_append, List.sum_append]
  simp only [List.map_cons, List.map_nil, List.sum_cons, List.sum_nil, Nat.add_zero]
section
variable {R : Ending → Heap → Prop} {H : Heap} {G : Heap} {g : Addr} {q : Rc} {b r : Nat} {C : Lk}
theorem s_wcnt_not {r0 : Nat} {m : M} {id x y lv : Int} (hC : LkAt G g q b r C H) (hg : GroveAt G g r0 m) (hD : Dom m) (hn : m id = none ∨ C.met id = true) (k : ∀ H', LkAt G g q b r C H' → R (.returned unitV) H') :
    Meets prog 70 [.pointer (some ⟨b, 0, none⟩), vi id, ceV x y lv] H R := by
  refine spec_of func70 (by kernel_rfl) (fun t h => by cases h) ?_ (vc_wcnt ⟨b, 0, none⟩ id x y lv R H) ?_
  · simp [argsR, SV.rep, SegsRep, SC.rep, one]
  unfold nf_wcnt
  refine s_wget hC hg hD (fun _ v H' hv hC' => ?_) fun d hd hm => ?_
  · obtain ⟨a, n, c, rfl, _, hk, hc⟩ := hv
    exact ⟨_, a, n, c, _, _, hk, _, hc, _, rfl, br (fun _ => k _ hC') fun q => by cases q⟩
  · rcases hn with h | h
    · rw [h] at hd; cases hd
    · rw [h] at hm; cases hm
theorem s_wleaf {v : Value} {d : Nd} {x y lv : Int} (hv : NdAt G v d) (hC : LkAt G g q b r C H) (hn0 : 0 ≤ C.n) (hn : C.n + d.pts.length ≤ 1000000)
    (k : ∀ H', LkAt G g q b r ⟨C.met, C.out, C.n + ((d.pts.filter (hasP q)).length : Int)⟩ H' → Meets prog 70 [.pointer (some ⟨b, 0, none⟩), vi d.next, ceV x y lv] H' fun e H'' => e = .returned unitV ∧ R (.returned unitV) H'') :
    Meets prog 104 [.pointer (some ⟨b, 0, none⟩), v, ceV x y lv] H R := by
  obtain ⟨a, n, c, rfl, hs, hk, hc⟩ := hv
  have hln : d.pts.length = n := by simpa [pts] using (slice_len hs).1
  refine spec_of func104 (by kernel_rfl) (fun t h => by cases h) ?_ (vc_wleaf ⟨b, 0, none⟩ d.leaf a n c d.next d.kids d.counts x y lv R H) ?_
  · simp [argsR, SV.rep, SegsRep, SC.rep, one, hk, hc]
  unfold nf_wleaf
  simp only [true_and, delLs_nil]
  refine ⟨fun p H' => ∃ t : Nat, p.1.1 = (t : Int) ∧ t ≤ n ∧ LkAt G g q b r ⟨C.met, C.out, C.n + (((d.pts.take t).filter (hasP q)).length : Int)⟩ H', fun p _ => (n - p.1.1).toNat, ⟨0, rfl, by omega, by simpa using hC⟩, ?_⟩
  rintro ⟨⟨i, _⟩, _⟩ H2 ⟨t, hi, ht, hC2⟩
  simp only at hi ⊢
  subst hi
  refine br (fun q2 => ?_) fun q2 => ?_
  · simp only [decide_eq_true_eq] at q2
    obtain ⟨p, _, htk, hpx⟩ := drop_cons (l := d.pts) (k := t) (by omega)
    obtain ⟨A, e, gp⟩ := pr_get (slice_le hs hC2.1) hpx
    subst e
    have hfl : ((d.pts.take t).filter (hasP q)).length ≤ d.pts.length := Nat.le_trans (List.length_filter_le _ _) (by simp; omega)
    have hfs := filter_snoc (f := hasP q) htk
    rw [Int.toNat_natCast, w64 (by omega)]
    refine ⟨⟨by omega, by omega⟩, ptr rfl (ptr rfl ⟨_, _, _, _, gp, _, heap_refl _, ptr rfl (ptr rfl (ptr rfl ⟨_, _, _, _, hC2.rect, s_rhas ⟨keep_same _ _ _, _, rfl, br (fun q3 => ?_) fun q3 => ?_⟩⟩))⟩)⟩
    · have q3 : hasP q p = true := q3
      rw [if_pos q3] at hfs
      obtain ⟨w1, c9, ty9, w2, w3⟩ := hC2.more (IntKind.i64.wrap (C.n + (((d.pts.take t).filter (hasP q)).length : Int) + 1))
      refine ptr rfl (ptr rfl (ptr rfl ⟨_, w1, ptr rfl (ptr rfl (ptr rfl ⟨c9, ty9, w2, ⟨t + 1, by omega, by omega, ?_⟩, by omega⟩))⟩))
      rw [hfs, List.length_append, List.length_singleton]
      rw [w64 (by omega)] at w3
      have e9 : C.n + (((List.filter (hasP q) (List.take t d.pts)).length + 1 : Nat) : Int) = C.n + ((List.filter (hasP q) (List.take t d.pts)).length : Int) + 1 := by omega
      rw [e9]
      have : IntKind.i64.wrap (C.n + ((List.filter (hasP q) (List.take t d.pts)).length : Int) + 1) = C.n + ((List.filter (hasP q) (List.take t d.pts)).length : Int) + 1 := w64 (by omega)
      rw [this]
      exact w3
    · have q3 : hasP q p = false := q3
      rw [if_neg (by rw [q3]; simp), List.append_nil] at hfs
      exact ⟨⟨t + 1, by omega, by omega, by rw [hfs]; exact hC2⟩, by omega⟩
  · simp only [decide_eq_false_iff_not] at q2
    obtain rfl : t = n := by omega
    rw [List.take_of_length_le (by omega)] at hC2
    exact k _ hC2
theorem s_wcnt_node {r0 : Nat} {m : M} {id x y : Int} {h : Nat} {d : Nd} (hC : LkAt G g q b r C H) (hg : GroveAt G g r0 m) (hD : Dom m) (hd : m id = some d) (hm : C.met id = false) (hh : h ≤ 32) (hx : Cor h x) (hy : Cor h y) (hn0 : 0 ≤ C.n)
    (hn : C.n + d.pts.length ≤ 1000000) (hn2 : d.leaf = false → 0 ≤ d.counts.getD 0 0 + d.counts.getD 1 0 + d.counts.getD 2 0 + d.counts.getD 3 0 ∧ C.n + (d.counts.getD 0 0 + d.counts.getD 1 0 + d.counts.getD 2 0 + d.counts.getD 3 0) ≤ 1000000)
    (k1 : d.leaf = true → ∀ H', LkAt G g q b r ⟨fun j => j == id || C.met j, C.out, C.n + ((d.pts.filter (hasP q)).length : Int)⟩ H' → Meets prog 70 [.pointer (some ⟨b, 0, none⟩), vi d.next, ceV x y (32 - (h : Int))] H' fun e H'' => e = .returned unitV ∧ R (.returned unitV) H'')
    (k2 : d.leaf = false → withB h x y q = true → ∀ H', LkAt G g q b r ⟨fun j => j == id || C.met j, C.out, C.n + (d.counts.getD 0 0 + d.counts.getD 1 0 + d.counts.getD 2 0 + d.counts.getD 3 0)⟩ H' → R (.returned unitV) H')
    (I : Nat → Heap → Prop) (hI : ∀ u H', I u H' → ∃ C', LkAt G g q b r C' H')
    (k3 : d.leaf = false → withB h x y q = false → ∀ H', LkAt G g q b r ⟨fun j => j == id || C.met j, C.out, C.n⟩ H' → I 0 H')
    (k4 : d.leaf = false → ∃ h', h = h' + 1 ∧ ∀ u, u < 4 → ∀ H', I u H' →
      (d.kids.getD u 0 > 0 → meetB h' (x + ((u % 2 : Nat) : Int) * 2 ^ h') (y + ((u / 2 : Nat) : Int) * 2 ^ h') q = true → ∀ R', (∀ H'', I (u + 1) H'' → R' (.returned unitV) H'') → Meets prog 70 [.pointer (some ⟨b, 0, none⟩), vi (d.kids.getD u 0), ceV (x + ((u % 2 : Nat) : Int) * 2 ^ h') (y + ((u / 2 : Nat) : Int) * 2 ^ h') (32 - (h' : Int))] H' R') ∧
      (¬ (d.kids.getD u 0 > 0 ∧ meetB h' (x + ((u % 2 : Nat) : Int) * 2 ^ h') (y + ((u / 2 : Nat) : Int) * 2 ^ h') q = true) → I (u + 1) H'))
    (k5 : ∀ H', I 4 H' → R (.returned unitV) H') :
    Meets prog 70 [.pointer (some ⟨b, 0, none⟩), vi id, ceV x y (32 - (h : Int))] H R := by
  refine spec_of func70 (by kernel_rfl) (fun t h => by cases h) ?_ (vc_wcnt ⟨b, 0, none⟩ id x y (32 - (h : Int)) R H) ?_
  · simp [argsR, SV.rep, SegsRep, SC.rep, one]
  unfold nf_wcnt
  refine s_wget hC hg hD (fun hn => ?_) fun d' hd' _ v G2 H1 hG2 hv hC1 => ?_
  · exfalso
    rcases hn with h | h
    · rw [h] at hd; cases hd
    · rw [h] at hm; cases hm
  rw [hd] at hd'; cases hd'
  have hv' := hv
  obtain ⟨a, n, c, rfl, hs, hk, hc⟩ := hv
  refine ⟨_, a, n, c, _, _, hk, _, hc, _, rfl, br (fun q => by cases q) fun _ => br (fun q1 => ?_) fun q1 => ?_⟩
  · exact s_wleaf (C := ⟨fun j => j == id || C.met j, C.out, C.n⟩) hv' hC1 hn0 hn fun H' hC' => (k1 q1 H' (hC'.weak hG2)).mono fun e H'' ⟨e1, e2⟩ => ⟨e1, rfl, e1 ▸ e2⟩
  obtain ⟨hn3, hn4⟩ := hn2 q1
  refine ⟨_, heap_refl _, ptr rfl (ptr rfl (ptr rfl ⟨_, _, _, _, hC1.rect, s_crect hh hx hy ⟨keep_same _ _ _, _, _, _, _, rfl, s_rwithin ⟨keep_same _ _ _, _, rfl, br (fun q2 => ?_) fun q2 => ?_⟩⟩⟩))⟩
  · have q2 : withB h x y q = true := q2
    have hdd := hD id d hd
    have hqa : QuaOK d.kids d.counts := by
      have := hdd.2.2
      unfold NdOK at this
      rw [if_neg (by simp [q1])] at this
      exact this.2.2
    obtain ⟨w1, c9, ty9, w2, w3⟩ := hC1.more (IntKind.i64.wrap (C.n + (d.counts.getD 0 0 + d.counts.getD 1 0 + d.counts.getD 2 0 + d.counts.getD 3 0)))
    refine ⟨_, heap_refl _, ptr rfl (ptr rfl (ptr rfl ⟨_, w1, s_total (hv'.le hC1.1) (by omega) (fun _ => hqa) ⟨keep_same _ _ _, _, rfl, ptr rfl (ptr rfl (ptr rfl ⟨c9, ty9, ?_⟩))⟩⟩))⟩
    simp only [q1, Bool.false_eq_true, if_false]
    refine ⟨w2, ?_⟩
    have hw : IntKind.i64.wrap (C.n + (d.counts.getD 0 0 + d.counts.getD 1 0 + d.counts.getD 2 0 + d.counts.getD 3 0)) = C.n + (d.counts.getD 0 0 + d.counts.getD 1 0 + d.counts.getD 2 0 + d.counts.getD 3 0) := w64 (by omega)
    rw [hw] at w3
    refine k2 q1 q2 _ ?_
    have := w3.weak hG2
    rw [← hw] at this
    simp only [hw] at this ⊢
    exact this
  · have q2 : withB h x y q = false := q2
    obtain ⟨h', rfl, k6⟩ := k4 q1
    simp only [true_and, delLs_nil]
    refine ⟨fun p H' => ∃ u : Nat, p.1.1 = (u : Int) ∧ u ≤ 4 ∧ I u H', fun p _ => (4 - p.1.1).toNat, ⟨0, rfl, by omega, k3 q1 q2 _ (hC1.weak hG2)⟩, ?_⟩
    rintro ⟨⟨i, _⟩, _⟩ H5 ⟨u, hi, hu, hIu⟩
    simp only at hi ⊢
    subst hi
    refine br (fun q4 => ?_) fun q4 => ?_
    · simp only [decide_eq_true_eq] at q4
      obtain ⟨k7, k8⟩ := k6 u (by omega) _ hIu
      obtain ⟨C5, hC5⟩ := hI _ _ hIu
      rw [Int.toNat_natCast, w64 (k := (u : Int) + 1) (by omega)]
      have hxk := hx.kid (h := h') (b := ((u % 2 : Nat) : Int)) (by omega) (by omega)
      have hyk := hy.kid (h := h') (b := ((u / 2 : Nat) : Int)) (by omega) (by omega)
      refine ⟨⟨by omega, by omega⟩, s_kid (h := h') (by omega) hx hy (by omega) ⟨_, _, _, rfl, _, heap_refl _, br (fun q5 => ?_) fun q5 => ⟨⟨u + 1, by omega, by omega, k8 fun hc => absurd hc.1 (of_decide_eq_false q5)⟩, by omega⟩⟩⟩
      simp only [decide_eq_true_eq] at q5
      refine ptr rfl (ptr rfl (ptr rfl ⟨_, _, _, _, hC5.rect, s_crect (by omega) hxk hyk ⟨keep_same _ _ _, _, _, _, _, rfl, s_rmeets ⟨keep_same _ _ _, _, rfl, br (fun q6 => ?_) fun q6 => ?_⟩⟩⟩))
      · exact k7 q5 q6 _ fun H6 hI6 => ⟨rfl, ⟨u + 1, by omega, by omega, hI6⟩, by omega⟩
      · refine ⟨⟨u + 1, by omega, by omega, k8 fun hc => ?_⟩, by omega⟩
        have q6 : meetB h' (x + ((u % 2 : Nat) : Int) * 2 ^ h') (y + ((u / 2 : Nat) : Int) * 2 ^ h') q = false := q6
        rw [q6] at hc; cases hc.2
    · simp only [decide_eq_false_iff_not] at q4
      obtain rfl : u = 4 := by omega
      exact k5 _ hIu
theorem s_wcnt_chain {r0 : Nat} {m : M} (hg : GroveAt G g r0 m) (hD : Dom m) : ∀ (T : List Int) {L : List Pt} {C : Lk} {id x y : Int} {h : Nat} {H : Heap} {R : Ending → Heap → Prop}, h ≤ 32 → Cor h x → Cor h y → T.head? = some id → ChP m T L → T.Nodup → (∀ j ∈ T, C.met j = false) → 0 ≤ C.n → C.n + L.length ≤ 1000000 → LkAt G g q b r C H →
    (∀ H', LkAt G g q b r ⟨fun j => decide (j ∈ T) || C.met j, C.out, C.n + ((L.filter (hasP q)).length : Int)⟩ H' → R (.returned unitV) H') → Meets prog 70 [.pointer (some ⟨b, 0, none⟩), vi id, ceV x y (32 - (h : Int))] H R := by
  have hm0 : m 0 = none := by
    cases e : m 0 with
    | none => rfl
    | some d => have := (hD 0 d e).1; omega
  intro T
  induction T with
  | nil => intro L C id x y h H R _ _ _ e; cases e
  | cons i T ih =>
    intro L C id x y h H R hh hx hy e hc hn hm h0 hl hC k
    cases e
    cases T with
    | nil =>
      obtain ⟨h4, hd⟩ := hc
      refine s_wcnt_node hC hg hD hd (hm _ (List.mem_singleton.2 rfl)) hh hx hy h0 hl (fun hf => by cases hf) (fun _ H' hC' => ?_) (fun hf => by cases hf) (fun _ _ => False) (fun _ _ hf => hf.elim) (fun hf => by cases hf) (fun hf => by cases hf) (fun H' hf => hf.elim)
      refine s_wcnt_not hC' hg hD (.inl hm0) fun H'' hC'' => ⟨rfl, k H'' ?_⟩
      have e1 : (fun j => j == i || C.met j) = fun j => decide (j ∈ [i]) || C.met j := by
        funext j; by_cases e : j = i <;> simp [e]
      rw [← e1]
      exact hC''
    | cons nx T =>
      obtain ⟨h4, hd, hr⟩ := hc
      have hn' := List.nodup_cons.1 hn
      have htl : (L.take 4).length + (L.drop 4).length = L.length := by simp; omega
      have hfe : (L.take 4).filter (hasP q) ++ (L.drop 4).filter (hasP q) = L.filter (hasP q) := by rw [← List.filter_append, List.take_append_drop]
      have hfl : ((L.take 4).filter (hasP q)).length ≤ (L.take 4).length := List.length_filter_le _ _
      refine s_wcnt_node hC hg hD hd (hm _ (List.mem_cons_self ..)) hh hx hy h0 (by simp only; omega) (fun hf => by cases hf) (fun _ H' hC' => ?_) (fun hf => by cases hf) (fun _ _ => False) (fun _ _ hf => hf.elim) (fun hf => by cases hf) (fun hf => by cases hf) (fun H' hf => hf.elim)
      refine ih hh hx hy rfl hr hn'.2 (fun j hj => ?_) (by simp only; omega) (by simp only; omega) hC' fun H'' hC'' => ⟨rfl, k H'' ?_⟩
      · show (j == i || C.met j) = false
        rw [hm j (List.mem_cons_of_mem _ hj)]
        have : j ≠ i := fun e => hn'.1 (e ▸ hj)
        simp [this]
      · have e2 : (fun j => decide (j ∈ i :: nx :: T) || C.met j) = fun j => decide (j ∈ nx :: T) || (j == i || C.met j) := by
          funext j
          by_cases h1 : j = i <;> by_cases h2 : j ∈ nx :: T <;> simp [h1, h2]
        have e3 : C.n + ((L.filter (hasP q)).length : Int) = C.n + (((L.take 4).filter (hasP q)).length : Int) + (((L.drop 4).filter (hasP q)).length : Int) := by
          rw [← hfe, List.length_append]; omega
        rw [e2, e3]
        exact hC''
theorem s_wcnt_tree {r0 : Nat} {m : M} (hg : GroveAt G g r0 m) (hD : Dom m) : ∀ (h : Nat) {L : List Pt} {I : List Int} {C : Lk} {id x y : Int} {H : Heap} {R : Ending → Heap → Prop}, h ≤ 32 → Cor h x → Cor h y → InC h x y L → (∀ p ∈ L, PtR p) → TrP m h id L I → I.Nodup → (∀ j ∈ I, C.met j = false) → 0 ≤ C.n → C.n + L.length ≤ 1000000 → LkAt G g q b r C H →
    (∀ H' (T : List Int), T.Nodup → (∀ j ∈ T, j ∈ I) → T.length = visF q h L x y → LkAt G g q b r ⟨fun j => decide (j ∈ T) || C.met j, C.out, C.n + ((L.filter (hasP q)).length : Int)⟩ H' → R (.returned unitV) H') → Meets prog 70 [.pointer (some ⟨b, 0, none⟩), vi id, ceV x y (32 - (h : Int))] H R := by
  have hm0 : m 0 = none := by
    cases e : m 0 with
    | none => rfl
    | some d => have := (hD 0 d e).1; omega
  intro h
  induction h with
  | zero =>
    intro L I C id x y H R hh hx hy hin hpr ht hn hm h0 hl hC k
    exact s_wcnt_chain hg hD I hh hx hy ht.1 ht.2 hn hm h0 hl hC fun H' hC' => k H' I hn (fun j hj => hj) (ChP_len ht.2) hC'
  | succ h ih =>
    intro L I C id x y H R hh hx hy hin hpr ht hn hm h0 hl hC k
    unfold TrP at ht
    by_cases h4 : L.length ≤ 4
    · rw [if_pos h4] at ht
      obtain ⟨rfl, hch⟩ := ht
      exact s_wcnt_chain hg hD _ hh hx hy rfl hch hn hm h0 hl hC fun H' hC' => k H' [id] hn (fun j hj => hj) (by unfold visF; rw [if_pos h4]; rfl) hC'
    · rw [if_neg h4] at ht
      obtain ⟨ks, cs, J, hd, hk4, hc4, rfl, hJ⟩ := ht
      have hI : id :: (J 0 ++ (J 1 ++ (J 2 ++ J 3))) = id :: JJ J 4 := by simp [JJ]
      rw [hI] at hn hm k
      have sub := JJ_sub J
      have hqp := QQ_perm (h := h) hpr
      have hql : ∀ u, u ≤ 4 → (QQ h L u).length + (if u < 4 then (quarter h u L).length else 0) ≤ L.length := fun u hu => by
        rw [← hqp.length_eq]
        have : u = 0 ∨ u = 1 ∨ u = 2 ∨ u = 3 ∨ u = 4 := by omega
        rcases this with rfl | rfl | rfl | rfl | rfl <;> simp [QQ] <;> omega
      have hcsq : ∀ q, q < 4 → cs.getD q 0 = ((quarter h q L).length : Int) := fun q hq => by
        rcases hJ q hq with ⟨e1, _, e3, _⟩ | ⟨_, _, e3, _⟩
        · rw [e1, e3]; rfl
        · exact e3
      have hsum : cs.getD 0 0 + cs.getD 1 0 + cs.getD 2 0 + cs.getD 3 0 = (L.length : Int) := by
        have := sum_quarters (h := h) hpr
        rw [hcsq 0 (by omega), hcsq 1 (by omega), hcsq 2 (by omega), hcsq 3 (by omega)]; omega
      have hid := (List.nodup_cons.1 hn).1
      have hm1 : (fun j => j == id || C.met j) = fun j => decide (j ∈ [id]) || C.met j := by
        funext j; by_cases e : j = id <;> simp [e]
      refine s_wcnt_node hC hg hD hd (hm _ (List.mem_cons_self ..)) hh hx hy h0 (by simp only [List.length_nil]; omega) (fun _ => by simp only [hsum]; omega) (fun hf => by cases hf) (fun _ hw H' hC' => ?_)
        (fun u H' => withB (h + 1) x y q = false ∧ ∃ T : List Int, (id :: T).Nodup ∧ (∀ j ∈ T, j ∈ JJ J u) ∧ T.length = VFs q h L x y u ∧ LkAt G g q b r ⟨fun j => decide (j ∈ id :: T) || C.met j, C.out, C.n + (((QQ h L u).filter (hasP q)).length : Int)⟩ H') (fun u H' ⟨_, T, _, _, _, j4⟩ => ⟨_, j4⟩)
        (fun _ hw H' hC' => ⟨hw, [], by simp, by simp, rfl, ?_⟩) (fun _ => ⟨h, rfl, fun u hu H' ⟨hw, T, j1, j2, j3, j4⟩ => ⟨fun hk hmt R' k' => ?_, fun hnk => ?_⟩⟩) (fun H' ⟨hw, T, j1, j2, j3, j4⟩ => ?_)
      · refine k H' [id] (by simp) (fun j hj => by rw [List.mem_singleton.1 hj]; exact List.mem_cons_self ..) (by unfold visF; rw [if_neg h4, if_pos hw]; rfl) ?_
        rw [filter_all hh hin hw, ← hm1]
        simp only [hsum] at hC'
        exact hC'
      · rw [← hm1]
        simpa [QQ] using hC'
      · have hQl : ((QQ h L u).filter (hasP q)).length ≤ (QQ h L u).length := List.length_filter_le _ _
        have hq4 := hql u (by omega)
        rw [if_pos hu] at hq4
        rcases hJ u hu with ⟨e1, e2, _, e4⟩ | ⟨e1, _, _, e4⟩
        · have : ks.getD u 0 > 0 := hk
          omega
        · have hnd := hn.sublist ((sub u hu).cons_cons id)
          have hnd2 := List.nodup_cons.1 hnd
          have hnd3 := List.nodup_append.1 (show (JJ J u ++ J u).Nodup from hnd2.2)
          refine ih (by omega) (hx.kid (by omega) (by omega)) (hy.kid (by omega) (by omega)) (in_kid (by omega) hx hy hin hu) (fun p hp => hpr p (List.mem_filter.1 hp).1) e4 hnd3.2.1 (fun j hj => ?_) (by simp only; omega) (by simp only; omega) j4 fun H'' T2 i1 i2 i3 i4 => k' _ ⟨hw, T ++ T2, ?_, ?_, ?_, ?_⟩
          · have hj4 : j ∈ JJ J (u + 1) := List.mem_append_right _ hj
            show (decide (j ∈ id :: T) || C.met j) = false
            rw [hm j (List.mem_cons_of_mem _ ((sub u hu).subset hj4)), Bool.or_false, decide_eq_false_iff_not]
            intro hjm
            rcases List.mem_cons.1 hjm with rfl | hjm
            · exact hnd2.1 hj4
            · exact hnd3.2.2 j (j2 j hjm) j hj rfl
          · rw [← List.cons_append, List.nodup_append]
            refine ⟨j1, i1, fun a ha b' hb' e => ?_⟩
            subst e
            rcases List.mem_cons.1 ha with rfl | ha
            · exact hnd2.1 (List.mem_append_right _ (i2 _ hb'))
            · exact hnd3.2.2 a (j2 a ha) a (i2 a hb') rfl
          · intro j hj
            rcases List.mem_append.1 hj with hj | hj
            · exact List.mem_append_left _ (j2 j hj)
            · exact List.mem_append_right _ (i2 j hj)
          · rw [List.length_append, j3, i3, VFs_succ, if_pos ⟨e1, hmt⟩]
          · have e5 : (fun j => decide (j ∈ id :: (T ++ T2)) || C.met j) = fun j => decide (j ∈ T2) || (decide (j ∈ id :: T) || C.met j) := by
              funext j
              simp only [List.mem_cons, List.mem_append]
              by_cases h1 : j = id <;> by_cases h2 : j ∈ T <;> by_cases h3 : j ∈ T2 <;> simp [h1, h2, h3]
            have e6 : C.n + (((QQ h L (u + 1)).filter (hasP q)).length : Int) = C.n + (((QQ h L u).filter (hasP q)).length : Int) + (((quarter h u L).filter (hasP q)).length : Int) := by
              show C.n + (((QQ h L u ++ quarter h u L).filter (hasP q)).length : Int) = _
              rw [List.filter_append, List.length_append]; omega
            rw [e5, e6]
            exact i4
      · have hf : (quarter h u L).filter (hasP q) = [] := by
          rcases hJ u hu with ⟨e1, _, _, _⟩ | ⟨_, e2, _, _⟩
          · rw [e1]; rfl
          · have hmf : meetB h (x + ((u % 2 : Nat) : Int) * 2 ^ h) (y + ((u / 2 : Nat) : Int) * 2 ^ h) q = false := by
              cases hb : meetB h (x + ((u % 2 : Nat) : Int) * 2 ^ h) (y + ((u / 2 : Nat) : Int) * 2 ^ h) q with
              | false => rfl
              | true => exact absurd ⟨show ks.getD u 0 > 0 by omega, hb⟩ hnk
            exact filter_none (by omega) (in_kid (by omega) hx hy hin hu) hmf
        refine ⟨hw, T, j1, fun j hj => List.mem_append_left _ (j2 j hj), ?_, ?_⟩
        · rw [j3, VFs_succ, if_neg fun hc => ?_]; rfl
          refine hnk ⟨?_, hc.2⟩
          rcases hJ u hu with ⟨e1, _, _, _⟩ | ⟨_, e2, _, _⟩
          · exact absurd e1 hc.1
          · exact e2
        · have e6 : ((QQ h L (u + 1)).filter (hasP q)).length = ((QQ h L u).filter (hasP q)).length := by
            show ((QQ h L u ++ quarter h u L).filter (hasP q)).length = _
            rw [List.filter_append, hf, List.append_nil]
          rw [e6]; exact j4
      · refine k H' (id :: T) j1 (fun j hj => ?_) ?_ ?_
        · rcases List.mem_cons.1 hj with rfl | hj
          · exact List.mem_cons_self ..
          · exact List.mem_cons_of_mem _ (j2 j hj)
        · unfold visF
          rw [if_neg h4, if_neg (by rw [hw]; simp), List.length_cons, j3, Nat.add_comm]
          rfl
        · have := (hqp.filter (hasP q)).length_eq
          rw [← this]; exact j4
end
end Cr

set_option linter.unusedVariables false
set_option linter.unusedSimpArgs false
namespace Cr
open Go Sx Stb Bt
open Go.Proofs.Try
set_option maxRecDepth 100000
def h_alive24 : Hints := { give := [7] }
def nf_alive24 (R : Ending → Heap → Prop) (H : Heap) : Prop := ∀ (v : Value) (H' : Nat → Option Obj), H ≤ H' → (∀ (b : Nat), blockOf v = some b → H b = none) → (∀ (b : Nat) (o : Obj), H' b = some o → H b = some o ∨ blockOf v = some b) → RowAt H' v (28 : Nat) (4 : Nat) [[Value.int IntKind.i64 (5 : Int), Value.int IntKind.u32 (1 : Int), Value.int IntKind.u32 (2 : Int), Value.string { data := #[] }]] → Meets prog (22 : Nat) [v] H' fun (e : Ending) (H' : Nat → Option Obj) ↦ (fun (x : Nat) ↦ none) ≤ H' ∧ ∃ (a : Option Addr), ∃ (n : Int), e = Ending.returned (Value.tuple { toList := [Value.pointer a, Value.int IntKind.i64 n] }) ∧ Br (n == (0 : Int)) (Meets prog (33 : Nat) [Value.pointer a, Value.agg { toList := [Value.int IntKind.u32 (0 : Int), Value.int IntKind.u32 (0 : Int), Value.int IntKind.u32 (9 : Int), Value.int IntKind.u32 (9 : Int)] }] H' fun (e : Ending) (H' : Nat → Option Obj) ↦ ∃ (a_1 : Option Addr), ∃ (n : Nat), ∃ (c : Nat), e = Ending.returned (Value.slice a_1 n c) ∧ Br ((↑n : Int) == (1 : Int)) (Meets prog (34 : Nat) [Value.pointer a, Value.agg { toList := [Value.int IntKind.u32 (0 : Int), Value.int IntKind.u32 (0 : Int), Value.int IntKind.u32 (9 : Int), Value.int IntKind.u32 (9 : Int)] }] H' fun (e : Ending) (H' : Nat → Option Obj) ↦ ∃ (n : Int), e = Ending.returned (Value.int IntKind.i64 n) ∧ Br (n == (1 : Int)) (Meets prog (35 : Nat) [Value.pointer a, Value.agg { toList := [Value.int IntKind.u32 (0 : Int), Value.int IntKind.u32 (0 : Int), Value.int IntKind.u32 (9 : Int), Value.int IntKind.u32 (9 : Int)] }] H' fun (e : Ending) (H' : Nat → Option Obj) ↦ ∃ (n : Int), e = Ending.returned (Value.int IntKind.i64 n) ∧ R (Ending.returned (Value.bool (n == (1 : Int)))) H') (R (Ending.returned (Value.bool false)) H')) (R (Ending.returned (Value.bool false)) H')) (R (Ending.returned (Value.bool false)) H')
theorem vc_alive24 (R : Ending → Heap → Prop) (H : Heap) : vcFun prog h_alive24 f29 [] R H = nf_alive24 R H := by kernel_rfl

def h_lwg : Hints := { loops := [(9, ⟨[4, 5, 7, 9, 10], [.f 11 (.int .i64)], [.keep 4, .keep 5, .keep 9]⟩)] }
def nf_lwg (a : Option Addr) (n : Nat) (c : Nat) (x0 : Int) (y0 : Int) (x1 : Int) (y1 : Int) (x2 : Int) (y2 : Int) (x3 : Int) (y3 : Int) (R : Ending → Heap → Prop) (H : Heap) : Prop := Meets prog (29 : Nat) [] H fun (e : Ending) (H' : Nat → Option Obj) ↦ ∃ (b : Bool), e = Ending.returned (Value.bool b) ∧ Br (!b) (R (Ending.returned (Value.bool false)) H') (Meets prog (21 : Nat) [Value.slice a n c, Value.int IntKind.i64 (40 : Int)] H' fun (e : Ending) (H' : Nat → Option Obj) ↦ ∃ (a : Option Addr), ∃ (n : Nat), ∃ (c : Nat), e = Ending.returned (Value.slice a n c) ∧ Meets prog (22 : Nat) [Value.slice a n c] H' fun (e : Ending) (H' : Nat → Option Obj) ↦ ∃ (a : Option Addr), ∃ (n : Int), e = Ending.returned (Value.tuple { toList := [Value.pointer a, Value.int IntKind.i64 n] }) ∧ Br (n != (0 : Int)) (R (Ending.returned (Value.bool true)) H') (Meets prog (37 : Nat) [Value.agg { toList := [Value.int IntKind.u32 x0, Value.int IntKind.u32 y0, Value.int IntKind.u32 x1, Value.int IntKind.u32 y1] }, Value.agg { toList := [Value.int IntKind.u32 x2, Value.int IntKind.u32 y2, Value.int IntKind.u32 x3, Value.int IntKind.u32 y3] }] H' fun (e : Ending) (H' : Nat → Option Obj) ↦ ∃ (n : Int), ∃ (n_1 : Int), ∃ (n_2 : Int), ∃ (n_3 : Int), e = Ending.returned (Value.agg { toList := [Value.int IntKind.u32 n, Value.int IntKind.u32 n_1, Value.int IntKind.u32 n_2, Value.int IntKind.u32 n_3] }) ∧ Meets prog (33 : Nat) [Value.pointer a, Value.agg { toList := [Value.int IntKind.u32 n, Value.int IntKind.u32 n_1, Value.int IntKind.u32 n_2, Value.int IntKind.u32 n_3] }] H' fun (e : Ending) (H' : Nat → Option Obj) ↦ ∃ (a_1 : Option Addr), ∃ (n_4 : Nat), ∃ (c : Nat), e = Ending.returned (Value.slice a_1 n_4 c) ∧ (0 : Nat) = (0 : Nat) ∧ (0 : Nat) = (0 : Nat) ∧ a = a ∧ (0 : Nat) = (0 : Nat) ∧ a_1 = a_1 ∧ n_4 = n_4 ∧ c = c ∧ x0 = x0 ∧ y0 = y0 ∧ x1 = x1 ∧ y1 = y1 ∧ x2 = x2 ∧ y2 = y2 ∧ x3 = x3 ∧ y3 = y3 ∧ n = n ∧ n_1 = n_1 ∧ n_2 = n_2 ∧ n_3 = n_3 ∧ LoopP (fun (K : (Int × PUnit) × PUnit × PUnit × PUnit × PUnit → (Nat → Option Obj) → Prop) (p : (Int × PUnit) × PUnit × PUnit × PUnit × PUnit) (H : Nat → Option Obj) ↦ Br (decide (p.fst.fst < (↑n_4 : Int))) (∃ (G : Nat → Option Obj), G ≤ H ∧ ((0 : Int) ≤ p.fst.fst ∧ p.fst.fst < (↑n_4 : Int)) ∧ PtrK a_1 fun (A : Addr) ↦ PtrK (some (Addr.add A (Int.toNat p.fst.fst * (4 : Nat)))) fun (a_2 : Addr) ↦ ∃ (n_5 : Int), ∃ (n_6 : Int), ∃ (n_7 : Int), ∃ (s : ByteArray), Heap.has G a_2 [Value.int IntKind.i64 n_5, Value.int IntKind.u32 n_6, Value.int IntKind.u32 n_7, Value.string s] ∧ Meets prog (38 : Nat) [Value.agg { toList := [Value.int IntKind.u32 x0, Value.int IntKind.u32 y0, Value.int IntKind.u32 x1, Value.int IntKind.u32 y1] }, Value.agg { toList := [Value.int IntKind.i64 n_5, Value.int IntKind.u32 n_6, Value.int IntKind.u32 n_7, Value.string s] }] H fun (e : Ending) (H' : Nat → Option Obj) ↦ Keep G H H H' ∧ ∃ (b : Bool), e = Ending.returned (Value.bool b) ∧ Br (!b) (R (Ending.returned (Value.bool false)) (delLs H' [])) (((0 : Int) ≤ p.fst.fst ∧ p.fst.fst < (↑n_4 : Int)) ∧ PtrK a_1 fun (A : Addr) ↦ PtrK (some (Addr.add A (Int.toNat p.fst.fst * (4 : Nat)))) fun (a_3 : Addr) ↦ ∃ (n_8 : Int), ∃ (n_9 : Int), ∃ (n_10 : Int), ∃ (s : ByteArray), Heap.has G a_3 [Value.int IntKind.i64 n_8, Value.int IntKind.u32 n_9, Value.int IntKind.u32 n_10, Value.string s] ∧ Meets prog (38 : Nat) [Value.agg { toList := [Value.int IntKind.u32 x2, Value.int IntKind.u32 y2, Value.int IntKind.u32 x3, Value.int IntKind.u32 y3] }, Value.agg { toList := [Value.int IntKind.i64 n_8, Value.int IntKind.u32 n_9, Value.int IntKind.u32 n_10, Value.string s] }] (delLs H' []) fun (e : Ending) (H'_1 : Nat → Option Obj) ↦ Keep G (delLs H' []) (delLs H' []) H'_1 ∧ ∃ (b : Bool), e = Ending.returned (Value.bool b) ∧ Br (!b) (R (Ending.returned (Value.bool false)) (delLs H'_1 [])) ((0 : Nat) = (0 : Nat) ∧ (0 : Nat) = (0 : Nat) ∧ a = a ∧ (0 : Nat) = (0 : Nat) ∧ a_1 = a_1 ∧ n_4 = n_4 ∧ c = c ∧ x0 = x0 ∧ y0 = y0 ∧ x1 = x1 ∧ y1 = y1 ∧ x2 = x2 ∧ y2 = y2 ∧ x3 = x3 ∧ y3 = y3 ∧ n = n ∧ n_1 = n_1 ∧ n_2 = n_2 ∧ n_3 = n_3 ∧ K ((IntKind.wrap IntKind.i64 (p.fst.fst + (1 : Int)), PUnit.unit), PUnit.unit, PUnit.unit, PUnit.unit, PUnit.unit) (delLs H'_1 [])))) (∃ (G : Nat → Option Obj), G ≤ H ∧ Meets prog (34 : Nat) [Value.pointer a, Value.agg { toList := [Value.int IntKind.u32 n, Value.int IntKind.u32 n_1, Value.int IntKind.u32 n_2, Value.int IntKind.u32 n_3] }] H fun (e : Ending) (H' : Nat → Option Obj) ↦ Keep G H H H' ∧ ∃ (n_5 : Int), e = Ending.returned (Value.int IntKind.i64 n_5) ∧ Br (n_5 == (↑n_4 : Int)) (Meets prog (34 : Nat) [Value.pointer a, Value.agg { toList := [Value.int IntKind.u32 n, Value.int IntKind.u32 n_1, Value.int IntKind.u32 n_2, Value.int IntKind.u32 n_3] }] (delLs H' []) fun (e : Ending) (H'_1 : Nat → Option Obj) ↦ Keep G (delLs H' []) (delLs H' []) H'_1 ∧ ∃ (n_6 : Int), e = Ending.returned (Value.int IntKind.i64 n_6) ∧ Meets prog (34 : Nat) [Value.pointer a, Value.agg { toList := [Value.int IntKind.u32 x0, Value.int IntKind.u32 y0, Value.int IntKind.u32 x1, Value.int IntKind.u32 y1] }] (delLs H'_1 []) fun (e : Ending) (H' : Nat → Option Obj) ↦ Keep G (delLs H'_1 []) (delLs H'_1 []) H' ∧ ∃ (n_7 : Int), e = Ending.returned (Value.int IntKind.i64 n_7) ∧ Br (decide (n_6 ≤ n_7)) (Meets prog (34 : Nat) [Value.pointer a, Value.agg { toList := [Value.int IntKind.u32 n, Value.int IntKind.u32 n_1, Value.int IntKind.u32 n_2, Value.int IntKind.u32 n_3] }] (delLs H' []) fun (e : Ending) (H'_2 : Nat → Option Obj) ↦ Keep G (delLs H' []) (delLs H' []) H'_2 ∧ ∃ (n : Int), e = Ending.returned (Value.int IntKind.i64 n) ∧ Meets prog (34 : Nat) [Value.pointer a, Value.agg { toList := [Value.int IntKind.u32 x2, Value.int IntKind.u32 y2, Value.int IntKind.u32 x3, Value.int IntKind.u32 y3] }] (delLs H'_2 []) fun (e : Ending) (H' : Nat → Option Obj) ↦ Keep G (delLs H'_2 []) (delLs H'_2 []) H' ∧ ∃ (n_8 : Int), e = Ending.returned (Value.int IntKind.i64 n_8) ∧ R (Ending.returned (Value.bool (decide (n ≤ n_8)))) (delLs H' [])) (R (Ending.returned (Value.bool false)) (delLs H' []))) (R (Ending.returned (Value.bool false)) (delLs H' [])))) (((0 : Int), PUnit.unit), PUnit.unit, PUnit.unit, PUnit.unit, PUnit.unit) H'))
theorem vc_lwg (a : Option Addr) (n : Nat) (c : Nat) (x0 : Int) (y0 : Int) (x1 : Int) (y1 : Int) (x2 : Int) (y2 : Int) (x3 : Int) (y3 : Int) (R : Ending → Heap → Prop) (H : Heap) : vcFun prog h_lwg f9 [SV.c (SC.v (Value.slice a n c)), rcA x0 y0 x1 y1, rcA x2 y2 x3 y3] R H = nf_lwg a n c x0 y0 x1 y1 x2 y2 x3 y3 R H := by kernel_rfl

end Cr

set_option linter.unusedVariables false
set_option linter.unusedSimpArgs false
namespace Cr
open Go Sx Stb Bt
open Go.Proofs.Try
set_option maxRecDepth 100000
theorem TreeOK.big {m : M} {L : List Pt} {I : List Int} (h : TreeOK m L I) : L.length ≤ 1020 := by
  rw [← h.pts.length_eq]
  have := ptsM_len h.dom (idsOf m)
  have : (idsOf m).length ≤ 255 := idsBelow_len m 255
  omega
theorem getL_count {l : List (Int × Value)} {T : List Int} (hn : (l.map Prod.fst).Nodup) (hT : T.Nodup) (h : ∀ id, getL l id = if (decide (id ∈ T) || false) = true then some (.bool true) else none) : l.length = T.length := by
  have hp : (l.map Prod.fst).Perm T := (List.perm_ext_iff_of_nodup hn hT).2 fun id => by
    have h1 := h id
    have h2 := getL_none (l := l) (x := id)
    by_cases ht : id ∈ T
    · simp only [ht, decide_true, Bool.true_or, if_true] at h1
      rw [h1] at h2
      simp only [reduceCtorEq, false_iff, Decidable.not_not] at h2
      exact ⟨fun _ => ht, fun _ => h2⟩
    · simp only [ht, decide_false, Bool.or_false, Bool.false_eq_true, if_false] at h1
      exact ⟨fun hm => absurd hm (h2.1 h1), fun hm => absurd hm ht⟩
  rw [← hp.length_eq, List.length_map]
section
variable {R : Ending → Heap → Prop} {H : Heap}
theorem s_wstart {g : Addr} {q : Rc} (k : ∀ b r H', H ≤ H' → LkAt H g q b r ⟨fun _ => false, [], 0⟩ H' → R (.returned (.pointer (some ⟨b, 0, none⟩))) H') : Meets prog 68 [.pointer (some g), rcV q] H R := by
  refine spec_of func68 (by kernel_rfl) (fun t h => by cases h) ?_ (vc_wstart (some g) q.x0 q.y0 q.x1 q.y1 R H) ?_
  · simp [argsR, SV.rep, SegsRep, SC.rep, one]
  unfold nf_wstart
  intro r hr b hb
  have hne : b ≠ r := by rintro rfl; rw [upd_same] at hb; cases hb
  rw [upd_ne _ _ hne] at hb
  have hle : H ≤ (H.upd r (.map #[] 0)).upd b (.cells #[.pointer (some g), .int .u32 q.x0, .int .u32 q.y0, .int .u32 q.x1, .int .u32 q.y1, .map (some r), .slice none 0 0, vi 0] 111 (0, 0)) := le_upd (le_upd (heap_refl _) hr _) hb _
  exact k b r _ hle ⟨hle, hb, hr, hne, ⟨[], map_same (map_new H r .i64) (fun o e => by rw [upd_ne _ _ (Ne.symm hne)]; exact e), fun id => rfl⟩, none, 0, 0, upd_same _ _ _, .inl ⟨rfl, rfl⟩, fun k e => by cases e⟩
theorem cor0 : Cor 32 0 := ⟨by omega, by decide, by decide⟩
theorem s_wrange {g : Addr} {q : Rc} {r0 : Nat} {m : M} {L : List Pt} {I : List Int} (hg : GroveAt H g r0 m) (hT : TreeOK m L I) (k : ∀ v H', H ≤ H' → (∀ b, blockOf v = some b → H b = none) → RowAt H' v tPt 4 (pts (L.filter (hasP q))) → R (.returned v) H') :
    Meets prog 33 [.pointer (some g), rcV q] H R := by
  refine spec_of func33 (by kernel_rfl) (fun t h => by cases h) ?_ (vc_wrange (some g) q.x0 q.y0 q.x1 q.y1 R H) ?_
  · simp [argsR, SV.rep, SegsRep, SC.rep, one]
  unfold nf_wrange
  have hbig := hT.big
  refine s_wstart (q := q) fun b r H1 hle1 hC => ⟨_, rfl, s_croot ⟨_, _, _, rfl, ?_⟩⟩
  refine s_wgat_tree hg hT.dom 32 (Nat.le_refl _) cor0 cor0 (in_root hT.lok.range) hT.lok.range hT.tr hT.nd (fun _ _ => rfl) (by simp only [List.length_nil]; omega) hC fun H2 met' P h1 h2 hC2 => ⟨rfl, ?_⟩
  obtain ⟨f1, f2, f3, f4, _, a3, n3, c3, f8, f9, f10⟩ := hC2
  refine ptr rfl (ptr rfl (ptr rfl ⟨a3, n3, c3, cells_at f8 (k := 6) rfl, ?_⟩))
  have hPl : P.length ≤ L.length := by rw [h2.length_eq]; exact List.length_filter_le _ _
  refine s_srt (l := P) (row_slice f9) (by omega) fun v3 H3 hle3 hfr3 hrow3 => ?_
  rw [sortP_perm (hT.lok.rise.sublist List.filter_sublist) h2] at hrow3
  obtain ⟨a4, c4, rfl⟩ := row_val hrow3
  exact ⟨_, _, _, rfl, k _ _ (heap_trans f1 hle3) (fresh_le f1 hfr3) hrow3⟩
theorem s_wcount {g : Addr} {q : Rc} {r0 : Nat} {m : M} {L : List Pt} {I : List Int} (hg : GroveAt H g r0 m) (hT : TreeOK m L I) (k : ∀ H', H ≤ H' → R (.returned (vi ((L.filter (hasP q)).length : Int))) H') :
    Meets prog 34 [.pointer (some g), rcV q] H R := by
  refine spec_of func34 (by kernel_rfl) (fun t h => by cases h) ?_ (vc_wcount (some g) q.x0 q.y0 q.x1 q.y1 R H) ?_
  · simp [argsR, SV.rep, SegsRep, SC.rep, one]
  unfold nf_wcount
  have hbig := hT.big
  refine s_wstart (q := q) fun b r H1 hle1 hC => ⟨_, rfl, s_croot ⟨_, _, _, rfl, ?_⟩⟩
  refine s_wcnt_tree hg hT.dom 32 (Nat.le_refl _) cor0 cor0 (in_root hT.lok.range) hT.lok.range hT.tr hT.nd (fun _ _ => rfl) (by simp) (by simp only; omega) hC fun H2 T t1 t2 t3 hC2 => ⟨rfl, ?_⟩
  obtain ⟨f1, f2, f3, f4, _, a3, n3, c3, f8, f9, f10⟩ := hC2
  refine ptr rfl (ptr rfl (ptr rfl ⟨_, cells_at f8 (k := 7) rfl, ?_⟩))
  have e : (0 : Int) + ((L.filter (hasP q)).length : Int) = ((L.filter (hasP q)).length : Int) := by omega
  simp only [e]
  exact k _ f1
theorem s_wvisits {g : Addr} {q : Rc} {r0 : Nat} {m : M} {L : List Pt} {I : List Int} (hg : GroveAt H g r0 m) (hT : TreeOK m L I) (k : ∀ H', H ≤ H' → R (.returned (vi (visF q 32 L 0 0 : Nat))) H') :
    Meets prog 35 [.pointer (some g), rcV q] H R := by
  refine spec_of func35 (by kernel_rfl) (fun t h => by cases h) ?_ (vc_wvisits (some g) q.x0 q.y0 q.x1 q.y1 R H) ?_
  · simp [argsR, SV.rep, SegsRep, SC.rep, one]
  unfold nf_wvisits
  have hbig := hT.big
  refine s_wstart (q := q) fun b r H1 hle1 hC => ⟨_, rfl, s_croot ⟨_, _, _, rfl, ?_⟩⟩
  refine s_wcnt_tree hg hT.dom 32 (Nat.le_refl _) cor0 cor0 (in_root hT.lok.range) hT.lok.range hT.tr hT.nd (fun _ _ => rfl) (by simp) (by simp only; omega) hC fun H2 T t1 t2 t3 hC2 => ⟨rfl, ?_⟩
  obtain ⟨f1, f2, f3, f4, ⟨l, f5, f6⟩, a3, n3, c3, f8, f9, f10⟩ := hC2
  obtain ⟨es, clk, h1, h2⟩ := map_len f5
  refine ptr rfl (ptr rfl (ptr rfl ⟨_, cells_at f8 (k := 5) rfl, mapk rfl ⟨es, clk, h1, ?_⟩⟩))
  obtain ⟨_, _, _, _, _, hnd⟩ := f5
  have hll := getL_count hnd t1 f6
  have : (es.size : Int) = ((visF q 32 L 0 0 : Nat) : Int) := by rw [h2, hll, t3]
  rw [this]
  exact k _ f1
end
end Cr

set_option linter.unusedVariables false
set_option linter.unusedSimpArgs false
namespace Cr
open Go Sx Stb Bt
open Go.Proofs.Try
set_option maxRecDepth 100000
theorem filter_le {f g : Pt → Bool} : ∀ {l : List Pt}, (∀ p ∈ l, f p = true → g p = true) → (l.filter f).length ≤ (l.filter g).length
  | [], _ => Nat.le_refl _
  | p :: l, h => by
    have ih := filter_le (l := l) fun p hp => h p (List.mem_cons_of_mem _ hp)
    have h1 := h p (List.mem_cons_self ..)
    simp only [List.filter_cons]
    by_cases hf : f p = true
    · rw [if_pos hf, if_pos (h1 hf)]; simp only [List.length_cons]; omega
    · rw [if_neg hf]
      split
      · simp only [List.length_cons]; omega
      · exact ih
section
variable {R : Ending → Heap → Prop} {H : Heap}
end
end Cr

set_option linter.unusedVariables false
set_option linter.unusedSimpArgs false
namespace Cr
open Go Sx Stb Bt
open Go.Proofs.Try
set_option maxRecDepth 100000
section
variable {R : Ending → Heap → Prop} {H : Heap}
theorem BuildRes.bad {l : List Pt} {a : Option Addr} {n : Int} {t : Nat} {p : Pt} (h : BuildRes l a n H) (hx : l[t]? = some p) (hok : ∀ (j : Nat) (q : Pt), j < t → l[j]? = some q → ptOK q) (hb : ¬ ptOK p) : a = none ∧ n = pcode p := by
  rcases h with ⟨i, q, h1, h2, h3, h4, h5⟩ | ⟨h1, _⟩
  · have hi : i = t := by
      rcases Nat.lt_trichotomy i t with h | h | h
      · exact absurd (hok i q h h1) (pcode_bad h3)
      · exact h
      · exact absurd (h2 t p h hx) hb
    subst hi
    rw [hx] at h1; cases h1
    exact ⟨h4, h5⟩
  · exact absurd (h1 p (List.mem_of_getElem? hx)) hb
end
end Cr

set_option linter.unusedVariables false
set_option linter.unusedSimpArgs false
namespace Cr
open Go Sx Stb Bt
open Go.Proofs.Try
set_option maxRecDepth 100000
section
variable {R : Ending → Heap → Prop} {H : Heap}
theorem s_alive24 (k : ∀ H', H ≤ H' → R (.returned (.bool true)) H') : Meets prog 29 [] H R := by
  refine spec_of func29 (by kernel_rfl) (fun t h => by cases h) ?_ (vc_alive24 R H) ?_
  · simp [argsR]
  unfold nf_alive24
  intro v H1 g1 g2 _ g4
  have g4 : RowAt H1 v tPt 4 (pts [pA]) := g4
  refine s_buildR (l := [pA]) (row_slice g4) (by simp) (fun p hp => by rw [List.mem_singleton.1 hp]; exact ok_pA.2) fun ag ng H2 hle2 hB => ⟨none_le _, _, _, rfl, ?_⟩
  have hle := heap_trans g1 hle2
  have hok : ∀ p ∈ [pA], ptOK p := fun p hp => by rw [List.mem_singleton.1 hp]; exact ok_pA.1
  rcases hB with ⟨i, x, h1, _, h3, _⟩ | ⟨_, ⟨hnd, _⟩ | ⟨_, ⟨h2, _, _⟩ | ⟨h255, rfl, b, r, mm, I, rfl, hg, hT, _⟩⟩⟩
  · exact absurd (hok x (List.mem_of_getElem? h1)) (pcode_bad h3)
  · exact absurd (by simp) hnd
  · have : nds 32 (sortP [pA]) = 1 := nds_small (by rw [sortP_len]; simp)
    omega
  have hs1 : sortP [pA] = [pA] := rfl
  rw [hs1] at hT
  have hf : ([pA].filter (hasP ⟨0, 0, 9, 9⟩)) = [pA] := by decide +kernel
  have hv : visF ⟨0, 0, 9, 9⟩ 32 [pA] 0 0 = 1 := by unfold visF; rw [if_pos (by simp)]
  refine br (fun _ => ?_) fun q => by cases q
  refine s_wrange (q := ⟨0, 0, 9, 9⟩) hg hT fun v3 H3 hle3 hfr3 hrow3 => ?_
  rw [hf] at hrow3
  obtain ⟨a3, c3, rfl⟩ := row_val hrow3
  refine ⟨_, _, _, rfl, br (fun _ => ?_) fun q => by cases q⟩
  refine s_wcount (q := ⟨0, 0, 9, 9⟩) (hg.le hle3) hT fun H4 hle4 => ⟨_, rfl, ?_⟩
  rw [hf]
  refine br (fun _ => ?_) fun q => by cases q
  refine s_wvisits (q := ⟨0, 0, 9, 9⟩) (hg.le (heap_trans hle3 hle4)) hT fun H5 hle5 => ⟨_, rfl, ?_⟩
  rw [hv]
  exact k _ (heap_trans hle (heap_trans hle3 (heap_trans hle4 hle5)))
/-- What the other laws begin with. -/
theorem begin24 {v : Value} {l : List Pt} (h : SliceAt H v 4 (pts l)) (hl : l.length ≤ 10000000000000) (hp : ∀ p ∈ l, PtR p) {N : Bool → Heap → Prop}
    {X : Option Addr → Nat → Nat → Option Addr → Int → Heap → Prop}
    (hN : ∀ H', H ≤ H' → N true H')
    (hX : ∀ L a1 n1 c1 b r mm I H', H ≤ H' → SliceAt H' (.slice a1 n1 c1) 4 (pts L) → L.length ≤ 40 → (∀ p ∈ L, PtR p) → GroveAt H' ⟨b, 0, none⟩ r mm → TreeOK mm (sortP L) I → X a1 n1 c1 (some ⟨b, 0, none⟩) 0 H') (hXN : ∀ a1 n1 c1 a n H', n ≠ 0 → H ≤ H' → X a1 n1 c1 a n H') :
    Meets prog 29 [] H fun e H' => ∃ b : Bool, e = .returned (.bool b) ∧ Br (!b) (N false H') (Meets prog 21 [v, vi 40] H' fun e H' => ∃ (a : Option Addr) (n c : Nat), e = .returned (.slice a n c) ∧ Meets prog 22 [.slice a n c] H' fun e H' => ∃ (a_1 : Option Addr) (n_1 : Int), e = .returned (.tuple #[.pointer a_1, vi n_1]) ∧ X a n c a_1 n_1 H') := by
  refine s_alive24 fun H0 hle0 => ⟨_, rfl, br (fun q => by cases q) fun _ => ?_⟩
  obtain ⟨o1, o2, o3, o4⟩ := once_facts hp 40
  have o3 := o3 (by decide)
  refine s_once (slice_le h hle0) (by decide) hl fun v1 H1 hle1 hfr1 hrow1 => ?_
  obtain ⟨a1, c1, rfl⟩ := row_val hrow1
  generalize hL : onceP 40 l = L at *
  have hle : H ≤ H1 := heap_trans hle0 hle1
  refine ⟨_, _, _, rfl, s_buildR (row_slice hrow1) (by omega) o4 fun ag ng H3 hle3 hB => ⟨_, _, rfl, ?_⟩⟩
  have hleB := heap_trans hle hle3
  rcases hB with ⟨i, x, h1, _, h3, _⟩ | ⟨_, ⟨hnd, _⟩ | ⟨_, ⟨_, rfl, rfl⟩ | ⟨h255, rfl, b, r, mm, I, rfl, hg, hT, _⟩⟩⟩
  · exact absurd (o1 x (List.mem_of_getElem? h1)) (pcode_bad h3)
  · exact absurd o2 hnd
  · exact hXN _ _ _ _ _ _ (by decide) hleB
  · exact hX L _ _ _ b r mm I H3 hleB (slice_le (row_slice hrow1) hle3) (by omega) o4 hg hT
theorem cut_has {a b : Rc} {p : Pt} (h : hasP (cutR a b) p = true) : hasP a p = true ∧ hasP b p = true := by
  unfold cutR at h
  split at h
  · exfalso
    simp only [hasP, hasR, Bool.and_eq_true, decide_eq_true_eq] at h
    omega
  · simp only [hasP, hasR, maxI_eq, minI_eq, Bool.and_eq_true, decide_eq_true_eq] at h ⊢
    omega
theorem s_lwg {v : Value} {l : List Pt} {qa qb : Rc} (h : SliceAt H v 4 (pts l)) (hl : l.length ≤ 10000000000000) (hp : ∀ p ∈ l, PtR p) (k : ∀ H', H ≤ H' → R (.returned (.bool true)) H') :
    Meets prog 9 [v, rcV qa, rcV qb] H R := by
  obtain ⟨a, m, c, e, hm⟩ := h
  subst e
  refine spec_of func9 (by kernel_rfl) (fun t h => by cases h) ?_ (vc_lwg a m c qa.x0 qa.y0 qa.x1 qa.y1 qb.x0 qb.y0 qb.x1 qb.y1 R H) ?_
  · simp [argsR, SV.rep, SegsRep, SC.rep, one]
  unfold nf_lwg
  refine begin24 (N := fun b H' => R (.returned (.bool b)) H') ⟨a, m, c, rfl, hm⟩ hl hp k (fun L a1 n1 c1 b r mm I H1 hle hs hL40 hLp hg hT => ?_) fun a1 n1 c1 a n H1 hn hle => br (fun _ => k _ hle) fun qn => by simp at qn; exact absurd qn hn
  refine br (fun qn => by cases qn) fun _ => s_rcut (a := qa) (b := qb) ⟨_, _, _, _, rfl, s_wrange (q := cutR qa qb) hg hT fun v2 H2 hle2 hfr2 hrow2 => ?_⟩
  obtain ⟨a2, c2, rfl⟩ := row_val hrow2
  have hsl := sortP_len L
  have hmem : ∀ p ∈ (sortP L).filter (hasP (cutR qa qb)), hasP (cutR qa qb) p = true := fun p hp => (List.mem_filter.1 hp).2
  have hfl : ((sortP L).filter (hasP (cutR qa qb))).length ≤ (sortP L).length := List.length_filter_le _ _
  have hla := filter_le (l := sortP L) (f := hasP (cutR qa qb)) (g := hasP qa) fun p _ h => (cut_has h).1
  have hlb := filter_le (l := sortP L) (f := hasP (cutR qa qb)) (g := hasP qb) fun p _ h => (cut_has h).2
  generalize hF : (sortP L).filter (hasP (cutR qa qb)) = F at *
  have hpl : (pts F).length = F.length := by simp [pts]
  rw [hpl] at hrow2 hfr2 ⊢
  refine ⟨_, _, _, rfl, ?_⟩
  simp only [true_and, delLs_nil]
  refine ⟨fun p H' => ∃ t : Nat, p.1.1 = (t : Int) ∧ t ≤ F.length ∧ H' = H2, fun p _ => (F.length - p.1.1).toNat, ⟨0, rfl, by omega, rfl⟩, ?_⟩
  rintro ⟨⟨i, _⟩, _⟩ H3 ⟨t, hi, ht, rfl⟩
  simp only at hi ⊢
  subst hi
  have hleA := heap_trans hle hle2
  refine br (fun q0 => ?_) fun q0 => ?_
  · simp only [decide_eq_true_eq] at q0
    obtain ⟨p, _, htk, hx⟩ := drop_cons (l := F) (k := t) (by omega)
    obtain ⟨A, e, g⟩ := pr_get (row_slice hrow2) hx
    subst e
    obtain ⟨h1, h2⟩ := cut_has (hmem p (List.mem_of_getElem? hx))
    rw [Int.toNat_natCast, w64 (by omega)]
    refine ⟨_, heap_refl _, ⟨by omega, by omega⟩, ptr rfl (ptr rfl ⟨_, _, _, _, g, s_phas (r := qa) ⟨keep_same _ _ _, _, rfl, ?_⟩⟩)⟩
    rw [h1]
    refine br (fun q => by cases q) fun _ => ⟨⟨by omega, by omega⟩, ptr rfl (ptr rfl ⟨_, _, _, _, g, s_phas (r := qb) ⟨keep_same _ _ _, _, rfl, ?_⟩⟩)⟩
    rw [h2]
    exact br (fun q => by cases q) fun _ => ⟨⟨t + 1, by omega, by omega, rfl⟩, by omega⟩
  · refine ⟨_, none_le _, s_wcount (q := cutR qa qb) (hg.le hle2) hT fun H4 hle4 => ⟨keep_none _ _, _, rfl, ?_⟩⟩
    rw [hF, beq_self_eq_true]
    have hle24 := heap_trans hle2 hle4
    refine br (fun _ => s_wcount (q := cutR qa qb) (hg.le hle24) hT fun H5 hle5 => ⟨keep_none _ _, _, rfl, s_wcount (q := qa) (hg.le (heap_trans hle24 hle5)) hT fun H6 hle6 => ⟨keep_none _ _, _, rfl, ?_⟩⟩) fun q => by cases q
    rw [hF]
    have hle26 := heap_trans hle24 (heap_trans hle5 hle6)
    rw [decide_eq_true (show ((F.length : Nat) : Int) ≤ (((sortP L).filter (hasP qa)).length : Int) by omega)]
    refine br (fun _ => s_wcount (q := cutR qa qb) (hg.le hle26) hT fun H7 hle7 => ⟨keep_none _ _, _, rfl, s_wcount (q := qb) (hg.le (heap_trans hle26 hle7)) hT fun H8 hle8 => ⟨keep_none _ _, _, rfl, ?_⟩⟩) fun q => by cases q
    rw [hF, decide_eq_true (show ((F.length : Nat) : Int) ≤ (((sortP L).filter (hasP qb)).length : Int) by omega)]
    exact k _ (heap_trans hle (heap_trans hle26 (heap_trans hle7 hle8)))
end
end Cr

set_option linter.unusedVariables false
set_option linter.unusedSimpArgs false
namespace Cr
open Go Sx Stb Bt
open Go.Proofs.Try
set_option maxRecDepth 100000
theorem own : ownKnob Go.Proofs.Try.prog.godebug = none := by kernel_rfl
theorem laidOut : laidOutB Go.Proofs.Try.prog = true := by kernel_rfl
section
variable {H : Type} {enc : TypeId × Value → H} {W : World}
theorem openPt {fuel : Nat} {cs : List Value} {y : DataW H × List MemPlace} (h : DataW.trod enc prog W 0 (fun _ => true) true fuel 28 cs = some y) : ∃ p : Pt, cs = ptC p ∧ PtR p := by
  obtain ⟨y0, y1, y2, y3, n, _, hl, h0, h1, h2, h3⟩ := Go.Joins.trod_struct4 Go.Proofs.Try.underlying28 h
  obtain ⟨a, e0, _, _⟩ := DataW.trod_int Go.Proofs.Try.underlying3 h0
  obtain ⟨b, e1, _, w1⟩ := DataW.trod_int Go.Proofs.Try.underlying26 h1
  obtain ⟨c, e2, _, w2⟩ := DataW.trod_int Go.Proofs.Try.underlying26 h2
  obtain ⟨s, e3, _, _⟩ := DataW.trod_string Go.Proofs.Try.underlying9 h3
  have c4 : prog.cellsOf 28 = 4 := by kernel_rfl
  have c1 : prog.cellsOf 3 = 1 := by kernel_rfl
  have c2 : prog.cellsOf 26 = 1 := by kernel_rfl
  have c3 : prog.cellsOf 9 = 1 := by kernel_rfl
  rw [c4] at hl
  match cs, hl with
  | [q0, q1, q2, q3], _ =>
    simp only [c1, c2, c3, List.drop_zero, List.drop_succ_cons, List.take_succ_cons, List.take_zero] at e0 e1 e2 e3
    cases e0; cases e1; cases e2; cases e3
    refine ⟨⟨a, b, c, s⟩, rfl, ?_⟩
    have r1 : 0 ≤ b ∧ b < 4294967296 := by simp [Lit.wf, IntKind.min, IntKind.max, IntKind.bits, IntKind.signed] at w1; omega
    have r2 : 0 ≤ c ∧ c < 4294967296 := by simp [Lit.wf, IntKind.min, IntKind.max, IntKind.bits, IntKind.signed] at w2; omega
    exact ⟨r1.1, r1.2, r2.1, r2.2⟩
theorem weigh {t : TypeId} {ts : List TypeId} {d : DataW H} {ds : List (DataW H)} {p : Nat → Bool} (h : (DataW.weightsEach prog (t :: ts) (d :: ds)).all p = true) : (d.weights prog t).all p = true ∧ (DataW.weightsEach prog ts ds).all p = true := by
  simp only [DataW.weightsEach, List.all_append, Bool.and_eq_true] at h
  exact h
theorem openPts {v : Value} {d : DataW H} {ps : List MemPlace} {base : Nat} (hv : Value.okWide prog W .any base 22 v) (h : DataW.Trod enc prog W 0 (fun _ => true) true 22 v d ps) :
    ∃ l : List Pt, SliceAt (full W) v 4 (pts l) ∧ (∀ p ∈ l, PtR p) ∧ ((d.weights prog 22).all (· ≤ reachBytes) = true → l.length ≤ 10000000000000) := by
  obtain ⟨a, len, cap, rfl⟩ := Go.WideShapes.okWide_slice Go.Proofs.Try.underlying22 hv
  obtain ⟨fuel, hf⟩ := h
  rcases Go.Deep.open_slice Go.Proofs.Try.underlying22 hf with ⟨e, e2⟩ | ⟨A, ln, cp, m, n, D, Pl, e, hb, hl, hm, hmm, e2, hx⟩
  · cases e
    exact ⟨[], slice_nil _, by simp, by simp⟩
  · cases e
    obtain ⟨rfl, -⟩ := Prod.mk.inj e2
    simp only [if_true] at hmm
    subst hmm
    have hc : prog.cellsOf 28 = 4 := by kernel_rfl
    have hby : prog.bytesOf 28 = 32 := by kernel_rfl
    have pick : ∀ i, ∃ p : Pt, i < len → PtR p ∧ (full W).has (A.add (i * 4)) (ptC p) ∧ A.spot = none := fun i => by
      by_cases hi : i < len
      · obtain ⟨cs', h1, h2⟩ := hx i (by omega)
        rw [hc] at h1
        obtain ⟨p, rfl, hp⟩ := openPt h2
        obtain ⟨_, h3, h4⟩ := World.cells?_some h1
        refine ⟨p, fun _ => ⟨hp, ?_, ?_⟩⟩
        · intro j x hj
          have hj4 : j < 4 := (List.getElem?_eq_some_iff.1 hj).1
          have := h4 j hj4
          rw [hj] at this
          exact this
        · obtain ⟨cs0, k1, k2⟩ := hx 0 (by omega)
          rw [hc] at k1
          obtain ⟨_, k3, k4⟩ := World.cells?_some k1
          have := k4 0 (by omega)
          simp only [Nat.zero_mul, add0] at this
          rw [List.getElem?_eq_getElem (by omega)] at this
          unfold World.cell? at this
          split at this
          · split at this
            · cases this
            · rename_i hs
              simpa using hs
          · cases this
      · exact ⟨default, fun h => absurd h hi⟩
    obtain ⟨f, hf⟩ := Classical.axiomOfChoice pick
    refine ⟨(List.range len).map f, ⟨some A, len, _, rfl, by simp [pts], hl, ?_, ?_, fun i e he => ?_⟩, ?_, fun hw => ?_⟩
    · intro e he
      simp only [pts, List.mem_map] at he
      obtain ⟨p, _, rfl⟩ := he
      rfl
    · intro e he
      simp only [pts, List.mem_map] at he
      obtain ⟨p, _, rfl⟩ := he
      exact ptC_one p
    · simp only [pts, List.getElem?_map] at he
      obtain ⟨p, hp, rfl⟩ := Option.map_eq_some_iff.1 he
      obtain ⟨i', hi', rfl⟩ := Option.map_eq_some_iff.1 hp
      have hlt := (List.getElem?_eq_some_iff.1 hi').1
      have hii : i' = i := by have := (List.getElem?_eq_some_iff.1 hi').2; simp at this; omega
      subst hii
      obtain ⟨_, g1, g2⟩ := hf i' (by simpa using hlt)
      exact ⟨A, rfl, g2, g1⟩
    · intro p hp
      obtain ⟨i, hi, rfl⟩ := List.mem_map.1 hp
      exact (hf i (List.mem_range.1 hi)).1
    · simp only [DataW.weights, Go.Proofs.Try.underlying22, List.all_cons, Bool.and_eq_true, decide_eq_true_eq, List.length_map, List.length_range, hby] at hw
      simp only [List.length_map, List.length_range]
      have := hw.1
      unfold reachBytes at this
      omega
end
end Cr

set_option linter.unusedVariables false
set_option linter.unusedSimpArgs false
namespace Cr
open Go Sx Stb Bt
open Go.Proofs.Try
set_option maxRecDepth 100000
section
variable {H : Type} {enc : TypeId × Value → H} {W : World}
theorem openRcV {v : Value} {d : DataW H} {ps : List MemPlace} {base : Nat} (hv : Value.okWide prog W .any base 46 v) (h : DataW.Trod enc prog W 0 (fun _ => true) true 46 v d ps) : ∃ r : Rc, v = rcV r ∧ RcOK r := by
  obtain ⟨cs, rfl, _⟩ := Go.WideShapes.okWide_struct Go.Proofs.Try.underlying46 hv
  obtain ⟨fuel, hf⟩ := h
  obtain ⟨y0, y1, y2, y3, n, _, hl, h0, h1, h2, h3⟩ := Go.Joins.trod_struct4 Go.Proofs.Try.underlying46 hf
  obtain ⟨a, e0, _, w0⟩ := DataW.trod_int Go.Proofs.Try.underlying26 h0
  obtain ⟨b, e1, _, w1⟩ := DataW.trod_int Go.Proofs.Try.underlying26 h1
  obtain ⟨c, e2, _, w2⟩ := DataW.trod_int Go.Proofs.Try.underlying26 h2
  obtain ⟨s, e3, _, w3⟩ := DataW.trod_int Go.Proofs.Try.underlying26 h3
  have c4 : prog.cellsOf 46 = 4 := by kernel_rfl
  have c2 : prog.cellsOf 26 = 1 := by kernel_rfl
  obtain ⟨cl⟩ := cs
  simp only [Value.cells] at hl e0 e1 e2 e3
  rw [c4] at hl
  match cl, hl with
  | [q0, q1, q2, q3], _ =>
    simp only [c2, List.drop_zero, List.drop_succ_cons, List.take_succ_cons, List.take_zero] at e0 e1 e2 e3
    cases e0; cases e1; cases e2; cases e3
    refine ⟨⟨a, b, c, s⟩, rfl, ?_⟩
    have r0 : 0 ≤ a ∧ a < 4294967296 := by simp [Lit.wf, IntKind.min, IntKind.max, IntKind.bits, IntKind.signed] at w0; omega
    have r1 : 0 ≤ b ∧ b < 4294967296 := by simp [Lit.wf, IntKind.min, IntKind.max, IntKind.bits, IntKind.signed] at w1; omega
    have r2 : 0 ≤ c ∧ c < 4294967296 := by simp [Lit.wf, IntKind.min, IntKind.max, IntKind.bits, IntKind.signed] at w2; omega
    have r3 : 0 ≤ s ∧ s < 4294967296 := by simp [Lit.wf, IntKind.min, IntKind.max, IntKind.bits, IntKind.signed] at w3; omega
    exact ⟨r0, r1, r2, r3⟩
end
end Cr
