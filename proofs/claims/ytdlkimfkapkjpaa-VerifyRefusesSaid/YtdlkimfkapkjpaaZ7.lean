/- Own texts, one behind the other: X13, X14, S2, S3, S7, W1, S12, W2, X15, X16, X18, X19, X20, X21, S5, X22. -/
import Derived.Deep.Slices
import Derived.Test.YtdlkimfkapkjpaaRows
import Derived.Test.YtdlkimfkapkjpaaZ6
set_option linter.unusedVariables false
set_option linter.unusedSimpArgs false
namespace Cr
open Go Sx Stb
open Go.Proofs.Try
set_option linter.unusedSectionVars false
variable [Dr]
set_option maxRecDepth 100000
/-! ### Cells (as in wip/g's V2) -/
/-- All points stand in a cell. -/
def InC (h : Nat) (x y : Int) (L : List Pt) : Prop := ∀ p ∈ L, (x ≤ p.x ∧ p.x < x + 2 ^ h) ∧ (y ≤ p.y ∧ p.y < y + 2 ^ h)
theorem in_root {L : List Pt} (hp : ∀ p ∈ L, PtR p) : InC 32 0 0 L := fun p hm => by
  obtain ⟨a, b, c, d⟩ := hp p hm
  have : (2 : Int) ^ 32 = 4294967296 := by decide
  rw [this]
  omega
theorem bit_in {h : Nat} (hh : h < 32) {x a : Int} (hx : Cor (h + 1) x) (ha : x ≤ a ∧ a < x + 2 ^ (h + 1)) : x + a / 2 ^ h % 2 * 2 ^ h ≤ a ∧ a < x + a / 2 ^ h % 2 * 2 ^ h + 2 ^ h := by
  have hp := pow_le (h := h) (by omega)
  have h2 : (2 : Int) ^ (h + 1) = 2 * 2 ^ h := by rw [Int.pow_succ]; omega
  obtain ⟨hx0, _, hx2⟩ := hx
  rw [h2] at ha hx2
  generalize (2 : Int) ^ h = w at *
  obtain ⟨q, rfl⟩ : ∃ q, x = 2 * w * q := ⟨x / (2 * w), by have := Int.mul_ediv_add_emod x (2 * w); omega⟩
  obtain ⟨b, hb⟩ : ∃ b, b = a - 2 * w * q := ⟨_, rfl⟩
  have ea : a = w * (2 * q) + b := by rw [hb, Int.mul_comm 2 w, Int.mul_assoc]; omega
  have hb0 : 0 ≤ b ∧ b < 2 * w := by omega
  have ed : a / w = 2 * q + b / w := by rw [ea, Int.add_comm, Int.add_mul_ediv_left _ _ (by omega)]; omega
  rw [ed]
  rcases Int.lt_or_le b w with hl | hl
  · have : b / w = 0 := Int.ediv_eq_zero_of_lt hb0.1 hl
    rw [this, show (2 * q + 0) % 2 = 0 by omega]
    omega
  · have : b / w = 1 := by
      have h1 : b = (b - w) + w * 1 := by omega
      rw [h1, Int.add_mul_ediv_left _ _ (by omega), Int.ediv_eq_zero_of_lt (by omega) (by omega)]; rfl
    rw [this, show (2 * q + 1) % 2 = 1 by omega]
    omega
theorem in_kid {h : Nat} (hh : h < 32) {x y : Int} (hx : Cor (h + 1) x) (hy : Cor (h + 1) y) {L : List Pt} (hi : InC (h + 1) x y L) {q : Nat} (hq : q < 4) : InC h (x + ((q % 2 : Nat) : Int) * 2 ^ h) (y + ((q / 2 : Nat) : Int) * 2 ^ h) (quarter h q L) := fun p hm => by
  obtain ⟨hm, hqt⟩ := List.mem_filter.1 hm
  have hqt : qt h p = (q : Int) := eq_of_beq hqt
  obtain ⟨i1, i2⟩ := hi p hm
  have b1 := bit_in hh hx i1
  have b2 := bit_in hh hy i2
  unfold qt at hqt
  have e1 : p.x / 2 ^ h % 2 = ((q % 2 : Nat) : Int) := by omega
  have e2 : p.y / 2 ^ h % 2 = ((q / 2 : Nat) : Int) := by omega
  rw [e1] at b1; rw [e2] at b2
  exact ⟨b1, b2⟩
theorem cor0 : Cor 32 0 := ⟨by omega, by decide, by decide⟩
def ck0 : Ck := ⟨[], [], false⟩
/-- What Check tells. -/
def okC (m : M) : Int := if (checkC m 600 32 1 0 0 ck0).1.odd = false ∧ (checkC m 600 32 1 0 0 ck0).1.met.length = (idsOf m).length then 0 else 21
section
variable {H : Heap} {R : Ending → Heap → Prop}
theorem s_vCheck {ga : Addr} {r : Nat} {m : M} (hg : GroveAt H ga r m) (hD : Dom m) (hR : RangeM m) (hN : NoPan m) (k : ∀ H', H ≤ H' → R (.returned (vi (okC m))) H') : Meets prog 9 [.pointer (some ga)] H R := by
  refine spec_of func9 (by kernel_rfl) (fun t h => by cases h) (by simp [argsR, SV.rep, SC.rep, one]) (vc_vCheck (some ga) R H) ?_
  unfold nf_vCheck
  intro rm hrm ri hri
  have hne : ri ≠ rm := by rintro rfl; rw [upd_same] at hri; cases hri
  have hri0 : H ri = none := by rw [upd_ne _ _ hne] at hri; exact hri
  refine s_croot ⟨_, _, _, rfl, fun b hb => ?_⟩
  have hb1 : b ≠ ri := by rintro rfl; rw [upd_same] at hb; cases hb
  have hb2 : b ≠ rm := by rintro rfl; rw [upd_ne _ _ hne.symm, upd_same] at hb; cases hb
  have hb0 : H b = none := by rw [upd_ne _ _ hb1, upd_ne _ _ hb2] at hb; exact hb
  generalize hH1 : Heap.upd (Heap.upd (Heap.upd H rm (.map #[] 0)) ri (.map #[] 0)) b (.cells #[.pointer (some ga), .map (some rm), .map (some ri), .bool false] 67 (0, 0)) = H1
  have hle : H ≤ H1 := by
    intro c o e
    rw [← hH1, upd_ne _ _ (by rintro rfl; rw [hb0] at e; cases e), upd_ne _ _ (by rintro rfl; rw [hri0] at e; cases e), upd_ne _ _ (by rintro rfl; rw [hrm] at e; cases e)]
    exact e
  obtain ⟨es, clk, hr⟩ := hg.isMap
  have h0 : CkSt H1 b ga r rm ri m ck0 := by
    refine ⟨by rw [← hH1]; exact upd_same _ _ _, ?_, ?_, hg.le hle, ?_, ?_, hne.symm, by simp [ck0], by simp [ck0]⟩
    · refine maps_same (maps_new H rm .i64) fun o e => ?_
      rw [← hH1, upd_ne _ _ hb2.symm, upd_ne _ _ hne.symm]; exact e
    · refine maps_same (maps_new (Heap.upd H rm (.map #[] 0)) ri .i64) fun o e => ?_
      rw [← hH1, upd_ne _ _ hb1.symm]; exact e
    · rintro rfl; rw [hrm] at hr; cases hr
    · rintro rfl; rw [hri0] at hr; cases hr
  have e0 : (32 : Int) - ((32 : Nat) : Int) = 0 := by omega
  have cc := @s_ccheck _ b ga r rm ri m hD hR hN 600 32 1 0 0 ck0 H1
  rw [e0] at cc
  refine cc (by omega) ⟨by omega, by decide, by decide⟩ ⟨by omega, by decide, by decide⟩ h0 (by simp [ck0]) fun H2 hc hf => ⟨_, rfl, _, _, _, _, ⟨b, rfl, hc.ck⟩, ?_⟩
  have hle2 : H ≤ Heap.delO H2 (blockOf (.pointer (some ⟨b, 0, none⟩))) := by
    intro c o e
    have n1 : c ≠ b := by rintro rfl; rw [hb0] at e; cases e
    show (if c = b then none else H2 c) = some o
    rw [if_neg n1]
    exact hf.off _ _ n1 (by rintro rfl; rw [hrm] at e; cases e) (by rintro rfl; rw [hri0] at e; cases e) (hle _ _ e)
  obtain ⟨n0, n1, n2⟩ := hc.nb
  have hk := hc.ents
  obtain ⟨es2, clk2, he2, _⟩ := hc.met
  have hes : es2.size = (checkC m 600 32 1 0 0 ck0).1.met.length := by
    unfold entN' at hk
    rw [he2] at hk
    exact hk
  generalize hC : checkC m 600 32 1 0 0 ck0 = C at *
  refine br (fun q => ?_) fun q => ⟨es2, clk2, by show (if rm = b then none else H2 rm) = _; rw [if_neg n1]; exact he2, ?_⟩
  · have := k _ hle2
    unfold okC at this
    rw [hC, if_neg (by rw [q]; simp)] at this
    exact this
  · refine s_ids (hg.le hle2) fun v H3 hle3 hf3 hrow => ?_
    obtain ⟨a3, c3, rfl⟩ := row_val hrow
    have hl : (cells (idsOf m)).length = (idsOf m).length := by simp [cells]
    have := k H3 (heap_trans hle2 hle3)
    unfold okC at this
    rw [hC] at this
    refine ⟨a3, _, c3, rfl, br (fun q2 => ?_) fun q2 => ?_⟩
    · rw [if_neg] at this
      · exact this
      · rintro ⟨_, q3⟩
        rw [hes, hl, q3] at q2
        simp at q2
    · rw [if_pos] at this
      · exact this
      · refine ⟨q, ?_⟩
        rw [hes, hl] at q2
        simp at q2
        omega
end
/-! ### A tree is taken -/
theorem getC_new {m : M} {s : Ck} {id : Int} {d : Nd} (hd : m id = some d) (hn : id ∉ s.met) : getC m s id = ({ s with met := s.met ++ [id] }, some d) := by
  unfold getC
  rw [hd]
  simp only
  rw [if_neg hn]
theorem div_in {a x : Int} {h : Nat} (hx : x % 2 ^ h = 0) (ha : x ≤ a ∧ a < x + 2 ^ h) : a / 2 ^ h * 2 ^ h = x / 2 ^ h * 2 ^ h := by
  have hp : (0 : Int) < 2 ^ h := by exact_mod_cast Nat.two_pow_pos h
  have e1 : x / 2 ^ h * 2 ^ h = x := Int.ediv_mul_cancel (Int.dvd_of_emod_eq_zero hx)
  have e2 : a / 2 ^ h = x / 2 ^ h := by
    have h1 : x = 2 ^ h * (x / 2 ^ h) := by rw [Int.mul_comm]; exact e1.symm
    have : a = (a - x) + 2 ^ h * (x / 2 ^ h) := by omega
    rw [this, Int.add_mul_ediv_left _ _ (by omega), Int.ediv_eq_zero_of_lt (by omega) (by omega)]
    omega
  rw [e2]
theorem inCe_in {x y : Int} {h : Nat} (hx : Cor h x) (hy : Cor h y) {L : List Pt} (hi : InC h x y L) {p : Pt} (hp : p ∈ L) : inCe x y h p.x p.y = true := by
  obtain ⟨h1, h2⟩ := hi p hp
  unfold inCe
  rw [div_in hx.2.2 h1, div_in hy.2.2 h2]
  simp
theorem ptsC_good {x y : Int} {h : Nat} (hx : Cor h x) (hy : Cor h y) : ∀ (l : List Pt) (s : Ck), InC h x y l → (l.map Pt.id).Nodup → (∀ p ∈ l, p.id ∉ s.ids) → s.odd = false → ptsC x y h l s = { s with ids := s.ids ++ l.map Pt.id }
  | [], s, _, _, _, _ => by simp [ptsC]
  | p :: r, s, hi, hn, hnew, ho => by
    have hp := hnew p (List.mem_cons_self ..)
    have e1 : ptC1 x y h s p = { s with ids := s.ids ++ [p.id] } := by
      unfold ptC1 needC addI
      rw [inCe_in hx hy hi (List.mem_cons_self ..), if_neg hp, ho]
      simp [hp]
    show ptsC x y h r (ptC1 x y h s p) = _
    rw [List.map_cons, List.nodup_cons] at hn
    rw [e1, ptsC_good hx hy r { s with ids := s.ids ++ [p.id] } (fun q hq => hi q (List.mem_cons_of_mem _ hq)) hn.2 (fun q hq hm => ?_) ho]
    · simp
    · rcases List.mem_append.1 hm with hm | hm
      · exact hnew q (List.mem_cons_of_mem _ hq) hm
      · simp only [List.mem_singleton] at hm
        exact hn.1 (hm ▸ List.mem_map_of_mem hq)
end Cr

set_option linter.unusedVariables false
set_option linter.unusedSimpArgs false
namespace Cr
open Go Sx Stb
open Go.Proofs.Try
set_option linter.unusedSectionVars false
variable [Dr]
set_option maxRecDepth 100000
theorem chp_head {m : M} {id : Int} {T : List Int} {L : List Pt} (h : ChP m (id :: T) L) : ∃ d, m id = some d ∧ d.leaf = true ∧ d.pts = L.take 4 ∧ d.next = T.headD 0 ∧ ((T = [] ∧ L.length ≤ 4) ∨ ∃ nx T', T = nx :: T' ∧ 4 < L.length ∧ ChP m (nx :: T') (L.drop 4)) := by
  cases T with
  | nil =>
    obtain ⟨h1, h2⟩ := h
    exact ⟨_, h2, rfl, (List.take_of_length_le h1).symm, rfl, .inl ⟨rfl, h1⟩⟩
  | cons nx T' =>
    obtain ⟨h1, h2, h3⟩ := h
    exact ⟨_, h2, rfl, rfl, rfl, .inr ⟨nx, T', rfl, h1, h3⟩⟩
theorem sub_nd {L L' : List Pt} (h : (L.map Pt.id).Nodup) (hs : L'.Sublist L) : (L'.map Pt.id).Nodup := h.sublist (hs.map _)
theorem rise_nd {L : List Pt} (h : L.Pairwise fun p q => p.id < q.id) : (L.map Pt.id).Nodup := by
  rw [List.Nodup, List.pairwise_map]
  exact h.imp fun h => by omega
theorem take_chain {m : M} (hD : Dom m) {x y : Int} (hx : Cor 0 x) (hy : Cor 0 y) : ∀ (T : List Int) (id : Int) (L : List Pt) (d : Nd) (s : Ck) (t : Int) (f : Nat), ChP m (id :: T) L → m id = some d → InC 0 x y L → L.Pairwise (fun p q => p.id < q.id) →
    T.Nodup → (∀ i ∈ T, i ∉ s.met) → (∀ p ∈ L.drop 4, p.id ∉ s.ids) → s.odd = false → T.length < f →
    chainC m x y 0 f d s t = ({ s with met := s.met ++ T, ids := s.ids ++ (L.drop 4).map Pt.id }, t + (L.drop 4).length)
  | T, id, L, d, s, t, 0, _, _, _, _, _, _, _, _, hf => by omega
  | T, id, L, d, s, t, f + 1, hch, hd, hi, hr, hn, hm, hid, ho, hf => by
    obtain ⟨d', e1, e2, e3, e4, e5⟩ := chp_head hch
    rw [hd] at e1; cases e1
    rcases e5 with ⟨rfl, hl⟩ | ⟨nx, T', rfl, hl, hch'⟩
    · rw [chainC_stop (by simp [e4])]
      rw [List.drop_of_length_le hl]
      simp
    · obtain ⟨e, g1, g2, g3, g4, g5⟩ := chp_head hch'
      have hnx : 0 < nx := by have := (hD _ _ g1).1; omega
      have e4' : d.next = nx := e4
      have hlen : d.pts.length = 4 := by rw [e3, List.length_take]; omega
      have hnm : nx ∉ s.met := hm nx (List.mem_cons_self ..)
      rw [List.nodup_cons] at hn
      unfold chainC
      rw [if_pos ⟨by rw [e4']; exact hnx, ho⟩, hlen, e4']
      have eN : needC s (decide (0 = 0) && decide (4 = 4)) = s := by cases s; simp_all [needC]
      rw [eN, getC_new g1 hnm]
      simp only
      -- the link
      obtain ⟨p, hp⟩ : ∃ p, (L.drop 4)[0]? = some p := ⟨(L.drop 4)[0]'(by simp; omega), List.getElem?_eq_getElem (by simp; omega)⟩
      obtain ⟨z, hz⟩ : ∃ z, L[3]? = some z := ⟨L[3]'(by omega), List.getElem?_eq_getElem (by omega)⟩
      have hlt : z.id < p.id := by
        rw [List.getElem?_drop] at hp
        obtain ⟨a1, rfl⟩ := List.getElem?_eq_some_iff.1 hz
        obtain ⟨a2, rfl⟩ := List.getElem?_eq_some_iff.1 hp
        exact List.pairwise_iff_getElem.1 hr 3 (4 + 0) a1 a2 (by omega)
      have hlk : lnk d e = true := by
        unfold lnk
        rw [g2, g3, e3]
        have a1 : ((L.drop 4).take 4).head? = some p := by rw [List.head?_take, if_neg (by omega), List.head?_eq_getElem?]; exact hp
        have a2 : (L.take 4).getLast? = some z := by
          rw [List.getLast?_eq_getElem?, List.length_take, show min 4 L.length - 1 = 3 by omega, List.getElem?_take_of_lt (by omega)]; exact hz
        rw [a1, a2]
        simp [hlt]
      rw [hlk]
      generalize hS : ({ s with met := s.met ++ [nx] } : Ck) = S
      have eS : S.odd = false ∧ S.met = s.met ++ [nx] ∧ S.ids = s.ids := by rw [← hS]; exact ⟨ho, rfl, rfl⟩
      have eN2 : needC S true = S := by cases S; simp_all [needC]
      have hpg : ptsC x y 0 e.pts S = { S with ids := S.ids ++ e.pts.map Pt.id } := by
        rw [g3]
        refine ptsC_good hx hy _ S (fun q hq => hi q (List.mem_of_mem_drop (List.mem_of_mem_take hq))) (sub_nd (rise_nd hr) ((List.take_sublist _ _).trans (List.drop_sublist _ _))) (fun q hq => ?_) eS.1
        rw [eS.2.2]
        exact hid q (List.mem_of_mem_take hq)
      rw [eN2, hpg, take_chain hD hx hy T' nx (L.drop 4) e _ _ f hch' g1 (fun q hq => hi q (List.mem_of_mem_drop hq)) (hr.sublist (List.drop_sublist _ _)) hn.2 ?_ ?_ ?_ (by simp at hf; omega)]
      · rw [g3, Prod.mk.injEq, Ck.mk.injEq]
        have e6 : (L.drop 4).take 4 ++ (L.drop 4).drop 4 = L.drop 4 := List.take_append_drop _ _
        refine ⟨⟨?_, ?_, ?_⟩, ?_⟩
        · simp [eS.2.1]
        · simp only [eS.2.2, List.append_assoc]
          rw [← List.map_append, e6]
        · exact eS.1.trans ho.symm
        · have e7 := congrArg List.length e6
          rw [List.length_append] at e7
          omega
      · intro i hi2
        simp only [eS.2.1, List.mem_append, List.mem_singleton, not_or]
        exact ⟨hm i (List.mem_cons_of_mem _ hi2), fun q => hn.1 (q ▸ hi2)⟩
      · intro q hq
        simp only [eS.2.2, List.mem_append, not_or]
        refine ⟨hid q (List.mem_of_mem_drop hq), fun hq2 => ?_⟩
        rw [g3] at hq2
        have hnd := sub_nd (rise_nd hr) (List.drop_sublist 4 L)
        rw [← List.take_append_drop 4 (L.drop 4), List.map_append] at hnd
        exact (List.nodup_append.1 hnd).2.2 _ hq2 _ (List.mem_map_of_mem hq) rfl
      · exact eS.1
/-! ### Trees -/
def pre {α : Type} (J : Nat → List α) (q : Nat) : List α := (List.range q).flatMap J
theorem pre_succ {α : Type} (J : Nat → List α) (q : Nat) : pre J (q + 1) = pre J q ++ J q := by simp [pre, List.range_succ]
theorem pre4 {α : Type} (J : Nat → List α) : pre J 4 = J 0 ++ (J 1 ++ (J 2 ++ J 3)) := by simp [pre, List.range_succ]
theorem pre_sub {α : Type} (J : Nat → List α) : ∀ {q n : Nat}, q ≤ n → (pre J q).Sublist (pre J n)
  | q, 0, h => by have : q = 0 := by omega
                  subst this; exact List.Sublist.refl _
  | q, n + 1, h => by
    by_cases e : q = n + 1
    · subst e; exact List.Sublist.refl _
    · rw [pre_succ]
      exact (pre_sub J (by omega)).trans (List.sublist_append_left _ _)
theorem quarter_disj {h q q' : Nat} {L : List Pt} (hr : (L.map Pt.id).Nodup) (hne : q ≠ q') {p p' : Pt} (hp : p ∈ quarter h q L) (hp' : p' ∈ quarter h q' L) : p.id ≠ p'.id := by
  intro e
  obtain ⟨h1, h2⟩ := List.mem_filter.1 hp
  obtain ⟨h3, h4⟩ := List.mem_filter.1 hp'
  have : p = p' := by
    obtain ⟨i, hi⟩ := List.mem_iff_getElem?.1 h1
    obtain ⟨j, hj⟩ := List.mem_iff_getElem?.1 h3
    have e1 : (L.map Pt.id)[i]? = some p.id := by rw [List.getElem?_map, hi]; rfl
    have e2 : (L.map Pt.id)[j]? = some p.id := by rw [List.getElem?_map, hj, e]; rfl
    have hil := (List.getElem?_eq_some_iff.1 hi).1
    have := (List.getElem?_inj (by rw [List.length_map]; exact hil) hr).1 (e1.trans e2.symm)
    subst this
    rw [hi] at hj; cases hj; rfl
  subst this
  have a1 : qt h p = (q : Int) := eq_of_beq h2
  have a2 : qt h p = (q' : Int) := eq_of_beq h4
  omega
theorem take_tree {m : M} (hD : Dom m) : ∀ (h : Nat) {id : Int} {L : List Pt} {I : List Int} {x y : Int} {s : Ck} {f : Nat}, TrP m h id L I → h ≤ 32 → Cor h x → Cor h y → InC h x y L → (∀ p ∈ L, PtR p) → L.Pairwise (fun p q => p.id < q.id) →
    I.Nodup → (∀ i ∈ I, i ∉ s.met) → (∀ p ∈ L, p.id ∉ s.ids) → s.odd = false → I.length ≤ f → I.length ≤ 255 →
    ∃ P : List Int, checkC m f h id x y s = ({ s with met := s.met ++ I, ids := s.ids ++ P }, (L.length : Int)) ∧ P.Perm (L.map Pt.id) := by
  -- a leaf's chain
  have leaf : ∀ (h : Nat) {id : Int} {L : List Pt} {I : List Int} {x y : Int} {s : Ck} {f : Nat}, I.head? = some id → ChP m I L → (h = 0 ∨ I = [id]) → Cor h x → Cor h y → InC h x y L → L.Pairwise (fun p q => p.id < q.id) →
      I.Nodup → (∀ i ∈ I, i ∉ s.met) → (∀ p ∈ L, p.id ∉ s.ids) → s.odd = false → I.length ≤ f → I.length ≤ 255 →
      ∃ P : List Int, checkC m f h id x y s = ({ s with met := s.met ++ I, ids := s.ids ++ P }, (L.length : Int)) ∧ P.Perm (L.map Pt.id) := by
    intro h id L I x y s f hhd hch hone hx hy hi hr hn hm hid ho hf h255
    obtain ⟨T, rfl⟩ : ∃ T, I = id :: T := by cases I with | nil => simp at hhd | cons a T => simp at hhd; exact ⟨T, by rw [hhd]⟩
    obtain ⟨f, rfl⟩ : ∃ g, f = g + 1 := ⟨f - 1, by simp at hf; omega⟩
    obtain ⟨d, e1, e2, e3, e4, e5⟩ := chp_head hch
    have hnm := hm id (List.mem_cons_self ..)
    rw [List.nodup_cons] at hn
    unfold checkC
    rw [getC_new e1 hnm]
    simp only
    rw [if_neg (by rw [ho]; simp), if_pos e2]
    generalize hS : ({ s with met := s.met ++ [id] } : Ck) = S
    have eS : S.odd = false ∧ S.met = s.met ++ [id] ∧ S.ids = s.ids := by rw [← hS]; exact ⟨ho, rfl, rfl⟩
    have hpg : ptsC x y h d.pts S = { S with ids := S.ids ++ d.pts.map Pt.id } := by
      rw [e3]
      refine ptsC_good hx hy _ S (fun q hq => hi q (List.mem_of_mem_take hq)) (sub_nd (rise_nd hr) (List.take_sublist _ _)) (fun q hq => ?_) eS.1
      rw [eS.2.2]
      exact hid q (List.mem_of_mem_take hq)
    rw [hpg]
    rcases e5 with ⟨rfl, hl⟩ | ⟨nx, T', rfl, hl, hch'⟩
    · rw [chainC_stop (by simp [e4])]
      refine ⟨L.map Pt.id, ?_, List.Perm.refl _⟩
      rw [e3, List.take_of_length_le hl, Prod.mk.injEq, Ck.mk.injEq]
      exact ⟨⟨eS.2.1, by rw [eS.2.2], eS.1.trans ho.symm⟩, rfl⟩
    · have h0 : h = 0 := by
        rcases hone with h0 | h1
        · exact h0
        · simp at h1
      subst h0
      rw [take_chain hD hx hy (nx :: T') id L d _ _ 600 hch e1 hi hr hn.2 ?_ ?_ ?_ (by simp at h255 ⊢; omega)]
      · refine ⟨L.map Pt.id, ?_, List.Perm.refl _⟩
        have e6 : L.take 4 ++ L.drop 4 = L := List.take_append_drop _ _
        rw [e3, Prod.mk.injEq, Ck.mk.injEq]
        refine ⟨⟨by simp [eS.2.1], ?_, eS.1.trans ho.symm⟩, ?_⟩
        · simp only [eS.2.2, List.append_assoc]
          rw [← List.map_append, e6]
        · have e7 := congrArg List.length e6
          rw [List.length_append] at e7
          omega
      · intro i hi2
        simp only [eS.2.1, List.mem_append, List.mem_singleton, not_or]
        exact ⟨hm i (List.mem_cons_of_mem _ hi2), fun q => hn.1 (q ▸ hi2)⟩
      · intro q hq
        simp only [eS.2.2, List.mem_append, not_or]
        refine ⟨hid q (List.mem_of_mem_drop hq), fun hq2 => ?_⟩
        rw [e3] at hq2
        have hnd := rise_nd hr
        rw [← List.take_append_drop 4 L, List.map_append] at hnd
        exact (List.nodup_append.1 hnd).2.2 _ hq2 _ (List.mem_map_of_mem hq) rfl
      · exact eS.1
  intro h
  induction h with
  | zero =>
    intro id L I x y s f ht hh hx hy hi hpr hr hn hm hid ho hf h255
    exact leaf 0 ht.1 ht.2 (.inl rfl) hx hy hi hr hn hm hid ho hf h255
  | succ h ih =>
    intro id L I x y s f ht hh hx hy hi hpr hr hn hm hid ho hf h255
    unfold TrP at ht
    split at ht
    · rename_i hl
      exact leaf (h + 1) (by rw [ht.1]; rfl) ht.2 (.inr ht.1) hx hy hi hr hn hm hid ho hf h255
    · rename_i hl
      obtain ⟨ks, cs, J, hd, hk4, hc4, rfl, hsub⟩ := ht
      have hL4 : 4 < L.length := by omega
      obtain ⟨f, rfl⟩ : ∃ g, f = g + 1 := ⟨f - 1, by simp at hf; omega⟩
      have hnm := hm id (List.mem_cons_self ..)
      rw [List.nodup_cons] at hn
      unfold checkC
      rw [getC_new hd hnm]
      simp only
      rw [if_neg (by rw [ho]; simp), if_neg (by simp), Nat.add_sub_cancel]
      have hqp := quarters_perm (h := h) hpr
      have hcq : ∀ q, q < 4 → cs.getD q 0 = ((quarter h q L).length : Int) := fun q hq => by
        rcases hsub q hq with ⟨a1, _, a3, _⟩ | ⟨_, _, a3, _⟩
        · rw [a3, a1]; rfl
        · exact a3
      have htot : tot ⟨false, [], 0, ks, cs⟩ = (L.length : Int) := by
        have := hqp.length_eq
        simp only [List.length_append] at this
        unfold tot
        simp only
        rw [hcq 0 (by omega), hcq 1 (by omega), hcq 2 (by omega), hcq 3 (by omega)]
        omega
      have hne : needC { s with met := s.met ++ [id] } (decide (0 < h + 1) && decide (tot ⟨false, [], 0, ks, cs⟩ > 4)) = { s with met := s.met ++ [id] } := by
        rw [htot, decide_eq_true (by omega), decide_eq_true (by omega)]
        simp [needC, ho]
      rw [hne]
      rw [← pre4] at hn hm hf h255 ⊢
      have hJlen : ∀ q, q < 4 → (J q).length ≤ (pre J 4).length := fun q hq => by
        have := (pre_sub J (q := q + 1) (n := 4) (by omega)).length_le
        rw [pre_succ, List.length_append] at this
        omega
      have key : ∀ q : Nat, q ≤ 4 → ∃ P : List Int, kidsC (fun s k x' y' => checkC m f h k x' y' s) x y h ks cs q { s with met := s.met ++ [id] } = { s with met := (s.met ++ [id]) ++ pre J q, ids := s.ids ++ P } ∧ P.Perm ((pre (fun q => quarter h q L) q).map Pt.id) := by
        intro q
        induction q with
        | zero => intro _; exact ⟨[], by simp [kidsC, pre], by simp [pre]⟩
        | succ q ihq =>
          intro hq
          obtain ⟨P, e1, e2⟩ := ihq (by omega)
          have hq4 : q < 4 := by omega
          show ∃ P' : List Int, (match kidsC (fun s k x' y' => checkC m f h k x' y' s) x y h ks cs q { s with met := s.met ++ [id] } with
            | s => if 0 < ks.getD q 0 ∧ s.odd = false then
                match checkC m f h (ks.getD q 0) (x + ((q % 2 : Nat) : Int) * 2 ^ h) (y + ((q / 2 : Nat) : Int) * 2 ^ h) s with
                | (s', c) => needC s' (c == cs.getD q 0)
              else s) = _ ∧ _
          rw [e1]
          simp only
          have hnp := (pre_sub J (q := q + 1) (n := 4) (by omega))
          rw [pre_succ] at hnp
          have hnq := List.nodup_append.1 (hn.2.sublist hnp)
          rcases hsub q hq4 with ⟨a1, a2, a3, a4⟩ | ⟨a1, a2, a3, a4⟩
          · rw [if_neg (by rw [a2]; simp)]
            exact ⟨P, by rw [pre_succ, a4, List.append_nil], by rw [pre_succ, a1, List.append_nil]; exact e2⟩
          · rw [if_pos ⟨by omega, ho⟩]
            have hA : ∀ i ∈ J q, i ∉ (s.met ++ [id]) ++ pre J q := by
              intro i hiJ
              simp only [List.mem_append, List.mem_singleton, not_or]
              have hi4 : i ∈ pre J 4 := hnp.subset (List.mem_append_right _ hiJ)
              exact ⟨⟨hm i (List.mem_cons_of_mem _ hi4), fun e => hn.1 (e ▸ hi4)⟩, fun hi2 => hnq.2.2 i hi2 i hiJ rfl⟩
            have hB : ∀ p ∈ quarter h q L, p.id ∉ s.ids ++ P := by
              intro p hp
              simp only [List.mem_append, not_or]
              refine ⟨hid p (List.mem_filter.1 hp).1, fun hpP => ?_⟩
              have := e2.mem_iff.1 hpP
              obtain ⟨p', hp', e⟩ := List.mem_map.1 this
              obtain ⟨q', hq', hp'⟩ := List.mem_flatMap.1 hp'
              have hlt := List.mem_range.1 hq'
              exact quarter_disj (rise_nd hr) (by omega) hp' hp e
            obtain ⟨P', e3, e4⟩ := ih (s := { s with met := (s.met ++ [id]) ++ pre J q, ids := s.ids ++ P }) (f := f) a4 (by omega) (hx.kid (by omega) (b := ((q % 2 : Nat) : Int)) (by omega)) (hy.kid (by omega) (b := ((q / 2 : Nat) : Int)) (by omega)) (in_kid (by omega) hx hy hi hq4)
              (fun p hp => hpr p ((List.mem_filter.1 hp).1)) (hr.sublist List.filter_sublist) hnq.2.1 hA hB ho (by have := hJlen q hq4; simp at hf; omega) (by have := hJlen q hq4; simp at h255; omega)
            rw [e3]
            simp only
            refine ⟨P ++ P', ?_, ?_⟩
            · rw [a3]
              simp only [needC, beq_self_eq_true, Bool.not_true, Bool.or_false, pre_succ, List.append_assoc]
            · rw [pre_succ, List.map_append]
              exact e2.append e4
      obtain ⟨P, e1, e2⟩ := key 4 (by omega)
      rw [e1, htot]
      refine ⟨P, by simp, e2.trans ?_⟩
      rw [pre4]
      exact hqp.map _
end Cr

set_option linter.unusedVariables false
set_option linter.unusedSimpArgs false
namespace Cr
open Go Sx Stb Bt
open Go.Proofs.Try
set_option linter.unusedSectionVars false
variable [Dr]
set_option maxRecDepth 100000
section
variable {R : Ending → Heap → Prop} {H : Heap}
theorem cells_get {l : List Int} {i : Nat} (h : i < l.length) : ∃ e, List.get?Internal (cells l) i = some e ∧ List.take 1 (List.drop 0 e) = [vi (l.getD i 0)] := by
  refine ⟨[vi (l.getD i 0)], ?_, rfl⟩
  rw [List.get?Internal_eq_getElem?]
  simp [cells, h]
end
end Cr

set_option linter.unusedVariables false
set_option linter.unusedSimpArgs false
namespace Cr
open Go Sx Stb Bt
open Go.Proofs.Try
set_option linter.unusedSectionVars false
variable [Dr]
set_option maxRecDepth 100000
structure Cnt where
  met : Int → Bool
  ls : List Int
  lv : Int
  ot : Int
  fl : List Int
def padTo (l : List Int) (n : Nat) : List Int := l ++ List.replicate (n - l.length) 0
def lvBump (l : List Int) (lv : Nat) : List Int := (padTo l (lv + 1)).set lv (IntKind.i64.wrap ((padTo l (lv + 1)).getD lv 0 + 1))
theorem cells_at {H : Heap} {b ty : Nat} {L : List Value} (h : H b = some (.cells L.toArray ty (0, 0))) {k : Nat} {x : Value} (hx : L[k]? = some x) : H.has (Addr.add ⟨b, 0, none⟩ k) [x] := has_one (has_cells h) hx rfl
theorem cells_put {H : Heap} {b ty : Nat} {L : List Value} (h : H b = some (.cells L.toArray ty (0, 0))) {k : Nat} (hk : k < L.length) (x : Value) :
    (H (Addr.add ⟨b, 0, none⟩ k).block = some (.cells L.toArray ty (0, 0)) ∧ (Addr.add ⟨b, 0, none⟩ k).spot = none ∧ (Addr.add ⟨b, 0, none⟩ k).off + 1 ≤ L.toArray.size) ∧
    H.upd (Addr.add ⟨b, 0, none⟩ k).block (.cells (writeCells L.toArray (Addr.add ⟨b, 0, none⟩ k).off [x]) ty (0, 0)) = H.upd b (.cells (L.set k x).toArray ty (0, 0)) := by
  rw [add_spot rfl]
  refine ⟨⟨h, rfl, by simp; omega⟩, ?_⟩
  simp [writeCells]
theorem le_upd {G H : Heap} (h : G ≤ H) {b : Nat} (hb : G b = none) (o : Obj) : G ≤ H.upd b o := fun x o' e => by
  rw [upd_ne _ _ (fun e' => by subst e'; rw [hb] at e; cases e)]; exact h _ _ e
theorem delO_keep {H : Heap} {o : Option Nat} {x : Nat} {ob : Obj} (hn : ∀ k, o = some k → k ≠ x) (h : H x = some ob) : H.delO o x = some ob := by
  cases o with
  | none => exact h
  | some k => show (if x = k then none else H x) = _; rw [if_neg (Ne.symm (hn k rfl))]; exact h
section
variable {R : Ending → Heap → Prop} {H : Heap}
end
end Cr

set_option linter.unusedVariables false
set_option linter.unusedSimpArgs false
namespace Cr
open Go Sx Stb Bt
open Go.Proofs.Try
set_option linter.unusedSectionVars false
variable [Dr]
set_option maxRecDepth 100000
section
variable {R : Ending → Heap → Prop} {H : Heap}
def bumpN (C : Cnt) (x : Nat × Int) : Cnt := if x.2 < 0 then ⟨C.met, lvBump C.ls x.1, C.lv, IntKind.i64.wrap (C.ot + 1), C.fl⟩
  else ⟨C.met, lvBump C.ls x.1, IntKind.i64.wrap (C.lv + 1), C.ot, C.fl.set x.2.toNat (IntKind.i64.wrap (C.fl.getD x.2.toNat 0 + 1))⟩
def Cnt.after (C : Cnt) (V : List (Nat × Int)) : Cnt := V.foldl bumpN C
end
end Cr

set_option linter.unusedVariables false
set_option linter.unusedSimpArgs false
namespace Cr
open Go Sx Stb Bt
open Go.Proofs.Try
set_option linter.unusedSectionVars false
variable [Dr]
set_option maxRecDepth 100000
def wkL (g : Addr) (r : Nat) (s : Value) : List Value := [.pointer (some g), .map (some r), s]
/-- A walker stands at b, its map at r; what is in G is as it was. -/
def WkAt (G : Heap) (g : Addr) (b r : Nat) (met : Int → Bool) (out : List Int) (H : Heap) : Prop :=
  G ≤ H ∧ G b = none ∧ G r = none ∧ b ≠ r ∧ (∃ l, MapAt H r .i64 l ∧ ∀ id, getL l id = if met id then some (.bool true) else none) ∧
    ∃ a n c, H b = some (.cells (wkL g r (.slice a n c)).toArray 81 (0, 0)) ∧ RowAt H (.slice a n c) 3 1 (cells out) ∧ ∀ k, blockOf (.slice a n c) = some k → G k = none ∧ k ≠ b ∧ k ≠ r
section
variable {R : Ending → Heap → Prop} {H : Heap}
/-- A number is appended. -/
theorem WkAt.push {G : Heap} {g : Addr} {b r : Nat} {met : Int → Bool} {out : List Int} {H : Heap} (h : WkAt G g b r met out H) (hl : out.length ≤ 1000000) (y : Int) {X : Heap → Prop} (hX : ∀ H', WkAt G g b r met (out ++ [y]) H' → X H') :
    ∃ (a : Option Addr) (n c : Nat), H.has (Addr.add ⟨b, 0, none⟩ 2) [.slice a n c] ∧ ∃ es : List (List Value), RowAt H (.slice a n c) 3 1 es ∧ (List.append es [[vi y]]).length * 8 ≤ 140737488355328 ∧
      PtrK (some ⟨b, 0, none⟩) fun a_1 => PtrK (some a_1) fun a_2 => ∀ (v : Value) (H' : Heap), H.delO (blockOf (.slice a n c)) ≤ H' → (∀ b, blockOf v = some b → (H.delO (blockOf (.slice a n c))) b = none) → (∀ (b : Nat) (o : Obj), H' b = some o → (H.delO (blockOf (.slice a n c))) b = some o ∨ blockOf v = some b) → RowAt H' v 3 1 (List.append es [[vi y]]) →
        PtrK (some (Addr.add a_2 2)) fun A => ∃ (c : Array Value) (ty : TypeId), (H' A.block = some (.cells c ty (0, 0)) ∧ A.spot = none ∧ A.off + 1 ≤ c.size) ∧ X (H'.upd A.block (.cells (writeCells c A.off [v]) ty (0, 0))) := by
  obtain ⟨f1, f2, f3, f4, ⟨l3, f5, f6⟩, a3, n3, c3, f8, f9, f10⟩ := h
  refine ⟨a3, n3, c3, cells_at f8 (k := 2) rfl, _, f9, by simp [cells]; omega, ptr rfl (ptr rfl fun v H3 g1 g2 _ g4 => ptr rfl ?_)⟩
  obtain ⟨a4, c4, rfl⟩ := row_val g4
  have keep : ∀ x ob, (∀ k, blockOf (.slice a3 n3 c3) = some k → k ≠ x) → H x = some ob → H3 x = some ob := fun x ob h1 h2 => g1 _ _ (delO_keep h1 h2)
  have hb3 := keep b _ (fun k e => (f10 k e).2.1) f8
  have hG3 : G ≤ H3 := fun x ob e => keep x ob (fun k e' => by rintro rfl; rw [(f10 k e').1] at e; cases e) (f1 _ _ e)
  have fresh : ∀ k, blockOf (.slice a4 (List.append (cells out) [[vi y]]).length c4) = some k → ∀ x ob, (∀ k, blockOf (.slice a3 n3 c3) = some k → k ≠ x) → H x = some ob → k ≠ x := fun k e x ob h1 h2 => by
    rintro rfl
    have := g2 k e
    rw [delO_keep h1 h2] at this; cases this
  obtain ⟨p1, p2⟩ := cells_put hb3 (k := 2) (by simp [wkL]) (.slice a4 (List.append (cells out) [[vi y]]).length c4)
  refine ⟨_, _, p1, hX _ ?_⟩
  rw [p2]
  have hnb : ∀ k, blockOf (.slice a4 (List.append (cells out) [[vi y]]).length c4) = some k → k ≠ b := fun k e => fresh k e b _ (fun k e => (f10 k e).2.1) f8
  have hmap : ∃ es clk, H r = some (.map es clk) := by obtain ⟨es, clk, e, _⟩ := f5; exact ⟨es, clk, e⟩
  obtain ⟨es3, clk3, hm3⟩ := hmap
  refine ⟨le_upd hG3 f2 _, f2, f3, f4, ⟨l3, map_same f5 (fun o e => ?_), f6⟩, a4, _, c4, upd_same _ _ _, ?_, fun k e => ⟨?_, hnb k e, fresh k e r _ (fun k e => (f10 k e).2.2) hm3⟩⟩
  · rw [upd_ne _ _ (Ne.symm f4)]; exact keep r o (fun k e => (f10 k e).2.2) e
  · have : cells (out ++ [y]) = List.append (cells out) [[vi y]] := by simp [cells]
    rw [this]
    exact row_le g4 fun k o e q => by rw [upd_ne _ _ (hnb k e)]; exact q
  · cases e' : G k with
    | none => rfl
    | some ob => exact absurd rfl (fresh k e k ob (fun k' e2 e3 => by rw [e3] at e2; rw [(f10 k e2).1] at e'; cases e') (f1 _ _ e'))
end
end Cr

set_option linter.unusedVariables false
set_option linter.unusedSimpArgs false
namespace Cr
open Go Sx Stb Bt
open Go.Proofs.Try
set_option linter.unusedSectionVars false
variable [Dr]
set_option maxRecDepth 100000
section
variable {R : Ending → Heap → Prop} {H : Heap}
theorem once_facts {l : List Pt} (hp : ∀ p ∈ l, PtR p) (most : Int) : (∀ p ∈ onceP most l, ptOK p) ∧ ((onceP most l).map Pt.id).Nodup ∧ (0 ≤ most → ((onceP most l).length : Int) ≤ most) ∧ ∀ p ∈ onceP most l, PtR p := by
  obtain ⟨h1, h2, h3, h4⟩ := once_ok most l
  refine ⟨h1, h2, fun h0 => ?_, fun p hm => hp p (h4 p hm)⟩
  rcases h3 with h | h
  · rw [h]; simpa using h0
  · exact h
end
end Cr

set_option linter.unusedVariables false
set_option linter.unusedSimpArgs false
namespace Cr
open Go Sx Stb Bt
open Go.Proofs.Try
set_option linter.unusedSectionVars false
variable [Dr]
set_option maxRecDepth 100000
def BuildRes (l : List Pt) (a : Option Addr) (n : Int) (H : Heap) : Prop :=
  (∃ (i : Nat) (p : Pt), l[i]? = some p ∧ (∀ (j : Nat) (q : Pt), j < i → l[j]? = some q → ptOK q) ∧ pcode p ≠ 0 ∧ a = none ∧ n = pcode p) ∨
  (∀ p ∈ l, ptOK p) ∧ ((¬ (l.map Pt.id).Nodup ∧ a = none ∧ n = 22) ∨ (l.map Pt.id).Nodup ∧ ((255 < nds 32 (sortP l) ∧ a = none ∧ n = 10) ∨
    nds 32 (sortP l) ≤ 255 ∧ n = 0 ∧ ∃ b r m I, a = some ⟨b, 0, none⟩ ∧ GroveAt H ⟨b, 0, none⟩ r m ∧ TreeOK m (sortP l) I ∧ Low m))
theorem BuildRes.le {l : List Pt} {a : Option Addr} {n : Int} {H H' : Heap} (h : BuildRes l a n H) (hle : H ≤ H') : BuildRes l a n H' := by
  rcases h with h | ⟨h1, h | ⟨h2, h | ⟨h3, h4, b, r, m, I, h5, h6, h7⟩⟩⟩
  · exact .inl h
  · exact .inr ⟨h1, .inl h⟩
  · exact .inr ⟨h1, .inr ⟨h2, .inl h⟩⟩
  · exact .inr ⟨h1, .inr ⟨h2, .inr ⟨h3, h4, b, r, m, I, h5, h6.le hle, h7⟩⟩⟩
section
variable {R : Ending → Heap → Prop} {H : Heap}
end
end Cr

set_option linter.unusedVariables false
set_option linter.unusedSimpArgs false
namespace Cr
open Go Sx Stb
open Go.Proofs.Try
set_option linter.unusedSectionVars false
variable [Dr]
set_option maxRecDepth 100000
section
variable {R : Ending → Heap → Prop} {H : Heap} {ga : Addr} {r rm : Nat} {m : M}
theorem s_reach_none {id : Int} (hg : GroveAt H ga r m) (hn : m id = none) (K : ∀ H', H ≤ H' → R (.returned unitV) H') : Meets prog 31 [.pointer (some ga), vi id, .map (some rm)] H R := by
  refine spec_of func31 (by kernel_rfl) (fun t h => by cases h) (by simp [argsR, SV.rep, SC.rep, one]) (vc_vreach (some ga) id rm R H) ?_
  unfold nf_vreach
  refine s_get hg (by rw [hn]; simp) fun v H' hle hv => ?_
  rw [hn] at hv ⊢
  obtain ⟨a, n, c, rfl, h1, h2, h3⟩ := hv
  exact ⟨_, a, n, c, _, _, h2, _, h3, _, rfl, br (fun _ => K H' hle) fun q => by simp at q⟩
theorem s_reach_node {J : Nat → List Int} {id : Int} {d : Nd} {met : List Int} (hg : GroveAt H ga r m) (n1 : r ≠ rm) (hm : MapS H rm .i64 (okL met)) (hd : m id = some d) (hni : id ∉ met) (hfew : d.pts.length ≤ 1000000)
    (step : ∀ q, q < 5 → ∀ (H' : Heap) (R' : Ending → Heap → Prop), GroveAt H' ga r m → MapS H' rm .i64 (okL ((met ++ [id]) ++ pre J q)) →
      (∀ H'', MapS H'' rm .i64 (okL ((met ++ [id]) ++ pre J (q + 1))) → Fr rm rm rm H' H'' → R' (.returned unitV) H'') → Meets prog 31 [.pointer (some ga), vi ((d.kids ++ [d.next]).getD q 0), .map (some rm)] H' R')
    (K : ∀ H', MapS H' rm .i64 (okL ((met ++ [id]) ++ pre J 5)) → Fr rm rm rm H H' → R (.returned unitV) H') : Meets prog 31 [.pointer (some ga), vi id, .map (some rm)] H R := by
  refine spec_of func31 (by kernel_rfl) (fun t h => by cases h) (by simp [argsR, SV.rep, SC.rep, one]) (vc_vreach (some ga) id rm R H) ?_
  unfold nf_vreach
  refine s_get hg (by rw [hd]; intro d' e; cases e; exact hfew) fun v H1 hle hv => ?_
  rw [hd] at hv ⊢
  have hv : NdAt H1 v d := hv
  obtain ⟨a, n, c, rfl, h1, h2, h3⟩ := hv
  refine ⟨_, a, n, c, _, _, h2, _, h3, _, rfl, br (fun q => by simp at q) fun _ => ?_⟩
  have hm1 := maps_same hm (fun o e => hle _ _ e)
  have hlk := map_look hm1.at id (.bool false)
  rw [getL_okL, if_neg hni] at hlk
  refine ⟨false, ⟨_, hlk⟩, br (fun q => by cases q) fun _ => ?_⟩
  obtain ⟨es, clk, ⟨p1, p2⟩, p3⟩ := maps_put hm1 id (.bool true)
  rw [putL_okL, addI, if_neg hni] at p3
  have fr := fr_map (b := rm) (rm := rm) (ri := rm) (ob := mapPut es clk .i64 id (.bool true)) p1 (.inl rfl)
  have el : List.append (List.map (fun v => [vi v]) d.kids) [[vi d.next]] = cells (d.kids ++ [d.next]) := by simp [cells]
  have hl5 : (d.kids ++ [d.next]).length = 5 := by simp [h2]
  have hc5 : (cells (d.kids ++ [d.next])).length = 5 := by simp [cells, h2]
  refine ⟨es, clk, ⟨p1, p2⟩, ?_⟩
  show List.length (List.append (List.map (fun v => [vi v]) d.kids) [[vi d.next]]) * 8 ≤ 140737488355328 ∧ _
  simp only [true_and]
  rw [el, hc5]
  refine ⟨by omega, fun p H2 => ∃ q : Nat, p.1.1 = (q : Int) ∧ q ≤ 5 ∧ MapS H2 rm .i64 (okL ((met ++ [id]) ++ pre J q)) ∧ Fr rm rm rm H H2, fun p _ => 5 - p.1.1.toNat, ⟨0, rfl, by omega, by simpa [pre] using p3, (Fr.of_le hle).trans fr⟩, ?_⟩
  rintro ⟨⟨z, u⟩, u'⟩ H2 ⟨q, e, hq, hm2, hf2⟩
  simp only at e ⊢
  subst e
  have nb : r ≠ rm := n1
  have hg2 := hf2.grove hg nb n1 n1
  refine br (fun q4 => ?_) fun q4 => ?_
  · have hq5 : q < 5 := by simp at q4; omega
    have e0 : ((q : Int)).toNat = q := by omega
    obtain ⟨e, g1, g2⟩ := cells_get (l := d.kids ++ [d.next]) (i := q) (by omega)
    rw [e0]
    refine ⟨⟨by omega, by omega⟩, _, ⟨e, g1, g2⟩, step q hq5 H2 _ hg2 hm2 fun H3 hm3 hf3 => ⟨rfl, ⟨q + 1, by rw [w64 (by omega)]; simp, by omega, hm3, hf2.trans hf3⟩, by rw [w64 (by omega)]; omega⟩⟩
  · have : q = 5 := by simp at q4; omega
    subst this
    exact K H2 hm2 hf2
/-- Nothing lies behind a number that has no node. -/
theorem reach_nil {J : Nat → List Int} {M0 : List Int} {q : Nat} {k : Int} (hD : Dom m) (hk : k = 0) (hJ : J q = []) {H' : Heap} {R' : Ending → Heap → Prop} (hg : GroveAt H' ga r m) (hm : MapS H' rm .i64 (okL (M0 ++ pre J q)))
    (K : ∀ H'', MapS H'' rm .i64 (okL (M0 ++ pre J (q + 1))) → Fr rm rm rm H' H'' → R' (.returned unitV) H'') : Meets prog 31 [.pointer (some ga), vi k, .map (some rm)] H' R' := by
  subst hk
  have hn : m 0 = none := by
    cases e : m 0 with
    | none => rfl
    | some d => have := (hD _ _ e).1; omega
  refine s_reach_none hg hn fun H'' hle => K _ ?_ (Fr.of_le hle)
  rw [pre_succ, hJ, List.append_nil]
  exact maps_same hm fun o e => hle _ _ e
theorem s_reach_chain (hD : Dom m) (n1 : r ≠ rm) : ∀ (T : List Int) {id : Int} {L : List Pt} {met : List Int} {H : Heap} {R : Ending → Heap → Prop}, ChP m (id :: T) L → (id :: T).Nodup → (∀ i ∈ id :: T, i ∉ met) → GroveAt H ga r m → MapS H rm .i64 (okL met) →
    (∀ H', MapS H' rm .i64 (okL (met ++ (id :: T))) → Fr rm rm rm H H' → R (.returned unitV) H') → Meets prog 31 [.pointer (some ga), vi id, .map (some rm)] H R := by
  intro T
  induction T with
  | nil =>
    intro id L met H R hch hn hd hg hm K
    obtain ⟨h1, h2⟩ := hch
    refine s_reach_node (J := fun _ => []) hg n1 hm h2 (hd id (List.mem_cons_self ..)) (by have := hD.few h2; omega) (fun q hq H' R' hg' hm' K' => ?_) fun H' hm' hf' => K H' (by rw [show pre (fun _ : Nat => ([] : List Int)) 5 = [] by simp [pre], List.append_nil] at hm'; exact hm') hf'
    refine reach_nil hD ?_ rfl hg' hm' K'
    have : q = 0 ∨ q = 1 ∨ q = 2 ∨ q = 3 ∨ q = 4 := by omega
    rcases this with rfl | rfl | rfl | rfl | rfl <;> rfl
  | cons nx T ih =>
    intro id L met H R hch hn hd hg hm K
    obtain ⟨h1, h2, h3⟩ := hch
    rw [List.nodup_cons] at hn
    refine s_reach_node (J := fun q => if q = 4 then nx :: T else []) hg n1 hm h2 (hd id (List.mem_cons_self ..)) (by have := hD.few h2; omega) (fun q hq H' R' hg' hm' K' => ?_) fun H' hm' hf' => K H' ?_ hf'
    · have : q = 0 ∨ q = 1 ∨ q = 2 ∨ q = 3 ∨ q = 4 := by omega
      have e4 : pre (fun q => if q = 4 then nx :: T else []) 4 = [] := by simp [pre, List.range_succ]
      rcases this with rfl | rfl | rfl | rfl | rfl
      · exact reach_nil hD rfl rfl hg' hm' K'
      · exact reach_nil hD rfl rfl hg' hm' K'
      · exact reach_nil hD rfl rfl hg' hm' K'
      · exact reach_nil hD rfl rfl hg' hm' K'
      · rw [e4, List.append_nil] at hm'
        refine ih h3 hn.2 (fun i hi hmm => ?_) hg' hm' fun H'' hm'' hf'' => K' H'' ?_ hf''
        · rcases List.mem_append.1 hmm with hmm | hmm
          · exact hd i (List.mem_cons_of_mem _ hi) hmm
          · simp only [List.mem_singleton] at hmm
            subst hmm; exact hn.1 hi
        · rw [pre_succ, e4]
          simpa using hm''
    · have : (met ++ [id]) ++ pre (fun q => if q = 4 then nx :: T else []) 5 = met ++ (id :: nx :: T) := by simp [pre, List.range_succ]
      rwa [this] at hm'
theorem s_reach_tree (hD : Dom m) (n1 : r ≠ rm) : ∀ (h : Nat) {id : Int} {L : List Pt} {I met : List Int} {H : Heap} {R : Ending → Heap → Prop}, TrP m h id L I → I.Nodup → (∀ i ∈ I, i ∉ met) → GroveAt H ga r m → MapS H rm .i64 (okL met) →
    (∀ H', MapS H' rm .i64 (okL (met ++ I)) → Fr rm rm rm H H' → R (.returned unitV) H') → Meets prog 31 [.pointer (some ga), vi id, .map (some rm)] H R := by
  intro h
  induction h with
  | zero =>
    intro id L I met H R ht hn hd hg hm K
    obtain ⟨T, rfl⟩ := TrP_head (h := 0) ht
    exact s_reach_chain hD n1 T ht.2 hn hd hg hm K
  | succ h ih =>
    intro id L I met H R ht hn hd hg hm K
    obtain ⟨T, e⟩ := TrP_head ht
    unfold TrP at ht
    split at ht
    · subst e
      have : T = [] := by have := ht.1; simpa using this
      subst this
      exact s_reach_chain hD n1 [] ht.2 hn hd hg hm K
    · obtain ⟨ks, cs, J, h1, hk4, hc4, rfl, hsub⟩ := ht
      clear e
      rw [← pre4] at hn hd K
      rw [List.nodup_cons] at hn
      refine s_reach_node (J := fun q => if q < 4 then J q else []) hg n1 hm h1 (hd id (List.mem_cons_self ..)) (by simp) (fun q hq H' R' hg' hm' K' => ?_) fun H' hm' hf' => K H' ?_ hf'
      · have ep : ∀ q, q ≤ 4 → pre (fun q => if q < 4 then J q else []) q = pre J q := by
          intro q
          induction q with
          | zero => intro _; rfl
          | succ q ihq => intro hq; rw [pre_succ, pre_succ, ihq (by omega), if_pos (by omega)]
        by_cases hq4 : q < 4
        · have ek : ((⟨false, [], 0, ks, cs⟩ : Nd).kids ++ [(⟨false, [], 0, ks, cs⟩ : Nd).next]).getD q 0 = ks.getD q 0 := by
            simp only [List.getD_eq_getElem?_getD]
            rw [List.getElem?_append_left (by omega)]
          rw [ek]
          rcases hsub q hq4 with ⟨a1, a2, a3, a4⟩ | ⟨a1, a2, a3, a4⟩
          · exact reach_nil hD a2 (by simp [hq4, a4]) hg' hm' K'
          · rw [ep q (by omega)] at hm'
            have hnp := (pre_sub J (q := q + 1) (n := 4) (by omega))
            rw [pre_succ] at hnp
            have hnq := List.nodup_append.1 (hn.2.sublist hnp)
            refine ih a4 hnq.2.1 (fun i hi hmm => ?_) hg' hm' fun H'' hm'' hf'' => K' H'' ?_ hf''
            · have hi4 : i ∈ pre J 4 := hnp.subset (List.mem_append_right _ hi)
              simp only [List.mem_append, List.mem_singleton] at hmm
              rcases hmm with (hmm | hmm) | hmm
              · exact hd i (List.mem_cons_of_mem _ hi4) hmm
              · exact hn.1 (hmm ▸ hi4)
              · exact hnq.2.2 i hmm i hi rfl
            · rw [ep (q + 1) (by omega), pre_succ, ← List.append_assoc]
              exact hm''
        · have : q = 4 := by omega
          subst this
          refine reach_nil hD ?_ rfl hg' hm' K'
          simp only [List.getD_eq_getElem?_getD]
          rw [List.getElem?_append_right (by omega), hk4]
          rfl
      · have : (met ++ [id]) ++ pre (fun q => if q < 4 then J q else []) 5 = met ++ (id :: pre J 4) := by simp [pre, List.range_succ]
        rwa [this] at hm'
theorem s_Reached (hDr : ¬ Dr.on) {L : List Pt} {I : List Int} (hg : GroveAt H ga r m) (hT : TreeOK m L I) (K : ∀ v H', H ≤ H' → (∀ b, blockOf v = some b → H b = none) → RowAt H' v 3 1 (cells (idsOf m)) → R (.returned v) H') :
    Meets prog 11 [.pointer (some ga)] H R := by
  refine spec_of func11 (by kernel_rfl) (fun t h => by cases h) (by simp [argsR, SV.rep, SC.rep, one]) (vc_vreached (some ga) R H) ?_
  unfold nf_vreached
  intro rm hrm
  obtain ⟨es, clk, hr⟩ := hg.isMap
  have n1 : r ≠ rm := by rintro rfl; rw [hrm] at hr; cases hr
  have hle := le_upd (heap_refl H) hrm (.map #[] 0)
  refine s_reach_tree hT.dom n1 32 (met := []) hT.tr hT.nd (by simp) (hg.le hle) (maps_new H rm .i64) fun H1 hm1 hf1 => ⟨rfl, ?_⟩
  rw [List.nil_append] at hm1
  have hle1 : H ≤ H1 := fun c o e => by
    have hne : c ≠ rm := by rintro rfl; rw [hrm] at e; cases e
    exact hf1.off c o hne hne hne (hle _ _ e)
  have hI255 : I.length ≤ 255 := by
    have := nodup_len hT.nd fun i hi => by
      have := TrP_there hT.tr i hi
      cases e : m i with
      | none => exact (this e).elim
      | some d => have := hT.dom i d e; exact mem_numsL.2 ⟨this.1, this.2.1⟩
    simpa using this
  refine s_keys (some rm) fun a ha => ⟨_, rfl, rfl, ?_⟩
  have hm2 := maps_same hm1 (H' := H1.upd a (.cells #[.map (some rm)] (Go.Proofs.keysInt_ren.t 23) (0, 0))) fun o e => by rw [upd_ne _ _ (by rintro rfl; rw [e] at ha; cases ha)]; exact e
  refine s_sorted hDr (upd_same _ _ _) hm2 (fun p hp => ?_) (by simp; omega) fun v zs H2 hperm hle2 hrow hle3 hfr hb => ?_
  · obtain ⟨i, hi, rfl⟩ := List.mem_map.1 hp
    have := TrP_there hT.tr i hi
    cases e : m i with
    | none => exact (this e).elim
    | some d =>
      have := hT.dom i d e
      have e1 : IntKind.i64.min = -9223372036854775808 := by decide
      have e2 : IntKind.i64.max = 9223372036854775807 := by decide
      simp only [Lit.wf, e1, e2]
      rw [decide_eq_true (by omega), decide_eq_true (by omega)]
      rfl
  · have e1 : (okL I).map Prod.fst = I := by simp [okL, Function.comp_def]
    rw [e1] at hperm
    have hnd : zs.Nodup := hperm.symm.nodup hT.nd
    have hlt : zs.Pairwise (· < ·) := by
      refine (hle2.and hnd).imp fun {a b} h => ?_
      have := h.1; have := h.2; omega
    have hz : zs = idsOf m := rise_ext hlt (ids_rise m 255) fun x => by rw [hperm.mem_iff, hT.ids.mem_iff]
    subst hz
    have hle0 : H ≤ H2 := heap_trans hle1 (heap_trans (le_upd (heap_refl _) ha _) hle3)
    obtain ⟨a2, c2, rfl⟩ := row_val hrow
    refine ⟨a2, _, c2, rfl, K _ H2 hle0 (fun b' hb' => ?_) hrow⟩
    have := hfr b' hb'
    cases e : H b' with
    | none => rfl
    | some o => rw [heap_trans hle1 (le_upd (heap_refl _) ha _) b' o e] at this; cases this
end
end Cr

set_option linter.unusedVariables false
set_option linter.unusedSimpArgs false
namespace Cr
open Go Sx Stb
open Go.Proofs.Try
set_option linter.unusedSectionVars false
variable [Dr]
set_option maxRecDepth 100000
theorem ChP_next {m : M} : ∀ {I : List Int} {L : List Pt}, ChP m I L → ∀ i ∈ I, ∀ d, m i = some d → 0 < d.next → d.pts.length = 4
  | [id], L, h, i, hi, d, hd, hn => by
    simp only [List.mem_singleton] at hi
    subst hi
    rw [h.2] at hd; cases hd
    simp at hn
  | id :: nx :: r, L, h, i, hi, d, hd, hn => by
    rcases List.mem_cons.1 hi with rfl | hi
    · rw [h.2.1] at hd; cases hd
      simp only [List.length_take]
      have := h.1
      omega
    · exact ChP_next h.2.2 i hi d hd hn
theorem TrP_next {m : M} : ∀ {h : Nat} {id : Int} {L : List Pt} {I : List Int}, TrP m h id L I → ∀ i ∈ I, ∀ d, m i = some d → 0 < d.next → d.pts.length = 4
  | 0, id, L, I, ht, i, hi, d, hd, hn => ChP_next ht.2 i hi d hd hn
  | h + 1, id, L, I, ht, i, hi, d, hd, hn => by
    unfold TrP at ht
    split at ht
    · exact ChP_next ht.2 i hi d hd hn
    · obtain ⟨ks, cs, J, h1, _, _, rfl, hs⟩ := ht
      rcases List.mem_cons.1 hi with rfl | hi
      · rw [h1] at hd; cases hd
        simp at hn
      · rw [← pre4] at hi
        obtain ⟨q, hq, hi⟩ := List.mem_flatMap.1 hi
        have hq4 := List.mem_range.1 hq
        rcases hs q hq4 with ⟨_, _, _, a4⟩ | ⟨_, _, _, a4⟩
        · rw [a4] at hi; cases hi
        · exact TrP_next a4 i hi d hd hn
theorem range_tree {m : M} {L : List Pt} {I : List Int} (hT : TreeOK m L I) : RangeM m := fun i d hd p hp => by
  refine hT.lok.range p (hT.pts.mem_iff.1 (List.mem_flatMap.2 ⟨i, hT.ids.mem_iff.2 ((hT.iff i).1 (by rw [hd]; simp)), ?_⟩))
  rw [ptsM_some hd]; exact hp
theorem nopan_tree {m : M} {L : List Pt} {I : List Int} (hT : TreeOK m L I) : NoPan m := fun i d e hd hn hp _ => by
  have := TrP_next hT.tr i ((hT.iff i).1 (by rw [hd]; simp)) d hd hn
  rw [hp] at this
  simp at this
theorem TreeOK.few' {m : M} {L : List Pt} {I : List Int} (hT : TreeOK m L I) : I.length ≤ 255 := by
  have := nodup_len hT.nd fun i hi => by
    have := TrP_there hT.tr i hi
    cases e : m i with
    | none => exact (this e).elim
    | some d => have := hT.dom i d e; exact mem_numsL.2 ⟨this.1, this.2.1⟩
  simpa using this
theorem chk_tree {m : M} {L : List Pt} {I : List Int} (hT : TreeOK m L I) : ∃ P, checkC m 600 32 1 0 0 ck0 = (⟨I, P, false⟩, (L.length : Int)) := by
  have := hT.few'
  obtain ⟨P, e1, e2⟩ := take_tree hT.dom 32 (s := ck0) (f := 600) (x := 0) (y := 0) hT.tr (by omega) cor0 cor0 (in_root hT.lok.range) hT.lok.range hT.lok.rise hT.nd (by simp [ck0]) (by simp [ck0]) rfl (by omega) this
  exact ⟨P, by rw [e1]; simp [ck0]⟩
theorem okC_tree {m : M} {L : List Pt} {I : List Int} (hT : TreeOK m L I) : okC m = 0 := by
  obtain ⟨P, e1⟩ := chk_tree hT
  unfold okC
  rw [e1, if_pos]
  exact ⟨rfl, hT.ids.length_eq.symm⟩
theorem lend_off26 {H H' : Heap} {v : Value} (hle : H ≤ H') (hf : ∀ b, blockOf v = some b → H b = none) (hb : ∀ b o, H' b = some o → H b = some o ∨ blockOf v = some b) : H'.delO (blockOf v) = H := by
  funext b
  cases e : blockOf v with
  | none =>
    show H' b = H b
    cases q : H' b with
    | none => cases q2 : H b with
      | none => rfl
      | some o => rw [hle _ _ q2] at q; cases q
    | some o =>
      rcases hb b o q with h | h
      · exact h.symm
      · rw [e] at h; cases h
  | some k =>
    show (if b = k then none else H' b) = H b
    by_cases hbk : b = k
    · subst hbk; rw [if_pos rfl, hf b e]
    · rw [if_neg hbk]
      cases q : H' b with
      | none => cases q2 : H b with
        | none => rfl
        | some o => rw [hle _ _ q2] at q; cases q
      | some o =>
        rcases hb b o q with h | h
        · exact h.symm
        · rw [e] at h; cases h; exact (hbk rfl).elim
theorem tree_empty : TreeOK (setM (fun _ => none) 1 ⟨true, [], 0, z4, z4⟩) [] [1] where
  dom := fun id d h => by
    unfold setM at h
    split at h
    · rename_i e
      cases h
      subst e
      refine ⟨by omega, by omega, ?_⟩
      unfold NdOK
      rw [if_pos rfl]
      exact ⟨⟨fun i p h => by simp at h, fun i p q h => by simp at h, by simp⟩, by simp, by simp, rfl, rfl⟩
    · cases h
  tr := by
    unfold TrP
    rw [if_pos (by simp)]
    exact ⟨rfl, by simp, setM_same⟩
  nd := by simp
  all := fun i h => by
    unfold setM at h
    split at h
    · simp_all
    · exact (h rfl).elim
  lok := ⟨by simp, by simp, by simp⟩
section
variable {R : Ending → Heap → Prop} {H : Heap}
theorem s_alive26 (hDr : ¬ Dr.on) (k : ∀ H', H ≤ H' → R (.returned (.bool true)) H') : Meets prog 6 [] H R := by
  refine spec_of func6 (by kernel_rfl) (fun t h => by cases h) (by simp [argsR]) (vc_al26 R H) ?_
  unfold nf_al26
  refine s_new fun r b _ _ _ H1 hle1 hg1 => ⟨_, rfl, s_vCheck hg1 (fun i d e => by cases e) (fun i d e => by cases e) (fun i d e h => by cases h) fun H2 hle2 => ⟨_, rfl, ?_⟩⟩
  have e21 : okC (fun _ => none) = 21 := by
    unfold okC checkC getC
    simp [needC, ck0]
  rw [e21]
  refine br (fun _ => s_empty fun r b _ _ _ H3 hle3 hg3 => ⟨_, rfl, s_vCheck hg3 tree_empty.dom (range_tree tree_empty) (nopan_tree tree_empty) fun H4 hle4 => ⟨_, rfl, ?_⟩⟩) fun q => by simp at q
  rw [okC_tree tree_empty]
  refine br (fun _ => s_empty fun r b _ _ _ H5 hle5 hg5 => ⟨_, rfl, s_Reached hDr hg5 tree_empty fun v H6 hle6 hf6 hrow6 => ?_⟩) fun q => by simp at q
  have hi : idsOf (setM (fun _ => none) 1 ⟨true, [], 0, z4, z4⟩) = [1] := List.perm_singleton.1 tree_empty.ids
  rw [hi] at hrow6
  have hs6 := row_slice hrow6
  obtain ⟨a6, c6, rfl⟩ := row_val hrow6
  refine ⟨a6, _, c6, rfl, fun v7 H7 hle7 hf7 hb7 hrow7 => ?_⟩
  refine s_ints (slice_le hs6 hle7) (l' := [1]) (row_slice hrow7) (by simp) ⟨_, rfl, _, hrow7, ?_⟩
  rw [decide_eq_true rfl, lend_off26 hle7 hf7 hb7]
  exact k _ (heap_trans hle1 (heap_trans hle2 (heap_trans hle3 (heap_trans hle4 (heap_trans hle5 hle6)))))
end
end Cr

set_option linter.unusedVariables false
set_option linter.unusedSimpArgs false
namespace Cr
open Go Sx Stb
open Go.Proofs.Try
set_option linter.unusedSectionVars false
variable [Dr]
set_option maxRecDepth 100000
def sumZ : List Int → Int
  | [] => 0
  | x :: r => x + sumZ r
theorem sumZ_app : ∀ (a b : List Int), sumZ (a ++ b) = sumZ a + sumZ b
  | [], b => by simp [sumZ]
  | x :: r, b => by simp only [List.cons_append, sumZ, sumZ_app r b]; omega
theorem sumZ_perm {a b : List Int} (h : a.Perm b) : sumZ a = sumZ b := by
  induction h with
  | nil => rfl
  | cons x _ ih => simp only [sumZ, ih]
  | swap x y l => simp only [sumZ]; omega
  | trans _ _ h1 h2 => exact h1.trans h2
def kadd (ks : List Int) : Nat → Int
  | 0 => 0
  | q + 1 => kadd ks q + ks.getD q 0
/-- All numbers of other nodes that a node has, summed. -/
def rs (m : M) (i : Int) : Int := match m i with | some d => d.next + kadd d.kids 4 | none => 0
/-- The points of a leaf's chain behind it. -/
def chs (m : M) : Nat → Nd → Int
  | 0, d => 0
  | f + 1, d => if 0 < d.next then match m d.next with
      | some e => if e.leaf = true then (e.pts.length : Int) + chs m f e else 0
      | none => 0
    else 0
def valC (m : M) (d : Nd) : Int := if d.leaf = true then (d.pts.length : Int) + chs m 600 d else tot d
structure MetOK (m : M) (s : Ck) : Prop where
  nd : s.met.Nodup
  there : ∀ i ∈ s.met, m i ≠ none
theorem MetOK.few {m : M} {s : Ck} (h : MetOK m s) (hD : Dom m) : s.met.length ≤ 255 := by
  have : s.met.length ≤ numsL.length := nodup_len h.nd fun i hi => by
    have := h.there i hi
    cases e : m i with
    | none => exact (this e).elim
    | some d => have := hD i d e; exact mem_numsL.2 ⟨this.1, this.2.1⟩
  simpa using this
theorem getC_ok {m : M} {s s1 : Ck} {id : Int} {d : Nd} (h : getC m s id = (s1, some d)) (hs : MetOK m s) : m id = some d ∧ id ∉ s.met ∧ s1 = { s with met := s.met ++ [id] } ∧ MetOK m s1 := by
  unfold getC at h
  split at h
  · cases h
  · rename_i d' e
    split at h
    · cases h
    · rename_i hn
      cases h
      refine ⟨e, hn, rfl, List.nodup_append.2 ⟨hs.nd, by simp, fun a ha c hc => by simp only [List.mem_singleton] at hc; subst hc; exact fun e => hn (e ▸ ha)⟩, fun i hi => ?_⟩
      rcases List.mem_append.1 hi with hi | hi
      · exact hs.there i hi
      · simp only [List.mem_singleton] at hi; subst hi; rw [e]; simp
theorem ptsC_odd (x y : Int) (h : Nat) : ∀ (l : List Pt) (s : Ck), (ptsC x y h l s).odd = false → s.odd = false
  | [], s, e => e
  | p :: l, s, e => by
    have := ptsC_odd x y h l (ptC1 x y h s p) e
    simp only [ptC1, needC, Bool.or_eq_false_iff] at this
    exact this.1
theorem needC_odd {s : Ck} {ok : Bool} (e : (needC s ok).odd = false) : s.odd = false ∧ ok = true := by
  simp only [needC, Bool.or_eq_false_iff, Bool.not_eq_false'] at e
  exact e
theorem chainC_odd (m : M) (x y : Int) (h : Nat) : ∀ (f : Nat) (d : Nd) (s : Ck) (t : Int), (chainC m x y h f d s t).1.odd = false → s.odd = false
  | 0, d, s, t, e => e
  | f + 1, d, s, t, e => by
    unfold chainC at e
    split at e
    · rename_i q; exact q.2
    · exact e
theorem MetOK.same {m : M} {s s' : Ck} (h : MetOK m s) (e : s'.met = s.met) : MetOK m s' := ⟨by rw [e]; exact h.nd, by rw [e]; exact h.there⟩
theorem acc_chain {m : M} (hD : Dom m) (x y : Int) (h : Nat) : ∀ (f : Nat) (d : Nd) (s : Ck) (t : Int), (chainC m x y h f d s t).1.odd = false → MetOK m s → 0 ≤ d.next → 300 ≤ f + s.met.length →
    ∃ T, (chainC m x y h f d s t).1.met = s.met ++ T ∧ MetOK m (chainC m x y h f d s t).1 ∧ sumZ T = d.next + sumZ (T.map (rs m)) ∧ (chainC m x y h f d s t).2 = t + chs m f d ∧ ∀ i ∈ T, ∃ e, m i = some e ∧ e.leaf = true
  | 0, d, s, t, ho, hm, h0, hf => by have := hm.few hD; omega
  | f + 1, d, s, t, ho, hm, h0, hf => by
    have hso := chainC_odd m x y h _ d s t ho
    unfold chainC chs
    unfold chainC at ho
    by_cases hn : 0 < d.next
    · rw [if_pos ⟨hn, hso⟩] at ho ⊢
      rw [if_pos hn]
      generalize hok : (decide (h = 0) && decide (d.pts.length = 4)) = ok at ho ⊢
      cases hg : getC m (needC s ok) d.next with
      | mk s2 o =>
        rw [hg] at ho
        cases o with
        | none =>
          simp only at ho
          have := (needC_odd ho).2
          cases this
        | some e =>
          simp only at ho ⊢
          obtain ⟨e1, e2, e3, e4⟩ := getC_ok hg (hm.same (s' := needC s ok) rfl)
          have hl : lnk d e = true := (needC_odd (ptsC_odd x y h _ _ (chainC_odd m x y h _ _ _ _ ho))).2
          have hlf : e.leaf = true := by unfold lnk at hl; simp only [Bool.and_eq_true] at hl; exact hl.1
          have hnx : 0 ≤ e.next ∧ e.kids = z4 := by
            have := (hD _ _ e1).2.2
            unfold NdOK at this
            rw [if_pos hlf] at this
            exact ⟨this.2.1, this.2.2.2.1⟩
          have hme : (ptsC x y h e.pts (needC s2 (lnk d e))).met = s.met ++ [d.next] := by rw [ptsC_met]; show s2.met = _; rw [e3]; rfl
          obtain ⟨T, g1, g2, g3, g4, g5⟩ := acc_chain hD x y h f e _ (t + e.pts.length) ho (e4.same (s' := ptsC x y h e.pts (needC s2 (lnk d e))) (by rw [ptsC_met]; rfl)) hnx.1 (by rw [hme, List.length_append]; simp; omega)
          refine ⟨d.next :: T, by rw [g1, hme]; simp, g2, ?_, ?_, ?_⟩
          · have : rs m d.next = e.next := by unfold rs; rw [e1]; simp [hnx.2, kadd, z4]
            simp only [sumZ, List.map_cons, this, g3]
          · rw [g4, e1]
            simp only [hlf, if_true]
            omega
          · intro i hi
            rcases List.mem_cons.1 hi with rfl | hi
            · exact ⟨e, e1, hlf⟩
            · exact g5 i hi
    · rw [if_neg (fun q => hn q.1)] at ho ⊢
      rw [if_neg hn]
      have : d.next = 0 := by omega
      exact ⟨[], by simp, hm, by simp [sumZ, this], by simp, by simp⟩
/-- An inner node's Counts are what its kids have. -/
def CntOK (m : M) (i : Int) : Prop := ∀ d, m i = some d → d.leaf = false → ∀ q : Nat, q < 4 → 0 < d.kids.getD q 0 → d.kids.getD q 0 ≠ i ∧ ∃ e, m (d.kids.getD q 0) = some e ∧ d.counts.getD q 0 = valC m e
theorem checkC_odd (m : M) : ∀ (f h : Nat) (id x y : Int) (s : Ck), (checkC m f h id x y s).1.odd = false → s.odd = false
  | 0, h, id, x, y, s, e => e
  | f + 1, h, id, x, y, s, e => by
    have gs : ∀ {s1 : Ck} {o : Option Nd}, getC m s id = (s1, o) → s1.odd = false → s.odd = false := fun {s1 o} hg h1 => by
      unfold getC at hg
      split at hg
      · cases hg; exact (needC_odd h1).1
      · split at hg
        · cases hg; exact (needC_odd h1).1
        · cases hg; exact h1
    unfold checkC at e
    cases hg : getC m s id with
    | mk s1 o =>
      rw [hg] at e
      cases o with
      | none => exact gs hg e
      | some d =>
        simp only at e
        refine gs hg ?_
        cases q : s1.odd with
        | false => rfl
        | true => rw [if_pos q] at e; simp only at e; rw [q] at e; cases e
theorem acc_check {m : M} (hD : Dom m) : ∀ (f h : Nat) (id x y : Int) (s : Ck), (checkC m f h id x y s).1.odd = false → MetOK m s → 300 ≤ f + s.met.length →
    ∃ I, (checkC m f h id x y s).1.met = s.met ++ I ∧ MetOK m (checkC m f h id x y s).1 ∧ sumZ I = id + sumZ (I.map (rs m)) ∧ id ∈ I ∧ (∃ d, m id = some d ∧ (checkC m f h id x y s).2 = valC m d) ∧ ∀ i ∈ I, CntOK m i := by
  intro f
  induction f with
  | zero => intro h id x y s _ hm hf; have := hm.few hD; omega
  | succ f ih =>
    intro h id x y s ho hm hf
    unfold checkC at ho ⊢
    cases hg : getC m s id with
    | mk s1 o =>
      rw [hg] at ho
      cases o with
      | none =>
        simp only at ho
        unfold getC at hg
        split at hg
        · cases hg; have := (needC_odd ho).2; cases this
        · split at hg
          · cases hg; have := (needC_odd ho).2; cases this
          · cases hg
      | some d =>
        simp only at ho ⊢
        obtain ⟨e1, e2, e3, e4⟩ := getC_ok hg hm
        have hok := (hD _ _ e1).2.2
        have hso : s1.odd = false := by
          cases q : s1.odd with
          | false => rfl
          | true => rw [if_pos q] at ho; simp only at ho; rw [q] at ho; cases ho
        have hs1 : s1.met = s.met ++ [id] := by rw [e3]
        have hfl : 300 ≤ f + s1.met.length := by rw [hs1, List.length_append]; simp; omega
        rw [if_neg (by rw [hso]; simp)] at ho ⊢
        by_cases hlf : d.leaf = true
        · rw [if_pos hlf] at ho ⊢
          unfold NdOK at hok
          rw [if_pos hlf] at hok
          have hpm : (ptsC x y h d.pts s1).met = s1.met := ptsC_met ..
          obtain ⟨T, g1, g2, g3, g4, g5⟩ := acc_chain hD x y h 600 d (ptsC x y h d.pts s1) d.pts.length ho (e4.same hpm) hok.2.1 (by omega)
          refine ⟨id :: T, by rw [g1, hpm, hs1]; simp, g2, ?_, List.mem_cons_self .., ⟨d, e1, ?_⟩, ?_⟩
          · have : rs m id = d.next := by unfold rs; rw [e1]; simp [hok.2.2.2.1, kadd, z4]
            simp only [sumZ, List.map_cons, this, g3]
          · rw [g4]; unfold valC; rw [if_pos hlf]
          · intro i hi d' hd' hl' q hq hk
            rcases List.mem_cons.1 hi with rfl | hi
            · rw [e1] at hd'; cases hd'; rw [hlf] at hl'; cases hl'
            · obtain ⟨e, h1, h2⟩ := g5 i hi
              rw [h1] at hd'; cases hd'; rw [h2] at hl'; cases hl'
        · rw [if_neg hlf] at ho ⊢
          have hlf' : d.leaf = false := by simpa using hlf
          unfold NdOK at hok
          rw [if_neg hlf] at hok
          obtain ⟨_, hnx, hqu⟩ := hok
          simp only at ho ⊢
          generalize hrec : (fun (s : Ck) (k x' y' : Int) => checkC m f (h - 1) k x' y' s) = rec at ho ⊢
          have hro : ∀ s k x y, (rec s k x y).1.odd = false → s.odd = false := by rw [← hrec]; exact fun s k x y e => checkC_odd m f (h - 1) k x y s e
          generalize hS : needC s1 (decide (0 < h) && decide (tot d > 4)) = S at ho ⊢
          have hSm : S.met = s1.met := by rw [← hS]; rfl
          have key : ∀ q : Nat, q ≤ 4 → (kidsC rec x y (h - 1) d.kids d.counts q S).odd = false → ∃ J, (kidsC rec x y (h - 1) d.kids d.counts q S).met = s1.met ++ J ∧ MetOK m (kidsC rec x y (h - 1) d.kids d.counts q S) ∧ sumZ J = kadd d.kids q + sumZ (J.map (rs m)) ∧ (∀ i ∈ J, CntOK m i) ∧
              ∀ j : Nat, j < q → 0 < d.kids.getD j 0 → d.kids.getD j 0 ∈ J ∧ ∃ e, m (d.kids.getD j 0) = some e ∧ d.counts.getD j 0 = valC m e := by
            intro q
            induction q with
            | zero => intro _ _; exact ⟨[], by rw [List.append_nil]; exact hSm, e4.same hSm, rfl, by simp, fun j hj => by omega⟩
            | succ q ihq =>
              intro hq hod
              have stp : kidsC rec x y (h - 1) d.kids d.counts (q + 1) S = (match kidsC rec x y (h - 1) d.kids d.counts q S with
                | s => if 0 < d.kids.getD q 0 ∧ s.odd = false then
                    match rec s (d.kids.getD q 0) (x + ((q % 2 : Nat) : Int) * 2 ^ (h - 1)) (y + ((q / 2 : Nat) : Int) * 2 ^ (h - 1)) with
                    | (s', c) => needC s' (c == d.counts.getD q 0)
                  else s) := rfl
              have hqo : (kidsC rec x y (h - 1) d.kids d.counts q S).odd = false := by
                rw [stp] at hod
                simp only at hod
                split at hod
                · rename_i c; exact c.2
                · exact hod
              obtain ⟨J, j1, j2, j3, j4, j5⟩ := ihq (by omega) hqo
              rw [stp] at hod ⊢
              generalize hK : kidsC rec x y (h - 1) d.kids d.counts q S = K at *
              simp only at hod ⊢
              by_cases hk : 0 < d.kids.getD q 0
              · rw [if_pos ⟨hk, hqo⟩] at hod ⊢
                have hr2 := (needC_odd hod)
                have hc : (rec K (d.kids.getD q 0) (x + ((q % 2 : Nat) : Int) * 2 ^ (h - 1)) (y + ((q / 2 : Nat) : Int) * 2 ^ (h - 1))).2 = d.counts.getD q 0 := by simpa using hr2.2
                have ho2 := hr2.1
                rw [← hrec] at hc ho2 ⊢
                simp only at hc ho2 ⊢
                obtain ⟨I, i1, i2, i3, i4, ⟨e, i5, i6⟩, i7⟩ := ih (h - 1) (d.kids.getD q 0) _ _ K ho2 j2 (by rw [j1, List.length_append]; omega)
                refine ⟨J ++ I, ?_, i2.same rfl, ?_, ?_, ?_⟩
                · show (checkC m f (h - 1) _ _ _ K).1.met = _
                  rw [i1, j1, List.append_assoc]
                · rw [sumZ_app, List.map_append, sumZ_app, j3, i3]
                  show _ = kadd d.kids q + d.kids.getD q 0 + _
                  omega
                · intro i hi
                  rcases List.mem_append.1 hi with hi | hi
                  · exact j4 i hi
                  · exact i7 i hi
                · intro j hj hkj
                  by_cases hjq : j = q
                  · subst hjq
                    exact ⟨List.mem_append_right _ i4, e, i5, by rw [← hc, i6]⟩
                  · obtain ⟨a1, a2⟩ := j5 j (by omega) hkj
                    exact ⟨List.mem_append_left _ a1, a2⟩
              · rw [if_neg (fun q => hk q.1)]
                have hk0 : d.kids.getD q 0 = 0 := by have := (hqu q (by omega)).1; omega
                refine ⟨J, j1, j2, by rw [j3]; show _ = kadd d.kids q + d.kids.getD q 0 + _; omega, j4, fun j hj hkj => ?_⟩
                by_cases hjq : j = q
                · subst hjq; omega
                · exact j5 j (by omega) hkj
          obtain ⟨J, j1, j2, j3, j4, j5⟩ := key 4 (by omega) ho
          refine ⟨id :: J, by rw [j1, hs1]; simp, j2, ?_, List.mem_cons_self .., ⟨d, e1, by unfold valC; rw [if_neg hlf]⟩, ?_⟩
          · have : rs m id = kadd d.kids 4 := by unfold rs; rw [e1]; simp [hnx]
            simp only [sumZ, List.map_cons, this, j3]
          · intro i hi
            rcases List.mem_cons.1 hi with rfl | hi
            · intro d' hd' _ q hq hk
              rw [e1] at hd'; cases hd'
              obtain ⟨a1, a2⟩ := j5 q hq hk
              refine ⟨fun e => ?_, a2⟩
              have hnd := j2.nd
              rw [j1, hs1] at hnd
              exact (List.nodup_append.1 hnd).2.2 i (by simp) _ a1 e.symm
            · exact j4 i hi
end Cr

set_option linter.unusedVariables false
set_option linter.unusedSimpArgs false
namespace Cr
open Go Sx Stb
open Go.Proofs.Try
set_option linter.unusedSectionVars false
variable [Dr]
set_option maxRecDepth 100000
theorem okC_cases (m : M) : okC m = 0 ∨ okC m = 21 := by unfold okC; split <;> simp
theorem nodup_perm : ∀ {a b : List Int}, a.Nodup → b.Nodup → (∀ x ∈ a, x ∈ b) → a.length = b.length → a.Perm b := by
  intro a b ha hb hs hl
  refine (List.perm_ext_iff_of_nodup ha hb).2 fun x => ⟨hs x, fun hx => ?_⟩
  by_cases q : x ∈ a
  · exact q
  · exfalso
    have h1 : (x :: a).Nodup := List.nodup_cons.2 ⟨q, ha⟩
    have := nodup_len h1 (b := b) fun y hy => by
      rcases List.mem_cons.1 hy with rfl | hy
      · exact hx
      · exact hs y hy
    simp at this
    omega
theorem mem_idsOf {m : M} (hD : Dom m) {i : Int} : i ∈ idsOf m ↔ m i ≠ none := by
  rw [mem_idsBelow]
  constructor
  · rintro ⟨_, _, h⟩ e; rw [e] at h; cases h
  · intro h
    cases e : m i with
    | none => exact (h e).elim
    | some d => have := hD i d e; exact ⟨this.1, this.2.1, rfl⟩
/-- Where it is taken: the numbers' sum, and each inner node's Counts. -/
theorem acc_all {m : M} (hD : Dom m) (h : okC m = 0) : sumZ (idsOf m) = 1 + sumZ ((idsOf m).map (rs m)) ∧ ∀ i, m i ≠ none → CntOK m i := by
  unfold okC at h
  split at h
  · rename_i q
    obtain ⟨I, h1, h2, h3, h4, h5, h6⟩ := acc_check hD 600 32 1 0 0 ck0 q.1 ⟨by simp [ck0], by simp [ck0]⟩ (by simp [ck0])
    have h1 : (checkC m 600 32 1 0 0 ck0).1.met = I := by rw [h1]; simp [ck0]
    have hnd := h2.nd
    have hth := h2.there
    rw [h1] at hnd hth
    have hp : I.Perm (idsOf m) := nodup_perm hnd ((ids_rise m 255).imp fun h => by omega) (fun x hx => (mem_idsOf hD).2 (hth x hx)) (by rw [← h1]; exact q.2)
    refine ⟨?_, fun i hi => h6 i (hp.mem_iff.2 ((mem_idsOf hD).2 hi))⟩
    rw [← sumZ_perm hp, h3, sumZ_perm (hp.map _)]
  · cases h
theorem sum_diff {f g : Int → Int} {id : Int} : ∀ {l : List Int}, l.Nodup → id ∈ l → (∀ i ∈ l, i ≠ id → f i = g i) → sumZ (l.map f) - sumZ (l.map g) = f id - g id
  | [], _, h, _ => by cases h
  | x :: r, hn, h, e => by
    rw [List.nodup_cons] at hn
    simp only [List.map_cons, sumZ]
    by_cases q : x = id
    · subst q
      have : r.map f = r.map g := List.map_congr_left fun i hi => e i (List.mem_cons_of_mem _ hi) fun q => hn.1 (q ▸ hi)
      rw [this]; omega
    · have h2 : id ∈ r := by rcases List.mem_cons.1 h with h | h; exact (q h.symm).elim; exact h
      have := sum_diff hn.2 h2 fun i hi => e i (List.mem_cons_of_mem _ hi)
      have := e x (List.mem_cons_self ..) q
      omega
theorem dom_set {m : M} {id : Int} {d : Nd} (hD : Dom m) (hid : 1 ≤ id ∧ id ≤ 255) (hok : NdOK d) : Dom (setM m id d) := fun i e h => by
  unfold setM at h
  split at h
  · rename_i q; cases h; subst q; exact ⟨hid.1, hid.2, hok⟩
  · exact hD i e h
theorem ids_set {m : M} {id : Int} {d d' : Nd} (hd : m id = some d) : idsOf (setM m id d') = idsOf m := by
  refine rise_ext (ids_rise _ 255) (ids_rise _ 255) fun x => ?_
  rw [mem_idsBelow, mem_idsBelow]
  unfold setM
  split
  · rename_i q; subst q; rw [hd]; simp
  · rfl
/-- Numbers of other nodes that are changed. -/
theorem refuse_refs {m : M} {id : Int} {d d' : Nd} (hD : Dom m) (h0 : okC m = 0) (hd : m id = some d) (hok : NdOK d') (hne : d'.next + kadd d'.kids 4 ≠ d.next + kadd d.kids 4) : okC (setM m id d') = 21 := by
  rcases okC_cases (setM m id d') with h | h
  · exfalso
    have hr := hD id d hd
    obtain ⟨a1, _⟩ := acc_all hD h0
    obtain ⟨b1, _⟩ := acc_all (dom_set hD ⟨hr.1, hr.2.1⟩ hok) h
    rw [ids_set hd] at b1
    have := sum_diff (f := rs (setM m id d')) (g := rs m) (id := id) (l := idsOf m) ((ids_rise m 255).imp fun h => by omega) ((mem_idsOf hD).2 (by rw [hd]; simp)) fun i _ hi => by unfold rs; rw [setM_ne hi]
    have e1 : rs (setM m id d') id = d'.next + kadd d'.kids 4 := by unfold rs; rw [setM_same]
    have e2 : rs m id = d.next + kadd d.kids 4 := by unfold rs; rw [hd]
    rw [e1, e2] at this
    omega
  · exact h
/-- A node more. -/
theorem refuse_more {m : M} {id : Int} (hD : Dom m) (h0 : okC m = 0) (hid : 1 ≤ id ∧ id ≤ 255) (hn : m id = none) (hok : NdOK ⟨true, [], 0, z4, z4⟩) : okC (setM m id ⟨true, [], 0, z4, z4⟩) = 21 := by
  rcases okC_cases (setM m id ⟨true, [], 0, z4, z4⟩) with h | h
  · exfalso
    have hD' := dom_set hD hid hok
    obtain ⟨a1, _⟩ := acc_all hD h0
    obtain ⟨b1, _⟩ := acc_all hD' h
    have hni : id ∉ idsOf m := fun q => (mem_idsOf hD).1 q hn
    have hp : (idsOf (setM m id ⟨true, [], 0, z4, z4⟩)).Perm (id :: idsOf m) := by
      refine (List.perm_ext_iff_of_nodup ((ids_rise _ 255).imp fun h => by omega) (List.nodup_cons.2 ⟨hni, (ids_rise _ 255).imp fun h => by omega⟩)).2 fun x => ?_
      rw [mem_idsOf hD', List.mem_cons, mem_idsOf hD]
      unfold setM
      split
      · rename_i q; simp [q]
      · rename_i q; simp [q]
    rw [sumZ_perm hp, sumZ_perm (hp.map _)] at b1
    simp only [List.map_cons, sumZ] at b1
    have e1 : rs (setM m id ⟨true, [], 0, z4, z4⟩) id = 0 := by unfold rs; rw [setM_same]; simp [kadd, z4]
    have e2 : (idsOf m).map (rs (setM m id ⟨true, [], 0, z4, z4⟩)) = (idsOf m).map (rs m) := List.map_congr_left fun i hi => by
      have hne : i ≠ id := by rintro rfl; exact hni hi
      unfold rs; rw [setM_ne hne]
    rw [e1, e2] at b1
    omega
  · exact h
theorem chs_same {m m' : M} (h : ∀ i e, e.leaf = true → (m i = some e ↔ m' i = some e)) : ∀ (f : Nat) (d : Nd), chs m' f d = chs m f d
  | 0, d => rfl
  | f + 1, d => by
    unfold chs
    split
    · cases e : m d.next with
      | none =>
        cases e' : m' d.next with
        | none => rfl
        | some x =>
          simp only
          by_cases q : x.leaf = true
          · have := (h _ _ q).2 e'; rw [e] at this; cases this
          · rw [if_neg q]
      | some y =>
        by_cases q : y.leaf = true
        · rw [(h _ _ q).1 e]
          simp only [q, if_true]
          rw [chs_same h f y]
        · cases e' : m' d.next with
          | none => simp only; rw [if_neg q]
          | some x =>
            simp only
            by_cases q' : x.leaf = true
            · have := (h _ _ q').2 e'; rw [e] at this; cases this; exact (q q').elim
            · rw [if_neg q, if_neg q']
    · rfl
/-- A Count that is changed. -/
theorem refuse_count {m : M} {id : Int} {d : Nd} {cs : List Int} {q : Nat} (hD : Dom m) (h0 : okC m = 0) (hd : m id = some d) (hl : d.leaf = false) (hok : NdOK { d with counts := cs }) (hq : q < 4) (hk : 0 < d.kids.getD q 0) (hne : cs.getD q 0 ≠ d.counts.getD q 0) :
    okC (setM m id { d with counts := cs }) = 21 := by
  rcases okC_cases (setM m id { d with counts := cs }) with h | h
  · exfalso
    have hr := hD id d hd
    obtain ⟨_, a1⟩ := acc_all hD h0
    obtain ⟨_, b1⟩ := acc_all (dom_set hD ⟨hr.1, hr.2.1⟩ hok) h
    obtain ⟨_, e, e1, e2⟩ := a1 id (by rw [hd]; simp) d hd hl q hq hk
    obtain ⟨n1, e', e3, e4⟩ := b1 id (by rw [setM_same]; simp) _ setM_same hl q hq hk
    simp only at n1 e3 e4
    rw [setM_ne n1, e1] at e3
    cases e3
    have : valC (setM m id { d with counts := cs }) e = valC m e := by
      unfold valC
      rw [chs_same (m := m) fun i x hx => ?_]
      unfold setM
      split
      · rename_i qq
        subst qq
        rw [hd]
        constructor
        · rintro h; cases h; rw [hl] at hx; cases hx
        · rintro h; cases h; rw [hl] at hx; cases hx
      · rfl
    rw [this, ← e2] at e4
    exact hne e4
  · exact h
theorem ChP_full {m : M} : ∀ {I : List Int} {L : List Pt}, ChP m I L → L ≠ [] → ∀ i ∈ I, ∀ d, m i = some d → d.pts ≠ []
  | [id], L, h, hL, i, hi, d, hd => by
    simp only [List.mem_singleton] at hi
    subst hi
    rw [h.2] at hd; cases hd
    exact hL
  | id :: nx :: r, L, h, hL, i, hi, d, hd => by
    have h1 := h.1
    rcases List.mem_cons.1 hi with rfl | hi
    · rw [h.2.1] at hd; cases hd
      intro q
      have : min 4 L.length = 0 := by have := congrArg List.length q; rwa [List.length_take] at this
      omega
    · refine ChP_full h.2.2 (fun q => ?_) i hi d hd
      have := congrArg List.length q
      simp at this; omega
theorem TrP_full {m : M} : ∀ {h : Nat} {id : Int} {L : List Pt} {I : List Int}, TrP m h id L I → L ≠ [] → ∀ i ∈ I, ∀ d, m i = some d → d.leaf = true → d.pts ≠ []
  | 0, id, L, I, ht, hL, i, hi, d, hd, _ => ChP_full ht.2 hL i hi d hd
  | h + 1, id, L, I, ht, hL, i, hi, d, hd, hlf => by
    unfold TrP at ht
    split at ht
    · exact ChP_full ht.2 hL i hi d hd
    · obtain ⟨ks, cs, J, h1, _, _, rfl, hs⟩ := ht
      rcases List.mem_cons.1 hi with rfl | hi
      · rw [h1] at hd; cases hd
        cases hlf
      · rw [← pre4] at hi
        obtain ⟨q, hq, hi⟩ := List.mem_flatMap.1 hi
        have hq4 := List.mem_range.1 hq
        rcases hs q hq4 with ⟨_, _, _, a4⟩ | ⟨a1, _, _, a4⟩
        · rw [a4] at hi; cases hi
        · exact TrP_full a4 a1 i hi d hd hlf
/-- A node of a tree, changed: Check does not panic. -/
theorem nopan_set {m : M} {L : List Pt} {I : List Int} (hT : TreeOK m L I) {id : Int} {d d' : Nd} (hd : m id = some d) (hok : NdOK d') (hp : d'.pts = d.pts) (hl : d'.leaf = d.leaf) : NoPan (setM m id d') := by
  intro i x e hx hn hpt he
  unfold setM at hx
  split at hx
  · rename_i q
    subst q
    cases hx
    have hlf : d'.leaf = true := by
      cases q : d'.leaf with
      | true => rfl
      | false => unfold NdOK at hok; rw [q] at hok; have := hok.2.1; omega
    have hLn : L = [] := by
      refine Classical.byContradiction fun hL => ?_
      exact TrP_full hT.tr hL i ((hT.iff i).1 (by rw [hd]; simp)) d hd (by rw [← hl]; exact hlf) (by rw [← hp]; exact hpt)
    have hI : I = [1] := by
      have := hT.tr
      rw [hLn] at this
      unfold TrP at this
      rw [if_pos (by simp)] at this
      exact this.1
    have hi : i = 1 := by have := (hT.iff i).1 (by rw [hd]; simp); rw [hI] at this; simpa using this
    unfold setM at he
    split at he
    · assumption
    · have := (hT.iff d'.next).1 (by rw [he]; simp)
      rw [hI] at this
      rw [hi]; simpa using this
  · have := TrP_next hT.tr i ((hT.iff i).1 (by rw [hx]; simp)) x hx hn
    rw [hpt] at this
    simp at this
theorem range_set {m : M} {L : List Pt} {I : List Int} (hT : TreeOK m L I) {id : Int} {d d' : Nd} (hd : m id = some d) (hp : d'.pts = d.pts) : RangeM (setM m id d') := by
  intro i x hx p hpm
  unfold setM at hx
  split at hx
  · cases hx
    rw [hp] at hpm
    exact range_tree hT id d hd p hpm
  · exact range_tree hT i x hx p hpm
end Cr

set_option linter.unusedVariables false
set_option linter.unusedSimpArgs false
namespace Cr
open Go Sx Stb
open Go.Proofs.Try
set_option linter.unusedSectionVars false
variable [Dr]
set_option maxRecDepth 100000
def h_vref2 : Hints := { cuts := [(18, ⟨[8, 9, 12, 13, 15], [], [.keep 13, .box 15 37 [.f .bool, .f .slc, .f (.int .i64), .ints .i64 4, .ints .i64 4]]⟩)] }
def nf_vref (a : Option Addr) (n : Nat) (c : Nat) (w : Int) (wh : Int) (by_ : Int) (R : Ending → Heap → Prop) (H : Heap) : Prop := Meets prog (6 : Nat) [] H fun (e : Ending) (H' : Nat → Option Obj) ↦ ∃ (b : Bool), e = Ending.returned (Value.bool b) ∧ Br (!b) (R (Ending.returned (Value.bool false)) H') (Meets prog (8 : Nat) [Value.slice a n c, Value.int IntKind.i64 (30 : Int)] H' fun (e : Ending) (H' : Nat → Option Obj) ↦ ∃ (a : Option Addr), ∃ (n : Nat), ∃ (c : Nat), e = Ending.returned (Value.slice a n c) ∧ Meets prog (7 : Nat) [Value.slice a n c] H' fun (e : Ending) (H' : Nat → Option Obj) ↦ ∃ (a : Option Addr), ∃ (n : Int), e = Ending.returned (Value.tuple { toList := [Value.pointer a, Value.int IntKind.i64 n] }) ∧ Br (n != (0 : Int)) (R (Ending.returned (Value.bool true)) H') (Meets prog (12 : Nat) [Value.pointer a] H' fun (e : Ending) (H' : Nat → Option Obj) ↦ ∃ (a_1 : Option Addr), ∃ (n : Nat), ∃ (c : Nat), e = Ending.returned (Value.slice a_1 n c) ∧ Br ((↑n : Int) == (0 : Int)) (R (Ending.returned (Value.bool false)) H') ((↑n : Int) ≠ (0 : Int) ∧ (↑n : Int) ≠ (0 : Int) ∧ ((0 : Int) ≤ Int.tmod (IntKind.wrap IntKind.i64 (Int.tmod w (↑n : Int) + (↑n : Int))) (↑n : Int) ∧ Int.tmod (IntKind.wrap IntKind.i64 (Int.tmod w (↑n : Int) + (↑n : Int))) (↑n : Int) < (↑n : Int)) ∧ PtrK a_1 fun (A : Addr) ↦ PtrK (some (Addr.add A (Int.toNat (Int.tmod (IntKind.wrap IntKind.i64 (Int.tmod w (↑n : Int) + (↑n : Int))) (↑n : Int)) * (1 : Nat)))) fun (a_2 : Addr) ↦ ∃ (n : Int), Heap.has H' a_2 [Value.int IntKind.i64 n] ∧ Meets prog (13 : Nat) [Value.pointer a, Value.int IntKind.i64 n] H' fun (e : Ending) (H' : Nat → Option Obj) ↦ ∃ (b : Bool), ∃ (a_3 : Option Addr), ∃ (n_1 : Nat), ∃ (c : Nat), ∃ (n_2 : Int), ∃ (xs : List Int), List.length xs = (4 : Nat) ∧ ∃ (xs_1 : List Int), List.length xs_1 = (4 : Nat) ∧ ∃ (b_1 : Bool), e = Ending.returned (Value.tuple { toList := [Value.agg { toList := Value.bool b :: Value.slice a_3 n_1 c :: Value.int IntKind.i64 n_2 :: List.append (List.map (Value.int IntKind.i64) xs) (flatD [Seg.ints IntKind.i64 (4 : Nat) xs_1]) }, Value.bool b_1] }) ∧ (4 : Int) ≠ (0 : Int) ∧ CutP (fun (I : PUnit × PUnit × (Bool × (Option Addr × Nat × Nat) × Int × List Int × List Int × PUnit) × PUnit → (Nat → Option Obj) → Prop) ↦ Br b (false = false ∧ a = a ∧ n = n ∧ (0 : Nat) = (0 : Nat) ∧ (0 : Nat) = (0 : Nat) ∧ b = b ∧ a_3 = a_3 ∧ n_1 = n_1 ∧ c = c ∧ n_2 = n_2 ∧ xs = xs ∧ xs_1 = xs_1 ∧ I (PUnit.unit, PUnit.unit, (b, (a_3, n_1, c), IntKind.wrap IntKind.i64 by_, xs, xs_1, PUnit.unit), PUnit.unit) H') ((2 : Int) ≠ (0 : Int) ∧ Br (Int.tmod by_ (2 : Int) == (0 : Int)) (((0 : Int) ≤ Int.tmod (IntKind.wrap IntKind.i64 wh) (4 : Int) ∧ Int.tmod (IntKind.wrap IntKind.i64 wh) (4 : Int) < (↑(4 : Nat) : Int)) ∧ ((0 : Int) ≤ Int.tmod (IntKind.wrap IntKind.i64 wh) (4 : Int) ∧ Int.tmod (IntKind.wrap IntKind.i64 wh) (4 : Int) < (↑(4 : Nat) : Int)) ∧ false = false ∧ a = a ∧ n = n ∧ (0 : Nat) = (0 : Nat) ∧ (0 : Nat) = (0 : Nat) ∧ b = b ∧ a_3 = a_3 ∧ n_1 = n_1 ∧ c = c ∧ n_2 = n_2 ∧ xs = xs ∧ xs_1 = xs_1 ∧ I (PUnit.unit, PUnit.unit, (b, (a_3, n_1, c), n_2, xs, List.set xs_1 (Int.toNat (Int.tmod (IntKind.wrap IntKind.i64 wh) (4 : Int))) (IntKind.wrap IntKind.i64 (IntKind.wrap IntKind.i64 (List.getD xs_1 (Int.toNat (Int.tmod (IntKind.wrap IntKind.i64 wh) (4 : Int))) (0 : Int) + (1 : Int)) + IntKind.wrap IntKind.i64 by_)), PUnit.unit), PUnit.unit) H') (((0 : Int) ≤ Int.tmod (IntKind.wrap IntKind.i64 wh) (4 : Int) ∧ Int.tmod (IntKind.wrap IntKind.i64 wh) (4 : Int) < (↑(4 : Nat) : Int)) ∧ false = false ∧ a = a ∧ n = n ∧ (0 : Nat) = (0 : Nat) ∧ (0 : Nat) = (0 : Nat) ∧ b = b ∧ a_3 = a_3 ∧ n_1 = n_1 ∧ c = c ∧ n_2 = n_2 ∧ xs = xs ∧ xs_1 = xs_1 ∧ I (PUnit.unit, PUnit.unit, (b, (a_3, n_1, c), n_2, List.set xs (Int.toNat (Int.tmod (IntKind.wrap IntKind.i64 wh) (4 : Int))) (IntKind.wrap IntKind.i64 by_), xs_1, PUnit.unit), PUnit.unit) H'))) fun (p : PUnit × PUnit × (Bool × (Option Addr × Nat × Nat) × Int × List Int × List Int × PUnit) × PUnit) (H : Nat → Option Obj) ↦ Meets prog (14 : Nat) [Value.pointer a] H fun (e : Ending) (H' : Nat → Option Obj) ↦ ∃ (n_3 : Int), ∃ (n_4 : Int), e = Ending.returned (Value.tuple { toList := [Value.int IntKind.i64 n_3, Value.int IntKind.i64 n_4] }) ∧ Meets prog (15 : Nat) [Value.pointer a] H' fun (e : Ending) (H' : Nat → Option Obj) ↦ ∃ (a_4 : Option Addr), e = Ending.returned (Value.pointer a_4) ∧ Br (n_4 != (0 : Int)) (R (Ending.returned (Value.bool (n_4 != (0 : Int)))) H') (Meets prog (16 : Nat) [Value.pointer a_4, Value.int IntKind.i64 n_3, Value.agg { toList := [Value.bool true, Value.slice none (0 : Nat) (0 : Nat), Value.int IntKind.i64 (0 : Int), Value.int IntKind.i64 (0 : Int), Value.int IntKind.i64 (0 : Int), Value.int IntKind.i64 (0 : Int), Value.int IntKind.i64 (0 : Int), Value.int IntKind.i64 (0 : Int), Value.int IntKind.i64 (0 : Int), Value.int IntKind.i64 (0 : Int), Value.int IntKind.i64 (0 : Int)] }] H' fun (e : Ending) (H' : Nat → Option Obj) ↦ ∃ (n_5 : Int), e = Ending.returned (Value.int IntKind.i64 n_5) ∧ Br (n_5 != (0 : Int)) (R (Ending.returned (Value.bool (n_4 != (0 : Int)))) H') (Meets prog (9 : Nat) [Value.pointer a_4] H' fun (e : Ending) (H' : Nat → Option Obj) ↦ ∃ (n_6 : Int), e = Ending.returned (Value.int IntKind.i64 n_6) ∧ Br (n_6 != (21 : Int)) (R (Ending.returned (Value.bool (n_4 != (0 : Int)))) H') (Meets prog (17 : Nat) [Value.agg { toList := Value.bool b :: Value.slice a_3 n_1 c :: Value.int IntKind.i64 n_2 :: List.append (List.map (Value.int IntKind.i64) xs) (List.map (Value.int IntKind.i64) xs_1 ++ []) }, Value.agg { toList := Value.bool p.snd.snd.fst.fst :: Value.slice p.snd.snd.fst.snd.fst.1 p.snd.snd.fst.snd.fst.snd.fst p.snd.snd.fst.snd.fst.snd.snd :: Value.int IntKind.i64 p.snd.snd.fst.snd.snd.fst :: List.append (List.map (Value.int IntKind.i64) p.snd.snd.fst.snd.snd.snd.fst) (List.map (Value.int IntKind.i64) p.snd.snd.fst.snd.snd.snd.snd.fst ++ []) }] H' fun (e : Ending) (H' : Nat → Option Obj) ↦ ∃ (b : Bool), e = Ending.returned (Value.bool b) ∧ Br b (R (Ending.returned (Value.bool true)) H') (Meets prog (16 : Nat) [Value.pointer a, Value.int IntKind.i64 n, Value.agg { toList := Value.bool p.snd.snd.fst.fst :: Value.slice p.snd.snd.fst.snd.fst.1 p.snd.snd.fst.snd.fst.snd.fst p.snd.snd.fst.snd.fst.snd.snd :: Value.int IntKind.i64 p.snd.snd.fst.snd.snd.fst :: List.append (List.map (Value.int IntKind.i64) p.snd.snd.fst.snd.snd.snd.fst) (List.map (Value.int IntKind.i64) p.snd.snd.fst.snd.snd.snd.snd.fst ++ []) }] H' fun (e : Ending) (H' : Nat → Option Obj) ↦ ∃ (n : Int), e = Ending.returned (Value.int IntKind.i64 n) ∧ Br (n != (0 : Int)) (R (Ending.returned (Value.bool true)) H') (Meets prog (9 : Nat) [Value.pointer a] H' fun (e : Ending) (H' : Nat → Option Obj) ↦ ∃ (n : Int), e = Ending.returned (Value.int IntKind.i64 n) ∧ R (Ending.returned (Value.bool (n == (21 : Int)))) H'))))))))
theorem vc_vref (a : Option Addr) (n : Nat) (c : Nat) (w : Int) (wh : Int) (by_ : Int) (R : Ending → Heap → Prop) (H : Heap) : vcFun prog h_vref2 f4 [SV.c (SC.v (Value.slice a n c)), SV.c (SC.v (Value.int IntKind.i64 w)), SV.c (SC.v (Value.int IntKind.u8 wh)), SV.c (SC.v (Value.int IntKind.u8 by_))] R H = nf_vref a n c w wh by_ R H := by kernel_rfl

def h_rsame : Hints := { eqs := [35, 51], loops := [(4, ⟨[2, 3, 4], [.f 5 (.int .i64)], [.keep 2, .keep 3]⟩)] }
def nf_rsame (lf : Bool) (a : Option Addr) (n : Nat) (c : Nat) (nx : Int) (ks : List Int) (cs : List Int) (lf' : Bool) (a' : Option Addr) (n' : Nat) (c' : Nat) (nx' : Int) (ks' : List Int) (cs' : List Int) (R : Ending → Heap → Prop) (H : Heap) : Prop := Br (!lf == lf') (R (Ending.returned (Value.bool false)) H) (Br (nx != nx') (R (Ending.returned (Value.bool false)) H) (Br (!andO none (ks == ks')) (R (Ending.returned (Value.bool false)) H) (Br (!andO none (cs == cs')) (R (Ending.returned (Value.bool false)) H) (Br ((↑n : Int) != (↑n' : Int)) (R (Ending.returned (Value.bool false)) H) ((0 : Nat) = (0 : Nat) ∧ (0 : Nat) = (0 : Nat) ∧ false = false ∧ lf = lf ∧ a = a ∧ n = n ∧ c = c ∧ nx = nx ∧ ks = ks ∧ cs = cs ∧ lf' = lf' ∧ a' = a' ∧ n' = n' ∧ c' = c' ∧ nx' = nx' ∧ ks' = ks' ∧ cs' = cs' ∧ LoopP (fun (K : (Int × PUnit) × PUnit × PUnit × PUnit → (Nat → Option Obj) → Prop) (p : (Int × PUnit) × PUnit × PUnit × PUnit) (H : Nat → Option Obj) ↦ Br (decide (p.fst.fst < (↑n : Int))) (((0 : Int) ≤ p.fst.fst ∧ p.fst.fst < (↑n : Int)) ∧ PtrK a fun (A : Addr) ↦ PtrK (some (Addr.add A (Int.toNat p.fst.fst * (4 : Nat)))) fun (a_1 : Addr) ↦ ∃ (n_1 : Int), ∃ (n_2 : Int), ∃ (n_3 : Int), ∃ (s : ByteArray), Heap.has H a_1 [Value.int IntKind.i64 n_1, Value.int IntKind.u32 n_2, Value.int IntKind.u32 n_3, Value.string s] ∧ ((0 : Int) ≤ p.fst.fst ∧ p.fst.fst < (↑n' : Int)) ∧ PtrK a' fun (A : Addr) ↦ PtrK (some (Addr.add A (Int.toNat p.fst.fst * (4 : Nat)))) fun (a_2 : Addr) ↦ ∃ (n_4 : Int), ∃ (n_5 : Int), ∃ (n_6 : Int), ∃ (s_1 : ByteArray), Heap.has H a_2 [Value.int IntKind.i64 n_4, Value.int IntKind.u32 n_5, Value.int IntKind.u32 n_6, Value.string s_1] ∧ Br (!andO (some (andO (some (andO (some (andO none (n_1 == n_4))) (n_2 == n_5))) (n_3 == n_6))) (s == s_1)) (R (Ending.returned (Value.bool false)) H) ((0 : Nat) = (0 : Nat) ∧ (0 : Nat) = (0 : Nat) ∧ false = false ∧ lf = lf ∧ a = a ∧ n = n ∧ c = c ∧ nx = nx ∧ ks = ks ∧ cs = cs ∧ lf' = lf' ∧ a' = a' ∧ n' = n' ∧ c' = c' ∧ nx' = nx' ∧ ks' = ks' ∧ cs' = cs' ∧ K ((IntKind.wrap IntKind.i64 (p.fst.fst + (1 : Int)), PUnit.unit), PUnit.unit, PUnit.unit, PUnit.unit) H)) (R (Ending.returned (Value.bool true)) H)) (((0 : Int), PUnit.unit), PUnit.unit, PUnit.unit, PUnit.unit) H)))))
theorem vc_rsame (lf : Bool) (a : Option Addr) (n : Nat) (c : Nat) (nx : Int) (ks : List Int) (cs : List Int) (lf' : Bool) (a' : Option Addr) (n' : Nat) (c' : Nat) (nx' : Int) (ks' : List Int) (cs' : List Int) (R : Ending → Heap → Prop) (H : Heap) : vcFun prog h_rsame f17 [ndA lf a n c nx ks cs, ndA lf' a' n' c' nx' ks' cs'] R H = nf_rsame lf a n c nx ks cs lf' a' n' c' nx' ks' cs' R H := by kernel_rfl

end Cr

set_option linter.unusedVariables false
set_option linter.unusedSimpArgs false
namespace Cr
open Go Sx Stb
open Go.Proofs.Try
set_option linter.unusedSectionVars false
variable [Dr]
set_option maxRecDepth 100000
/-- A node with one Next, Count or Kid changed. -/
def Chd (by_ : Int) (d d' : Nd) : Prop := (d.leaf = true ∧ d' = { d with next := by_ }) ∨
  (d.leaf = false ∧ ∃ q : Nat, q < 4 ∧ (d' = { d with counts := d.counts.set q (d.counts.getD q 0 + 1 + by_) } ∨ d' = { d with kids := d.kids.set q by_ }))
theorem memN_two {a b t : Nat} (h : memN [a, b] t = true) : t = a ∨ t = b := by
  unfold memN at h
  split at h
  · rename_i e; exact .inl (nbt e).symm
  · exact .inr (memN_one h)
theorem kadd_set {ks : List Int} {q : Nat} {x : Int} (hq : q < ks.length) : ∀ n, kadd (ks.set q x) n = kadd ks n + if q < n then x - ks.getD q 0 else 0
  | 0 => by simp [kadd]
  | n + 1 => by
    simp only [kadd, kadd_set hq n, getD_set hq]
    by_cases e : q = n
    · subst e; simp; omega
    · rw [if_neg e]
      by_cases h : q < n
      · rw [if_pos h, if_pos (by omega)]; omega
      · rw [if_neg h, if_neg (by omega)]; omega
theorem refuse_all {m : M} {L : List Pt} {I : List Int} (hT : TreeOK m L I) {id by_ : Int} {d d' : Nd} (hd : m id = some d) (hk : d.kids.length = 4) (hc : d.counts.length = 4) (hb : 0 ≤ by_) (hch : Chd by_ d d') (hok : NdOK d') (hne : d ≠ d') : okC (setM m id d') = 21 := by
  have h0 := okC_tree hT
  rcases hch with ⟨hl, rfl⟩ | ⟨hl, q, hq, rfl | rfl⟩
  · refine refuse_refs hT.dom h0 hd hok fun e => hne ?_
    simp only at e
    have : by_ = d.next := by omega
    rw [this]
  · have hqu : QuaOK d.kids (d.counts.set q (d.counts.getD q 0 + 1 + by_)) := by
      unfold NdOK at hok
      rw [if_neg (by rw [hl]; simp)] at hok
      exact hok.2.2
    have hqd := (hT.dom id d hd).2.2
    unfold NdOK at hqd
    rw [if_neg (by rw [hl]; simp)] at hqd
    have h1 := hqu q hq
    have h2 := hqd.2.2 q hq
    have e1 : (d.counts.set q (d.counts.getD q 0 + 1 + by_)).getD q 0 = d.counts.getD q 0 + 1 + by_ := by rw [getD_set (by omega), if_pos rfl]
    rw [e1] at h1
    refine refuse_count hT.dom h0 hd hl hok hq ?_ (by rw [e1]; omega)
    have : d.kids.getD q 0 ≠ 0 := fun e => by have := h1.2.2.2.2.1 e; omega
    omega
  · refine refuse_refs hT.dom h0 hd hok fun e => hne ?_
    simp only at e
    rw [kadd_set (by omega), if_pos hq] at e
    have h3 : by_ = d.kids.getD q 0 := by omega
    have : d.kids.set q by_ = d.kids := by
      rw [h3]
      refine List.ext_getElem? fun j => ?_
      rw [List.getElem?_set]
      split
      · rename_i hj
        subst hj
        rw [if_pos (by omega), List.getD_eq_getElem?_getD, List.getElem?_eq_getElem (by omega)]
        rfl
      · rfl
    rw [this]
section
variable {R : Ending → Heap → Prop} {H : Heap}
theorem s_rsame {a a' : Option Addr} {n c n' c' : Nat} {d d' : Nd} (h1 : SliceAt H (.slice a n c) 4 (pts d.pts)) (h2 : SliceAt H (.slice a' n' c') 4 (pts d'.pts)) (hk : d.kids.length = 4) (hc : d.counts.length = 4) (hk' : d'.kids.length = 4) (hc' : d'.counts.length = 4) (h5 : d.pts.length ≤ 1000)
    (K : ∀ b, (b = false → d ≠ d') → R (.returned (.bool b)) H) : Meets prog 17 [ndV d.leaf a n c d.next d.kids d.counts, ndV d'.leaf a' n' c' d'.next d'.kids d'.counts] H R := by
  have l1 : d.pts.length = n := by simpa [pts] using (slice_len h1).1
  have l2 : d'.pts.length = n' := by simpa [pts] using (slice_len h2).1
  refine spec_of func17 (by kernel_rfl) (fun t ht => ?_) (by simp [argsR, SV.rep, SegsRep, SC.rep, one, hk, hc, hk', hc']) (vc_rsame d.leaf a n c d.next d.kids d.counts d'.leaf a' n' c' d'.next d'.kids d'.counts R H) ?_
  · rcases memN_two ht with rfl | rfl
    · exact eqOK_of (by kernel_rfl) (by kernel_rfl) (by kernel_rfl)
    · exact eqOK_of (by kernel_rfl) (by kernel_rfl) (by kernel_rfl)
  unfold nf_rsame
  simp only [true_and]
  have no : ∀ {p : Prop}, (p → d ≠ d') → p → R (.returned (.bool false)) H := fun hp h => K false fun _ => hp h
  refine br (fun q => K false fun _ e => ?_) fun q1 => br (fun q => K false fun _ e => ?_) fun q2 => br (fun q => K false fun _ e => ?_) fun q3 => br (fun q => K false fun _ e => ?_) fun q4 => br (fun q => K false fun _ e => ?_) fun q5 => ?_
  · subst e; simp at q
  · subst e; simp at q
  · subst e; simp [andO] at q
  · subst e; simp [andO] at q
  · subst e
    rw [← l1, ← l2] at q; simp at q
  refine ⟨fun p H' => ∃ t : Nat, p.1.1 = (t : Int) ∧ t ≤ n ∧ H' = H, fun p _ => n - p.1.1.toNat, ⟨0, rfl, by omega, rfl⟩, ?_⟩
  rintro ⟨⟨z, u⟩, u'⟩ H1 ⟨t, e, ht, rfl⟩
  simp only at e ⊢
  subst e
  have hnn : n = n' := by simp at q5; omega
  subst hnn
  refine br (fun q6 => ?_) fun q6 => K true fun e => by cases e
  have ht2 : t < n := by simp at q6; omega
  obtain ⟨p, hp⟩ : ∃ p, d.pts[t]? = some p := ⟨d.pts[t]'(by omega), List.getElem?_eq_getElem (by omega)⟩
  obtain ⟨p', hp'⟩ : ∃ p, d'.pts[t]? = some p := ⟨d'.pts[t]'(by omega), List.getElem?_eq_getElem (by omega)⟩
  obtain ⟨A, rfl, g⟩ := pr_get h1 hp
  obtain ⟨A', rfl, g'⟩ := pr_get h2 hp'
  refine ⟨⟨by omega, by omega⟩, ptr rfl (ptr rfl ⟨_, _, _, _, g, ⟨by omega, by omega⟩, ptr rfl (ptr rfl ⟨_, _, _, _, g', br (fun q7 => K false fun _ e => ?_) fun q7 => ⟨⟨t + 1, by rw [w64 (by omega)]; simp, by omega, trivial⟩, by rw [w64 (by omega)]; omega⟩⟩)⟩)⟩
  rw [e] at hp
  rw [hp] at hp'
  cases hp'
  simp [andO] at q7
  rw [ba_beq] at q7
  simp at q7
theorem tmod_range (w : Int) {n : Int} (hn : 0 < n) : -n < w.tmod n ∧ w.tmod n < n := by
  rw [Int.tmod_eq_emod]
  have h1 := Int.emod_nonneg w (b := n) (by omega)
  have h2 := Int.emod_lt_of_pos w hn
  split
  · omega
  · have : ((n.natAbs : Nat) : Int) = n := by omega
    rename_i q
    have h3 : w % n ≠ 0 := fun e => q (.inr (Int.dvd_of_emod_eq_zero e))
    omega
theorem s_lvr (hDr : ¬ Dr.on) {v : Value} {l : List Pt} {w wh by_ : Int} (h : SliceAt H v 4 (pts l)) (hl : l.length ≤ 10000000000000) (hp : ∀ p ∈ l, PtR p) (hwh : 0 ≤ wh ∧ wh < 256) (hby : 0 ≤ by_ ∧ by_ < 256) (k : ∀ H', H ≤ H' → R (.returned (.bool true)) H') :
    Meets prog 4 [v, vi w, .int .u8 wh, .int .u8 by_] H R := by
  obtain ⟨a, n, c, e, hn⟩ := h
  subst e
  have h : SliceAt H (.slice a n c) 4 (pts l) := ⟨a, n, c, rfl, hn⟩
  refine spec_of func4 (by kernel_rfl) (fun t h => by cases h) (by simp [argsR, SV.rep, SC.rep, one]) (vc_vref a n c w wh by_ R H) ?_
  unfold nf_vref
  simp only [true_and]
  refine s_alive26 hDr fun H0 hle0 => ⟨_, rfl, br (fun q => by cases q) fun _ => ?_⟩
  obtain ⟨o1, o2, o3, o4⟩ := once_facts hp 30
  have o3 := o3 (by decide)
  refine s_once (slice_le h hle0) (by decide) hl fun v1 H1 hle1 hfr1 hrow1 => ?_
  have hs1 := row_slice hrow1
  obtain ⟨a1, c1, rfl⟩ := row_val hrow1
  generalize hL : onceP 30 l = L at *
  have hle01 := heap_trans hle0 hle1
  refine ⟨_, _, _, rfl, s_build hs1 (by omega) o4 (fun i p h1 _ h3 => absurd (o1 p (List.mem_of_getElem? h1)) (pcode_bad h3)) (fun _ h2 => absurd o2 h2) (fun _ _ _ H2 hle2 => ⟨_, _, rfl, br (fun _ => k _ (heap_trans hle01 hle2)) fun q => by simp at q⟩) fun _ _ h255 b r mm I H2 hb hr hbr hle2 hg hT hlow => ⟨_, _, rfl, ?_⟩⟩
  have hr0 : H r = none := by
    cases q : H r with
    | none => rfl
    | some o => rw [hle01 _ _ q] at hr; cases hr
  have hleH := heap_trans hle01 hle2
  refine br (fun q => by simp at q) fun _ => s_ids hg fun v3 H3 hle3 hf3 hrow3 => ?_
  have hs3 := row_slice hrow3
  obtain ⟨a3, c3, rfl⟩ := row_val hrow3
  have hil : (idsOf mm).length ≤ 255 := idsBelow_len mm 255
  have hcl : (cells (idsOf mm)).length = (idsOf mm).length := by simp [cells]
  have hpos : 0 < (idsOf mm).length := by
    have h0 := TrP_len hT.tr
    have h1 := nds_pos 32 (sortP L)
    rw [hT.ids.length_eq]
    omega
  rw [hcl] at hs3 ⊢
  generalize hN : (idsOf mm).length = N at *
  have hN0 : (0 : Int) < (N : Int) := by omega
  have ht := tmod_range w hN0
  have e1 := Int.tmod_eq_emod_of_nonneg (a := w.tmod N + N) (b := (N : Int)) (by omega)
  have e2 := Int.emod_nonneg (w.tmod N + N) (b := (N : Int)) (by omega)
  have e3 := Int.emod_lt_of_pos (w.tmod N + N) hN0
  rw [← e1] at e2 e3
  generalize hj : (w.tmod (N : Int) + N).tmod N = j at *
  obtain ⟨id, hid⟩ : ∃ id, (idsOf mm)[j.toNat]? = some id := ⟨(idsOf mm)[j.toNat]'(by omega), List.getElem?_eq_getElem (by omega)⟩
  obtain ⟨A, rfl, _, hA⟩ := slice_get hs3 (i := j.toNat) (e := [vi id]) (by rw [cells, List.getElem?_map, hid]; rfl)
  refine ⟨_, N, c3, rfl, br (fun q => by simp at q; omega) fun _ => ?_⟩
  rw [w64 (by omega), hj]
  have hmem : mm id ≠ none := (mem_idsOf hT.dom).1 (List.mem_of_getElem? hid)
  obtain ⟨d, hd⟩ : ∃ d, mm id = some d := by cases e : mm id with | none => exact (hmem e).elim | some d => exact ⟨d, rfl⟩
  have hdD := hT.dom id d hd
  have hg3 := hg.le hle3
  refine ⟨by omega, by omega, ⟨e2, e3⟩, ptr rfl (ptr rfl ⟨id, hA, s_get hg3 (by rw [hd]; intro d' e; cases e; have := hT.dom.few hd; omega) fun v4 H4 hle4 hv4 => ?_⟩)⟩
  rw [hd] at hv4 ⊢
  have hv4 : NdAt H4 v4 d := hv4
  obtain ⟨a4, n4, c4, rfl, k1, k2, k3⟩ := hv4
  have hwq : IntKind.i64.wrap wh = wh := w64 (by omega)
  have hbq : IntKind.i64.wrap by_ = by_ := w64 (by omega)
  rw [hwq, hbq]
  have f1 := Int.tmod_eq_emod_of_nonneg (a := wh) (b := 4) (by omega)
  have f2 : 0 ≤ wh.tmod 4 ∧ wh.tmod 4 < 4 := by rw [f1]; omega
  generalize hq : wh.tmod 4 = q at *
  have hqn : q.toNat < 4 := by omega
  have hok := hdD.2.2
  refine ⟨_, a4, n4, c4, _, _, k2, _, k3, _, rfl, by omega, fun p H' => ∃ d', p.2.2.1.1 = d'.leaf ∧ p.2.2.1.2.1 = (a4, n4, c4) ∧ p.2.2.1.2.2.1 = d'.next ∧ p.2.2.1.2.2.2.1 = d'.kids ∧ p.2.2.1.2.2.2.2.1 = d'.counts ∧ d'.pts = d.pts ∧ d'.leaf = d.leaf ∧ Chd by_ d d' ∧ H' = H4, ?_, ?_⟩
  · refine br (fun q1 => ⟨{ d with next := by_ }, rfl, rfl, rfl, rfl, rfl, rfl, rfl, .inl ⟨q1, rfl⟩, rfl⟩) fun q1 => ⟨by omega, br (fun _ => ⟨⟨by omega, by omega⟩, ⟨by omega, by omega⟩, ?_⟩) fun _ => ⟨⟨by omega, by omega⟩, ?_⟩⟩
    · have hqu : QuaOK d.kids d.counts := by unfold NdOK at hok; rw [if_neg (by rw [q1]; simp)] at hok; exact hok.2.2
      have hcq := hqu q.toNat hqn
      rw [w64 (k := d.counts.getD q.toNat 0 + 1) (by omega), w64 (by omega)]
      exact ⟨{ d with counts := d.counts.set q.toNat (d.counts.getD q.toNat 0 + 1 + by_) }, rfl, rfl, rfl, rfl, rfl, rfl, rfl, .inr ⟨q1, q.toNat, hqn, .inl rfl⟩, rfl⟩
    · exact ⟨{ d with kids := d.kids.set q.toNat by_ }, rfl, rfl, rfl, rfl, rfl, rfl, rfl, .inr ⟨q1, q.toNat, hqn, .inr rfl⟩, rfl⟩
  rintro ⟨u1, u2, ⟨lf, ⟨a5, n5, c5⟩, nx, ks, cs, u3⟩, u4⟩ H5 ⟨d', g1, g2, g3, g4, g5, g6, g7, hch, rfl⟩
  simp only at g1 g2 g3 g4 g5 ⊢
  cases g2
  subst g1 g3 g4 g5
  have hgH5 := hg3.le hle4
  have hH5 : H ≤ H5 := heap_trans hleH (heap_trans hle3 hle4)
  have kl : d'.kids.length = 4 ∧ d'.counts.length = 4 := by
    rcases hch with ⟨_, rfl⟩ | ⟨_, q, _, rfl | rfl⟩ <;> simp [k2, k3]
  refine s_fresh hgH5 (fun fid hf1 hf2 hfn _ => ⟨_, _, rfl, ?_⟩) fun _ => ⟨_, _, rfl, s_gcl hT.dom hgH5 fun r' b' _ _ _ H6 hle6 _ => ⟨_, rfl, br (fun _ => k _ (heap_trans hH5 hle6)) fun q => by simp at q⟩⟩
  refine s_gcl hT.dom hgH5 fun r' b' hr' hb' hbr' H6 hle6 hg6 => ⟨_, rfl, br (fun q => by simp at q) fun _ => ?_⟩
  have ok0 : NdOK ⟨true, [], 0, z4, z4⟩ := by
    unfold NdOK
    rw [if_pos rfl]
    exact ⟨⟨fun i p h => by simp at h, fun i p q h => by simp at h, by simp⟩, by simp, by simp, rfl, rfl⟩
  refine s_put (id := fid) (d := ⟨true, [], 0, z4, z4⟩) hg6 ⟨none, 0, 0, rfl, slice_nil _, rfl, rfl⟩ (by simp) (fun no => (no ok0).elim) (fun _ no => (no ⟨hf1, hf2⟩).elim) fun _ _ H7 hg7 hm7 => ⟨_, rfl, br (fun q => by simp at q) fun _ => ?_⟩
  have hle7 : H5 ≤ H7 := fun c o e => hm7 c o (by rintro rfl; rw [hr'] at e; cases e) (hle6 _ _ e)
  have h0 := okC_tree hT
  have hD7 := dom_set hT.dom ⟨hf1, hf2⟩ ok0
  have hR7 : RangeM (setM mm fid ⟨true, [], 0, z4, z4⟩) := fun i x hx p hpm => by
    unfold setM at hx
    split at hx
    · cases hx; cases hpm
    · exact range_tree hT i x hx p hpm
  have hN7 : NoPan (setM mm fid ⟨true, [], 0, z4, z4⟩) := fun i x e hx hn hpt he => by
    unfold setM at hx
    split at hx
    · cases hx; simp at hn
    · have := TrP_next hT.tr i ((hT.iff i).1 (by rw [hx]; simp)) x hx hn
      rw [hpt] at this; simp at this
  refine s_vCheck hg7 hD7 hR7 hN7 fun H8 hle8 => ⟨_, rfl, ?_⟩
  rw [refuse_more hT.dom h0 ⟨hf1, hf2⟩ hfn ok0]
  refine br (fun q => by simp at q) fun _ => ?_
  have hle58 := heap_trans hle7 hle8
  have hs8 := slice_le k1 hle58
  have hs8' : SliceAt H8 (.slice a4 n4 c4) 4 (pts d'.pts) := by rw [g6]; exact hs8
  refine s_rsame (d := d) (d' := d') hs8 hs8' k2 k3 kl.1 kl.2 (by have := hT.dom.few hd; omega) fun bb hbb => ?_
  refine ⟨_, rfl, br (fun _ => k _ (heap_trans hH5 hle58)) fun q => ?_⟩
  have hne := hbb q
  have hg8 := hgH5.le hle58
  have hv8 : NdAt H8 (ndV d'.leaf a4 n4 c4 d'.next d'.kids d'.counts) d' := ⟨a4, n4, c4, rfl, hs8', kl.1, kl.2⟩
  have hp4 : d'.pts.length ≤ 1000000 := by rw [g6]; have := hT.dom.few hd; omega
  refine s_put (d := d') hg8 hv8 hp4 (fun _ => ?_) (fun _ no => (no ⟨hdD.1, hdD.2.1⟩).elim) fun hok' _ H9 hg9 hm9 => ?_
  · exact ⟨_, rfl, br (fun _ => k _ (heap_trans hH5 hle58)) fun q => by simp at q⟩
  · refine ⟨_, rfl, br (fun q => by simp at q) fun _ => ?_⟩
    have hle9 : H ≤ H9 := fun c o e => hm9 c o (by rintro rfl; rw [hr0] at e; cases e) (heap_trans hH5 hle58 _ _ e)
    refine s_vCheck hg9 (dom_set hT.dom ⟨hdD.1, hdD.2.1⟩ hok') (range_set hT hd g6) (nopan_set hT hd hok' g6 g7) fun H10 hle10 => ⟨_, rfl, ?_⟩
    rw [refuse_all hT hd k2 k3 hby.1 hch hok' hne]
    exact k _ (heap_trans hle9 hle10)
end
end Cr

set_option linter.unusedVariables false
set_option linter.unusedSimpArgs false
namespace Cr
open Go Sx Stb Bt
open Go.Proofs.Try
set_option linter.unusedSectionVars false
variable [Dr]
set_option maxRecDepth 100000
theorem own : ownKnob Go.Proofs.Try.prog.godebug = none := by kernel_rfl
theorem laidOut : laidOutB Go.Proofs.Try.prog = true := by kernel_rfl
section
variable {H : Type} {enc : TypeId × Value → H} {W : World}
theorem openPt {fuel : Nat} {cs : List Value} {y : DataW H × List MemPlace} (h : DataW.trod enc prog W 0 (fun _ => true) true fuel 51 cs = some y) : ∃ p : Pt, cs = ptC p ∧ PtR p := by
  obtain ⟨y0, y1, y2, y3, n, _, hl, h0, h1, h2, h3⟩ := Go.Joins.trod_struct4 Go.Proofs.Try.underlying51 h
  obtain ⟨a, e0, _, _⟩ := DataW.trod_int Go.Proofs.Try.underlying3 h0
  obtain ⟨b, e1, _, w1⟩ := DataW.trod_int Go.Proofs.Try.underlying49 h1
  obtain ⟨c, e2, _, w2⟩ := DataW.trod_int Go.Proofs.Try.underlying49 h2
  obtain ⟨s, e3, _, _⟩ := DataW.trod_string Go.Proofs.Try.underlying9 h3
  have c4 : prog.cellsOf 51 = 4 := by kernel_rfl
  have c1 : prog.cellsOf 3 = 1 := by kernel_rfl
  have c2 : prog.cellsOf 49 = 1 := by kernel_rfl
  have c3 : prog.cellsOf 9 = 1 := by kernel_rfl
  rw [c4] at hl
  match cs, hl with
  | [q0, q1, q2, q3], _ =>
    simp only [c1, c2, c3, List.drop_zero, List.drop_succ_cons, List.take_succ_cons, List.take_zero] at e0 e1 e2 e3
    cases e0; cases e1; cases e2; cases e3
    refine ⟨⟨a, b, c, s⟩, rfl, ?_⟩
    have r1 : 0 ≤ b ∧ b < 4294967296 := by simp [Lit.wf, IntKind.min, IntKind.max, IntKind.bits, IntKind.signed] at w1; omega
    have r2 : 0 ≤ c ∧ c < 4294967296 := by simp [Lit.wf, IntKind.min, IntKind.max, IntKind.bits, IntKind.signed] at w2; omega
    exact ⟨r1.1, r1.2, r2.1, r2.2⟩
theorem openI {v : Value} {d : DataW H} {ps : List MemPlace} {base : Nat} (hv : Value.okWide prog W .any base 3 v) (h : DataW.Trod enc prog W 0 (fun _ => true) true 3 v d ps) : ∃ a : Int, v = vi a := by
  obtain ⟨n, rfl, _, _, hw⟩ := Go.ChangeShapes.open_int Go.Proofs.Try.underlying3 hv h
  exact ⟨n, rfl⟩
theorem weigh {t : TypeId} {ts : List TypeId} {d : DataW H} {ds : List (DataW H)} {p : Nat → Bool} (h : (DataW.weightsEach prog (t :: ts) (d :: ds)).all p = true) : (d.weights prog t).all p = true ∧ (DataW.weightsEach prog ts ds).all p = true := by
  simp only [DataW.weightsEach, List.all_append, Bool.and_eq_true] at h
  exact h
theorem openPts {v : Value} {d : DataW H} {ps : List MemPlace} {base : Nat} (hv : Value.okWide prog W .any base 22 v) (h : DataW.Trod enc prog W 0 (fun _ => true) true 22 v d ps) :
    ∃ l : List Pt, SliceAt (full W) v 4 (pts l) ∧ (∀ p ∈ l, PtR p) ∧ ((d.weights prog 22).all (· ≤ reachBytes) = true → l.length ≤ 10000000000000) := by
  obtain ⟨a, len, cap, rfl⟩ := Go.WideShapes.okWide_slice Go.Proofs.Try.underlying22 hv
  obtain ⟨fuel, hf⟩ := h
  rcases Go.Deep.open_slice Go.Proofs.Try.underlying22 hf with ⟨e, e2⟩ | ⟨A, ln, cp, m, n, D, Pl, e, hb, hl, hm, hmm, e2, hx⟩
  · cases e
    exact ⟨[], slice_nil _, by simp, by simp⟩
  · cases e
    obtain ⟨rfl, -⟩ := Prod.mk.inj e2
    simp only [if_true] at hmm
    subst hmm
    have hc : prog.cellsOf 51 = 4 := by kernel_rfl
    have hby : prog.bytesOf 51 = 32 := by kernel_rfl
    have pick : ∀ i, ∃ p : Pt, i < len → PtR p ∧ (full W).has (A.add (i * 4)) (ptC p) ∧ A.spot = none := fun i => by
      by_cases hi : i < len
      · obtain ⟨cs', h1, h2⟩ := hx i (by omega)
        rw [hc] at h1
        obtain ⟨p, rfl, hp⟩ := openPt h2
        obtain ⟨_, h3, h4⟩ := World.cells?_some h1
        refine ⟨p, fun _ => ⟨hp, ?_, ?_⟩⟩
        · intro j x hj
          have hj4 : j < 4 := (List.getElem?_eq_some_iff.1 hj).1
          have := h4 j hj4
          rw [hj] at this
          exact this
        · obtain ⟨cs0, k1, k2⟩ := hx 0 (by omega)
          rw [hc] at k1
          obtain ⟨_, k3, k4⟩ := World.cells?_some k1
          have := k4 0 (by omega)
          simp only [Nat.zero_mul, add0] at this
          rw [List.getElem?_eq_getElem (by omega)] at this
          unfold World.cell? at this
          split at this
          · split at this
            · cases this
            · rename_i hs
              simpa using hs
          · cases this
      · exact ⟨default, fun h => absurd h hi⟩
    obtain ⟨f, hf⟩ := Classical.axiomOfChoice pick
    refine ⟨(List.range len).map f, ⟨some A, len, _, rfl, by simp [pts], hl, ?_, ?_, fun i e he => ?_⟩, ?_, fun hw => ?_⟩
    · intro e he
      simp only [pts, List.mem_map] at he
      obtain ⟨p, _, rfl⟩ := he
      rfl
    · intro e he
      simp only [pts, List.mem_map] at he
      obtain ⟨p, _, rfl⟩ := he
      exact ptC_one p
    · simp only [pts, List.getElem?_map] at he
      obtain ⟨p, hp, rfl⟩ := Option.map_eq_some_iff.1 he
      obtain ⟨i', hi', rfl⟩ := Option.map_eq_some_iff.1 hp
      have hlt := (List.getElem?_eq_some_iff.1 hi').1
      have hii : i' = i := by have := (List.getElem?_eq_some_iff.1 hi').2; simp at this; omega
      subst hii
      obtain ⟨_, g1, g2⟩ := hf i' (by simpa using hlt)
      exact ⟨A, rfl, g2, g1⟩
    · intro p hp
      obtain ⟨i, hi, rfl⟩ := List.mem_map.1 hp
      exact (hf i (List.mem_range.1 hi)).1
    · simp only [DataW.weights, Go.Proofs.Try.underlying22, List.all_cons, Bool.and_eq_true, decide_eq_true_eq, List.length_map, List.length_range, hby] at hw
      simp only [List.length_map, List.length_range]
      have := hw.1
      unfold reachBytes at this
      omega
end
end Cr

set_option linter.unusedVariables false
set_option linter.unusedSimpArgs false
namespace Cr
open Go Sx Stb
open Go.Proofs.Try
set_option linter.unusedSectionVars false
variable [Dr]
set_option maxRecDepth 100000
section
variable {H : Type} {enc : TypeId × Value → H} {W : World}
theorem openB {v : Value} {d : DataW H} {ps : List MemPlace} {base : Nat} (hv : Value.okWide prog W .any base 5 v) (h : DataW.Trod enc prog W 0 (fun _ => true) true 5 v d ps) : ∃ a : Int, v = .int .u8 a ∧ 0 ≤ a ∧ a < 256 := by
  obtain ⟨n, rfl, _, _, hw⟩ := Go.ChangeShapes.open_int Go.Proofs.Try.underlying5 hv h
  exact ⟨n, rfl, by simp [Lit.wf, IntKind.min, IntKind.max, IntKind.bits, IntKind.signed] at hw; omega⟩
end
end Cr
