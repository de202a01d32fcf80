/- Own texts, one behind the other: X14, S2, S3, S7, W1, S12, W2, X15, X16, S5. -/
import Derived.Deep.Slices
import Derived.Test.YtdlkimfkapkjpaaRows
import Derived.Test.YtdlkimfkapkjpaaZ6
set_option linter.unusedVariables false
set_option linter.unusedSimpArgs false
namespace Cr
open Go Sx Stb
open Go.Proofs.Try
set_option linter.unusedSectionVars false
variable [Dr]
set_option maxRecDepth 100000
theorem chp_head {m : M} {id : Int} {T : List Int} {L : List Pt} (h : ChP m (id :: T) L) : ∃ d, m id = some d ∧ d.leaf = true ∧ d.pts = L.take 4 ∧ d.next = T.headD 0 ∧ ((T = [] ∧ L.length ≤ 4) ∨ ∃ nx T', T = nx :: T' ∧ 4 < L.length ∧ ChP m (nx :: T') (L.drop 4)) := by
  cases T with
  | nil =>
    obtain ⟨h1, h2⟩ := h
    exact ⟨_, h2, rfl, (List.take_of_length_le h1).symm, rfl, .inl ⟨rfl, h1⟩⟩
  | cons nx T' =>
    obtain ⟨h1, h2, h3⟩ := h
    exact ⟨_, h2, rfl, rfl, rfl, .inr ⟨nx, T', rfl, h1, h3⟩⟩
theorem sub_nd {L L' : List Pt} (h : (L.map Pt.id).Nodup) (hs : L'.Sublist L) : (L'.map Pt.id).Nodup := h.sublist (hs.map _)
theorem rise_nd {L : List Pt} (h : L.Pairwise fun p q => p.id < q.id) : (L.map Pt.id).Nodup := by
  rw [List.Nodup, List.pairwise_map]
  exact h.imp fun h => by omega
theorem take_chain {m : M} (hD : Dom m) {x y : Int} (hx : Cor 0 x) (hy : Cor 0 y) : ∀ (T : List Int) (id : Int) (L : List Pt) (d : Nd) (s : Ck) (t : Int) (f : Nat), ChP m (id :: T) L → m id = some d → InC 0 x y L → L.Pairwise (fun p q => p.id < q.id) →
    T.Nodup → (∀ i ∈ T, i ∉ s.met) → (∀ p ∈ L.drop 4, p.id ∉ s.ids) → s.odd = false → T.length < f →
    chainC m x y 0 f d s t = ({ s with met := s.met ++ T, ids := s.ids ++ (L.drop 4).map Pt.id }, t + (L.drop 4).length)
  | T, id, L, d, s, t, 0, _, _, _, _, _, _, _, _, hf => by omega
  | T, id, L, d, s, t, f + 1, hch, hd, hi, hr, hn, hm, hid, ho, hf => by
    obtain ⟨d', e1, e2, e3, e4, e5⟩ := chp_head hch
    rw [hd] at e1; cases e1
    rcases e5 with ⟨rfl, hl⟩ | ⟨nx, T', rfl, hl, hch'⟩
    · rw [chainC_stop (by simp [e4])]
      rw [List.drop_of_length_le hl]
      simp
    · obtain ⟨e, g1, g2, g3, g4, g5⟩ := chp_head hch'
      have hnx : 0 < nx := by have := (hD _ _ g1).1; omega
      have e4' : d.next = nx := e4
      have hlen : d.pts.length = 4 := by rw [e3, List.length_take]; omega
      have hnm : nx ∉ s.met := hm nx (List.mem_cons_self ..)
      rw [List.nodup_cons] at hn
      unfold chainC
      rw [if_pos ⟨by rw [e4']; exact hnx, ho⟩, hlen, e4']
      have eN : needC s (decide (0 = 0) && decide (4 = 4)) = s := by cases s; simp_all [needC]
      rw [eN, getC_new g1 hnm]
      simp only
      -- the link
      obtain ⟨p, hp⟩ : ∃ p, (L.drop 4)[0]? = some p := ⟨(L.drop 4)[0]'(by simp; omega), List.getElem?_eq_getElem (by simp; omega)⟩
      obtain ⟨z, hz⟩ : ∃ z, L[3]? = some z := ⟨L[3]'(by omega), List.getElem?_eq_getElem (by omega)⟩
      have hlt : z.id < p.id := by
        rw [List.getElem?_drop] at hp
        obtain ⟨a1, rfl⟩ := List.getElem?_eq_some_iff.1 hz
        obtain ⟨a2, rfl⟩ := List.getElem?_eq_some_iff.1 hp
        exact List.pairwise_iff_getElem.1 hr 3 (4 + 0) a1 a2 (by omega)
      have hlk : lnk d e = true := by
        unfold lnk
        rw [g2, g3, e3]
        have a1 : ((L.drop 4).take 4).head? = some p := by rw [List.head?_take, if_neg (by omega), List.head?_eq_getElem?]; exact hp
        have a2 : (L.take 4).getLast? = some z := by
          rw [List.getLast?_eq_getElem?, List.length_take, show min 4 L.length - 1 = 3 by omega, List.getElem?_take_of_lt (by omega)]; exact hz
        rw [a1, a2]
        simp [hlt]
      rw [hlk]
      generalize hS : ({ s with met := s.met ++ [nx] } : Ck) = S
      have eS : S.odd = false ∧ S.met = s.met ++ [nx] ∧ S.ids = s.ids := by rw [← hS]; exact ⟨ho, rfl, rfl⟩
      have eN2 : needC S true = S := by cases S; simp_all [needC]
      have hpg : ptsC x y 0 e.pts S = { S with ids := S.ids ++ e.pts.map Pt.id } := by
        rw [g3]
        refine ptsC_good hx hy _ S (fun q hq => hi q (List.mem_of_mem_drop (List.mem_of_mem_take hq))) (sub_nd (rise_nd hr) ((List.take_sublist _ _).trans (List.drop_sublist _ _))) (fun q hq => ?_) eS.1
        rw [eS.2.2]
        exact hid q (List.mem_of_mem_take hq)
      rw [eN2, hpg, take_chain hD hx hy T' nx (L.drop 4) e _ _ f hch' g1 (fun q hq => hi q (List.mem_of_mem_drop hq)) (hr.sublist (List.drop_sublist _ _)) hn.2 ?_ ?_ ?_ (by simp at hf; omega)]
      · rw [g3, Prod.mk.injEq, Ck.mk.injEq]
        have e6 : (L.drop 4).take 4 ++ (L.drop 4).drop 4 = L.drop 4 := List.take_append_drop _ _
        refine ⟨⟨?_, ?_, ?_⟩, ?_⟩
        · simp [eS.2.1]
        · simp only [eS.2.2, List.append_assoc]
          rw [← List.map_append, e6]
        · exact eS.1.trans ho.symm
        · have e7 := congrArg List.length e6
          rw [List.length_append] at e7
          omega
      · intro i hi2
        simp only [eS.2.1, List.mem_append, List.mem_singleton, not_or]
        exact ⟨hm i (List.mem_cons_of_mem _ hi2), fun q => hn.1 (q ▸ hi2)⟩
      · intro q hq
        simp only [eS.2.2, List.mem_append, not_or]
        refine ⟨hid q (List.mem_of_mem_drop hq), fun hq2 => ?_⟩
        rw [g3] at hq2
        have hnd := sub_nd (rise_nd hr) (List.drop_sublist 4 L)
        rw [← List.take_append_drop 4 (L.drop 4), List.map_append] at hnd
        exact (List.nodup_append.1 hnd).2.2 _ hq2 _ (List.mem_map_of_mem hq) rfl
      · exact eS.1
/-! ### Trees -/
def pre {α : Type} (J : Nat → List α) (q : Nat) : List α := (List.range q).flatMap J
theorem pre_succ {α : Type} (J : Nat → List α) (q : Nat) : pre J (q + 1) = pre J q ++ J q := by simp [pre, List.range_succ]
theorem pre4 {α : Type} (J : Nat → List α) : pre J 4 = J 0 ++ (J 1 ++ (J 2 ++ J 3)) := by simp [pre, List.range_succ]
theorem pre_sub {α : Type} (J : Nat → List α) : ∀ {q n : Nat}, q ≤ n → (pre J q).Sublist (pre J n)
  | q, 0, h => by have : q = 0 := by omega
                  subst this; exact List.Sublist.refl _
  | q, n + 1, h => by
    by_cases e : q = n + 1
    · subst e; exact List.Sublist.refl _
    · rw [pre_succ]
      exact (pre_sub J (by omega)).trans (List.sublist_append_left _ _)
theorem quarter_disj {h q q' : Nat} {L : List Pt} (hr : (L.map Pt.id).Nodup) (hne : q ≠ q') {p p' : Pt} (hp : p ∈ quarter h q L) (hp' : p' ∈ quarter h q' L) : p.id ≠ p'.id := by
  intro e
  obtain ⟨h1, h2⟩ := List.mem_filter.1 hp
  obtain ⟨h3, h4⟩ := List.mem_filter.1 hp'
  have : p = p' := by
    obtain ⟨i, hi⟩ := List.mem_iff_getElem?.1 h1
    obtain ⟨j, hj⟩ := List.mem_iff_getElem?.1 h3
    have e1 : (L.map Pt.id)[i]? = some p.id := by rw [List.getElem?_map, hi]; rfl
    have e2 : (L.map Pt.id)[j]? = some p.id := by rw [List.getElem?_map, hj, e]; rfl
    have hil := (List.getElem?_eq_some_iff.1 hi).1
    have := (List.getElem?_inj (by rw [List.length_map]; exact hil) hr).1 (e1.trans e2.symm)
    subst this
    rw [hi] at hj; cases hj; rfl
  subst this
  have a1 : qt h p = (q : Int) := eq_of_beq h2
  have a2 : qt h p = (q' : Int) := eq_of_beq h4
  omega
theorem take_tree {m : M} (hD : Dom m) : ∀ (h : Nat) {id : Int} {L : List Pt} {I : List Int} {x y : Int} {s : Ck} {f : Nat}, TrP m h id L I → h ≤ 32 → Cor h x → Cor h y → InC h x y L → (∀ p ∈ L, PtR p) → L.Pairwise (fun p q => p.id < q.id) →
    I.Nodup → (∀ i ∈ I, i ∉ s.met) → (∀ p ∈ L, p.id ∉ s.ids) → s.odd = false → I.length ≤ f → I.length ≤ 255 →
    ∃ P : List Int, checkC m f h id x y s = ({ s with met := s.met ++ I, ids := s.ids ++ P }, (L.length : Int)) ∧ P.Perm (L.map Pt.id) := by
  -- a leaf's chain
  have leaf : ∀ (h : Nat) {id : Int} {L : List Pt} {I : List Int} {x y : Int} {s : Ck} {f : Nat}, I.head? = some id → ChP m I L → (h = 0 ∨ I = [id]) → Cor h x → Cor h y → InC h x y L → L.Pairwise (fun p q => p.id < q.id) →
      I.Nodup → (∀ i ∈ I, i ∉ s.met) → (∀ p ∈ L, p.id ∉ s.ids) → s.odd = false → I.length ≤ f → I.length ≤ 255 →
      ∃ P : List Int, checkC m f h id x y s = ({ s with met := s.met ++ I, ids := s.ids ++ P }, (L.length : Int)) ∧ P.Perm (L.map Pt.id) := by
    intro h id L I x y s f hhd hch hone hx hy hi hr hn hm hid ho hf h255
    obtain ⟨T, rfl⟩ : ∃ T, I = id :: T := by cases I with | nil => simp at hhd | cons a T => simp at hhd; exact ⟨T, by rw [hhd]⟩
    obtain ⟨f, rfl⟩ : ∃ g, f = g + 1 := ⟨f - 1, by simp at hf; omega⟩
    obtain ⟨d, e1, e2, e3, e4, e5⟩ := chp_head hch
    have hnm := hm id (List.mem_cons_self ..)
    rw [List.nodup_cons] at hn
    unfold checkC
    rw [getC_new e1 hnm]
    simp only
    rw [if_neg (by rw [ho]; simp), if_pos e2]
    generalize hS : ({ s with met := s.met ++ [id] } : Ck) = S
    have eS : S.odd = false ∧ S.met = s.met ++ [id] ∧ S.ids = s.ids := by rw [← hS]; exact ⟨ho, rfl, rfl⟩
    have hpg : ptsC x y h d.pts S = { S with ids := S.ids ++ d.pts.map Pt.id } := by
      rw [e3]
      refine ptsC_good hx hy _ S (fun q hq => hi q (List.mem_of_mem_take hq)) (sub_nd (rise_nd hr) (List.take_sublist _ _)) (fun q hq => ?_) eS.1
      rw [eS.2.2]
      exact hid q (List.mem_of_mem_take hq)
    rw [hpg]
    rcases e5 with ⟨rfl, hl⟩ | ⟨nx, T', rfl, hl, hch'⟩
    · rw [chainC_stop (by simp [e4])]
      refine ⟨L.map Pt.id, ?_, List.Perm.refl _⟩
      rw [e3, List.take_of_length_le hl, Prod.mk.injEq, Ck.mk.injEq]
      exact ⟨⟨eS.2.1, by rw [eS.2.2], eS.1.trans ho.symm⟩, rfl⟩
    · have h0 : h = 0 := by
        rcases hone with h0 | h1
        · exact h0
        · simp at h1
      subst h0
      rw [take_chain hD hx hy (nx :: T') id L d _ _ 600 hch e1 hi hr hn.2 ?_ ?_ ?_ (by simp at h255 ⊢; omega)]
      · refine ⟨L.map Pt.id, ?_, List.Perm.refl _⟩
        have e6 : L.take 4 ++ L.drop 4 = L := List.take_append_drop _ _
        rw [e3, Prod.mk.injEq, Ck.mk.injEq]
        refine ⟨⟨by simp [eS.2.1], ?_, eS.1.trans ho.symm⟩, ?_⟩
        · simp only [eS.2.2, List.append_assoc]
          rw [← List.map_append, e6]
        · have e7 := congrArg List.length e6
          rw [List.length_append] at e7
          omega
      · intro i hi2
        simp only [eS.2.1, List.mem_append, List.mem_singleton, not_or]
        exact ⟨hm i (List.mem_cons_of_mem _ hi2), fun q => hn.1 (q ▸ hi2)⟩
      · intro q hq
        simp only [eS.2.2, List.mem_append, not_or]
        refine ⟨hid q (List.mem_of_mem_drop hq), fun hq2 => ?_⟩
        rw [e3] at hq2
        have hnd := rise_nd hr
        rw [← List.take_append_drop 4 L, List.map_append] at hnd
        exact (List.nodup_append.1 hnd).2.2 _ hq2 _ (List.mem_map_of_mem hq) rfl
      · exact eS.1
  intro h
  induction h with
  | zero =>
    intro id L I x y s f ht hh hx hy hi hpr hr hn hm hid ho hf h255
    exact leaf 0 ht.1 ht.2 (.inl rfl) hx hy hi hr hn hm hid ho hf h255
  | succ h ih =>
    intro id L I x y s f ht hh hx hy hi hpr hr hn hm hid ho hf h255
    unfold TrP at ht
    split at ht
    · rename_i hl
      exact leaf (h + 1) (by rw [ht.1]; rfl) ht.2 (.inr ht.1) hx hy hi hr hn hm hid ho hf h255
    · rename_i hl
      obtain ⟨ks, cs, J, hd, hk4, hc4, rfl, hsub⟩ := ht
      have hL4 : 4 < L.length := by omega
      obtain ⟨f, rfl⟩ : ∃ g, f = g + 1 := ⟨f - 1, by simp at hf; omega⟩
      have hnm := hm id (List.mem_cons_self ..)
      rw [List.nodup_cons] at hn
      unfold checkC
      rw [getC_new hd hnm]
      simp only
      rw [if_neg (by rw [ho]; simp), if_neg (by simp), Nat.add_sub_cancel]
      have hqp := quarters_perm (h := h) hpr
      have hcq : ∀ q, q < 4 → cs.getD q 0 = ((quarter h q L).length : Int) := fun q hq => by
        rcases hsub q hq with ⟨a1, _, a3, _⟩ | ⟨_, _, a3, _⟩
        · rw [a3, a1]; rfl
        · exact a3
      have htot : tot ⟨false, [], 0, ks, cs⟩ = (L.length : Int) := by
        have := hqp.length_eq
        simp only [List.length_append] at this
        unfold tot
        simp only
        rw [hcq 0 (by omega), hcq 1 (by omega), hcq 2 (by omega), hcq 3 (by omega)]
        omega
      have hne : needC { s with met := s.met ++ [id] } (decide (0 < h + 1) && decide (tot ⟨false, [], 0, ks, cs⟩ > 4)) = { s with met := s.met ++ [id] } := by
        rw [htot, decide_eq_true (by omega), decide_eq_true (by omega)]
        simp [needC, ho]
      rw [hne]
      rw [← pre4] at hn hm hf h255 ⊢
      have hJlen : ∀ q, q < 4 → (J q).length ≤ (pre J 4).length := fun q hq => by
        have := (pre_sub J (q := q + 1) (n := 4) (by omega)).length_le
        rw [pre_succ, List.length_append] at this
        omega
      have key : ∀ q : Nat, q ≤ 4 → ∃ P : List Int, kidsC (fun s k x' y' => checkC m f h k x' y' s) x y h ks cs q { s with met := s.met ++ [id] } = { s with met := (s.met ++ [id]) ++ pre J q, ids := s.ids ++ P } ∧ P.Perm ((pre (fun q => quarter h q L) q).map Pt.id) := by
        intro q
        induction q with
        | zero => intro _; exact ⟨[], by simp [kidsC, pre], by simp [pre]⟩
        | succ q ihq =>
          intro hq
          obtain ⟨P, e1, e2⟩ := ihq (by omega)
          have hq4 : q < 4 := by omega
          show ∃ P' : List Int, (match kidsC (fun s k x' y' => checkC m f h k x' y' s) x y h ks cs q { s with met := s.met ++ [id] } with
            | s => if 0 < ks.getD q 0 ∧ s.odd = false then
                match checkC m f h (ks.getD q 0) (x + ((q % 2 : Nat) : Int) * 2 ^ h) (y + ((q / 2 : Nat) : Int) * 2 ^ h) s with
                | (s', c) => needC s' (c == cs.getD q 0)
              else s) = _ ∧ _
          rw [e1]
          simp only
          have hnp := (pre_sub J (q := q + 1) (n := 4) (by omega))
          rw [pre_succ] at hnp
          have hnq := List.nodup_append.1 (hn.2.sublist hnp)
          rcases hsub q hq4 with ⟨a1, a2, a3, a4⟩ | ⟨a1, a2, a3, a4⟩
          · rw [if_neg (by rw [a2]; simp)]
            exact ⟨P, by rw [pre_succ, a4, List.append_nil], by rw [pre_succ, a1, List.append_nil]; exact e2⟩
          · rw [if_pos ⟨by omega, ho⟩]
            have hA : ∀ i ∈ J q, i ∉ (s.met ++ [id]) ++ pre J q := by
              intro i hiJ
              simp only [List.mem_append, List.mem_singleton, not_or]
              have hi4 : i ∈ pre J 4 := hnp.subset (List.mem_append_right _ hiJ)
              exact ⟨⟨hm i (List.mem_cons_of_mem _ hi4), fun e => hn.1 (e ▸ hi4)⟩, fun hi2 => hnq.2.2 i hi2 i hiJ rfl⟩
            have hB : ∀ p ∈ quarter h q L, p.id ∉ s.ids ++ P := by
              intro p hp
              simp only [List.mem_append, not_or]
              refine ⟨hid p (List.mem_filter.1 hp).1, fun hpP => ?_⟩
              have := e2.mem_iff.1 hpP
              obtain ⟨p', hp', e⟩ := List.mem_map.1 this
              obtain ⟨q', hq', hp'⟩ := List.mem_flatMap.1 hp'
              have hlt := List.mem_range.1 hq'
              exact quarter_disj (rise_nd hr) (by omega) hp' hp e
            obtain ⟨P', e3, e4⟩ := ih (s := { s with met := (s.met ++ [id]) ++ pre J q, ids := s.ids ++ P }) (f := f) a4 (by omega) (hx.kid (by omega) (b := ((q % 2 : Nat) : Int)) (by omega)) (hy.kid (by omega) (b := ((q / 2 : Nat) : Int)) (by omega)) (in_kid (by omega) hx hy hi hq4)
              (fun p hp => hpr p ((List.mem_filter.1 hp).1)) (hr.sublist List.filter_sublist) hnq.2.1 hA hB ho (by have := hJlen q hq4; simp at hf; omega) (by have := hJlen q hq4; simp at h255; omega)
            rw [e3]
            simp only
            refine ⟨P ++ P', ?_, ?_⟩
            · rw [a3]
              simp only [needC, beq_self_eq_true, Bool.not_true, Bool.or_false, pre_succ, List.append_assoc]
            · rw [pre_succ, List.map_append]
              exact e2.append e4
      obtain ⟨P, e1, e2⟩ := key 4 (by omega)
      rw [e1, htot]
      refine ⟨P, by simp, e2.trans ?_⟩
      rw [pre4]
      exact hqp.map _
end Cr

set_option linter.unusedVariables false
set_option linter.unusedSimpArgs false
namespace Cr
open Go Sx Stb Bt
open Go.Proofs.Try
set_option linter.unusedSectionVars false
variable [Dr]
set_option maxRecDepth 100000
section
variable {R : Ending → Heap → Prop} {H : Heap}
theorem cells_get {l : List Int} {i : Nat} (h : i < l.length) : ∃ e, List.get?Internal (cells l) i = some e ∧ List.take 1 (List.drop 0 e) = [vi (l.getD i 0)] := by
  refine ⟨[vi (l.getD i 0)], ?_, rfl⟩
  rw [List.get?Internal_eq_getElem?]
  simp [cells, h]
end
end Cr

set_option linter.unusedVariables false
set_option linter.unusedSimpArgs false
namespace Cr
open Go Sx Stb Bt
open Go.Proofs.Try
set_option linter.unusedSectionVars false
variable [Dr]
set_option maxRecDepth 100000
structure Cnt where
  met : Int → Bool
  ls : List Int
  lv : Int
  ot : Int
  fl : List Int
def padTo (l : List Int) (n : Nat) : List Int := l ++ List.replicate (n - l.length) 0
def lvBump (l : List Int) (lv : Nat) : List Int := (padTo l (lv + 1)).set lv (IntKind.i64.wrap ((padTo l (lv + 1)).getD lv 0 + 1))
theorem cells_at {H : Heap} {b ty : Nat} {L : List Value} (h : H b = some (.cells L.toArray ty (0, 0))) {k : Nat} {x : Value} (hx : L[k]? = some x) : H.has (Addr.add ⟨b, 0, none⟩ k) [x] := has_one (has_cells h) hx rfl
theorem cells_put {H : Heap} {b ty : Nat} {L : List Value} (h : H b = some (.cells L.toArray ty (0, 0))) {k : Nat} (hk : k < L.length) (x : Value) :
    (H (Addr.add ⟨b, 0, none⟩ k).block = some (.cells L.toArray ty (0, 0)) ∧ (Addr.add ⟨b, 0, none⟩ k).spot = none ∧ (Addr.add ⟨b, 0, none⟩ k).off + 1 ≤ L.toArray.size) ∧
    H.upd (Addr.add ⟨b, 0, none⟩ k).block (.cells (writeCells L.toArray (Addr.add ⟨b, 0, none⟩ k).off [x]) ty (0, 0)) = H.upd b (.cells (L.set k x).toArray ty (0, 0)) := by
  rw [add_spot rfl]
  refine ⟨⟨h, rfl, by simp; omega⟩, ?_⟩
  simp [writeCells]
theorem le_upd {G H : Heap} (h : G ≤ H) {b : Nat} (hb : G b = none) (o : Obj) : G ≤ H.upd b o := fun x o' e => by
  rw [upd_ne _ _ (fun e' => by subst e'; rw [hb] at e; cases e)]; exact h _ _ e
theorem delO_keep {H : Heap} {o : Option Nat} {x : Nat} {ob : Obj} (hn : ∀ k, o = some k → k ≠ x) (h : H x = some ob) : H.delO o x = some ob := by
  cases o with
  | none => exact h
  | some k => show (if x = k then none else H x) = _; rw [if_neg (Ne.symm (hn k rfl))]; exact h
section
variable {R : Ending → Heap → Prop} {H : Heap}
end
end Cr

set_option linter.unusedVariables false
set_option linter.unusedSimpArgs false
namespace Cr
open Go Sx Stb Bt
open Go.Proofs.Try
set_option linter.unusedSectionVars false
variable [Dr]
set_option maxRecDepth 100000
section
variable {R : Ending → Heap → Prop} {H : Heap}
def bumpN (C : Cnt) (x : Nat × Int) : Cnt := if x.2 < 0 then ⟨C.met, lvBump C.ls x.1, C.lv, IntKind.i64.wrap (C.ot + 1), C.fl⟩
  else ⟨C.met, lvBump C.ls x.1, IntKind.i64.wrap (C.lv + 1), C.ot, C.fl.set x.2.toNat (IntKind.i64.wrap (C.fl.getD x.2.toNat 0 + 1))⟩
def Cnt.after (C : Cnt) (V : List (Nat × Int)) : Cnt := V.foldl bumpN C
end
end Cr

set_option linter.unusedVariables false
set_option linter.unusedSimpArgs false
namespace Cr
open Go Sx Stb Bt
open Go.Proofs.Try
set_option linter.unusedSectionVars false
variable [Dr]
set_option maxRecDepth 100000
def wkL (g : Addr) (r : Nat) (s : Value) : List Value := [.pointer (some g), .map (some r), s]
/-- A walker stands at b, its map at r; what is in G is as it was. -/
def WkAt (G : Heap) (g : Addr) (b r : Nat) (met : Int → Bool) (out : List Int) (H : Heap) : Prop :=
  G ≤ H ∧ G b = none ∧ G r = none ∧ b ≠ r ∧ (∃ l, MapAt H r .i64 l ∧ ∀ id, getL l id = if met id then some (.bool true) else none) ∧
    ∃ a n c, H b = some (.cells (wkL g r (.slice a n c)).toArray 81 (0, 0)) ∧ RowAt H (.slice a n c) 3 1 (cells out) ∧ ∀ k, blockOf (.slice a n c) = some k → G k = none ∧ k ≠ b ∧ k ≠ r
section
variable {R : Ending → Heap → Prop} {H : Heap}
/-- A number is appended. -/
theorem WkAt.push {G : Heap} {g : Addr} {b r : Nat} {met : Int → Bool} {out : List Int} {H : Heap} (h : WkAt G g b r met out H) (hl : out.length ≤ 1000000) (y : Int) {X : Heap → Prop} (hX : ∀ H', WkAt G g b r met (out ++ [y]) H' → X H') :
    ∃ (a : Option Addr) (n c : Nat), H.has (Addr.add ⟨b, 0, none⟩ 2) [.slice a n c] ∧ ∃ es : List (List Value), RowAt H (.slice a n c) 3 1 es ∧ (List.append es [[vi y]]).length * 8 ≤ 140737488355328 ∧
      PtrK (some ⟨b, 0, none⟩) fun a_1 => PtrK (some a_1) fun a_2 => ∀ (v : Value) (H' : Heap), H.delO (blockOf (.slice a n c)) ≤ H' → (∀ b, blockOf v = some b → (H.delO (blockOf (.slice a n c))) b = none) → (∀ (b : Nat) (o : Obj), H' b = some o → (H.delO (blockOf (.slice a n c))) b = some o ∨ blockOf v = some b) → RowAt H' v 3 1 (List.append es [[vi y]]) →
        PtrK (some (Addr.add a_2 2)) fun A => ∃ (c : Array Value) (ty : TypeId), (H' A.block = some (.cells c ty (0, 0)) ∧ A.spot = none ∧ A.off + 1 ≤ c.size) ∧ X (H'.upd A.block (.cells (writeCells c A.off [v]) ty (0, 0))) := by
  obtain ⟨f1, f2, f3, f4, ⟨l3, f5, f6⟩, a3, n3, c3, f8, f9, f10⟩ := h
  refine ⟨a3, n3, c3, cells_at f8 (k := 2) rfl, _, f9, by simp [cells]; omega, ptr rfl (ptr rfl fun v H3 g1 g2 _ g4 => ptr rfl ?_)⟩
  obtain ⟨a4, c4, rfl⟩ := row_val g4
  have keep : ∀ x ob, (∀ k, blockOf (.slice a3 n3 c3) = some k → k ≠ x) → H x = some ob → H3 x = some ob := fun x ob h1 h2 => g1 _ _ (delO_keep h1 h2)
  have hb3 := keep b _ (fun k e => (f10 k e).2.1) f8
  have hG3 : G ≤ H3 := fun x ob e => keep x ob (fun k e' => by rintro rfl; rw [(f10 k e').1] at e; cases e) (f1 _ _ e)
  have fresh : ∀ k, blockOf (.slice a4 (List.append (cells out) [[vi y]]).length c4) = some k → ∀ x ob, (∀ k, blockOf (.slice a3 n3 c3) = some k → k ≠ x) → H x = some ob → k ≠ x := fun k e x ob h1 h2 => by
    rintro rfl
    have := g2 k e
    rw [delO_keep h1 h2] at this; cases this
  obtain ⟨p1, p2⟩ := cells_put hb3 (k := 2) (by simp [wkL]) (.slice a4 (List.append (cells out) [[vi y]]).length c4)
  refine ⟨_, _, p1, hX _ ?_⟩
  rw [p2]
  have hnb : ∀ k, blockOf (.slice a4 (List.append (cells out) [[vi y]]).length c4) = some k → k ≠ b := fun k e => fresh k e b _ (fun k e => (f10 k e).2.1) f8
  have hmap : ∃ es clk, H r = some (.map es clk) := by obtain ⟨es, clk, e, _⟩ := f5; exact ⟨es, clk, e⟩
  obtain ⟨es3, clk3, hm3⟩ := hmap
  refine ⟨le_upd hG3 f2 _, f2, f3, f4, ⟨l3, map_same f5 (fun o e => ?_), f6⟩, a4, _, c4, upd_same _ _ _, ?_, fun k e => ⟨?_, hnb k e, fresh k e r _ (fun k e => (f10 k e).2.2) hm3⟩⟩
  · rw [upd_ne _ _ (Ne.symm f4)]; exact keep r o (fun k e => (f10 k e).2.2) e
  · have : cells (out ++ [y]) = List.append (cells out) [[vi y]] := by simp [cells]
    rw [this]
    exact row_le g4 fun k o e q => by rw [upd_ne _ _ (hnb k e)]; exact q
  · cases e' : G k with
    | none => rfl
    | some ob => exact absurd rfl (fresh k e k ob (fun k' e2 e3 => by rw [e3] at e2; rw [(f10 k e2).1] at e'; cases e') (f1 _ _ e'))
end
end Cr

set_option linter.unusedVariables false
set_option linter.unusedSimpArgs false
namespace Cr
open Go Sx Stb Bt
open Go.Proofs.Try
set_option linter.unusedSectionVars false
variable [Dr]
set_option maxRecDepth 100000
section
variable {R : Ending → Heap → Prop} {H : Heap}
theorem once_facts {l : List Pt} (hp : ∀ p ∈ l, PtR p) (most : Int) : (∀ p ∈ onceP most l, ptOK p) ∧ ((onceP most l).map Pt.id).Nodup ∧ (0 ≤ most → ((onceP most l).length : Int) ≤ most) ∧ ∀ p ∈ onceP most l, PtR p := by
  obtain ⟨h1, h2, h3, h4⟩ := once_ok most l
  refine ⟨h1, h2, fun h0 => ?_, fun p hm => hp p (h4 p hm)⟩
  rcases h3 with h | h
  · rw [h]; simpa using h0
  · exact h
end
end Cr

set_option linter.unusedVariables false
set_option linter.unusedSimpArgs false
namespace Cr
open Go Sx Stb Bt
open Go.Proofs.Try
set_option linter.unusedSectionVars false
variable [Dr]
set_option maxRecDepth 100000
def BuildRes (l : List Pt) (a : Option Addr) (n : Int) (H : Heap) : Prop :=
  (∃ (i : Nat) (p : Pt), l[i]? = some p ∧ (∀ (j : Nat) (q : Pt), j < i → l[j]? = some q → ptOK q) ∧ pcode p ≠ 0 ∧ a = none ∧ n = pcode p) ∨
  (∀ p ∈ l, ptOK p) ∧ ((¬ (l.map Pt.id).Nodup ∧ a = none ∧ n = 22) ∨ (l.map Pt.id).Nodup ∧ ((255 < nds 32 (sortP l) ∧ a = none ∧ n = 10) ∨
    nds 32 (sortP l) ≤ 255 ∧ n = 0 ∧ ∃ b r m I, a = some ⟨b, 0, none⟩ ∧ GroveAt H ⟨b, 0, none⟩ r m ∧ TreeOK m (sortP l) I ∧ Low m))
theorem BuildRes.le {l : List Pt} {a : Option Addr} {n : Int} {H H' : Heap} (h : BuildRes l a n H) (hle : H ≤ H') : BuildRes l a n H' := by
  rcases h with h | ⟨h1, h | ⟨h2, h | ⟨h3, h4, b, r, m, I, h5, h6, h7⟩⟩⟩
  · exact .inl h
  · exact .inr ⟨h1, .inl h⟩
  · exact .inr ⟨h1, .inr ⟨h2, .inl h⟩⟩
  · exact .inr ⟨h1, .inr ⟨h2, .inr ⟨h3, h4, b, r, m, I, h5, h6.le hle, h7⟩⟩⟩
section
variable {R : Ending → Heap → Prop} {H : Heap}
theorem s_buildR {v : Value} {l : List Pt} (hs : SliceAt H v 4 (pts l)) (hl : l.length ≤ 50000) (hp : ∀ p ∈ l, PtR p) (k : ∀ a n H', H ≤ H' → BuildRes l a n H' → R (.returned (.tuple #[.pointer a, vi n])) H') : Meets prog 7 [v] H R :=
  s_build hs hl hp (fun i p h1 h2 h3 => k _ _ _ (heap_refl _) (.inl ⟨i, p, h1, h2, h3, rfl, rfl⟩)) (fun h1 h2 H' hle => k _ _ _ hle (.inr ⟨h1, .inl ⟨h2, rfl, rfl⟩⟩)) (fun h1 h2 h3 H' hle => k _ _ _ hle (.inr ⟨h1, .inr ⟨h2, .inl ⟨h3, rfl, rfl⟩⟩⟩))
    fun h1 h2 h3 b r m I H' _ _ _ hle hg hT hlow => k _ _ _ hle (.inr ⟨h1, .inr ⟨h2, .inr ⟨h3, rfl, b, r, m, I, rfl, hg, hT, hlow⟩⟩⟩)
end
end Cr

set_option linter.unusedVariables false
set_option linter.unusedSimpArgs false
namespace Cr
open Go Sx Stb
open Go.Proofs.Try
set_option linter.unusedSectionVars false
variable [Dr]
set_option maxRecDepth 100000
section
variable {R : Ending → Heap → Prop} {H : Heap} {ga : Addr} {r rm : Nat} {m : M}
theorem s_reach_none {id : Int} (hg : GroveAt H ga r m) (hn : m id = none) (K : ∀ H', H ≤ H' → R (.returned unitV) H') : Meets prog 31 [.pointer (some ga), vi id, .map (some rm)] H R := by
  refine spec_of func31 (by kernel_rfl) (fun t h => by cases h) (by simp [argsR, SV.rep, SC.rep, one]) (vc_vreach (some ga) id rm R H) ?_
  unfold nf_vreach
  refine s_get hg (by rw [hn]; simp) fun v H' hle hv => ?_
  rw [hn] at hv ⊢
  obtain ⟨a, n, c, rfl, h1, h2, h3⟩ := hv
  exact ⟨_, a, n, c, _, _, h2, _, h3, _, rfl, br (fun _ => K H' hle) fun q => by simp at q⟩
theorem s_reach_node {J : Nat → List Int} {id : Int} {d : Nd} {met : List Int} (hg : GroveAt H ga r m) (n1 : r ≠ rm) (hm : MapS H rm .i64 (okL met)) (hd : m id = some d) (hni : id ∉ met) (hfew : d.pts.length ≤ 1000000)
    (step : ∀ q, q < 5 → ∀ (H' : Heap) (R' : Ending → Heap → Prop), GroveAt H' ga r m → MapS H' rm .i64 (okL ((met ++ [id]) ++ pre J q)) →
      (∀ H'', MapS H'' rm .i64 (okL ((met ++ [id]) ++ pre J (q + 1))) → Fr rm rm rm H' H'' → R' (.returned unitV) H'') → Meets prog 31 [.pointer (some ga), vi ((d.kids ++ [d.next]).getD q 0), .map (some rm)] H' R')
    (K : ∀ H', MapS H' rm .i64 (okL ((met ++ [id]) ++ pre J 5)) → Fr rm rm rm H H' → R (.returned unitV) H') : Meets prog 31 [.pointer (some ga), vi id, .map (some rm)] H R := by
  refine spec_of func31 (by kernel_rfl) (fun t h => by cases h) (by simp [argsR, SV.rep, SC.rep, one]) (vc_vreach (some ga) id rm R H) ?_
  unfold nf_vreach
  refine s_get hg (by rw [hd]; intro d' e; cases e; exact hfew) fun v H1 hle hv => ?_
  rw [hd] at hv ⊢
  have hv : NdAt H1 v d := hv
  obtain ⟨a, n, c, rfl, h1, h2, h3⟩ := hv
  refine ⟨_, a, n, c, _, _, h2, _, h3, _, rfl, br (fun q => by simp at q) fun _ => ?_⟩
  have hm1 := maps_same hm (fun o e => hle _ _ e)
  have hlk := map_look hm1.at id (.bool false)
  rw [getL_okL, if_neg hni] at hlk
  refine ⟨false, ⟨_, hlk⟩, br (fun q => by cases q) fun _ => ?_⟩
  obtain ⟨es, clk, ⟨p1, p2⟩, p3⟩ := maps_put hm1 id (.bool true)
  rw [putL_okL, addI, if_neg hni] at p3
  have fr := fr_map (b := rm) (rm := rm) (ri := rm) (ob := mapPut es clk .i64 id (.bool true)) p1 (.inl rfl)
  have el : List.append (List.map (fun v => [vi v]) d.kids) [[vi d.next]] = cells (d.kids ++ [d.next]) := by simp [cells]
  have hl5 : (d.kids ++ [d.next]).length = 5 := by simp [h2]
  have hc5 : (cells (d.kids ++ [d.next])).length = 5 := by simp [cells, h2]
  refine ⟨es, clk, ⟨p1, p2⟩, ?_⟩
  show List.length (List.append (List.map (fun v => [vi v]) d.kids) [[vi d.next]]) * 8 ≤ 140737488355328 ∧ _
  simp only [true_and]
  rw [el, hc5]
  refine ⟨by omega, fun p H2 => ∃ q : Nat, p.1.1 = (q : Int) ∧ q ≤ 5 ∧ MapS H2 rm .i64 (okL ((met ++ [id]) ++ pre J q)) ∧ Fr rm rm rm H H2, fun p _ => 5 - p.1.1.toNat, ⟨0, rfl, by omega, by simpa [pre] using p3, (Fr.of_le hle).trans fr⟩, ?_⟩
  rintro ⟨⟨z, u⟩, u'⟩ H2 ⟨q, e, hq, hm2, hf2⟩
  simp only at e ⊢
  subst e
  have nb : r ≠ rm := n1
  have hg2 := hf2.grove hg nb n1 n1
  refine br (fun q4 => ?_) fun q4 => ?_
  · have hq5 : q < 5 := by simp at q4; omega
    have e0 : ((q : Int)).toNat = q := by omega
    obtain ⟨e, g1, g2⟩ := cells_get (l := d.kids ++ [d.next]) (i := q) (by omega)
    rw [e0]
    refine ⟨⟨by omega, by omega⟩, _, ⟨e, g1, g2⟩, step q hq5 H2 _ hg2 hm2 fun H3 hm3 hf3 => ⟨rfl, ⟨q + 1, by rw [w64 (by omega)]; simp, by omega, hm3, hf2.trans hf3⟩, by rw [w64 (by omega)]; omega⟩⟩
  · have : q = 5 := by simp at q4; omega
    subst this
    exact K H2 hm2 hf2
/-- Nothing lies behind a number that has no node. -/
theorem reach_nil {J : Nat → List Int} {M0 : List Int} {q : Nat} {k : Int} (hD : Dom m) (hk : k = 0) (hJ : J q = []) {H' : Heap} {R' : Ending → Heap → Prop} (hg : GroveAt H' ga r m) (hm : MapS H' rm .i64 (okL (M0 ++ pre J q)))
    (K : ∀ H'', MapS H'' rm .i64 (okL (M0 ++ pre J (q + 1))) → Fr rm rm rm H' H'' → R' (.returned unitV) H'') : Meets prog 31 [.pointer (some ga), vi k, .map (some rm)] H' R' := by
  subst hk
  have hn : m 0 = none := by
    cases e : m 0 with
    | none => rfl
    | some d => have := (hD _ _ e).1; omega
  refine s_reach_none hg hn fun H'' hle => K _ ?_ (Fr.of_le hle)
  rw [pre_succ, hJ, List.append_nil]
  exact maps_same hm fun o e => hle _ _ e
theorem s_reach_chain (hD : Dom m) (n1 : r ≠ rm) : ∀ (T : List Int) {id : Int} {L : List Pt} {met : List Int} {H : Heap} {R : Ending → Heap → Prop}, ChP m (id :: T) L → (id :: T).Nodup → (∀ i ∈ id :: T, i ∉ met) → GroveAt H ga r m → MapS H rm .i64 (okL met) →
    (∀ H', MapS H' rm .i64 (okL (met ++ (id :: T))) → Fr rm rm rm H H' → R (.returned unitV) H') → Meets prog 31 [.pointer (some ga), vi id, .map (some rm)] H R := by
  intro T
  induction T with
  | nil =>
    intro id L met H R hch hn hd hg hm K
    obtain ⟨h1, h2⟩ := hch
    refine s_reach_node (J := fun _ => []) hg n1 hm h2 (hd id (List.mem_cons_self ..)) (by have := hD.few h2; omega) (fun q hq H' R' hg' hm' K' => ?_) fun H' hm' hf' => K H' (by rw [show pre (fun _ : Nat => ([] : List Int)) 5 = [] by simp [pre], List.append_nil] at hm'; exact hm') hf'
    refine reach_nil hD ?_ rfl hg' hm' K'
    have : q = 0 ∨ q = 1 ∨ q = 2 ∨ q = 3 ∨ q = 4 := by omega
    rcases this with rfl | rfl | rfl | rfl | rfl <;> rfl
  | cons nx T ih =>
    intro id L met H R hch hn hd hg hm K
    obtain ⟨h1, h2, h3⟩ := hch
    rw [List.nodup_cons] at hn
    refine s_reach_node (J := fun q => if q = 4 then nx :: T else []) hg n1 hm h2 (hd id (List.mem_cons_self ..)) (by have := hD.few h2; omega) (fun q hq H' R' hg' hm' K' => ?_) fun H' hm' hf' => K H' ?_ hf'
    · have : q = 0 ∨ q = 1 ∨ q = 2 ∨ q = 3 ∨ q = 4 := by omega
      have e4 : pre (fun q => if q = 4 then nx :: T else []) 4 = [] := by simp [pre, List.range_succ]
      rcases this with rfl | rfl | rfl | rfl | rfl
      · exact reach_nil hD rfl rfl hg' hm' K'
      · exact reach_nil hD rfl rfl hg' hm' K'
      · exact reach_nil hD rfl rfl hg' hm' K'
      · exact reach_nil hD rfl rfl hg' hm' K'
      · rw [e4, List.append_nil] at hm'
        refine ih h3 hn.2 (fun i hi hmm => ?_) hg' hm' fun H'' hm'' hf'' => K' H'' ?_ hf''
        · rcases List.mem_append.1 hmm with hmm | hmm
          · exact hd i (List.mem_cons_of_mem _ hi) hmm
          · simp only [List.mem_singleton] at hmm
            subst hmm; exact hn.1 hi
        · rw [pre_succ, e4]
          simpa using hm''
    · have : (met ++ [id]) ++ pre (fun q => if q = 4 then nx :: T else []) 5 = met ++ (id :: nx :: T) := by simp [pre, List.range_succ]
      rwa [this] at hm'
theorem s_reach_tree (hD : Dom m) (n1 : r ≠ rm) : ∀ (h : Nat) {id : Int} {L : List Pt} {I met : List Int} {H : Heap} {R : Ending → Heap → Prop}, TrP m h id L I → I.Nodup → (∀ i ∈ I, i ∉ met) → GroveAt H ga r m → MapS H rm .i64 (okL met) →
    (∀ H', MapS H' rm .i64 (okL (met ++ I)) → Fr rm rm rm H H' → R (.returned unitV) H') → Meets prog 31 [.pointer (some ga), vi id, .map (some rm)] H R := by
  intro h
  induction h with
  | zero =>
    intro id L I met H R ht hn hd hg hm K
    obtain ⟨T, rfl⟩ := TrP_head (h := 0) ht
    exact s_reach_chain hD n1 T ht.2 hn hd hg hm K
  | succ h ih =>
    intro id L I met H R ht hn hd hg hm K
    obtain ⟨T, e⟩ := TrP_head ht
    unfold TrP at ht
    split at ht
    · subst e
      have : T = [] := by have := ht.1; simpa using this
      subst this
      exact s_reach_chain hD n1 [] ht.2 hn hd hg hm K
    · obtain ⟨ks, cs, J, h1, hk4, hc4, rfl, hsub⟩ := ht
      clear e
      rw [← pre4] at hn hd K
      rw [List.nodup_cons] at hn
      refine s_reach_node (J := fun q => if q < 4 then J q else []) hg n1 hm h1 (hd id (List.mem_cons_self ..)) (by simp) (fun q hq H' R' hg' hm' K' => ?_) fun H' hm' hf' => K H' ?_ hf'
      · have ep : ∀ q, q ≤ 4 → pre (fun q => if q < 4 then J q else []) q = pre J q := by
          intro q
          induction q with
          | zero => intro _; rfl
          | succ q ihq => intro hq; rw [pre_succ, pre_succ, ihq (by omega), if_pos (by omega)]
        by_cases hq4 : q < 4
        · have ek : ((⟨false, [], 0, ks, cs⟩ : Nd).kids ++ [(⟨false, [], 0, ks, cs⟩ : Nd).next]).getD q 0 = ks.getD q 0 := by
            simp only [List.getD_eq_getElem?_getD]
            rw [List.getElem?_append_left (by omega)]
          rw [ek]
          rcases hsub q hq4 with ⟨a1, a2, a3, a4⟩ | ⟨a1, a2, a3, a4⟩
          · exact reach_nil hD a2 (by simp [hq4, a4]) hg' hm' K'
          · rw [ep q (by omega)] at hm'
            have hnp := (pre_sub J (q := q + 1) (n := 4) (by omega))
            rw [pre_succ] at hnp
            have hnq := List.nodup_append.1 (hn.2.sublist hnp)
            refine ih a4 hnq.2.1 (fun i hi hmm => ?_) hg' hm' fun H'' hm'' hf'' => K' H'' ?_ hf''
            · have hi4 : i ∈ pre J 4 := hnp.subset (List.mem_append_right _ hi)
              simp only [List.mem_append, List.mem_singleton] at hmm
              rcases hmm with (hmm | hmm) | hmm
              · exact hd i (List.mem_cons_of_mem _ hi4) hmm
              · exact hn.1 (hmm ▸ hi4)
              · exact hnq.2.2 i hmm i hi rfl
            · rw [ep (q + 1) (by omega), pre_succ, ← List.append_assoc]
              exact hm''
        · have : q = 4 := by omega
          subst this
          refine reach_nil hD ?_ rfl hg' hm' K'
          simp only [List.getD_eq_getElem?_getD]
          rw [List.getElem?_append_right (by omega), hk4]
          rfl
      · have : (met ++ [id]) ++ pre (fun q => if q < 4 then J q else []) 5 = met ++ (id :: pre J 4) := by simp [pre, List.range_succ]
        rwa [this] at hm'
theorem s_Reached (hDr : ¬ Dr.on) {L : List Pt} {I : List Int} (hg : GroveAt H ga r m) (hT : TreeOK m L I) (K : ∀ v H', H ≤ H' → (∀ b, blockOf v = some b → H b = none) → RowAt H' v 3 1 (cells (idsOf m)) → R (.returned v) H') :
    Meets prog 11 [.pointer (some ga)] H R := by
  refine spec_of func11 (by kernel_rfl) (fun t h => by cases h) (by simp [argsR, SV.rep, SC.rep, one]) (vc_vreached (some ga) R H) ?_
  unfold nf_vreached
  intro rm hrm
  obtain ⟨es, clk, hr⟩ := hg.isMap
  have n1 : r ≠ rm := by rintro rfl; rw [hrm] at hr; cases hr
  have hle := le_upd (heap_refl H) hrm (.map #[] 0)
  refine s_reach_tree hT.dom n1 32 (met := []) hT.tr hT.nd (by simp) (hg.le hle) (maps_new H rm .i64) fun H1 hm1 hf1 => ⟨rfl, ?_⟩
  rw [List.nil_append] at hm1
  have hle1 : H ≤ H1 := fun c o e => by
    have hne : c ≠ rm := by rintro rfl; rw [hrm] at e; cases e
    exact hf1.off c o hne hne hne (hle _ _ e)
  have hI255 : I.length ≤ 255 := by
    have := nodup_len hT.nd fun i hi => by
      have := TrP_there hT.tr i hi
      cases e : m i with
      | none => exact (this e).elim
      | some d => have := hT.dom i d e; exact mem_numsL.2 ⟨this.1, this.2.1⟩
    simpa using this
  refine s_keys (some rm) fun a ha => ⟨_, rfl, rfl, ?_⟩
  have hm2 := maps_same hm1 (H' := H1.upd a (.cells #[.map (some rm)] (Go.Proofs.keysInt_ren.t 23) (0, 0))) fun o e => by rw [upd_ne _ _ (by rintro rfl; rw [e] at ha; cases ha)]; exact e
  refine s_sorted hDr (upd_same _ _ _) hm2 (fun p hp => ?_) (by simp; omega) fun v zs H2 hperm hle2 hrow hle3 hfr hb => ?_
  · obtain ⟨i, hi, rfl⟩ := List.mem_map.1 hp
    have := TrP_there hT.tr i hi
    cases e : m i with
    | none => exact (this e).elim
    | some d =>
      have := hT.dom i d e
      have e1 : IntKind.i64.min = -9223372036854775808 := by decide
      have e2 : IntKind.i64.max = 9223372036854775807 := by decide
      simp only [Lit.wf, e1, e2]
      rw [decide_eq_true (by omega), decide_eq_true (by omega)]
      rfl
  · have e1 : (okL I).map Prod.fst = I := by simp [okL, Function.comp_def]
    rw [e1] at hperm
    have hnd : zs.Nodup := hperm.symm.nodup hT.nd
    have hlt : zs.Pairwise (· < ·) := by
      refine (hle2.and hnd).imp fun {a b} h => ?_
      have := h.1; have := h.2; omega
    have hz : zs = idsOf m := rise_ext hlt (ids_rise m 255) fun x => by rw [hperm.mem_iff, hT.ids.mem_iff]
    subst hz
    have hle0 : H ≤ H2 := heap_trans hle1 (heap_trans (le_upd (heap_refl _) ha _) hle3)
    obtain ⟨a2, c2, rfl⟩ := row_val hrow
    refine ⟨a2, _, c2, rfl, K _ H2 hle0 (fun b' hb' => ?_) hrow⟩
    have := hfr b' hb'
    cases e : H b' with
    | none => rfl
    | some o => rw [heap_trans hle1 (le_upd (heap_refl _) ha _) b' o e] at this; cases this
end
end Cr

set_option linter.unusedVariables false
set_option linter.unusedSimpArgs false
namespace Cr
open Go Sx Stb
open Go.Proofs.Try
set_option linter.unusedSectionVars false
variable [Dr]
set_option maxRecDepth 100000
theorem ChP_next {m : M} : ∀ {I : List Int} {L : List Pt}, ChP m I L → ∀ i ∈ I, ∀ d, m i = some d → 0 < d.next → d.pts.length = 4
  | [id], L, h, i, hi, d, hd, hn => by
    simp only [List.mem_singleton] at hi
    subst hi
    rw [h.2] at hd; cases hd
    simp at hn
  | id :: nx :: r, L, h, i, hi, d, hd, hn => by
    rcases List.mem_cons.1 hi with rfl | hi
    · rw [h.2.1] at hd; cases hd
      simp only [List.length_take]
      have := h.1
      omega
    · exact ChP_next h.2.2 i hi d hd hn
theorem TrP_next {m : M} : ∀ {h : Nat} {id : Int} {L : List Pt} {I : List Int}, TrP m h id L I → ∀ i ∈ I, ∀ d, m i = some d → 0 < d.next → d.pts.length = 4
  | 0, id, L, I, ht, i, hi, d, hd, hn => ChP_next ht.2 i hi d hd hn
  | h + 1, id, L, I, ht, i, hi, d, hd, hn => by
    unfold TrP at ht
    split at ht
    · exact ChP_next ht.2 i hi d hd hn
    · obtain ⟨ks, cs, J, h1, _, _, rfl, hs⟩ := ht
      rcases List.mem_cons.1 hi with rfl | hi
      · rw [h1] at hd; cases hd
        simp at hn
      · rw [← pre4] at hi
        obtain ⟨q, hq, hi⟩ := List.mem_flatMap.1 hi
        have hq4 := List.mem_range.1 hq
        rcases hs q hq4 with ⟨_, _, _, a4⟩ | ⟨_, _, _, a4⟩
        · rw [a4] at hi; cases hi
        · exact TrP_next a4 i hi d hd hn
theorem range_tree {m : M} {L : List Pt} {I : List Int} (hT : TreeOK m L I) : RangeM m := fun i d hd p hp => by
  refine hT.lok.range p (hT.pts.mem_iff.1 (List.mem_flatMap.2 ⟨i, hT.ids.mem_iff.2 ((hT.iff i).1 (by rw [hd]; simp)), ?_⟩))
  rw [ptsM_some hd]; exact hp
theorem nopan_tree {m : M} {L : List Pt} {I : List Int} (hT : TreeOK m L I) : NoPan m := fun i d e hd hn hp _ => by
  have := TrP_next hT.tr i ((hT.iff i).1 (by rw [hd]; simp)) d hd hn
  rw [hp] at this
  simp at this
theorem TreeOK.few' {m : M} {L : List Pt} {I : List Int} (hT : TreeOK m L I) : I.length ≤ 255 := by
  have := nodup_len hT.nd fun i hi => by
    have := TrP_there hT.tr i hi
    cases e : m i with
    | none => exact (this e).elim
    | some d => have := hT.dom i d e; exact mem_numsL.2 ⟨this.1, this.2.1⟩
  simpa using this
theorem chk_tree {m : M} {L : List Pt} {I : List Int} (hT : TreeOK m L I) : ∃ P, checkC m 600 32 1 0 0 ck0 = (⟨I, P, false⟩, (L.length : Int)) := by
  have := hT.few'
  obtain ⟨P, e1, e2⟩ := take_tree hT.dom 32 (s := ck0) (f := 600) (x := 0) (y := 0) hT.tr (by omega) cor0 cor0 (in_root hT.lok.range) hT.lok.range hT.lok.rise hT.nd (by simp [ck0]) (by simp [ck0]) rfl (by omega) this
  exact ⟨P, by rw [e1]; simp [ck0]⟩
theorem okC_tree {m : M} {L : List Pt} {I : List Int} (hT : TreeOK m L I) : okC m = 0 := by
  obtain ⟨P, e1⟩ := chk_tree hT
  unfold okC
  rw [e1, if_pos]
  exact ⟨rfl, hT.ids.length_eq.symm⟩
theorem lend_off26 {H H' : Heap} {v : Value} (hle : H ≤ H') (hf : ∀ b, blockOf v = some b → H b = none) (hb : ∀ b o, H' b = some o → H b = some o ∨ blockOf v = some b) : H'.delO (blockOf v) = H := by
  funext b
  cases e : blockOf v with
  | none =>
    show H' b = H b
    cases q : H' b with
    | none => cases q2 : H b with
      | none => rfl
      | some o => rw [hle _ _ q2] at q; cases q
    | some o =>
      rcases hb b o q with h | h
      · exact h.symm
      · rw [e] at h; cases h
  | some k =>
    show (if b = k then none else H' b) = H b
    by_cases hbk : b = k
    · subst hbk; rw [if_pos rfl, hf b e]
    · rw [if_neg hbk]
      cases q : H' b with
      | none => cases q2 : H b with
        | none => rfl
        | some o => rw [hle _ _ q2] at q; cases q
      | some o =>
        rcases hb b o q with h | h
        · exact h.symm
        · rw [e] at h; cases h; exact (hbk rfl).elim
theorem tree_empty : TreeOK (setM (fun _ => none) 1 ⟨true, [], 0, z4, z4⟩) [] [1] where
  dom := fun id d h => by
    unfold setM at h
    split at h
    · rename_i e
      cases h
      subst e
      refine ⟨by omega, by omega, ?_⟩
      unfold NdOK
      rw [if_pos rfl]
      exact ⟨⟨fun i p h => by simp at h, fun i p q h => by simp at h, by simp⟩, by simp, by simp, rfl, rfl⟩
    · cases h
  tr := by
    unfold TrP
    rw [if_pos (by simp)]
    exact ⟨rfl, by simp, setM_same⟩
  nd := by simp
  all := fun i h => by
    unfold setM at h
    split at h
    · simp_all
    · exact (h rfl).elim
  lok := ⟨by simp, by simp, by simp⟩
section
variable {R : Ending → Heap → Prop} {H : Heap}
theorem s_alive26 (hDr : ¬ Dr.on) (k : ∀ H', H ≤ H' → R (.returned (.bool true)) H') : Meets prog 6 [] H R := by
  refine spec_of func6 (by kernel_rfl) (fun t h => by cases h) (by simp [argsR]) (vc_al26 R H) ?_
  unfold nf_al26
  refine s_new fun r b _ _ _ H1 hle1 hg1 => ⟨_, rfl, s_vCheck hg1 (fun i d e => by cases e) (fun i d e => by cases e) (fun i d e h => by cases h) fun H2 hle2 => ⟨_, rfl, ?_⟩⟩
  have e21 : okC (fun _ => none) = 21 := by
    unfold okC checkC getC
    simp [needC, ck0]
  rw [e21]
  refine br (fun _ => s_empty fun r b _ _ _ H3 hle3 hg3 => ⟨_, rfl, s_vCheck hg3 tree_empty.dom (range_tree tree_empty) (nopan_tree tree_empty) fun H4 hle4 => ⟨_, rfl, ?_⟩⟩) fun q => by simp at q
  rw [okC_tree tree_empty]
  refine br (fun _ => s_empty fun r b _ _ _ H5 hle5 hg5 => ⟨_, rfl, s_Reached hDr hg5 tree_empty fun v H6 hle6 hf6 hrow6 => ?_⟩) fun q => by simp at q
  have hi : idsOf (setM (fun _ => none) 1 ⟨true, [], 0, z4, z4⟩) = [1] := List.perm_singleton.1 tree_empty.ids
  rw [hi] at hrow6
  have hs6 := row_slice hrow6
  obtain ⟨a6, c6, rfl⟩ := row_val hrow6
  refine ⟨a6, _, c6, rfl, fun v7 H7 hle7 hf7 hb7 hrow7 => ?_⟩
  refine s_ints (slice_le hs6 hle7) (l' := [1]) (row_slice hrow7) (by simp) ⟨_, rfl, _, hrow7, ?_⟩
  rw [decide_eq_true rfl, lend_off26 hle7 hf7 hb7]
  exact k _ (heap_trans hle1 (heap_trans hle2 (heap_trans hle3 (heap_trans hle4 (heap_trans hle5 hle6)))))
theorem s_lvt (hDr : ¬ Dr.on) {v : Value} {l : List Pt} (h : SliceAt H v 4 (pts l)) (hl : l.length ≤ 10000000000000) (hp : ∀ p ∈ l, PtR p) (k : ∀ H', H ≤ H' → R (.returned (.bool true)) H') : Meets prog 3 [v] H R := by
  obtain ⟨a, n, c, e, hn⟩ := h
  subst e
  have h : SliceAt H (.slice a n c) 4 (pts l) := ⟨a, n, c, rfl, hn⟩
  refine spec_of func3 (by kernel_rfl) (fun t h => by cases h) (by simp [argsR, SV.rep, SC.rep, one]) (vc_vtak a n c R H) ?_
  unfold nf_vtak
  refine s_alive26 hDr fun H0 hle0 => ⟨_, rfl, br (fun q => by cases q) fun _ => ?_⟩
  obtain ⟨o1, o2, o3, o4⟩ := once_facts hp 40
  have o3 := o3 (by decide)
  refine s_once (slice_le h hle0) (by decide) hl fun v1 H1 hle1 hfr1 hrow1 => ?_
  have hs1 := row_slice hrow1
  obtain ⟨a1, c1, rfl⟩ := row_val hrow1
  generalize hL : onceP 40 l = L at *
  refine ⟨_, _, _, rfl, s_buildR hs1 (by omega) o4 fun ag ng H2 hle2 hB => ⟨_, _, rfl, ?_⟩⟩
  have hleH := heap_trans (heap_trans hle0 hle1) hle2
  rcases hB with ⟨i, x, h1, _, h3, _⟩ | ⟨_, ⟨hnd, _⟩ | ⟨_, ⟨_, rfl, rfl⟩ | ⟨h255, rfl, b, r, mm, I, rfl, hg, hT, hlow⟩⟩⟩
  · exact absurd (o1 x (List.mem_of_getElem? h1)) (pcode_bad h3)
  · exact absurd o2 hnd
  · exact br (fun _ => k _ hleH) fun q => by simp at q
  refine br (fun q => by simp at q) fun _ => s_vCheck hg hT.dom (range_tree hT) (nopan_tree hT) fun H3 hle3 => ⟨_, rfl, ?_⟩
  rw [okC_tree hT]
  refine br (fun _ => s_Reached hDr (hg.le hle3) hT fun v4 H4 hle4 hf4 hrow4 => ?_) fun q => by simp at q
  have hs4 := row_slice hrow4
  obtain ⟨a4, c4, rfl⟩ := row_val hrow4
  refine ⟨a4, _, c4, rfl, s_ids (hg.le (heap_trans hle3 hle4)) fun v5 H5 hle5 hf5 hrow5 => ?_⟩
  have hs5 := row_slice hrow5
  obtain ⟨a5, c5, rfl⟩ := row_val hrow5
  have : (idsOf mm).length ≤ 255 := idsBelow_len mm 255
  refine ⟨a5, _, c5, rfl, s_ints (slice_le hs4 hle5) hs5 (by omega) ⟨_, rfl, ?_⟩⟩
  rw [decide_eq_true rfl]
  exact k _ (heap_trans hleH (heap_trans hle3 (heap_trans hle4 hle5)))
end
end Cr

set_option linter.unusedVariables false
set_option linter.unusedSimpArgs false
namespace Cr
open Go Sx Stb Bt
open Go.Proofs.Try
set_option linter.unusedSectionVars false
variable [Dr]
set_option maxRecDepth 100000
theorem own : ownKnob Go.Proofs.Try.prog.godebug = none := by kernel_rfl
theorem laidOut : laidOutB Go.Proofs.Try.prog = true := by kernel_rfl
section
variable {H : Type} {enc : TypeId × Value → H} {W : World}
theorem openPt {fuel : Nat} {cs : List Value} {y : DataW H × List MemPlace} (h : DataW.trod enc prog W 0 (fun _ => true) true fuel 51 cs = some y) : ∃ p : Pt, cs = ptC p ∧ PtR p := by
  obtain ⟨y0, y1, y2, y3, n, _, hl, h0, h1, h2, h3⟩ := Go.Joins.trod_struct4 Go.Proofs.Try.underlying51 h
  obtain ⟨a, e0, _, _⟩ := DataW.trod_int Go.Proofs.Try.underlying3 h0
  obtain ⟨b, e1, _, w1⟩ := DataW.trod_int Go.Proofs.Try.underlying49 h1
  obtain ⟨c, e2, _, w2⟩ := DataW.trod_int Go.Proofs.Try.underlying49 h2
  obtain ⟨s, e3, _, _⟩ := DataW.trod_string Go.Proofs.Try.underlying9 h3
  have c4 : prog.cellsOf 51 = 4 := by kernel_rfl
  have c1 : prog.cellsOf 3 = 1 := by kernel_rfl
  have c2 : prog.cellsOf 49 = 1 := by kernel_rfl
  have c3 : prog.cellsOf 9 = 1 := by kernel_rfl
  rw [c4] at hl
  match cs, hl with
  | [q0, q1, q2, q3], _ =>
    simp only [c1, c2, c3, List.drop_zero, List.drop_succ_cons, List.take_succ_cons, List.take_zero] at e0 e1 e2 e3
    cases e0; cases e1; cases e2; cases e3
    refine ⟨⟨a, b, c, s⟩, rfl, ?_⟩
    have r1 : 0 ≤ b ∧ b < 4294967296 := by simp [Lit.wf, IntKind.min, IntKind.max, IntKind.bits, IntKind.signed] at w1; omega
    have r2 : 0 ≤ c ∧ c < 4294967296 := by simp [Lit.wf, IntKind.min, IntKind.max, IntKind.bits, IntKind.signed] at w2; omega
    exact ⟨r1.1, r1.2, r2.1, r2.2⟩
theorem weigh {t : TypeId} {ts : List TypeId} {d : DataW H} {ds : List (DataW H)} {p : Nat → Bool} (h : (DataW.weightsEach prog (t :: ts) (d :: ds)).all p = true) : (d.weights prog t).all p = true ∧ (DataW.weightsEach prog ts ds).all p = true := by
  simp only [DataW.weightsEach, List.all_append, Bool.and_eq_true] at h
  exact h
theorem openPts {v : Value} {d : DataW H} {ps : List MemPlace} {base : Nat} (hv : Value.okWide prog W .any base 22 v) (h : DataW.Trod enc prog W 0 (fun _ => true) true 22 v d ps) :
    ∃ l : List Pt, SliceAt (full W) v 4 (pts l) ∧ (∀ p ∈ l, PtR p) ∧ ((d.weights prog 22).all (· ≤ reachBytes) = true → l.length ≤ 10000000000000) := by
  obtain ⟨a, len, cap, rfl⟩ := Go.WideShapes.okWide_slice Go.Proofs.Try.underlying22 hv
  obtain ⟨fuel, hf⟩ := h
  rcases Go.Deep.open_slice Go.Proofs.Try.underlying22 hf with ⟨e, e2⟩ | ⟨A, ln, cp, m, n, D, Pl, e, hb, hl, hm, hmm, e2, hx⟩
  · cases e
    exact ⟨[], slice_nil _, by simp, by simp⟩
  · cases e
    obtain ⟨rfl, -⟩ := Prod.mk.inj e2
    simp only [if_true] at hmm
    subst hmm
    have hc : prog.cellsOf 51 = 4 := by kernel_rfl
    have hby : prog.bytesOf 51 = 32 := by kernel_rfl
    have pick : ∀ i, ∃ p : Pt, i < len → PtR p ∧ (full W).has (A.add (i * 4)) (ptC p) ∧ A.spot = none := fun i => by
      by_cases hi : i < len
      · obtain ⟨cs', h1, h2⟩ := hx i (by omega)
        rw [hc] at h1
        obtain ⟨p, rfl, hp⟩ := openPt h2
        obtain ⟨_, h3, h4⟩ := World.cells?_some h1
        refine ⟨p, fun _ => ⟨hp, ?_, ?_⟩⟩
        · intro j x hj
          have hj4 : j < 4 := (List.getElem?_eq_some_iff.1 hj).1
          have := h4 j hj4
          rw [hj] at this
          exact this
        · obtain ⟨cs0, k1, k2⟩ := hx 0 (by omega)
          rw [hc] at k1
          obtain ⟨_, k3, k4⟩ := World.cells?_some k1
          have := k4 0 (by omega)
          simp only [Nat.zero_mul, add0] at this
          rw [List.getElem?_eq_getElem (by omega)] at this
          unfold World.cell? at this
          split at this
          · split at this
            · cases this
            · rename_i hs
              simpa using hs
          · cases this
      · exact ⟨default, fun h => absurd h hi⟩
    obtain ⟨f, hf⟩ := Classical.axiomOfChoice pick
    refine ⟨(List.range len).map f, ⟨some A, len, _, rfl, by simp [pts], hl, ?_, ?_, fun i e he => ?_⟩, ?_, fun hw => ?_⟩
    · intro e he
      simp only [pts, List.mem_map] at he
      obtain ⟨p, _, rfl⟩ := he
      rfl
    · intro e he
      simp only [pts, List.mem_map] at he
      obtain ⟨p, _, rfl⟩ := he
      exact ptC_one p
    · simp only [pts, List.getElem?_map] at he
      obtain ⟨p, hp, rfl⟩ := Option.map_eq_some_iff.1 he
      obtain ⟨i', hi', rfl⟩ := Option.map_eq_some_iff.1 hp
      have hlt := (List.getElem?_eq_some_iff.1 hi').1
      have hii : i' = i := by have := (List.getElem?_eq_some_iff.1 hi').2; simp at this; omega
      subst hii
      obtain ⟨_, g1, g2⟩ := hf i' (by simpa using hlt)
      exact ⟨A, rfl, g2, g1⟩
    · intro p hp
      obtain ⟨i, hi, rfl⟩ := List.mem_map.1 hp
      exact (hf i (List.mem_range.1 hi)).1
    · simp only [DataW.weights, Go.Proofs.Try.underlying22, List.all_cons, Bool.and_eq_true, decide_eq_true_eq, List.length_map, List.length_range, hby] at hw
      simp only [List.length_map, List.length_range]
      have := hw.1
      unfold reachBytes at this
      omega
end
end Cr
