/- Cells grown. -/
import Derived.Test.YtekaopahienmgaaG7
set_option linter.unusedVariables false
set_option linter.unusedSimpArgs false
namespace Cr
open Go Sx Stb Bt
open Go.Sort (SWO)
open Go.Proofs.Try
set_option maxRecDepth 100000
theorem stepsF_none {g : M → Int → List Pt → Option M} {h : Nat} {L : List Pt} {m : M} {q : Nat} (h0 : stepsF g h L q m = none) : ∀ k, stepsF g h L (q + k) m = none
  | 0 => h0
  | k + 1 => by
    show (stepsF g h L (q + k) m).bind _ = none
    rw [stepsF_none h0 k]; rfl
theorem quaOK_z : QuaOK z4 z4 := fun q hq => by
  match q, hq with
  | 0, _ | 1, _ | 2, _ | 3, _ => exact ⟨by decide, by decide, by decide, by decide, by decide⟩
  | q + 4, hq => omega
theorem quaOK_set {ks cs : List Int} (h : QuaOK ks cs) (hk : ks.length = 4) (hc : cs.length = 4) {q : Nat} (hq : q < 4) {k c : Int} (h1 : 0 ≤ k ∧ k ≤ 255 ∧ 0 ≤ c ∧ c ≤ 65535 ∧ (k = 0 ↔ c = 0)) : QuaOK (ks.set q k) (cs.set q c) := fun j hj => by
  rw [getD_set (by omega), getD_set (by omega)]
  by_cases e : q = j
  · rw [if_pos e, if_pos e]; exact h1
  · rw [if_neg e, if_neg e]; exact h j hj
theorem innerOK {ks cs : List Int} (h : QuaOK ks cs) : NdOK ⟨false, [], 0, ks, cs⟩ := by
  unfold NdOK
  rw [if_neg (by simp)]
  exact ⟨rfl, rfl, h⟩
theorem delO_ptr (H : Heap) (b : Nat) : H.delO (blockOf (.pointer (some ⟨b, 0, none⟩))) = H.del b := rfl
theorem del_ne (H : Heap) {b b' : Nat} (h : b' ≠ b) : H.del b b' = H b' := by unfold Heap.del; rw [if_neg h]
theorem has_cells {H : Heap} {b : Nat} {l : List Value} {ty : Nat} (h : H b = some (.cells l.toArray ty (0, 0))) : H.has ⟨b, 0, none⟩ l := fun j x hx => by
  rw [add_spot rfl]
  unfold Heap.cell?
  simp only [h]
  simpa using hx
section
variable {R : Ending → Heap → Prop} {H : Heap}
/-- The points of a quarter are told. -/
theorem pred_grow1 {b b1 : Nat} {x y : Int} {h q : Nat} (hh : h < 32) (hx : Cor (h + 1) x) (hy : Cor (h + 1) y) :
    PredOK PtR (fun H => H b = some (.cells #[.int .u32 x, .int .u32 y, vi (32 - ((h + 1 : Nat) : Int))] 85 (0, 0)) ∧ H b1 = some (.cells #[vi q] 3 (0, 0))) 93 #[.pointer (some ⟨b, 0, none⟩), .pointer (some ⟨b1, 0, none⟩)] fun p => qt h p != (q : Int) := by
  intro p H R hp hI k
  refine spec_of func93 (by kernel_rfl) (fun t h => by cases h) ?_ (vc_grow1 ⟨b, 0, none⟩ ⟨b1, 0, none⟩ p.id p.x p.y p.data R H) ?_
  · simp [argsR, SV.rep, SegsRep, SC.rep, one]
  unfold nf_grow1
  have lx := hx.lt (by omega)
  have ly := hy.lt (by omega)
  refine ⟨H, heap_refl _, ptr rfl ⟨_, _, _, has_cells hI.1, ptr rfl ⟨_, has_cells hI.2, s_quar hh lx ly ⟨hp.1, hp.2.1⟩ ⟨hp.2.2.1, hp.2.2.2⟩ ⟨keep_same _ _ _, _, rfl, k⟩⟩⟩⟩
theorem s_grow : ∀ (h : Nat) {g : Addr} {r : Nat} {m : M} {id x y lv : Int} {v : Value} {L : List Pt} {H : Heap} {R : Ending → Heap → Prop}, h ≤ 32 → lv = 32 - (h : Int) → Cor h x → Cor h y → L.length ≤ 60000 → GroveAt H g r m → Dom m → LOK L → SliceAt H v 4 (pts L) → 1 ≤ id ∧ id ≤ 255 →
    (∀ m' H', growF h m id L = some m' → Dom m' → GroveAt H' g r m' → GMod r H H' → R (.returned unitV) H') → (growF h m id L = none → ∀ H', GMod r H H' → R (.panicked (stopE 10)) H') →
    Meets prog 62 [grV (some g), vi id, ceV x y lv, v] H R := by
  intro h
  induction h with
  | zero =>
    intro g r m id x y lv v L H R hh hlv hx hy hbig hg hD hL hs hid k1 k2
    obtain ⟨a, n, c, rfl, hn⟩ := hs
    have hs : SliceAt H (.slice a n c) 4 (pts L) := ⟨a, n, c, rfl, hn⟩
    refine spec_of func62 (by kernel_rfl) (fun t h => by cases h) ?_ (vc_grow (some g) id x y lv a n c R H) ?_
    · simp [argsR, SV.rep, SegsRep, SC.rep, one]
    unfold nf_grow
    have ch := s_chain _ (R := fun e H' => e = .returned unitV ∧ R (.returned unitV) H' ∨ ∃ c, e = .panicked c ∧ R (.panicked c) H') (Nat.le_refl _) (by omega) hg hD hL hs hid (fun m' H' e1 e2 e3 e4 => .inl ⟨rfl, k1 m' H' e1 e2 e3 e4⟩) fun e1 H' e2 => .inr ⟨_, rfl, k2 e1 H' e2⟩
    exact br (fun _ => ch) fun _ => br (fun _ => ch) fun q => by simp at q; omega
  | succ h ih =>
    intro g r m id x y lv v L H R hh hlv hx hy hbig hg hD hL hs hid k1 k2
    obtain ⟨a, n, c, rfl, hn⟩ := hs
    have hs : SliceAt H (.slice a n c) 4 (pts L) := ⟨a, n, c, rfl, hn⟩
    have hln : L.length = n := by simpa [pts] using hn.1
    refine spec_of func62 (by kernel_rfl) (fun t h => by cases h) ?_ (vc_grow (some g) id x y lv a n c R H) ?_
    · simp [argsR, SV.rep, SegsRep, SC.rep, one]
    unfold nf_grow
    refine br (fun q => ?_) fun q => br (fun q1 => by simp at q1; omega) fun _ => ?_
    · simp only [decide_eq_true_eq] at q
      have e : growF (h + 1) m id L = chainF m id L := by conv => lhs; unfold growF
                                                          rw [if_pos (by omega)]
      rw [e] at k1 k2
      exact s_chain _ (Nat.le_refl _) (by omega) hg hD hL hs hid (fun m' H' e1 e2 e3 e4 => .inl ⟨rfl, k1 m' H' e1 e2 e3 e4⟩) fun e1 H' e2 => .inr ⟨_, rfl, k2 e1 H' e2⟩
    simp only [decide_eq_false_iff_not] at q
    have eF : growF (h + 1) m id L = (stepsF (growF h) h L 4 m).map fun s => setM s.1 id ⟨false, [], 0, s.2.1, s.2.2⟩ := by
      conv => lhs; unfold growF
      rw [if_neg (by omega)]
    simp only [true_and, delLs_nil]
    refine ⟨fun p H' => ∃ (q : Nat) (mq : M), q ≤ 4 ∧ p.1.1 = q ∧ p.2.2.2.1.1 = false ∧ p.2.2.2.1.2.1 = (none, 0, 0) ∧ p.2.2.2.1.2.2.1 = 0 ∧ stepsF (growF h) h L q m = some (mq, p.2.2.2.1.2.2.2.1, p.2.2.2.1.2.2.2.2.1) ∧ p.2.2.2.1.2.2.2.1.length = 4 ∧ p.2.2.2.1.2.2.2.2.1.length = 4 ∧
      QuaOK p.2.2.2.1.2.2.2.1 p.2.2.2.1.2.2.2.2.1 ∧ GroveAt H' g r mq ∧ Dom mq ∧ GMod r H H', fun p _ => (4 - p.1.1).toNat, ⟨0, m, by omega, rfl, rfl, rfl, rfl, rfl, rfl, rfl, quaOK_z, hg, hD, GMod.refl _ _⟩, ?_⟩
    rintro ⟨⟨i, _⟩, u1, u2, ⟨lf, ⟨sa, sn, sc⟩, nx, ks, cs, u3⟩, u4⟩ H0 ⟨q0, mq, hq, hi, h1, h2, h3, hst, hk, hc, hqa, hg0, hD0, hm0⟩
    simp only at hi h1 h2 h3 hst hk hc hqa ⊢
    subst hi; subst h1; subst h3
    cases h2
    refine br (fun q1 => ?_) fun q1 => ?_
    · simp only [decide_eq_true_eq] at q1
      have hs0 := hg.slice hs hm0
      refine s_clone hs0 (by omega) fun v1 H1 hle1 hfr1 hrow1 => ?_
      obtain ⟨a1, c1, rfl⟩ := row_val hrow1
      refine .inl ⟨_, _, _, rfl, fun b hb b1 hb1 => ?_⟩
      have hbb : b1 ≠ b := by rintro rfl; rw [upd_same] at hb1; cases hb1
      rw [upd_ne _ _ hbb] at hb1
      -- the two variables are apart from the clone
      have hv1 : ∀ b', blockOf (.slice a1 (pts L).length c1) = some b' → H1 b' ≠ none := fun b' e => by
        rcases hrow1 with ⟨e1, _⟩ | ⟨b2, o, cap, cc, e1, e2, _⟩
        · rw [e1] at e; cases e
        · rw [e1] at e; cases e; rw [e2]; simp
      have ne : ∀ b', blockOf (.slice a1 (pts L).length c1) = some b' → b' ≠ b ∧ b' ≠ b1 := fun b' e => ⟨by rintro rfl; exact hv1 _ e hb, by rintro rfl; exact hv1 _ e hb1⟩
      have hrow2 : RowAt ((H1.upd b (.cells #[.int .u32 x, .int .u32 y, vi lv] 85 (0, 0))).upd b1 (.cells #[vi q0] 3 (0, 0))) (.slice a1 (pts L).length c1) tPt 4 (pts L) := row_le hrow1 fun b' o e e2 => by
        rw [upd_ne _ _ (ne b' e).2, upd_ne _ _ (ne b' e).1]; exact e2
      subst hlv
      refine s_del (pred_grow1 (b := b) (b1 := b1) (q := q0) (by omega) hx hy) hrow2 ⟨by rw [upd_ne _ _ (Ne.symm hbb), upd_same], upd_same _ _ _⟩ (fun H' H'' hI hM => ?_) hL.range (by omega) fun v' H2 hrow3 hbl hM => ?_
      · exact ⟨by rw [hM b fun e => (ne b e).1 rfl]; exact hI.1, by rw [hM b1 fun e => (ne b1 e).2 rfl]; exact hI.2⟩
      have hfil : (L.filter fun p => !(qt h p != (q0 : Int))) = quarter h q0 L := List.filter_congr fun p _ => by simp [bne]
      rw [hfil] at hrow3
      obtain ⟨a4, c4, hv4⟩ := row_val hrow3
      have hplen : (pts (quarter h q0 L)).length = (quarter h q0 L).length := by simp [pts]
      have hI2 : H2 b = some (.cells #[.int .u32 x, .int .u32 y, vi (32 - ((h + 1 : Nat) : Int))] 85 (0, 0)) ∧ H2 b1 = some (.cells #[vi q0] 3 (0, 0)) :=
        ⟨by rw [hM b fun e => (ne b e).1 rfl, upd_ne _ _ (Ne.symm hbb), upd_same], by rw [hM b1 fun e => (ne b1 e).2 rfl, upd_same]⟩
      subst hv4
      refine .inl ⟨_, _, _, rfl, x, y, _, ⟨b, rfl, hI2.1⟩, q0, ⟨b1, rfl, ?_⟩, ?_⟩
      · rw [delO_ptr, del_ne _ hbb]; exact hI2.2
      rw [delO_ptr, delO_ptr]
      have hle3 : H0 ≤ (H2.del b).del b1 := fun b' o e => by
        have e1 := hle1 b' o e
        have n1 : b' ≠ b := by rintro rfl; rw [hb] at e1; cases e1
        have n2 : b' ≠ b1 := by rintro rfl; rw [hb1] at e1; cases e1
        rw [del_ne _ n2, del_ne _ n1, hM b' fun q => by rw [hfr1 b' q] at e; cases e]
        rw [upd_ne _ _ n2, upd_ne _ _ n1]; exact e1
      have hrow4 : RowAt ((H2.del b).del b1) (.slice a4 (pts (quarter h q0 L)).length c4) tPt 4 (pts (quarter h q0 L)) := row_le hrow3 fun b' o e e2 => by
        rw [hbl] at e
        rw [del_ne _ (ne b' e).2, del_ne _ (ne b' e).1]; exact e2
      have hg3 := hg0.le hle3
      have hm3 := hm0.trans (GMod.of_le (r := r) hle3)
      generalize (H2.del b).del b1 = H3 at *
      have hw : IntKind.i64.wrap ((q0 : Int) + 1) = ((q0 + 1 : Nat) : Int) := by rw [w64 (by omega)]; omega
      have hstep : stepsF (growF h) h L (q0 + 1) m = stepF (growF h) h L q0 (mq, ks, cs) := by
        show (stepsF (growF h) h L q0 m).bind _ = _
        rw [hst]; rfl
      rw [hplen, hw, Int.toNat_natCast]
      have bad : stepsF (growF h) h L (q0 + 1) m = none → growF (h + 1) m id L = none := fun e => by
        rw [eF, show 4 = q0 + 1 + (3 - q0) by omega, stepsF_none e]; rfl
      refine br (fun q2 => ?_) fun q2 => ?_
      · simp only [decide_eq_true_eq] at q2
        have hQ : quarter h q0 L ≠ [] := fun e => by rw [e] at q2; simp at q2
        refine ⟨_, none_le _, ?_⟩
        refine s_gfresh hg3 (fun k l hf H4 g4 m4 => .inl ⟨keep_none _ _, k, rfl, ⟨by omega, by omega⟩, ⟨by omega, by omega⟩, _, none_le _, ⟨by omega, by omega⟩, ?_⟩) fun hf => .inr ⟨_, rfl, k2 (bad ?_) _ hm3⟩
        · have hx4 := take_tail hf
          have ok1 : NdOK nd1 := leafOK LOK.nil (by simp) (by omega)
          have hgt : (List.set ks q0 k).getD q0 0 = k := by rw [getD_set (by omega), if_pos rfl]
          rw [hgt]
          refine s_kid (h := h) (by omega) hx hy (by omega) ?_
          refine .inl ⟨keep_none _ _, _, _, _, rfl, ?_⟩
          have hsf : stepF (growF h) h L q0 (mq, ks, cs) = (growF h (setM mq k nd1) k (quarter h q0 L)).map fun m' => (m', ks.set q0 k, cs.set q0 (quarter h q0 L).length) := by
            unfold stepF
            rw [if_neg hQ, hf]
            rfl
          have hs4 := hg3.slice (row_slice hrow4) m4
          rw [hplen] at hs4
          have hlQ : (quarter h q0 L).length ≤ L.length := List.length_filter_le _ _
          refine ih (L := quarter h q0 L) (by omega) rfl (hx.kid (by omega) (by omega)) (hy.kid (by omega) (by omega)) (by omega) g4 (hD0.set ⟨hx4.2.1, hx4.2.2.1⟩ ok1) (hL.sub List.filter_sublist) hs4 ⟨hx4.2.1, hx4.2.2.1⟩ (fun m' H5 e5 D5 g5 m5 =>   .inl ⟨keep_none _ _, rfl, rfl, rfl, rfl, ⟨q0 + 1, m', by omega, rfl, rfl, rfl, rfl, ?_, by simpa using hk, by simpa using hc, ?_, g5, D5, (hm3.trans m4).trans m5⟩, by omega⟩) fun e5 H5 m5 => .inr ⟨_, rfl, k2 (bad ?_) _ ((hm3.trans m4).trans m5)⟩
          · rw [hstep, hsf, e5]; rfl
          · exact quaOK_set hqa hk hc (by omega) ⟨by omega, by omega, by omega, by omega, by omega⟩
          · rw [hstep, hsf, e5]; rfl
        · rw [hstep]
          unfold stepF
          rw [if_neg hQ, hf]
          rfl
      · simp only [decide_eq_false_iff_not] at q2
        have hQ : quarter h q0 L = [] := List.length_eq_zero_iff.1 (by omega)
        refine ⟨rfl, rfl, rfl, ⟨q0 + 1, mq, by omega, rfl, rfl, rfl, rfl, ?_, hk, hc, hqa, hg3, hD0, hm3⟩, by omega⟩
        rw [hstep]
        unfold stepF
        rw [if_pos hQ]
    · simp only [decide_eq_false_iff_not] at q1
      have : q0 = 4 := by omega
      subst this
      have e : growF (h + 1) m id L = some (setM mq id ⟨false, [], 0, ks, cs⟩) := by rw [eF, hst]; rfl
      refine s_gput (d := ⟨false, [], 0, ks, cs⟩) hg0 ⟨none, 0, 0, rfl, slice_nil _, hk, hc⟩ (innerOK hqa) hid (by simp) fun H' g1 m1 => .inl ⟨rfl, k1 _ H' e (hD0.set hid (innerOK hqa)) g1 (hm0.trans m1)⟩
end
end Cr
