/- Growing a tree: what the program does is what growF tells. -/
import Derived.Test.YtekaopahienmgaaG6
import Derived.Test.YtekaopahienmgaaT1
set_option linter.unusedVariables false
set_option linter.unusedSimpArgs false
namespace Cr
open Go Sx Stb Bt
open Go.Sort (SWO)
open Go.Proofs.Try
set_option maxRecDepth 100000
abbrev grV (g : Option Addr) : Value := .agg { toList := [.pointer g] }
abbrev unitV : Value := .tuple { toList := [] }
abbrev stopE (e : Int) : List PanicEntry := [{ v := .iface 137 (.agg { toList := [vi e] }), recovered := false }]
theorem keep_none (H H' : Heap) : Keep (fun _ => none) H H H' := fun b o h h' => by
  rcases h' with h' | h'
  · rw [h'] at h; cases h
  · cases h'
theorem none_le (H : Heap) : (fun _ => none : Heap) ≤ H := fun _ _ e => by cases e
theorem has_gmod {H H' : Heap} {r : Nat} {es : Array MapEntry} {clk : Nat} (hr : H r = some (.map es clk)) {a : Addr} {l : List Value} (h : H.has a l) (hm : GMod r H H') : H'.has a l := by
  intro j x hx
  have := h j x hx
  unfold Heap.cell? at *
  split at this
  · rename_i c ty q e
    have hne : (a.add j).block ≠ r := by intro e'; rw [e', hr] at e; cases e
    rw [hm _ _ hne e]
    exact this
  · cases this
theorem slice_gmod {H H' : Heap} {r : Nat} {es : Array MapEntry} {clk : Nat} (hr : H r = some (.map es clk)) {v : Value} {sz : Nat} {ls : List (List Value)} (h : SliceAt H v sz ls) (hm : GMod r H H') : SliceAt H' v sz ls := by
  obtain ⟨a, n, c, e, h1, h2, h3, h4, h5⟩ := h
  refine ⟨a, n, c, e, h1, h2, h3, h4, fun i e he => ?_⟩
  obtain ⟨A, q1, q2, q3⟩ := h5 i e he
  exact ⟨A, q1, q2, has_gmod hr q3 hm⟩
theorem row_gmod {H H' : Heap} {r : Nat} {es : Array MapEntry} {clk : Nat} (hr : H r = some (.map es clk)) {v : Value} {ty sz : Nat} {ls : List (List Value)} (h : RowAt H v ty sz ls) (hm : GMod r H H') : RowAt H' v ty sz ls := by
  rcases h with h | ⟨b, o, cap, c, rfl, h1, h2⟩
  · exact .inl h
  · exact .inr ⟨b, o, cap, c, rfl, hm _ _ (by rintro rfl; rw [hr] at h1; cases h1) h1, h2⟩
theorem GroveAt.isMap {H : Heap} {g : Addr} {r : Nat} {m : M} (h : GroveAt H g r m) : ∃ es clk, H r = some (.map es clk) := by
  obtain ⟨_, l, ⟨es, clk, h, _⟩, _⟩ := h
  exact ⟨es, clk, h⟩
theorem GroveAt.slice {H H' : Heap} {g : Addr} {r : Nat} {m : M} (h : GroveAt H g r m) {v : Value} {sz : Nat} {ls : List (List Value)} (hs : SliceAt H v sz ls) (hm : GMod r H H') : SliceAt H' v sz ls := by
  obtain ⟨es, clk, hr⟩ := h.isMap
  exact slice_gmod hr hs hm
theorem GMod.trans' {r : Nat} {A B D : Heap} (h : GMod r A B) (h' : GMod r B D) : GMod r A D := h.trans h'
/-- A part of a slice. -/
theorem slice_sub {H : Heap} {a : Option Addr} {n c sz lo hi : Nat} {es : List (List Value)} (h : SliceAt H (.slice a n c) sz es) (h1 : lo ≤ hi) (h2 : hi ≤ n) : SliceAt H (.slice (subAddr a c lo sz) (hi - lo) (c - lo)) sz ((es.drop lo).take (hi - lo)) := by
  obtain ⟨a', n', c', e, hl, hc, h3, h4, h5⟩ := h
  cases e
  refine ⟨_, _, _, rfl, by rw [List.length_take, List.length_drop]; omega, by omega, fun e he => h3 e (List.mem_of_mem_drop (List.mem_of_mem_take he)), fun e he => h4 e (List.mem_of_mem_drop (List.mem_of_mem_take he)), fun i e he => ?_⟩
  have hi' : i < hi - lo := by
    have := (List.getElem?_eq_some_iff.1 he).1
    rw [List.length_take] at this; omega
  rw [List.getElem?_take_of_lt hi', List.getElem?_drop] at he
  obtain ⟨A, rfl, q2, q3⟩ := h5 (lo + i) e he
  have hlc : c ≠ lo := by omega
  refine ⟨A.add (lo * sz), by simp [subAddr, hlc], by rw [add_spot q2], ?_⟩
  have : (A.add (lo * sz)).add (i * sz) = A.add ((lo + i) * sz) := by
    rw [add_spot q2, add_spot q2, add_spot rfl]
    simp [Nat.add_mul, Nat.add_assoc]
  rw [this]; exact q3
theorem slice_pre {H : Heap} {a : Option Addr} {n c sz hi : Nat} {es : List (List Value)} (h : SliceAt H (.slice a n c) sz es) (h2 : hi ≤ n) : SliceAt H (.slice (subAddr a c 0 sz) (hi - 0) (c - 0)) sz (es.take hi) := by
  simpa using slice_sub h (Nat.zero_le hi) h2
theorem slice_suf {H : Heap} {a : Option Addr} {n c sz lo : Nat} {es : List (List Value)} (h : SliceAt H (.slice a n c) sz es) (h2 : lo ≤ n) : SliceAt H (.slice (subAddr a c lo sz) (n - lo) (c - lo)) sz (es.drop lo) := by
  have hl := (slice_len h).1
  have := slice_sub h h2 (Nat.le_refl n)
  rwa [List.take_of_length_le (by rw [List.length_drop]; omega)] at this
/-- Points that may be, rising. -/
structure LOK (L : List Pt) : Prop where
  ok : ∀ p ∈ L, ptOK p
  rise : L.Pairwise fun p q => p.id < q.id
  range : ∀ p ∈ L, PtR p
theorem LOK.sub {L L' : List Pt} (h : LOK L) (hs : L'.Sublist L) : LOK L' := ⟨fun p hp => h.ok p (hs.subset hp), h.rise.sublist hs, fun p hp => h.range p (hs.subset hp)⟩
theorem LOK.pts {L : List Pt} (h : LOK L) (hl : L.length ≤ 4) : PtsOK L where
  each := fun i p hp => h.ok p (List.mem_of_getElem? hp)
  rise := fun i p q hp hq => by
    obtain ⟨h1, rfl⟩ := List.getElem?_eq_some_iff.1 hp
    obtain ⟨h2, rfl⟩ := List.getElem?_eq_some_iff.1 hq
    exact List.pairwise_iff_getElem.1 h.rise i (i + 1) h1 h2 (by omega)
  few := hl
theorem leafOK {L : List Pt} (h : LOK L) (hl : L.length ≤ 4) {nx : Int} (hn : 0 ≤ nx ∧ nx ≤ 255) : NdOK ⟨true, L, nx, z4, z4⟩ := by
  unfold NdOK
  rw [if_pos rfl]
  exact ⟨h.pts hl, hn.1, hn.2, rfl, rfl⟩
theorem LOK.nil : LOK [] := ⟨by simp, by simp, by simp⟩
theorem freeL_least {m : M} {id : Int} (h1 : 1 ≤ id) (h2 : id ≤ 255) (h3 : m id = none) (h4 : ∀ j, 1 ≤ j → j < id → (m j).isSome) : ∃ r, freeL m = id :: r := by
  have hm : id ∈ freeL m := mem_freeL.2 ⟨h1, h2, h3⟩
  have hr := freeL_rise m
  cases hf : freeL m with
  | nil => rw [hf] at hm; cases hm
  | cons k r =>
    rw [hf] at hm hr
    have hk := mem_freeL.1 (show k ∈ freeL m by rw [hf]; exact List.mem_cons_self ..)
    rcases List.mem_cons.1 hm with e | e
    · subst e; exact ⟨r, rfl⟩
    · have := (List.pairwise_cons.1 hr).1 id e
      have := h4 k hk.1 this
      rw [hk.2.2] at this; cases this
section
variable {R : Ending → Heap → Prop} {H : Heap}
theorem s_need {b : Bool} {e : Int} (k1 : b = true → R (.returned unitV) H) (k2 : b = false → R (.panicked (stopE e)) H) : Meets prog 111 [.bool b, vi e] H R := by
  refine spec_of func111 (by kernel_rfl) (fun t h => by cases h) ?_ (vc_need b e R H) ?_
  · simp [argsR, SV.rep, SC.rep, one]
  unfold nf_need
  exact br (fun q => k2 (by simpa using q)) fun q => k1 (by simpa using q)
theorem s_gput {g : Addr} {r : Nat} {m : M} {id : Int} {v : Value} {d : Nd} (h : GroveAt H g r m) (hv : NdAt H v d) (hok : NdOK d) (hid : 1 ≤ id ∧ id ≤ 255) (hl : d.pts.length ≤ 1000000)
    (k : ∀ H', GroveAt H' g r (setM m id d) → GMod r H H' → R (.returned unitV) H') : Meets prog 97 [grV (some g), vi id, v] H R := by
  have hv0 := hv
  obtain ⟨a, n, c, rfl, hs1, hk, hc⟩ := hv
  refine spec_of func97 (by kernel_rfl) (fun t h => by cases h) ?_ (vc_gput (some g) id d.leaf a n c d.next d.kids d.counts R H) ?_
  · simp [argsR, SV.rep, SegsRep, SC.rep, one, hk, hc]
  unfold nf_gput
  refine s_put h hv0 hl (fun no => (no hok).elim) (fun _ no => (no hid).elim) fun _ _ H' h1 h2 => .inl ⟨_, rfl, s_need (fun _ => .inl ⟨rfl, k H' h1 h2⟩) fun q => by simp at q⟩
theorem s_gget {g : Addr} {r : Nat} {m : M} {id : Int} {d : Nd} (h : GroveAt H g r m) (hd : m id = some d) (hl : d.pts.length ≤ 1000000) (hs : ∀ d, m id = some d → d.pts.length ≤ 1000000)
    (k : ∀ v H', H ≤ H' → NdAt H' v d → R (.returned v) H') : Meets prog 107 [grV (some g), vi id] H R := by
  refine spec_of func107 (by kernel_rfl) (fun t h => by cases h) ?_ (vc_gget (some g) id R H) ?_
  · simp [argsR, SV.rep, SegsRep, SC.rep, one]
  unfold nf_gget
  refine s_get h hs fun v H' hle hv => ?_
  rw [hd] at hv ⊢
  have hv2 := hv
  obtain ⟨a, n, c, rfl, _, hk, hc⟩ := hv
  exact .inl ⟨_, a, n, c, _, _, hk, _, hc, _, rfl, s_need (fun _ => .inl ⟨rfl, k _ _ hle hv2⟩) fun q => by simp at q⟩
theorem s_gfresh {g : Addr} {r : Nat} {m : M} (h : GroveAt H g r m) (k1 : ∀ id l, freeL m = id :: l → ∀ H', GroveAt H' g r (setM m id nd1) → GMod r H H' → R (.returned (vi id)) H') (k2 : freeL m = [] → R (.panicked (stopE 10)) H) :
    Meets prog 95 [grV (some g)] H R := by
  refine spec_of func95 (by kernel_rfl) (fun t h => by cases h) ?_ (vc_gfresh (some g) R H) ?_
  · simp [argsR, SV.rep, SegsRep, SC.rep, one]
  unfold nf_gfresh
  refine s_fresh h (fun id h1 h2 h3 h4 => ?_) fun h1 => ?_
  · obtain ⟨l, hl⟩ := freeL_least h1 h2 h3 h4
    refine .inl ⟨_, _, rfl, s_need (fun _ => .inl ⟨rfl, ?_⟩) fun q => by simp at q⟩
    exact s_gput (d := nd1) h ⟨none, 0, 0, rfl, slice_nil _, rfl, rfl⟩ (leafOK LOK.nil (by simp) (by omega)) ⟨h1, h2⟩ (by simp) fun H' g1 g2 => .inl ⟨rfl, k1 id l hl H' g1 g2⟩
  · refine .inl ⟨_, _, rfl, s_need (fun q => by simp at q) fun _ => .inr ⟨_, rfl, k2 ?_⟩⟩
    cases hf : freeL m with
    | nil => rfl
    | cons x l =>
      have := mem_freeL.1 (show x ∈ freeL m by rw [hf]; exact List.mem_cons_self ..)
      have h2 := h1 x this.1 this.2.1
      rw [this.2.2] at h2; cases h2
theorem min4 (n : Nat) : minI (n : Int) 4 = ((min n 4 : Nat) : Int) := by
  unfold minI
  split <;> omega
theorem s_chain : ∀ (N : Nat) {g : Addr} {r : Nat} {m : M} {id : Int} {v : Value} {L : List Pt} {H : Heap} {R : Ending → Heap → Prop}, L.length ≤ N → L.length ≤ 1000000 → GroveAt H g r m → Dom m → LOK L → SliceAt H v 4 (pts L) → 1 ≤ id ∧ id ≤ 255 →
    (∀ m' H', chainF m id L = some m' → Dom m' → GroveAt H' g r m' → GMod r H H' → R (.returned unitV) H') → (chainF m id L = none → ∀ H', GMod r H H' → R (.panicked (stopE 10)) H') →
    Meets prog 91 [grV (some g), vi id, v] H R := by
  intro N
  induction N with
  | zero =>
    intro g r m id v L H R hN hbig h hD hL hs hid k1 k2
    obtain ⟨a, n, c, rfl, hn⟩ := hs
    have hs : SliceAt H (.slice a n c) 4 (pts L) := ⟨a, n, c, rfl, hn⟩
    have hln : L.length = n := by simpa [pts] using hn.1
    have hnc := hn.2.1
    refine spec_of func91 (by kernel_rfl) (fun t h => by cases h) ?_ (vc_chain (some g) id a n c R H) ?_
    · simp [argsR, SV.rep, SegsRep, SC.rep, one]
    unfold nf_chain
    rw [min4, Nat.min_eq_left (by omega), Int.toNat_natCast, Nat.sub_zero, Int.toNat_natCast]
    refine ⟨⟨by omega, by omega⟩, ⟨by omega, by omega⟩, br (fun q => by simp at q) fun _ => ?_⟩
    have hp := slice_pre hs (hi := n) (Nat.le_refl n)
    have e : chainF m id L = some (setM m id ⟨true, L, 0, z4, z4⟩) := by unfold chainF; rw [dif_pos (by omega)]
    have ok := leafOK hL (by omega) (nx := 0) (by omega)
    refine s_gput (d := ⟨true, L, 0, z4, z4⟩) h ⟨subAddr a c 0 4, n, c - 0, rfl, ?_, rfl, rfl⟩ ok hid (by simp; omega) fun H' g1 g2 => .inl ⟨rfl, k1 _ H' e (hD.set hid ok) g1 g2⟩
    rw [List.take_of_length_le (by simp [pts]; omega)] at hp
    exact hp
  | succ N ih =>
    intro g r m id v L H R hN hbig h hD hL hs hid k1 k2
    obtain ⟨a, n, c, rfl, hn⟩ := hs
    have hs : SliceAt H (.slice a n c) 4 (pts L) := ⟨a, n, c, rfl, hn⟩
    have hln : L.length = n := by simpa [pts] using hn.1
    have hnc := hn.2.1
    refine spec_of func91 (by kernel_rfl) (fun t h => by cases h) ?_ (vc_chain (some g) id a n c R H) ?_
    · simp [argsR, SV.rep, SegsRep, SC.rep, one]
    unfold nf_chain
    rw [min4]
    by_cases h4 : n ≤ 4
    · rw [Nat.min_eq_left (by omega), Int.toNat_natCast, Nat.sub_zero, Int.toNat_natCast]
      refine ⟨⟨by omega, by omega⟩, ⟨by omega, by omega⟩, br (fun q => by simp at q) fun _ => ?_⟩
      have hp := slice_pre hs (hi := n) (Nat.le_refl n)
      have e : chainF m id L = some (setM m id ⟨true, L, 0, z4, z4⟩) := by unfold chainF; rw [dif_pos (by omega)]
      have ok := leafOK hL (by omega) (nx := 0) (by omega)
      refine s_gput (d := ⟨true, L, 0, z4, z4⟩) h ⟨subAddr a c 0 4, n, c - 0, rfl, ?_, rfl, rfl⟩ ok hid (by simp; omega) fun H' g1 g2 => .inl ⟨rfl, k1 _ H' e (hD.set hid ok) g1 g2⟩
      rw [List.take_of_length_le (by simp [pts]; omega)] at hp
      exact hp
    · rw [Nat.min_eq_right (by omega)]
      have hp := slice_pre hs (hi := 4) (by omega)
      have hq := slice_suf hs (lo := 4) (by omega)
      have e4 : ((4 : Nat) : Int).toNat = 4 := rfl
      have e4' : ((4 - 0 : Nat) : Int).toNat = 4 := rfl
      rw [e4, e4']
      refine ⟨⟨by omega, by omega⟩, ⟨by omega, by omega⟩, br (fun _ => ?_) fun q => by simp at q; omega⟩
      refine s_gfresh h (fun nx l hf H1 g1 m1 => .inl ⟨_, rfl, ?_⟩) fun hf => .inr ⟨_, rfl, k2 ?_ _ (GMod.refl _ _)⟩
      · have hx := take_tail hf
        have ok1 : NdOK nd1 := leafOK LOK.nil (by simp) (by omega)
        have hLd : LOK (L.drop 4) := hL.sub (List.drop_sublist _ _)
        have hq1 := h.slice hq m1
        have e0 : chainF m id L = (chainF (setM m nx nd1) nx (L.drop 4)).map fun m' => setM m' id ⟨true, L.take 4, nx, z4, z4⟩ := by
          conv => lhs; unfold chainF
          rw [dif_neg (by omega), hf]
          rfl
        refine ih (L := L.drop 4) (by simp; omega) (by simp; omega) g1 (hD.set ⟨hx.2.1, hx.2.2.1⟩ ok1) hLd (by simpa [pts] using hq1) ⟨hx.2.1, hx.2.2.1⟩ (fun m' H2 e D2 g2 m2 => .inl ⟨rfl, ?_⟩) fun e H2 m2 => .inr ⟨_, rfl, k2 ?_ H2 (m1.trans m2)⟩
        · have ok := leafOK (hL.sub (List.take_sublist 4 L)) (by simp; omega) (nx := nx) (by omega)
          refine s_gput (d := ⟨true, L.take 4, nx, z4, z4⟩) g2 ⟨subAddr a c 0 4, 4, c - 0, rfl, ?_, rfl, rfl⟩ ok hid (by simp; omega) fun H' g3 m3 => .inl ⟨rfl, k1 _ H' ?_ (D2.set hid ok) g3 ((m1.trans m2).trans m3)⟩
          · have := h.slice hp (m1.trans m2)
            simpa [pts] using this
          · rw [e0, e]; rfl
        · rw [e0, e]; rfl
      · unfold chainF
        rw [dif_neg (by omega), hf]
        rfl
end
end Cr
