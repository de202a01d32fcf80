/- Own texts, one behind the other: H1, H2, S9, H3, H4, H5, W1, S11, W2, W8, W3, W9, W11, W12, S5, W13. -/
import Derived.Deep.Slices
import Derived.Test.YtekaopahienmgaaRows
import Derived.Deep.Strs
import Derived.Test.YtekaopahienmgaaZ5
set_option linter.unusedVariables false
set_option linter.unusedSimpArgs false
namespace Cr
open Go Sx Stb Bt
open Go.Sort (SWO)
open Go.Proofs.Try
set_option maxRecDepth 100000
def nf_caught0 (A : Addr) (B : Addr) (R : Ending → FrameMode → Heap → Prop) (H : Heap) : Prop := one Value.nilIface = true ∧ R (Ending.returned (Value.tuple { toList := [] })) (recU FrameMode.returning).snd H
theorem vc_caught0 (A : Addr) (B : Addr) (R : Ending → FrameMode → Heap → Prop) (H : Heap) : vcFunD prog { } f61 [SV.c (SC.v (Value.pointer (some A))), SV.c (SC.v (Value.pointer (some B)))] FrameMode.returning R H = nf_caught0 A B R H := by kernel_rfl

def nf_caught1 (A : Addr) (B : Addr) (e : Int) (R : Ending → FrameMode → Heap → Prop) (H : Heap) : Prop := one (Value.iface (137 : Nat) (Value.agg { toList := [Value.int IntKind.i64 e] })) = true ∧ ∃ (G : Nat → Option Obj), G ≤ H ∧ PtrK (some A) fun (a : Addr) ↦ PtrK (some a) fun (A : Addr) ↦ ∃ (c : Array Value), ∃ (ty : Nat), (H A.block = some (Obj.cells c ty) ∧ A.spot = none ∧ A.off + (1 : Nat) ≤ Array.size c) ∧ G A.block = none ∧ PtrK (some B) fun (a : Addr) ↦ PtrK (some a) fun (A_1 : Addr) ↦ ∃ (c_1 : Array Value), ∃ (ty_1 : Nat), (Heap.upd H A.block (Obj.cells (writeCells c A.off [Value.pointer none]) ty) A_1.block = some (Obj.cells c_1 ty_1) ∧ A_1.spot = none ∧ A_1.off + (1 : Nat) ≤ Array.size c_1) ∧ G A_1.block = none ∧ R (Ending.returned (Value.tuple { toList := [] })) (recU (FrameMode.panicking [{ v := Value.iface (137 : TypeId) (Value.agg { toList := [Value.int IntKind.i64 e] }), recovered := false }])).snd (Heap.upd (Heap.upd H A.block (Obj.cells (writeCells c A.off [Value.pointer none]) ty)) A_1.block (Obj.cells (writeCells c_1 A_1.off [Value.int IntKind.i64 e]) ty_1))
theorem vc_caught1 (A : Addr) (B : Addr) (e : Int) (R : Ending → FrameMode → Heap → Prop) (H : Heap) : vcFunD prog { } f61 [SV.c (SC.v (Value.pointer (some A))), SV.c (SC.v (Value.pointer (some B)))] (FrameMode.panicking [{ v := Value.iface (137 : TypeId) (Value.agg { toList := [Value.int IntKind.i64 e] }), recovered := false }]) R H = nf_caught1 A B e R H := by kernel_rfl

section
variable {R : Ending → Heap → Prop} {H : Heap}
theorem delO_le (H : Heap) (b : Option Nat) : H.delO b ≤ H := fun x o e => by
  cases b with
  | none => exact e
  | some b =>
    have e : (if x = b then none else H x) = some o := e
    split at e
    · cases e
    · exact e
theorem append_eq {α : Type} (a b : List α) : List.append a b = a ++ b := rfl
theorem delsM_nil (m : M) : delsM m [] = m := by funext i; simp [delsM]
theorem Dom.dels {m : M} (h : Dom m) (I : List Int) : Dom (delsM m I) := fun j e he => by
  unfold delsM at he
  split at he
  · cases he
  · exact h j e he
theorem delsM_app (m : M) (A B : List Int) (k : Int) : delM (delsM (delsM m A) B) k = delsM m (A ++ k :: B) := by
  funext i
  unfold delM delsM
  simp only [List.mem_append, List.mem_cons]
  by_cases h1 : i = k <;> by_cases h2 : i ∈ A <;> by_cases h3 : i ∈ B <;> simp [h1, h2, h3]
theorem s_fell : ∀ (N : Nat) {g : Addr} {r : Nat} {m : M} {id dp : Int} {L : List Pt} {I : List Int} {H : Heap} {R : Ending → Heap → Prop}, I.length ≤ N → GroveAt H g r m → Dom m → FT m id L I → I.Nodup → 0 ≤ dp → dp + I.length ≤ 512 → L.length ≤ 1000000 →
    (∀ v H', GroveAt (H'.delO (blockOf v)) g r (delsM m I.tail) → GMod r H (H'.delO (blockOf v)) → (∀ b, blockOf v = some b → H b = none) → RowAt H' v tPt 4 (pts L) → R (.returned v) H') → Meets prog 108 [grV (some g), vi id, vi dp] H R := by
  intro N
  induction N with
  | zero =>
    intro g r m id dp L I H R hN hg hD hF
    obtain ⟨d, L1, I1, _, _, _, rfl⟩ := hF
    simp at hN
  | succ N ih =>
    intro g r m id dp L I H R hN hg hD hF hnd hdp hdl hLl k
    obtain ⟨d, L1, I1, hd, hFs, rfl, rfl⟩ := hF
    simp only [List.length_cons, List.length_append, List.tail_cons] at hN hdl hLl k
    refine spec_of func108 (by kernel_rfl) (fun t h => by cases h) ?_ (vc_fell (some g) id dp R H) ?_
    · simp [argsR, SV.rep, SegsRep, SC.rep, one]
    unfold nf_fell
    have hfew := hD.few hd
    refine s_gget hg hd (by omega) (fun d' e => by rw [hd] at e; cases e; omega) fun v H1 hle1 hv1 => ?_
    obtain ⟨a, n, c, rfl, hs1, hk, hc⟩ := hv1
    refine .inl ⟨_, a, n, c, _, _, hk, _, hc, rfl, s_need (fun _ => .inl ⟨rfl, ?_⟩) fun q => by simp at q; omega⟩
    refine s_clone hs1 (by omega) fun v2 H2 hle2 hfr2 hrow2 => ?_
    obtain ⟨a2, c2, rfl⟩ := row_val hrow2
    have hC : List.append (List.map (fun v => [vi v]) d.kids) [[vi d.next]] = cells (d.kids ++ [d.next]) := by rw [append_eq]; simp [cells]
    have hCl : (d.kids ++ [d.next]).length = 5 := by simp [hk]
    have hCc : (cells (d.kids ++ [d.next])).length = 5 := by simp [cells, hk]
    rw [hC, hCc]
    simp only [true_and]
    have hle3 := le_delO (heap_trans hle1 hle2) (fresh_le hle1 hfr2)
    refine .inl ⟨_, _, _, rfl, by omega, _, hrow2, ?_⟩
    refine ⟨fun p H' => ∃ (t : Nat) (Ld Lr : List Pt) (Id Ir : List Int), p.1.2.1 = t ∧ t ≤ 5 ∧ p.1.1 = pts (d.pts ++ Ld) ∧ L1 = Ld ++ Lr ∧ I1 = Id ++ Ir ∧ FTs m ((d.kids ++ [d.next]).drop t) Lr Ir ∧ GroveAt H' g r (delsM m Id) ∧ GMod r H H', fun p _ => (5 - p.1.2.1).toNat, ⟨0, [], L1, [], I1, rfl, by omega, by simp, rfl, rfl, hFs, ?_, GMod.of_le hle3⟩, ?_⟩
    · rw [delsM_nil]; exact hg.le hle3
    rintro ⟨⟨acc, i, _⟩, _⟩ H3 ⟨t, Ld, Lr, Id, Ir, hi, ht, hacc, hL, hI, hF, hg3, hm3⟩
    simp only at hi hacc ⊢
    subst hi; subst hacc
    refine br (fun q => ?_) fun q => ?_
    · simp only [decide_eq_true_eq] at q
      have ht5 : t < 5 := by omega
      have hx : (d.kids ++ [d.next])[t]? = some (d.kids ++ [d.next])[t] := List.getElem?_eq_getElem (by omega)
      rw [List.drop_eq_getElem_cons (by omega)] at hF
      rw [w64 (k := (t : Int) + 1) (by omega), Int.toNat_natCast]
      have look : ∀ k, (d.kids ++ [d.next])[t] = k → ∃ e, (cells (d.kids ++ [d.next]))[t]? = some e ∧ List.take 1 (List.drop 0 e) = [vi k] := fun k e => ⟨[vi k], by simp only [cells, List.getElem?_map, hx, e, Option.map_some], rfl⟩
      generalize hk0 : (d.kids ++ [d.next])[t] = k0 at hF
      refine ⟨⟨by omega, by omega⟩, k0, look k0 hk0, ?_⟩
      cases hF with
      | zero hF =>
        refine br (fun q => by simp at q) fun _ => ?_
        exact ⟨⟨t + 1, Ld, Lr, Id, Ir, by omega, by omega, rfl, hL, hI, hF, hg3, hm3⟩, by omega⟩
      | @cons _ _ d' L1' L'' I1' I'' hpos hd' hF1 hF2 =>
        refine br (fun _ => ?_) fun q => by simp at q; omega
        subst hL; subst hI
        obtain ⟨_, hnI⟩ := List.nodup_cons.1 hnd
        rw [List.nodup_append] at hnI
        obtain ⟨_, hnr, hdisj⟩ := hnI
        have hFT : FT m k0 (d'.pts ++ L1') (k0 :: I1') := ⟨d', L1', I1', hd', hF1, rfl, rfl⟩
        have hFT' : FT (delsM m Id) k0 (d'.pts ++ L1') (k0 :: I1') := hFT.congr fun i hi => by
          unfold delsM
          rw [if_neg fun hm => hdisj i hm i (by rw [List.cons_append] at *; exact List.mem_append_left I'' hi) rfl]
        simp only [List.length_append, List.length_cons] at hN hdl hLl
        rw [w64 (by omega)]
        refine ih (L := d'.pts ++ L1') (I := k0 :: I1') (by simp only [List.length_cons]; omega) hg3 (hD.dels Id) hFT' ?_ (by omega) (by simp only [List.length_cons]; omega) (by rw [List.length_append]; omega) fun v' H4 hg4 hm4 _ hrow4 => ?_
        · exact (List.nodup_append.1 (show ((k0 :: I1') ++ I'').Nodup from hnr)).1
        · obtain ⟨a4, c4, rfl⟩ := row_val hrow4
          have hg4 := hg4.le (delO_le H4 _)
          have hm4 := hm4.trans (GMod.of_le (r := r) (delO_le H4 _))
          refine .inl ⟨_, _, _, rfl, _, row_slice hrow4, ?_, ?_⟩
          · rw [append_eq]
            simp only [pts, List.length_append, List.length_map]; omega
          · refine s_drop hg4 fun H5 hg5 hm5 => .inl ⟨_, rfl, ⟨t + 1, Ld ++ (d'.pts ++ L1'), L'', Id ++ k0 :: I1', I'', by omega, by omega, ?_, ?_, ?_, hF2, ?_, (hm3.trans hm4).trans hm5⟩, by omega⟩
            · rw [append_eq]; simp [pts]
            · simp
            · simp
            · simp only [List.tail_cons] at hg5
              rw [delsM_app] at hg5
              exact hg5
    · simp only [decide_eq_false_iff_not] at q
      have : t = 5 := by omega
      subst this
      rw [List.drop_of_length_le (by omega)] at hF
      cases hF
      subst hL; subst hI
      simp only [List.append_nil] at k
      intro v' H4 h1 h2 _ h4
      have h1' := le_delO h1 h2
      refine k v' H4 (hg3.le h1') (hm3.trans (GMod.of_le h1')) (fun b hb => ?_) h4
      have hn3 := h2 b hb
      cases e : H b with
      | none => rfl
      | some o =>
        by_cases hbr : b = r
        · subst hbr
          obtain ⟨es, clk, hr⟩ := hg3.isMap
          rw [hr] at hn3; cases hn3
        · have := hm3 b o hbr e
          rw [hn3] at this; cases this
theorem s_again {h : Nat} {g : Addr} {r : Nat} {m : M} {id x y lv : Int} {v : Value} {l : List Pt} (hh : h ≤ 32) (hlv : lv = 32 - (h : Int)) (hx : Cor h x) (hy : Cor h y) (hbig : l.length ≤ 60000) (hg : GroveAt H g r m) (hD : Dom m) (hL : LOK (sortP l)) (hs : SliceAt H v 4 (pts l)) (hid : 1 ≤ id ∧ id ≤ 255)
    (k1 : ∀ m' H', growF h m id (sortP l) = some m' → Dom m' → GroveAt H' g r m' → GMod r H H' → R (.returned unitV) H') (k2 : growF h m id (sortP l) = none → ∀ H', GMod r H H' → R (.panicked (stopE 10)) H') :
    Meets prog 112 [grV (some g), vi id, ceV x y lv, v] H R := by
  obtain ⟨a, n, c, rfl, hn⟩ := hs
  have hs : SliceAt H (.slice a n c) 4 (pts l) := ⟨a, n, c, rfl, hn⟩
  refine spec_of func112 (by kernel_rfl) (fun t h => by cases h) ?_ (vc_again (some g) id x y lv a n c R H) ?_
  · simp [argsR, SV.rep, SegsRep, SC.rep, one]
  unfold nf_again
  refine ⟨_, none_le _, s_srt hs (by omega) fun v1 H1 hle1 hfr1 hrow1 => ?_⟩
  obtain ⟨a1, c1, rfl⟩ := row_val hrow1
  have hl := sortP_len l
  exact .inl ⟨keep_none _ _, _, _, _, rfl, s_grow h hh hlv hx hy (by omega) (hg.le hle1) hD hL (row_slice hrow1) hid (fun m' H' e1 e2 e3 e4 => .inl ⟨keep_none _ _, rfl, k1 m' H' e1 e2 e3 ((GMod.of_le hle1).trans e4)⟩) fun e1 H' e2 => .inr ⟨_, rfl, k2 e1 H' ((GMod.of_le hle1).trans e2)⟩⟩
theorem row_del_eq {H H' : Heap} {v : Value} (hm : Mod v H H') : H'.delO (blockOf v) = H.delO (blockOf v) := by
  funext b
  cases hb : blockOf v with
  | none => exact hm b (by rw [hb]; simp)
  | some b' =>
    show (if b = b' then none else H' b) = if b = b' then none else H b
    split
    · rfl
    · exact hm b (by rw [hb]; simpa [eq_comm] using ‹¬ b = b'›)
theorem qt_range {h : Nat} {p : Pt} : 0 ≤ qt h p ∧ qt h p < 4 := by unfold qt; omega
theorem Chg.mono {m m' : M} {a b : Nat} (h : Chg m m' a) (hab : a ≤ b) : Chg m m' b := by
  obtain ⟨D, h1, h2⟩ := h
  exact ⟨D, by omega, h2⟩
theorem dom_len {m : M} (hD : Dom m) {I : List Int} (hn : I.Nodup) (h : ∀ i ∈ I, m i ≠ none) : I.length ≤ 255 := by
  have := nodup_len (b := numsL) hn fun i hi => by
    cases e : m i with
    | none => exact absurd e (h i hi)
    | some d => have := hD i d e; exact mem_numsL.2 ⟨this.1, this.2.1⟩
  simpa using this
theorem Low.fresh {m : M} {k : Int} {r : List Int} {d : Nd} (h : Low m) (hf : freeL m = k :: r) : Low (setM m k d) := fun i j hi hj => by
  rw [freeL_take hf] at hj
  by_cases e : i = k
  · subst e
    have := freeL_rise m
    rw [hf, List.pairwise_cons] at this
    exact this.1 j hj
  · rw [setM_ne e] at hi
    exact h i j hi (by rw [hf]; exact List.mem_cons_of_mem _ hj)
theorem TrP_nil {m : M} {h : Nat} {k : Int} (e : m k = some nd1) : TrP m h k [] [k] := by
  cases h with
  | zero => exact ⟨rfl, by simp, e⟩
  | succ h => unfold TrP; rw [if_pos (by simp)]; exact ⟨rfl, by simp, e⟩
theorem nds_small {h : Nat} {L : List Pt} (hl : L.length ≤ 4) : nds h L = 1 := by
  cases h with
  | zero => unfold nds nch; rw [if_pos hl]
  | succ h => unfold nds; rw [if_pos hl]
theorem set_self {l : List Int} {q : Nat} (h : q < l.length) : l.set q (l.getD q 0) = l := by
  apply List.ext_getElem?
  intro i
  rw [List.getElem?_set]
  split
  · subst_vars
    simp [h]
  · rfl
theorem not_mem_quarter {h q : Nat} {L : List Pt} {p : Pt} (hp : p.id ∉ L.map Pt.id) : p.id ∉ (quarter h q L).map Pt.id := fun hm => by
  obtain ⟨x, hx, e⟩ := List.mem_map.1 hm
  exact hp (e ▸ List.mem_map_of_mem (List.mem_filter.1 hx).1)
theorem s_add_leaf {h : Nat} {g : Addr} {r : Nat} {m : M} {id x y lv : Int} {p : Pt} {L : List Pt} {T : List Int} {d : Nd} (hd : m id = some d) (hlf : d.leaf = true) (hh : h ≤ 32) (hlv : lv = 32 - (h : Int)) (hx : Cor h x) (hy : Cor h y) (hbig : L.length ≤ 50000) (hg : GroveAt H g r m) (hD : Dom m) (hL : LOK L) (ht : TrP m h id L (id :: T)) (hn : (id :: T).Nodup)
    (hpo : ptOK p) (hpr : PtR p) (hpi : p.id ∉ L.map Pt.id) 
    (k1 : nds h (insP L p) ≤ nds h L + (freeL m).length → ∀ m' T' H', TrP m' h id (insP L p) (id :: T') → Rpl m m' (id :: T) (id :: T') → (Low m → ∀ i ∈ id :: T, i ∈ id :: T') → Chg m m' (nds h L) → Dom m' → GroveAt H' g r m' → GMod r H H' → R (.returned unitV) H')
    (k2 : nds h L + (freeL m).length < nds h (insP L p) → ∀ H', GMod r H H' → R (.panicked (stopE 10)) H') :
    Meets prog 78 [grV (some g), vi id, ceV x y lv, ptV p] H R := by
  refine spec_of func78 (by kernel_rfl) (fun t h => by cases h) ?_ (vc_add (some g) id x y lv p.id p.x p.y p.data R H) ?_
  · simp [argsR, SV.rep, SegsRep, SC.rep, one]
  unfold nf_add
  have hfew := hD.few hd
  have hdd := hD id d hd
  refine s_gget hg hd (by omega) (fun d' e => by rw [hd] at e; cases e; omega) fun v H1 hle1 hv1 => ?_
  obtain ⟨a, n, c, rfl, hs1, hk, hc⟩ := hv1
  refine .inl ⟨_, a, n, c, _, _, hk, _, hc, rfl, br (fun _ => ?_) fun q => by rw [hlf] at q; cases q⟩
  simp only [delLs_nil, List.nil_append, List.append_nil]
  obtain ⟨L', hperm, hF⟩ := TrP_FT hD hL.range ht
  have hlen := dom_len hD hn (TrP_there ht)
  have hpl := hperm.length_eq
  refine ⟨_, none_le _, s_fell _ (Nat.le_refl _) (hg.le hle1) hD hF hn (by omega) (by omega) (by omega) fun v2 H2 hg2 hm2 hfr2 hrow2 => ?_⟩
  simp only [List.tail_cons] at hg2
  obtain ⟨a2, c2, rfl⟩ := row_val hrow2
  have eap : List.append (pts L') [[.int .i64 p.id, .int .u32 p.x, .int .u32 p.y, .string p.data]] = pts (L' ++ [p]) := by rw [append_eq]; simp [pts]
  refine .inl ⟨keep_none _ _, _, _, _, rfl, _, hrow2, fun _ _ => rfl, by rw [eap]; simp [pts]; omega, fun v3 H3 h31 h32 h33 h34 => ?_⟩
  rw [eap] at h34
  obtain ⟨a3, c3, rfl⟩ := row_val h34
  have hsrt : sortP (L' ++ [p]) = insP L p := by
    unfold insP
    exact sortP_eq (insP_ids hL.rise hpi) (hperm.append_right [p])
  obtain ⟨r1, r2⟩ := regrow (insP L p) ht hn hD
  have hmm := ((GMod.of_le (r := r) hle1).trans hm2).trans (GMod.of_le (r := r) h31)
  refine s_again (h := h) hh hlv hx hy (by simp; omega) (hg2.le h31) (hD.dels T) (by rw [hsrt]; exact hL.ins hpi hpo hpr) (row_slice h34) ⟨hdd.1, hdd.2.1⟩ (fun m' H4 e4 D4 g4 m4 => ?_) fun e4 H4 m4 => .inr ⟨_, rfl, ?_⟩
  · rw [hsrt] at e4
    by_cases hle : nds h (insP L p) ≤ nds h L + (freeL m).length
    · obtain ⟨m'', T', f1, f2, f3, f4, f5⟩ := r1 hle
      rw [f1] at e4; cases e4
      exact .inl ⟨none_le _, rfl, k1 hle _ T' H4 f2 f3 (fun hlow => f4 hlow (nds_mono (sub_insP hL.rise hpi))) f5 D4 g4 (hmm.trans m4)⟩
    · rw [r2 (by omega)] at e4; cases e4
  · rw [hsrt] at e4
    by_cases hle : nds h (insP L p) ≤ nds h L + (freeL m).length
    · obtain ⟨m'', T', f1, _⟩ := r1 hle
      rw [f1] at e4; cases e4
    · exact k2 (by omega) H4 (hmm.trans m4)
/-- A point is added below a node. -/
theorem s_add : ∀ (h : Nat) {g : Addr} {r : Nat} {m : M} {id x y lv : Int} {p : Pt} {L : List Pt} {T : List Int} {H : Heap} {R : Ending → Heap → Prop}, h ≤ 32 → lv = 32 - (h : Int) → Cor h x → Cor h y → L.length ≤ 50000 → GroveAt H g r m → Dom m → LOK L → TrP m h id L (id :: T) → (id :: T).Nodup →
    ptOK p → PtR p → p.id ∉ L.map Pt.id →
    (nds h (insP L p) ≤ nds h L + (freeL m).length → ∀ m' T' H', TrP m' h id (insP L p) (id :: T') → Rpl m m' (id :: T) (id :: T') → (Low m → ∀ i ∈ id :: T, i ∈ id :: T') → Chg m m' (h + nch L.length) → Dom m' → GroveAt H' g r m' → GMod r H H' → R (.returned unitV) H') →
    (nds h L + (freeL m).length < nds h (insP L p) → ∀ H', GMod r H H' → R (.panicked (stopE 10)) H') →
    Meets prog 78 [grV (some g), vi id, ceV x y lv, ptV p] H R := by
  intro h
  induction h with
  | zero =>
    intro g r m id x y lv p L T H R hh hlv hx hy hbig hg hD hL ht hn hpo hpr hpi k1 k2
    obtain ⟨d, hd, hlf⟩ : ∃ d, m id = some d ∧ d.leaf = true := by
      obtain ⟨_, hc⟩ := ht
      cases T with
      | nil => exact ⟨_, hc.2, rfl⟩
      | cons a b => exact ⟨_, hc.2.1, rfl⟩
    exact s_add_leaf hd hlf hh hlv hx hy hbig hg hD hL ht hn hpo hpr hpi (fun hle m' T' H' f1 f2 f3 f4 => k1 hle m' T' H' f1 f2 f3 (f4.mono (by unfold nds; omega))) k2
  | succ h ih =>
    intro g r m id x y lv p L T H R hh hlv hx hy hbig hg hD hL ht hn hpo hpr hpi k1 k2
    by_cases hl4 : L.length ≤ 4
    · obtain ⟨d, hd, hlf⟩ : ∃ d, m id = some d ∧ d.leaf = true := by
        unfold TrP at ht
        rw [if_pos hl4] at ht
        obtain ⟨e, hc⟩ := ht
        cases e
        exact ⟨_, hc.2, rfl⟩
      exact s_add_leaf hd hlf hh hlv hx hy hbig hg hD hL ht hn hpo hpr hpi (fun hle m' T' H' f1 f2 f3 f4 => k1 hle m' T' H' f1 f2 f3 (f4.mono (by rw [nds_small hl4]; omega))) k2
    have ht0 := ht
    unfold TrP at ht
    rw [if_neg hl4] at ht
    obtain ⟨ks, cs, J, h1, hk4, hc4, hT, hJ⟩ := ht
    cases hT
    have hdd := hD id _ h1
    have hqa : QuaOK ks cs := by
      have := hdd.2.2
      unfold NdOK at this
      rw [if_neg (by simp)] at this
      exact this.2.2
    refine spec_of func78 (by kernel_rfl) (fun t h => by cases h) ?_ (vc_add (some g) id x y lv p.id p.x p.y p.data R H) ?_
    · simp [argsR, SV.rep, SegsRep, SC.rep, one]
    unfold nf_add
    refine s_gget hg h1 (by simp) (fun d' e => by rw [h1] at e; cases e; simp) fun v H1 hle1 hv1 => ?_
    obtain ⟨a, n, c, rfl, hs1, hk, hc⟩ := hv1
    refine .inl ⟨_, a, n, c, _, _, hk, _, hc, rfl, br (fun q => by cases q) fun _ => ?_⟩
    subst hlv
    refine s_need (fun _ => .inl ⟨rfl, ?_⟩) fun q => by simp at q; omega
    obtain ⟨q, hqq, hq4⟩ : ∃ q : Nat, qt h p = (q : Int) ∧ q < 4 := ⟨(qt h p).toNat, by have := qt_range (h := h) (p := p); omega, by have := qt_range (h := h) (p := p); omega⟩
    refine s_quar (h := h) (by omega) (hx.lt (by omega)) (hy.lt (by omega)) ⟨hpr.1, hpr.2.1⟩ ⟨hpr.2.2.1, hpr.2.2.2⟩ (.inl ⟨_, rfl, ?_⟩)
    have hqq' : p.x / 2 ^ h % 2 + 2 * (p.y / 2 ^ h % 2) = (q : Int) := hqq
    rw [hqq', Int.toNat_natCast]
    have rq : (0 : Int) ≤ (q : Int) ∧ (q : Int) < (4 : Int) := ⟨by omega, by omega⟩
    have hQ : quarter h q (insP L p) = insP (quarter h q L) p := by rw [quarter_insP hL.rise hpi, if_pos hqq]
    have hQn : ∀ j, j < 4 → j ≠ q → quarter h j (insP L p) = quarter h j L := fun j hj hne => by
      rw [quarter_insP hL.rise hpi, if_neg (by rw [hqq]; omega)]
    have hpq : p.id ∉ (quarter h q L).map Pt.id := not_mem_quarter hpi
    have hLl := insP_len L p
    have hQl := insP_len (quarter h q L) p
    have hqle : (quarter h q L).length ≤ L.length := List.length_filter_le _ _
    have hdf := nds_diff (h := h) (L := L) (L' := insP L p) hq4 (by omega) (by omega) hQn
    rw [hQ] at hdf
    have hne : insP (quarter h q L) p ≠ [] := fun e => by rw [e] at hQl; simp at hQl
    rw [nq_some hne] at hdf
    have hnm := nch_mono hqle
    have hnp := nch_pos L.length
    -- the node is put
    have fin : ∀ (m2 : M) (B : List Int) (k : Int) (n0 : Nat) (H2 : Heap) (R' : Ending → Heap → Prop) (cw : Int), Rpl m m2 (J q) B → SubP (TrP m2 h) k ((quarter h q L).length + 1 : Nat) (insP (quarter h q L) p) B → (Low m → ∀ i ∈ J q, i ∈ B) → Chg m m2 n0 → n0 ≤ h + nch L.length → Dom m2 → GroveAt H2 g r m2 → GMod r H H2 → H1 ≤ H2 ∨ GMod r H1 H2 → 1 ≤ k ∧ k ≤ 255 → nds (h + 1) (insP L p) ≤ nds (h + 1) L + (freeL m).length → cw = ((quarter h q L).length + 1 : Nat) → (∀ H', R (.returned unitV) H' → R' (.returned unitV) H') →
        Meets prog 97 [grV (some g), vi id, .agg { toList := .bool false :: .slice a n c :: vi 0 :: List.append (List.map (Value.int IntKind.i64) (ks.set q k)) (List.map (Value.int IntKind.i64) (cs.set q cw) ++ []) }] H2 R' := by
      intro m2 B k n0 H2 R' cw hR hS hB hC hn0 D2 g2 m2' _ hkr hsucc hcw hR'
      subst hcw
      obtain ⟨T', u1, u2, u3, u4⟩ := inner_upd h1 hk4 hc4 hn hJ hq4 hR (by rw [hQ]; exact hS) hQn (by omega) hC
      have ok : NdOK ⟨false, [], 0, ks.set q k, cs.set q ((quarter h q L).length + 1 : Nat)⟩ := innerOK (quaOK_set hqa hk4 hc4 hq4 ⟨by omega, by omega, by omega, by omega, by omega⟩)
      have hsl : SliceAt H2 (.slice a n c) 4 (pts []) := by
        obtain ⟨hl0, _⟩ := slice_len hs1
        simp only [pts, List.map_nil, List.length_nil] at hl0
        subst hl0
        obtain ⟨a', n', c', e, q1, q2, _⟩ := hs1
        cases e
        exact ⟨_, _, _, rfl, rfl, q2, by simp, by simp, by simp⟩
      refine s_gput (d := ⟨false, [], 0, ks.set q k, cs.set q ((quarter h q L).length + 1 : Nat)⟩) g2 ⟨a, n, c, rfl, hsl, by simpa using hk4, by simpa using hc4⟩ ok ⟨hdd.1, hdd.2.1⟩ (by simp) fun H' g3 m3 => hR' H' (k1 hsucc _ T' H' u1 u2 (fun hlow => u3 (hB hlow)) (u4.mono (by omega)) (D2.set ⟨hdd.1, hdd.2.1⟩ ok) g3 (m2'.trans m3))
    rcases hJ q hq4 with ⟨e1, e2, e3, e4⟩ | ⟨e1, e2, e3, e4⟩
    · -- a new quarter
      refine ⟨rq, br (fun _ => ?_) fun q0 => by rw [e2] at q0; simp at q0⟩
      rw [e1, nq_nil] at hdf
      have hq0 : (quarter h q L).length = 0 := by rw [e1]; rfl
      have hi1 : nds h (insP (quarter h q L) p) = 1 := nds_small (by omega)
      rw [e1] at hi1
      refine s_gfresh (hg.le hle1) (fun k l hf H2 g2 m2 => .inl ⟨_, rfl, rq, rq, rq, _, none_le _, rq, ?_⟩) fun hf => .inr ⟨_, rfl, k2 (by rw [hf]; simp; omega) _ (GMod.of_le hle1)⟩
      have hx4 := take_tail hf
      have hgt : (List.set ks q k).getD q 0 = k := by rw [getD_set (by omega), if_pos rfl]
      rw [hgt]
      simp only [delLs_nil]
      refine s_kid (h := h) (by omega) hx hy hq4 (.inl ⟨keep_none _ _, _, _, _, rfl, ?_⟩)
      have ok1 : NdOK nd1 := leafOK LOK.nil (by simp) (by omega)
      have hfm : (freeL m).length = l.length + 1 := by rw [hf]; rfl
      refine ih (L := []) (T := []) (by omega) rfl (hx.kid (by omega) (by omega)) (hy.kid (by omega) (by omega)) (by simp) g2 (hD.set ⟨hx4.2.1, hx4.2.2.1⟩ ok1) LOK.nil (TrP_nil setM_same) (by simp) hpo hpr (by simp) (fun _ m3 T3 H3 f1 f2 f3 f4 D3 g3 m3' => .inl ⟨keep_none _ _, rfl, ?_⟩) fun hlt H3 m3 => by rw [hi1, nds_small (by simp)] at hlt; omega
      have hR := (Rpl.fresh hf (d := nd1)).trans f2
      rw [e1] at fin
      have hC : Chg m m3 (h + nch 0) := by
        obtain ⟨D, d1, d2⟩ := f4
        refine ⟨D, d1, fun i hi a b => ?_⟩
        have hik : i ≠ k := by rintro rfl; exact a hx4.1
        have := d2 i hi (by rw [setM_ne hik]; exact a) b
        rw [setM_ne hik] at this; exact this
      refine fin m3 (k :: T3) k _ H3 _ _ (by rw [e4]; exact hR) (.inr ⟨fun e => by have := insP_len [] p; rw [e] at this; simp at this, by omega, by rw [insP_len], f1⟩) (fun _ i hi => by rw [e4] at hi; cases hi) hC (by have : nch 0 = 1 := rfl; omega) D3 g3 (((GMod.of_le hle1).trans m2).trans m3') (.inr (m2.trans m3')) ⟨hx4.2.1, hx4.2.2.1⟩ (by omega) (by rw [e3]; rfl) fun H' h => .inl ⟨rfl, h⟩
    · -- one that is there
      refine ⟨rq, br (fun q0 => by exfalso; have q1 : ks.getD q 0 = 0 := eq_of_beq q0; rw [q1] at e2; omega) fun _ => ?_⟩
      rw [nq_some e1] at hdf
      have hks := hqa q hq4
      refine ⟨rq, rq, _, none_le _, rq, ?_⟩
      simp only [delLs_nil]
      obtain ⟨T1, hT1⟩ := TrP_head e4
      obtain ⟨hid4, hn4⟩ := List.nodup_cons.1 hn
      have hnq := (nodup_four.1 hn4).1 q hq4
      refine s_kid (h := h) (by omega) hx hy hq4 (.inl ⟨keep_none _ _, _, _, _, rfl, ?_⟩)
      rw [hT1] at e4 hnq
      refine ih (L := quarter h q L) (T := T1) (by omega) rfl (hx.kid (by omega) (by omega)) (hy.kid (by omega) (by omega)) (by omega) (hg.le hle1) hD (hL.sub List.filter_sublist) e4 hnq hpo hpr hpq (fun hle m3 T3 H3 f1 f2 f3 f4 D3 g3 m3' => .inl ⟨keep_none _ _, rfl, ?_⟩) fun hlt H3 m3 => .inr ⟨_, rfl, k2 (by omega) _ ((GMod.of_le hle1).trans m3)⟩
      have := fin m3 (ks.getD q 0 :: T3) (ks.getD q 0) _ H3 (fun e H' => e = .returned unitV ∧ R (.returned unitV) H' ∨ ∃ c, e = .panicked c ∧ R (.panicked c) H') (IntKind.i64.wrap (cs.getD q 0 + 1)) (by rw [hT1]; exact f2) (.inr ⟨hne, e2, by rw [hQl], f1⟩) (fun hlow i hi => by rw [hT1] at hi; exact f3 hlow i hi) f4 (by omega) D3 g3 ((GMod.of_le hle1).trans m3') (.inr m3') ⟨e2, hks.2.1⟩ (by omega) (by rw [e3, w64 (by omega)]; rfl) fun H' h => .inl ⟨rfl, h⟩
      rw [set_self (by omega)] at this
      exact this
end
end Cr

set_option linter.unusedVariables false
set_option linter.unusedSimpArgs false
namespace Cr
open Go Sx Stb Bt
open Go.Sort (SWO)
open Go.Proofs.Try
set_option maxRecDepth 100000
/-- Is it the same point's Id and place? -/
def mt (p x : Pt) : Bool := x.id == p.id && (x.x == p.x && x.y == p.y)
def cutP (L : List Pt) (p : Pt) : List Pt := L.filter fun x => !mt p x
theorem cutP_perm {l : List Pt} {p : Pt} (hn : (l.map Pt.id).Nodup) {i : Nat} {x : Pt} (hi : l[i]? = some x) (hx : mt p x = true) : (l.eraseIdx i).Perm (l.filter fun x => !mt p x) := by
  induction l generalizing i with
  | nil => simp at hi
  | cons y l ih =>
    rw [List.map_cons, List.nodup_cons] at hn
    have hxi : x.id = p.id := by
      unfold mt at hx
      simp only [Bool.and_eq_true, beq_iff_eq] at hx
      exact hx.1
    cases i with
    | zero =>
      simp at hi
      subst hi
      rw [List.eraseIdx_zero, List.tail_cons, List.filter_cons, hx]
      simp only [Bool.not_true, Bool.false_eq_true, if_false]
      rw [List.filter_eq_self.2]
      intro z hz
      have : z.id ≠ p.id := fun e => hn.1 (by rw [hxi, ← e]; exact List.mem_map_of_mem hz)
      simp [mt, this]
    | succ i =>
      simp only [List.getElem?_cons_succ] at hi
      have hy : mt p y = false := by
        have : y.id ≠ p.id := fun e => hn.1 (by rw [e, ← hxi]; exact List.mem_map_of_mem (List.mem_of_getElem? hi))
        simp [mt, this]
      rw [List.eraseIdx_cons_succ, List.filter_cons, hy]
      exact (ih hn.2 hi).cons y
section
variable {R : Ending → Heap → Prop} {H : Heap}
theorem s_sdel {v : Value} {ty : Nat} {l : List Pt} {i : Nat} (hrow : RowAt H v ty 4 (pts l)) (hi : i < l.length) (hl : l.length ≤ 1000000) (k : ∀ v' H', RowAt H' v' ty 4 (pts (l.eraseIdx i)) → blockOf v' = blockOf v → Mod v H H' → R (.returned v') H') :
    Meets prog 113 [v, vi i, vi ((i : Int) + 1)] H R := by
  obtain ⟨a, c, rfl⟩ := row_val hrow
  have hpl : (pts l).length = l.length := by simp [pts]
  rw [hpl] at hrow k ⊢
  have hcap := (row_len hrow).2
  obtain ⟨A, rfl⟩ : ∃ A, a = some A := by
    obtain ⟨A, e, _⟩ := pr_get (row_slice hrow) (i := i) (p := l[i]) (List.getElem?_eq_getElem hi)
    exact ⟨A, e⟩
  refine spec_of func113 (by kernel_rfl) (fun t h => by cases h) ?_ (vc_sdel (some A) l.length c i ((i : Int) + 1) R H) ?_
  · simp [argsR, SV.rep, SC.rep, one]
  unfold nf_sdel
  have e1 : ((i : Int) + 1).toNat = i + 1 := by omega
  rw [e1, Int.toNat_natCast, Int.toNat_natCast, Nat.sub_zero, Nat.sub_zero, Int.toNat_natCast]
  have hcz : subAddr (some A) c 0 4 = some A := by
    unfold subAddr
    split
    · rfl
    · simp
  have hsp : A.spot = none := by
    obtain ⟨A', e, h0, _⟩ := slice_get (row_slice hrow) (i := i) (e := ptC l[i]) (by simp [pts, List.getElem?_eq_getElem hi])
    cases e; exact h0
  have hlast : ∀ k : Nat, k < c → subAddr (some A) c k 4 = some (A.add (k * 4)) := fun k hk => by
    unfold subAddr
    rw [if_neg (by omega)]
    rfl
  refine ⟨⟨by omega, by omega⟩, ⟨by omega, by omega⟩, ⟨by omega, by omega⟩, br (fun q => by simp at q; omega) fun _ => ?_⟩
  refine ⟨⟨by omega, by omega⟩, ⟨by omega, by omega⟩, by omega, pts (l.drop (i + 1)), ?_, ?_⟩
  · have := slice_suf (row_slice hrow) (lo := i + 1) (by omega)
    simpa [pts] using this
  rw [hcz]
  have hn1 : i + (l.length - (i + 1)) = l.length - 1 := by omega
  rw [hn1, hlast (l.length - 1) (by omega)]
  have herase : l.eraseIdx i = l.take i ++ l.drop (i + 1) := List.eraseIdx_eq_take_drop_succ ..
  have hsub1 : l.length - (l.length - 1) = 1 := by omega
  rw [hsub1]
  have z1 : (List.replicate 1 [vi 0, .int .u32 0, .int .u32 0, .string { data := #[] }]).length = 1 := rfl
  -- the last one is cleared
  have clear : ∀ {H1 : Heap} {x : Pt}, RowAt H1 (.slice (some A) l.length c) ty 4 (pts (l.take i ++ l.drop (i + 1)) ++ pts [x]) → Mod (.slice (some A) l.length c) H H1 →
      ∃ A', ∃ (c_1 : Array Value), ∃ ty', some (A.add ((l.length - 1) * 4)) = some A' ∧ (H1 A'.block = some (.cells c_1 ty' (0, 0)) ∧ A'.spot = none ∧ A'.off + 1 * 4 ≤ c_1.size) ∧ R (.returned (.slice (some A) (l.length - 1) c)) (H1.upd A'.block (.cells (writeCells c_1 A'.off (List.replicate 1 [vi 0, .int .u32 0, .int .u32 0, .string { data := #[] }]).flatten) ty' (0, 0))) := by
    intro H1 x hr hm
    have hl1 : (pts (l.take i ++ l.drop (i + 1))).length = l.length - 1 := by simp [pts]; omega
    obtain ⟨cl, ⟨g1, g2, g3⟩, g4, g5⟩ := row_fill hr (ws := List.replicate 1 [vi 0, .int .u32 0, .int .u32 0, .string { data := #[] }]) (by simp [pts]) (by intro e he; rw [List.eq_of_mem_replicate he]; rfl) (by intro e he x hx; rw [List.eq_of_mem_replicate he] at hx; simp at hx; rcases hx with rfl | rfl | rfl | rfl <;> rfl)
    rw [hl1] at g3 g4 g5
    rw [z1] at g3
    refine ⟨_, cl, ty, rfl, ?_, ?_⟩
    · rw [add_spot hsp]
      exact ⟨g1, rfl, g3⟩
    · rw [add_spot hsp]
      have := row_prefix g4
      rw [hl1] at this
      have hb : (Value.slice (some A) (l.length - 1) c) = .slice (some A) (pts (l.eraseIdx i)).length c := by rw [herase, hl1]
      refine k _ _ ?_ rfl (hm.trans g5)
      rw [herase]; exact this
  by_cases hlt : i + 1 = l.length
  · refine .inl ⟨by rw [List.drop_of_length_le (by omega)]; rfl, ⟨by omega, by omega⟩, ⟨by omega, by omega⟩, .inr ?_⟩
    refine clear (x := l[i]) ?_ (Mod.refl _ _)
    have : pts (l.take i ++ l.drop (i + 1)) ++ pts [l[i]] = pts l := by
      rw [List.drop_of_length_le (by omega), List.append_nil, ← List.map_append]
      congr 1
      conv => rhs; rw [← List.take_append_drop i l, List.drop_eq_getElem_cons hi, List.drop_of_length_le (by omega : l.length ≤ i + 1)]
    rw [this]; exact hrow
  · have hdl : (l.drop (i + 1)).length = l.length - (i + 1) := by simp
    have hsplit : pts l = pts (l.take i) ++ pts ((l.drop i).take (l.length - (i + 1))) ++ pts [l[l.length - 1]] := by
      rw [← List.map_append, ← List.map_append]
      congr 1
      conv => lhs; rw [← List.take_append_drop i l]
      rw [List.append_assoc]
      congr 1
      conv => lhs; rw [← List.take_append_drop (l.length - (i + 1)) (l.drop i)]
      congr 1
      rw [List.drop_drop]
      have : i + (l.length - (i + 1)) = l.length - 1 := by omega
      rw [this, List.drop_eq_getElem_cons (by omega), List.drop_of_length_le (by omega)]
    rw [hsplit] at hrow
    obtain ⟨cl, ⟨g1, g2, g3⟩, g4, g5⟩ := row_mid hrow (ws := pts (l.drop (i + 1))) (by simp [pts]; omega) (by intro e he; obtain ⟨p, _, rfl⟩ := List.mem_map.1 he; rfl) (by intro e he; obtain ⟨p, _, rfl⟩ := List.mem_map.1 he; exact ptC_one p)
    have hl0 : (pts (l.take i)).length = i := by simp [pts]; omega
    rw [hl0] at g3 g4 g5
    refine .inr ⟨A, cl, ty, rfl, ⟨g1, g2, g3⟩, ⟨by omega, by omega⟩, ⟨by omega, by omega⟩, .inr ?_⟩
    refine clear (x := l[l.length - 1]) ?_ g5
    rw [show pts (l.take i ++ l.drop (i + 1)) = pts (l.take i) ++ pts (l.drop (i + 1)) from List.map_append ..]
    exact g4
theorem s_total {v : Value} {d : Nd} (h : NdAt H v d) (hl : d.pts.length ≤ 1000000) (hs : d.leaf = false → QuaOK d.kids d.counts) (k : R (.returned (vi (if d.leaf then (d.pts.length : Int) else d.counts.getD 0 0 + d.counts.getD 1 0 + d.counts.getD 2 0 + d.counts.getD 3 0))) H) :
    Meets prog 106 [v] H R := by
  obtain ⟨a, n, c, rfl, h1, h2, h3⟩ := h
  have hln : d.pts.length = n := by simpa [pts] using (slice_len h1).1
  refine spec_of func106 (by kernel_rfl) (fun t h => by cases h) ?_ (vc_total d.leaf a n c d.next d.kids d.counts R H) ?_
  · simp [argsR, SV.rep, SegsRep, SC.rep, one, h2, h3]
  unfold nf_total
  refine br (fun q => ?_) fun q => ?_
  · rw [if_pos q, hln] at k; exact k
  · rw [if_neg (by simp [q])] at k
    have hq := hs q
    have := hq 0 (by omega); have := hq 1 (by omega); have := hq 2 (by omega); have := hq 3 (by omega)
    rw [w64 (k := d.counts.getD 0 0 + d.counts.getD 1 0) (by omega), w64 (k := d.counts.getD 0 0 + d.counts.getD 1 0 + d.counts.getD 2 0) (by omega), w64 (by omega)]
    exact ⟨⟨by omega, by omega⟩, ⟨by omega, by omega⟩, ⟨by omega, by omega⟩, ⟨by omega, by omega⟩, k⟩
theorem pred_cut1 {b : Nat} {p : Pt} : PredOK (fun _ => True) (fun H => H b = some (.cells #[vi p.id, .int .u32 p.x, .int .u32 p.y, .string p.data] 28 (0, 0))) 110 #[.pointer (some ⟨b, 0, none⟩)] (mt p) := by
  intro x H R _ hI k
  refine spec_of func110 (by kernel_rfl) (fun t h => by cases h) ?_ (vc_cut1 ⟨b, 0, none⟩ x.id x.x x.y x.data R H) ?_
  · simp [argsR, SV.rep, SegsRep, SC.rep, one]
  unfold nf_cut1
  have hc := has_cells hI
  unfold mt at k
  refine ptr rfl (ptr rfl ⟨_, has_one hc rfl rfl, br (fun q => ?_) fun q => ?_⟩)
  · refine ptr rfl (ptr rfl ⟨_, has_one hc rfl rfl, br (fun q1 => ?_) fun q1 => ?_⟩)
    · refine ptr rfl (ptr rfl ⟨_, has_one hc rfl rfl, ?_⟩)
      rw [q, q1] at k; exact k
    · rw [q, q1] at k; exact k
  · rw [q] at k; exact k
theorem quarter_cutP {L : List Pt} {p : Pt} {h j : Nat} : quarter h j (cutP L p) = cutP (quarter h j L) p := by
  unfold quarter cutP
  rw [List.filter_filter, List.filter_filter]
  exact List.filter_congr fun x _ => Bool.and_comm _ _
theorem mt_qt {p x : Pt} {h : Nat} (e : mt p x = true) : qt h x = qt h p := by
  unfold mt at e
  simp only [Bool.and_eq_true, beq_iff_eq] at e
  unfold qt
  rw [e.2.1, e.2.2]
theorem cutP_off {L : List Pt} {p : Pt} (h : ∀ x ∈ L, mt p x = false) : cutP L p = L := List.filter_eq_self.2 fun x hx => by rw [h x hx]; rfl
theorem cutP_len {L : List Pt} {p : Pt} (hr : L.Pairwise fun p q => p.id < q.id) (h : ∃ x ∈ L, mt p x = true) : (cutP L p).length + 1 = L.length := by
  obtain ⟨x, hx, hm⟩ := h
  obtain ⟨i, hi⟩ := List.mem_iff_getElem?.1 hx
  have := (cutP_perm (rise_nodup hr) hi hm).length_eq
  have hil := (List.getElem?_eq_some_iff.1 hi).1
  unfold cutP
  rw [← this, List.length_eraseIdx_of_lt hil]
  omega
theorem sum_quarters {h : Nat} {L : List Pt} (hr : ∀ p ∈ L, PtR p) : (quarter h 0 L).length + (quarter h 1 L).length + (quarter h 2 L).length + (quarter h 3 L).length = L.length := by
  have := (quarters_perm (h := h) hr).length_eq
  simp only [List.length_append] at this
  omega
theorem s_cut_small {h : Nat} {g : Addr} {r : Nat} {m : M} {id x y lv : Int} {p : Pt} {L : List Pt} {T : List Int} {d : Nd} (hd : m id = some d) (hsm : d.leaf = true ∨ (d.leaf = false ∧ d.counts.getD 0 0 + d.counts.getD 1 0 + d.counts.getD 2 0 + d.counts.getD 3 0 ≤ 5)) (hh : h ≤ 32) (hlv : lv = 32 - (h : Int)) (hx : Cor h x) (hy : Cor h y)
    (hbig : L.length ≤ 50000) (hg : GroveAt H g r m) (hD : Dom m) (hL : LOK L) (ht : TrP m h id L (id :: T)) (hn : (id :: T).Nodup) (hpr : PtR p)
    (k1 : (∃ x ∈ L, mt p x = true) → ∀ m' T' H', TrP m' h id (cutP L p) (id :: T') → Rpl m m' (id :: T) (id :: T') → Dom m' → GroveAt H' g r m' → GMod r H H' → R (.returned unitV) H')
    (k2 : (∀ x ∈ L, mt p x = false) → ∀ H', GMod r H H' → R (.panicked (stopE 14)) H') :
    Meets prog 76 [grV (some g), vi id, ceV x y lv, ptV p] H R := by
  refine spec_of func76 (by kernel_rfl) (fun t h => by cases h) ?_ (vc_cut (some g) id x y lv p.id p.x p.y p.data R H) ?_
  · simp [argsR, SV.rep, SegsRep, SC.rep, one]
  unfold nf_cut
  have hfew := hD.few hd
  have hdd := hD id d hd
  have hok := hdd.2.2
  unfold NdOK at hok
  refine s_gget hg hd (by omega) (fun d' e => by rw [hd] at e; cases e; omega) fun v H1 hle1 hv1 => ?_
  have hv1' := hv1
  obtain ⟨a, n, c, rfl, hs1, hk, hc⟩ := hv1
  refine .inl ⟨_, a, n, c, _, _, hk, _, hc, rfl, ?_⟩
  have quar : ∀ (R' : Ending → Heap → Prop), (∀ n : Int, R' (.returned (vi n)) H1) → Meets prog 94 [ceV x y lv, .int .u32 p.x, .int .u32 p.y] H1 R' := fun R' hR' => by
    subst hlv
    cases h with
    | zero => exact s_quar0 (hx.lt (by omega)) (hy.lt (by omega)) (hR' _)
    | succ h => exact s_quar (h := h) (by omega) (hx.lt (by omega)) (hy.lt (by omega)) ⟨hpr.1, hpr.2.1⟩ ⟨hpr.2.2.1, hpr.2.2.2⟩ (hR' _)
  refine quar _ fun n0 => .inl ⟨_, rfl, ?_⟩
  obtain ⟨L', hperm, hF⟩ := TrP_FT hD hL.range ht
  have hlen := dom_len hD hn (TrP_there ht)
  have hpl := hperm.length_eq
  have hnd' : (L'.map Pt.id).Nodup := (hperm.map Pt.id).nodup_iff.2 (rise_nodup hL.rise)
  obtain ⟨r1, r2⟩ := regrow (cutP L p) ht hn hD
  have hsub : nds h (cutP L p) ≤ nds h L := nds_mono List.filter_sublist
  simp only [delLs_nil]
  refine br (fun q => ?A) fun q => s_total hv1' (by omega) (fun e => by rw [if_neg (by simp [e])] at hok; exact hok.2.2) (.inl ⟨_, rfl, br (fun q2 => ?B) fun q2 => ?C⟩)
  case C =>
    exfalso
    rcases hsm with e | ⟨e, e2⟩
    · rw [e] at q; cases q
    · rw [if_neg (by simp [e])] at q2
      rw [if_neg (by simp [e])] at hok
      have hq := hok.2.2
      have := hq 0 (by omega); have := hq 1 (by omega); have := hq 2 (by omega); have := hq 3 (by omega)
      simp only [decide_eq_false_iff_not] at q2
      rw [w64 (by omega)] at q2
      omega
  case A | B =>
    refine s_fell _ (Nat.le_refl _) (hg.le hle1) hD hF hn (by omega) (by omega) (by omega) fun v2 H2 hg2 hm2 hfr2 hrow2 => ?_
    simp only [List.tail_cons] at hg2
    obtain ⟨a2, c2, rfl⟩ := row_val hrow2
    refine .inl ⟨_, _, _, rfl, fun b hb => ?_⟩
    have hv2 : ∀ b', blockOf (.slice a2 (pts L').length c2) = some b' → b' ≠ b := fun b' e => by
      rintro rfl
      rcases hrow2 with ⟨e1, _⟩ | ⟨b2, o, cap, cc, e1, e2, _⟩
      · rw [e1] at e; cases e
      · rw [e1] at e; cases e; rw [e2] at hb; cases hb
    have e0 : ∀ (o : Obj), (H2.upd b o).delO (blockOf (.pointer (some ⟨b, 0, none⟩))) = H2 := fun o => upd_del hb
    refine s_idx pred_cut1 (slice_le (row_slice hrow2) (upd_le hb)) (upd_same _ _ _) (fun _ _ => trivial) (by omega) (fun i hi => ?_) fun hno => ?_
    · refine .inl ⟨_, rfl, _, _, _, _, ⟨b, rfl, upd_same _ _ _⟩, ?_⟩
      rw [e0]
      rw [List.findIdx?_eq_some_iff_getElem] at hi
      obtain ⟨hil, hmi, _⟩ := hi
      have hgi : L'[i]? = some L'[i] := List.getElem?_eq_getElem hil
      have hex : ∃ x ∈ L, mt p x = true := ⟨L'[i], hperm.subset (List.getElem_mem hil), hmi⟩
      refine s_need (fun _ => .inl ⟨rfl, _, none_le _, ?_⟩) fun q => by simp at q
      rw [w64 (by omega)]
      refine s_sdel hrow2 hil (by omega) fun v3 H3 hrow3 hbl hmod => ?_
      obtain ⟨a3, c3, rfl⟩ := row_val hrow3
      have hg3 : GroveAt H3 g r (delsM m T) := by
        rw [← row_del_eq hmod] at hg2
        exact hg2.le (delO_le _ _)
      have hm3 : GMod r H H3 := by
        rw [← row_del_eq hmod] at hm2
        exact ((GMod.of_le (r := r) hle1).trans hm2).trans (GMod.of_le (r := r) (delO_le _ _))
      have hsrt : sortP (L'.eraseIdx i) = cutP L p := by
        have h1 := cutP_perm hnd' hgi hmi
        exact sortP_perm (hL.rise.sublist List.filter_sublist) (h1.trans (hperm.filter _))
      refine .inl ⟨keep_none _ _, _, _, _, rfl, ?_⟩
      refine s_again (h := h) hh hlv hx hy (by have := List.length_eraseIdx_le L' i; omega) hg3 (hD.dels T) (by rw [hsrt]; exact hL.sub List.filter_sublist) (row_slice hrow3) ⟨hdd.1, hdd.2.1⟩ (fun m' H4 e4 D4 g4 m4 => .inl ⟨keep_none _ _, rfl, ?_⟩) fun e4 H4 m4 => ?_
      · rw [hsrt] at e4
        obtain ⟨m'', T', f1, f2, f3, f4, f5⟩ := r1 (by omega)
        rw [f1] at e4; cases e4
        exact k1 hex _ T' H4 f2 f3 D4 g4 (hm3.trans m4)
      · rw [hsrt] at e4
        obtain ⟨m'', T', f1, _⟩ := r1 (by omega)
        rw [f1] at e4; cases e4
    · refine .inl ⟨_, rfl, _, _, _, _, ⟨b, rfl, upd_same _ _ _⟩, ?_⟩
      rw [e0]
      refine s_need (fun q => by simp at q) fun _ => .inr ⟨_, rfl, k2 (fun x hx => ?_) _ (((GMod.of_le (r := r) hle1).trans hm2).trans (GMod.of_le (r := r) (delO_le _ _)))⟩
      exact List.findIdx?_eq_none_iff.1 hno x (hperm.symm.subset hx)
/-- A point is cut out below a node. -/
theorem s_cut : ∀ (h : Nat) {g : Addr} {r : Nat} {m : M} {id x y lv : Int} {p : Pt} {L : List Pt} {T : List Int} {H : Heap} {R : Ending → Heap → Prop}, h ≤ 32 → lv = 32 - (h : Int) → Cor h x → Cor h y → L.length ≤ 50000 → GroveAt H g r m → Dom m → LOK L → TrP m h id L (id :: T) → (id :: T).Nodup → PtR p →
    ((∃ x ∈ L, mt p x = true) → ∀ m' T' H', TrP m' h id (cutP L p) (id :: T') → Rpl m m' (id :: T) (id :: T') → Dom m' → GroveAt H' g r m' → GMod r H H' → R (.returned unitV) H') →
    ((∀ x ∈ L, mt p x = false) → ∀ H', GMod r H H' → R (.panicked (stopE 14)) H') →
    Meets prog 76 [grV (some g), vi id, ceV x y lv, ptV p] H R := by
  intro h
  induction h with
  | zero =>
    intro g r m id x y lv p L T H R hh hlv hx hy hbig hg hD hL ht hn hpr k1 k2
    obtain ⟨d, hd, hlf⟩ : ∃ d, m id = some d ∧ d.leaf = true := by
      obtain ⟨_, hc⟩ := ht
      cases T with
      | nil => exact ⟨_, hc.2, rfl⟩
      | cons a b => exact ⟨_, hc.2.1, rfl⟩
    exact s_cut_small hd (.inl hlf) hh hlv hx hy hbig hg hD hL ht hn hpr k1 k2
  | succ h ih =>
    intro g r m id x y lv p L T H R hh hlv hx hy hbig hg hD hL ht hn hpr k1 k2
    by_cases hl4 : L.length ≤ 4
    · obtain ⟨d, hd, hlf⟩ : ∃ d, m id = some d ∧ d.leaf = true := by
        unfold TrP at ht
        rw [if_pos hl4] at ht
        obtain ⟨e, hc⟩ := ht
        cases e
        exact ⟨_, hc.2, rfl⟩
      exact s_cut_small hd (.inl hlf) hh hlv hx hy hbig hg hD hL ht hn hpr k1 k2
    have ht0 := ht
    unfold TrP at ht
    rw [if_neg hl4] at ht
    obtain ⟨ks, cs, J, h1, hk4, hc4, hT, hJ⟩ := ht
    cases hT
    have hcsq : ∀ q, q < 4 → cs.getD q 0 = ((quarter h q L).length : Int) := fun q hq => by
      rcases hJ q hq with ⟨e1, _, e3, _⟩ | ⟨_, _, e3, _⟩
      · rw [e1, e3]; rfl
      · exact e3
    have hsum := sum_quarters (h := h) hL.range
    have hsum' : cs.getD 0 0 + cs.getD 1 0 + cs.getD 2 0 + cs.getD 3 0 = (L.length : Int) := by
      rw [hcsq 0 (by omega), hcsq 1 (by omega), hcsq 2 (by omega), hcsq 3 (by omega)]; omega
    by_cases hl5 : L.length ≤ 5
    · exact s_cut_small h1 (.inr ⟨rfl, by simp only; omega⟩) hh hlv hx hy hbig hg hD hL ht0 hn hpr k1 k2
    have hdd := hD id _ h1
    have hqa : QuaOK ks cs := by
      have := hdd.2.2
      unfold NdOK at this
      rw [if_neg (by simp)] at this
      exact this.2.2
    refine spec_of func76 (by kernel_rfl) (fun t h => by cases h) ?_ (vc_cut (some g) id x y lv p.id p.x p.y p.data R H) ?_
    · simp [argsR, SV.rep, SegsRep, SC.rep, one]
    unfold nf_cut
    refine s_gget hg h1 (by simp) (fun d' e => by rw [h1] at e; cases e; simp) fun v H1 hle1 hv1 => ?_
    have hv1' := hv1
    obtain ⟨a, n, c, rfl, hs1, hk, hc⟩ := hv1
    refine .inl ⟨_, a, n, c, _, _, hk, _, hc, rfl, ?_⟩
    subst hlv
    obtain ⟨q, hqq, hq4⟩ : ∃ q : Nat, qt h p = (q : Int) ∧ q < 4 := ⟨(qt h p).toNat, by have := qt_range (h := h) (p := p); omega, by have := qt_range (h := h) (p := p); omega⟩
    refine s_quar (h := h) (by omega) (hx.lt (by omega)) (hy.lt (by omega)) ⟨hpr.1, hpr.2.1⟩ ⟨hpr.2.2.1, hpr.2.2.2⟩ (.inl ⟨_, rfl, ?_⟩)
    have hqq' : p.x / 2 ^ h % 2 + 2 * (p.y / 2 ^ h % 2) = (q : Int) := hqq
    rw [hqq', Int.toNat_natCast]
    have rq : (0 : Int) ≤ (q : Int) ∧ (q : Int) < (4 : Int) := ⟨by omega, by omega⟩
    refine br (fun q0 => by cases q0) fun _ => s_total hv1' (by simp) (fun _ => hqa) (.inl ⟨_, rfl, br (fun q2 => ?_) fun _ => ?_⟩)
    · exfalso
      simp only [Bool.false_eq_true, if_false, decide_eq_true_eq] at q2
      rw [hsum', w64 (by omega)] at q2
      omega
    have hmatch : ∀ x ∈ L, mt p x = true → x ∈ quarter h q L := fun x hx e => List.mem_filter.2 ⟨hx, by rw [mt_qt e, hqq]; simp⟩
    have hCn : ∀ j, j < 4 → j ≠ q → quarter h j (cutP L p) = quarter h j L := fun j hj hne => by
      rw [quarter_cutP]
      refine cutP_off fun x hx => ?_
      have hx' := (List.mem_filter.1 hx).2
      cases e : mt p x with
      | false => rfl
      | true =>
        rw [mt_qt e, hqq] at hx'
        simp only [beq_iff_eq, Int.natCast_inj] at hx'
        exact absurd hx'.symm hne
    simp only [delLs_nil]
    refine ⟨rq, s_need (fun q1 => .inl ⟨rfl, ?_⟩) fun q1 => .inr ⟨_, rfl, k2 (fun x hx => ?_) _ (GMod.of_le hle1)⟩⟩
    rotate_left
    · -- nothing stands there
      simp only [decide_eq_false_iff_not] at q1
      rcases hJ q hq4 with ⟨e1, _⟩ | ⟨_, e2, _⟩
      · cases e : mt p x with
        | false => rfl
        | true => have := hmatch x hx e; rw [e1] at this; cases this
      · omega
    simp only [decide_eq_true_eq] at q1
    refine s_need (fun _ => .inl ⟨rfl, rq, rq, _, none_le _, rq, ?_⟩) fun q => by simp at q; omega
    rcases hJ q hq4 with ⟨_, e2, _⟩ | ⟨e1, e2, e3, e4⟩
    · omega
    have hks := hqa q hq4
    obtain ⟨T1, hT1⟩ := TrP_head e4
    obtain ⟨hid4, hn4⟩ := List.nodup_cons.1 hn
    have hnq := (nodup_four.1 hn4).1 q hq4
    have hqle : (quarter h q L).length ≤ L.length := List.length_filter_le _ _
    have hqpos : 0 < (quarter h q L).length := List.length_pos_iff.2 e1
    have hrq := hL.rise.sublist (List.filter_sublist (p := fun p => qt h p == (q : Int)) (l := L))
    have hwc : IntKind.i64.wrap (cs.getD q 0 - 1) = (((quarter h q L).length - 1 : Nat) : Int) := by rw [e3, w64 (by omega)]; omega
    rw [hwc]
    have hsl : ∀ H2 : Heap, SliceAt H2 (.slice a n c) 4 (pts []) := fun H2 => by
      obtain ⟨hl0, _⟩ := slice_len hs1
      simp only [pts, List.map_nil, List.length_nil] at hl0
      subst hl0
      obtain ⟨a', n', c', e, q1, q2, _⟩ := hs1
      cases e
      exact ⟨_, _, _, rfl, rfl, q2, by simp, by simp, by simp⟩
    refine s_kid (h := h) (by omega) hx hy hq4 (.inl ⟨keep_none _ _, _, _, _, rfl, ?_⟩)
    rw [hT1] at e4 hnq
    refine ih (L := quarter h q L) (T := T1) (by omega) rfl (hx.kid (by omega) (by omega)) (hy.kid (by omega) (by omega)) (by omega) (hg.le hle1) hD (hL.sub List.filter_sublist) e4 hnq hpr (fun hex m3 T3 H3 f1 f2 D3 g3 m3' => .inl ⟨keep_none _ _, rfl, rq, ?_⟩) fun hno H3 m3 => .inr ⟨_, rfl, k2 (fun x hx => ?_) _ ((GMod.of_le hle1).trans m3)⟩
    rotate_left
    · cases e : mt p x with
      | false => rfl
      | true => have := hno x (hmatch x hx e); rw [e] at this; cases this
    have hexL : ∃ x ∈ L, mt p x = true := by
      obtain ⟨x, hx, e⟩ := hex
      exact ⟨x, (List.mem_filter.1 hx).1, e⟩
    have hcl := cutP_len hL.rise hexL
    have hclq : (cutP (quarter h q L) p).length + 1 = (quarter h q L).length := cutP_len hrq hex
    have hgd : (cs.set q (((quarter h q L).length - 1 : Nat) : Int)).getD q 0 = (((quarter h q L).length - 1 : Nat) : Int) := by rw [getD_set (by omega), if_pos rfl]
    rw [hgd]
    have hGM := (GMod.of_le (r := r) hle1).trans m3'
    have hC : Chg m m3 255 := by
      refine ⟨numsL, by simp, fun i hi a b => ?_⟩
      exfalso
      cases e : m i with
      | none => exact a e
      | some d => have := hD i d e; exact hi (mem_numsL.2 ⟨this.1, this.2.1⟩)
    refine br (fun q5 => ?_) fun q5 => ?_
    · -- the quarter has nothing any more
      have hq5 : (quarter h q L).length - 1 = 0 := by
        have := eq_of_beq q5
        omega
      have hc0 : cutP (quarter h q L) p = [] := List.length_eq_zero_iff.1 (by omega)
      rw [hc0] at f1
      have hT3 : T3 = [] := by
        have := TrP_len f1
        rw [nds_small (by simp)] at this
        simpa using this
      subst hT3
      have hth := TrP_there f1 _ (List.mem_cons_self ..)
      refine ⟨_, none_le _, rq, s_drop g3 fun H4 g4 m4 => .inl ⟨keep_none _ _, _, rfl, rq, ?_⟩⟩
      have hR := f2.trans (Rpl.drop hth ⟨e2, hks.2.1⟩)
      obtain ⟨T', u1, u2, _, _⟩ := inner_upd (L' := cutP L p) (k' := 0) (c' := 0) h1 hk4 hc4 hn hJ hq4 (by rw [hT1]; exact hR) (.inl ⟨by rw [quarter_cutP, hc0], rfl, rfl, rfl⟩) hCn (by omega) (n := 255) (by
        refine ⟨numsL, by simp, fun i hi a b => ?_⟩
        exfalso
        cases e : m i with
        | none => exact a e
        | some d => have := hD i d e; exact hi (mem_numsL.2 ⟨this.1, this.2.1⟩))
      have ok : NdOK ⟨false, [], 0, ks.set q 0, cs.set q 0⟩ := innerOK (quaOK_set hqa hk4 hc4 hq4 ⟨by omega, by omega, by omega, by omega, by omega⟩)
      have : (((quarter h q L).length - 1 : Nat) : Int) = 0 := by omega
      rw [this]
      refine s_gput (d := ⟨false, [], 0, ks.set q 0, cs.set q 0⟩) g4 ⟨a, n, c, rfl, hsl _, by simpa using hk4, by simpa using hc4⟩ ok ⟨hdd.1, hdd.2.1⟩ (by simp) fun H' g5 m5 => .inl ⟨rfl, k1 hexL _ T' H' u1 u2 ((D3.del).set ⟨hdd.1, hdd.2.1⟩ ok) g5 ((hGM.trans m4).trans m5)⟩
    · have hq5 : (quarter h q L).length - 1 ≠ 0 := fun e => by rw [e] at q5; simp at q5
      have hne : cutP (quarter h q L) p ≠ [] := fun e => by rw [e] at hclq; simp at hclq; omega
      obtain ⟨T', u1, u2, _, _⟩ := inner_upd (L' := cutP L p) (k' := ks.getD q 0) (c' := (((quarter h q L).length - 1 : Nat) : Int)) h1 hk4 hc4 hn hJ hq4 (by rw [hT1]; exact f2) (.inr ⟨by rw [quarter_cutP]; exact hne, e2, by rw [quarter_cutP]; omega, by rw [quarter_cutP]; exact f1⟩) hCn (by omega) hC
      rw [set_self (by omega)] at u1 u2
      have ok : NdOK ⟨false, [], 0, ks, cs.set q (((quarter h q L).length - 1 : Nat) : Int)⟩ := by
        have := quaOK_set hqa hk4 hc4 hq4 (k := ks.getD q 0) (c := (((quarter h q L).length - 1 : Nat) : Int)) ⟨by omega, by omega, by omega, by omega, by omega⟩
        rw [set_self (by omega)] at this
        exact innerOK this
      refine s_gput (d := ⟨false, [], 0, ks, cs.set q (((quarter h q L).length - 1 : Nat) : Int)⟩) g3 ⟨a, n, c, rfl, hsl _, hk4, by simpa using hc4⟩ ok ⟨hdd.1, hdd.2.1⟩ (by simp) fun H' g5 m5 => .inl ⟨rfl, k1 hexL _ T' H' u1 u2 (D3.set ⟨hdd.1, hdd.2.1⟩ ok) g5 (hGM.trans m5)⟩
end
end Cr

set_option linter.unusedVariables false
set_option linter.unusedSimpArgs false
namespace Cr
open Go Sx Stb Bt
open Go.Proofs.Try
set_option maxRecDepth 100000
def h_pick : Hints := { loops := [(3, ⟨[0, 1, 2], [.row 7 28 4, .f 8 (.int .i64)], []⟩)] }
def h_rshape : Hints := { loops := [(7, ⟨[0, 1], [.row 5 3 1, .f 6 (.int .i64)], []⟩)] }
def nf_rqua (i : Int) (x : Int) (y : Int) (d : ByteArray) (lv : Int) (R : Ending → Heap → Prop) (H : Heap) : Prop := (0 : Int) ≤ IntKind.wrap IntKind.u64 (IntKind.wrap IntKind.i64 ((31 : Int) - lv)) ∧ (2 : Int) ≠ (0 : Int) ∧ (0 : Int) ≤ IntKind.wrap IntKind.u64 (IntKind.wrap IntKind.i64 ((31 : Int) - lv)) ∧ (2 : Int) ≠ (0 : Int) ∧ R (Ending.returned (Value.int IntKind.i64 (IntKind.wrap IntKind.i64 (IntKind.wrap IntKind.u32 (Int.tmod (shrI IntKind.u32 x (IntKind.wrap IntKind.u64 (IntKind.wrap IntKind.i64 ((31 : Int) - lv)))) (2 : Int) + IntKind.wrap IntKind.u32 ((2 : Int) * Int.tmod (shrI IntKind.u32 y (IntKind.wrap IntKind.u64 (IntKind.wrap IntKind.i64 ((31 : Int) - lv)))) (2 : Int))))))) H
theorem vc_rqua (i : Int) (x : Int) (y : Int) (d : ByteArray) (lv : Int) (R : Ending → Heap → Prop) (H : Heap) : vcFun prog { } f126 [ptA i x y d, SV.c (SC.v (Value.int IntKind.i64 lv))] R H = nf_rqua i x y d lv R H := by kernel_rfl

def nf_pick (a : Option Addr) (n : Nat) (c : Nat) (lv : Int) (q : Int) (R : Ending → Heap → Prop) (H : Heap) : Prop := a = a ∧ n = n ∧ c = c ∧ lv = lv ∧ q = q ∧ LoopP (fun (K : (List (List Value) × Int × PUnit) × PUnit → (Nat → Option Obj) → Prop) (p : (List (List Value) × Int × PUnit) × PUnit) (H : Nat → Option Obj) ↦ Br (decide (p.fst.snd.fst < (↑n : Int))) (((0 : Int) ≤ p.fst.snd.fst ∧ p.fst.snd.fst < (↑n : Int)) ∧ PtrK a fun (A : Addr) ↦ PtrK (some (Addr.add A (Int.toNat p.fst.snd.fst * (4 : Nat)))) fun (a_1 : Addr) ↦ ∃ (n_1 : Int), ∃ (n_2 : Int), ∃ (n_3 : Int), ∃ (s : ByteArray), Heap.has H a_1 [Value.int IntKind.i64 n_1, Value.int IntKind.u32 n_2, Value.int IntKind.u32 n_3, Value.string s] ∧ Meets prog (126 : Nat) [Value.agg { toList := [Value.int IntKind.i64 n_1, Value.int IntKind.u32 n_2, Value.int IntKind.u32 n_3, Value.string s] }, Value.int IntKind.i64 lv] H fun (e : Ending) (H' : Nat → Option Obj) ↦ ∃ (n_4 : Int), e = Ending.returned (Value.int IntKind.i64 n_4) ∧ Br (n_4 == q) (((0 : Int) ≤ p.fst.snd.fst ∧ p.fst.snd.fst < (↑n : Int)) ∧ PtrK a fun (A : Addr) ↦ PtrK (some (Addr.add A (Int.toNat p.fst.snd.fst * (4 : Nat)))) fun (a_2 : Addr) ↦ ∃ (n_5 : Int), ∃ (n_6 : Int), ∃ (n_7 : Int), ∃ (s : ByteArray), Heap.has H' a_2 [Value.int IntKind.i64 n_5, Value.int IntKind.u32 n_6, Value.int IntKind.u32 n_7, Value.string s] ∧ List.length (List.append p.fst.fst [[Value.int IntKind.i64 n_5, Value.int IntKind.u32 n_6, Value.int IntKind.u32 n_7, Value.string s]]) * (32 : Nat) ≤ (140737488355328 : Nat) ∧ a = a ∧ n = n ∧ c = c ∧ lv = lv ∧ q = q ∧ K ((List.append p.fst.fst [[Value.int IntKind.i64 n_5, Value.int IntKind.u32 n_6, Value.int IntKind.u32 n_7, Value.string s]], IntKind.wrap IntKind.i64 (p.fst.snd.fst + (1 : Int)), PUnit.unit), PUnit.unit) H') (a = a ∧ n = n ∧ c = c ∧ lv = lv ∧ q = q ∧ K ((p.fst.fst, IntKind.wrap IntKind.i64 (p.fst.snd.fst + (1 : Int)), PUnit.unit), PUnit.unit) H')) (∀ (v : Value) (H' : Nat → Option Obj), H ≤ H' → (∀ (b : Nat), blockOf v = some b → H b = none) → (∀ (b : Nat) (o : Obj), H' b = some o → H b = some o ∨ blockOf v = some b) → RowAt H' v (28 : Nat) (4 : Nat) p.fst.fst → R (Ending.returned v) H')) (([], (0 : Int), PUnit.unit), PUnit.unit) H
theorem vc_pick (a : Option Addr) (n : Nat) (c : Nat) (lv : Int) (q : Int) (R : Ending → Heap → Prop) (H : Heap) : vcFun prog h_pick f98 [SV.c (SC.v (Value.slice a n c)), SV.c (SC.v (Value.int IntKind.i64 lv)), SV.c (SC.v (Value.int IntKind.i64 q))] R H = nf_pick a n c lv q R H := by kernel_rfl

def nf_rshape (a : Option Addr) (n : Nat) (c : Nat) (lv : Int) (R : Ending → Heap → Prop) (H : Heap) : Prop := Br (decide ((↑n : Int) ≤ (4 : Int))) (∀ (v : Value) (H' : Nat → Option Obj), H ≤ H' → (∀ (b : Nat), blockOf v = some b → H b = none) → (∀ (b : Nat) (o : Obj), H' b = some o → H b = some o ∨ blockOf v = some b) → RowAt H' v (3 : Nat) (1 : Nat) [[Value.int IntKind.i64 (↑n : Int)]] → R (Ending.returned v) H') (Br (lv == (32 : Int)) (((0 : Int) ≤ (4 : Int) ∧ (4 : Int) ≤ (↑n : Int)) ∧ Meets prog (64 : Nat) [Value.slice (subAddr a c (4 : Nat) (4 : Nat)) (n - (4 : Nat)) (c - (4 : Nat)), Value.int IntKind.i64 (32 : Int)] H fun (e : Ending) (H' : Nat → Option Obj) ↦ ∃ (a : Option Addr), ∃ (n : Nat), ∃ (c : Nat), e = Ending.returned (Value.slice a n c) ∧ ∃ (es2 : List (List Value)), SliceAt H' (Value.slice a n c) (1 : Nat) es2 ∧ List.length ([Value.int IntKind.i64 (4 : Int)] :: es2) * (8 : Nat) ≤ (140737488355328 : Nat) ∧ ∀ (v : Value) (H'_1 : Nat → Option Obj), H' ≤ H'_1 → (∀ (b : Nat), blockOf v = some b → H' b = none) → (∀ (b : Nat) (o : Obj), H'_1 b = some o → H' b = some o ∨ blockOf v = some b) → RowAt H'_1 v (3 : Nat) (1 : Nat) ([Value.int IntKind.i64 (4 : Int)] :: es2) → R (Ending.returned v) H'_1) (a = a ∧ n = n ∧ c = c ∧ lv = lv ∧ LoopP (fun (K : (List (List Value) × Int × PUnit) × PUnit → (Nat → Option Obj) → Prop) (p : (List (List Value) × Int × PUnit) × PUnit) (H : Nat → Option Obj) ↦ Br (decide (p.fst.snd.fst < (4 : Int))) (Meets prog (98 : Nat) [Value.slice a n c, Value.int IntKind.i64 lv, Value.int IntKind.i64 p.fst.snd.fst] H fun (e : Ending) (H' : Nat → Option Obj) ↦ ∃ (a_1 : Option Addr), ∃ (n_1 : Nat), ∃ (c_1 : Nat), e = Ending.returned (Value.slice a_1 n_1 c_1) ∧ Br (decide ((↑n_1 : Int) > (0 : Int))) (((0 : Int) ≤ (0 : Int) ∧ (0 : Int) < (↑(List.length p.fst.fst) : Int)) ∧ ∃ (n_2 : Int), (∃ (e : List Value), List.get?Internal p.fst.fst (0 : Nat) = some e ∧ List.take (1 : Nat) (List.drop (0 : Nat) e) = [Value.int IntKind.i64 n_2]) ∧ (0 : Int) ≤ IntKind.wrap IntKind.u64 p.fst.snd.fst ∧ ((0 : Int) ≤ (0 : Int) ∧ (0 : Int) < (↑(List.length p.fst.fst) : Int)) ∧ (0 : Nat) < List.length p.fst.fst ∧ Meets prog (64 : Nat) [Value.slice a_1 n_1 c_1, Value.int IntKind.i64 (IntKind.wrap IntKind.i64 (lv + (1 : Int)))] H' fun (e : Ending) (H' : Nat → Option Obj) ↦ ∃ (a_2 : Option Addr), ∃ (n_3 : Nat), ∃ (c_2 : Nat), e = Ending.returned (Value.slice a_2 n_3 c_2) ∧ ∃ (es2 : List (List Value)), SliceAt H' (Value.slice a_2 n_3 c_2) (1 : Nat) es2 ∧ List.length (List.append (List.set p.fst.fst (0 : Nat) [Value.int IntKind.i64 (IntKind.wrap IntKind.i64 (n_2 - shlI IntKind.i64 (1 : Int) (IntKind.wrap IntKind.u64 p.fst.snd.fst)))]) es2) * (8 : Nat) ≤ (140737488355328 : Nat) ∧ a = a ∧ n = n ∧ c = c ∧ lv = lv ∧ K ((List.append (List.set p.fst.fst (0 : Nat) [Value.int IntKind.i64 (IntKind.wrap IntKind.i64 (n_2 - shlI IntKind.i64 (1 : Int) (IntKind.wrap IntKind.u64 p.fst.snd.fst)))]) es2, IntKind.wrap IntKind.i64 (p.fst.snd.fst + (1 : Int)), PUnit.unit), PUnit.unit) H') (a = a ∧ n = n ∧ c = c ∧ lv = lv ∧ K ((p.fst.fst, IntKind.wrap IntKind.i64 (p.fst.snd.fst + (1 : Int)), PUnit.unit), PUnit.unit) H')) (∀ (v : Value) (H' : Nat → Option Obj), H ≤ H' → (∀ (b : Nat), blockOf v = some b → H b = none) → (∀ (b : Nat) (o : Obj), H' b = some o → H b = some o ∨ blockOf v = some b) → RowAt H' v (3 : Nat) (1 : Nat) p.fst.fst → R (Ending.returned v) H')) (([[Value.int IntKind.i64 (-1 : Int)]], (0 : Int), PUnit.unit), PUnit.unit) H))
theorem vc_rshape (a : Option Addr) (n : Nat) (c : Nat) (lv : Int) (R : Ending → Heap → Prop) (H : Heap) : vcFun prog h_rshape f64 [SV.c (SC.v (Value.slice a n c)), SV.c (SC.v (Value.int IntKind.i64 lv))] R H = nf_rshape a n c lv R H := by kernel_rfl

def nf_rShape (a : Option Addr) (n : Nat) (c : Nat) (R : Ending → Heap → Prop) (H : Heap) : Prop := Meets prog (30 : Nat) [Value.slice a n c] H fun (e : Ending) (H' : Nat → Option Obj) ↦ ∃ (a : Option Addr), ∃ (n : Nat), ∃ (c : Nat), e = Ending.returned (Value.slice a n c) ∧ Meets prog (64 : Nat) [Value.slice a n c, Value.int IntKind.i64 (0 : Int)] H' fun (e : Ending) (H' : Nat → Option Obj) ↦ ∃ (a : Option Addr), ∃ (n : Nat), ∃ (c : Nat), e = Ending.returned (Value.slice a n c) ∧ R (Ending.returned (Value.slice a n c)) H'
theorem vc_rShape (a : Option Addr) (n : Nat) (c : Nat) (R : Ending → Heap → Prop) (H : Heap) : vcFun prog { } f23 [SV.c (SC.v (Value.slice a n c))] R H = nf_rShape a n c R H := by kernel_rfl

def nf_rNodes (a : Option Addr) (n : Nat) (c : Nat) (R : Ending → Heap → Prop) (H : Heap) : Prop := Meets prog (23 : Nat) [Value.slice a n c] H fun (e : Ending) (H' : Nat → Option Obj) ↦ ∃ (a : Option Addr), ∃ (n : Nat), ∃ (c : Nat), e = Ending.returned (Value.slice a n c) ∧ R (Ending.returned (Value.int IntKind.i64 (↑n : Int))) H'
theorem vc_rNodes (a : Option Addr) (n : Nat) (c : Nat) (R : Ending → Heap → Prop) (H : Heap) : vcFun prog { } f40 [SV.c (SC.v (Value.slice a n c))] R H = nf_rNodes a n c R H := by kernel_rfl

/-- A tree's shape. -/
def shpC (n : Nat) : List Int := if n ≤ 4 then [(n : Int)] else 4 :: shpC (n - 4)
termination_by n
def qb (h : Nat) (L : List Pt) (q : Nat) : Int := if quarter h q L = [] then 0 else 2 ^ q
def qsum (h : Nat) (L : List Pt) : Nat → Int
  | 0 => -1
  | q + 1 => qsum h L q - qb h L q
def shpN : Nat → List Pt → List Int
  | 0, L => shpC L.length
  | h + 1, L => if L.length ≤ 4 then [(L.length : Int)] else qsum h L 4 :: ((if quarter h 0 L = [] then [] else shpN h (quarter h 0 L)) ++ ((if quarter h 1 L = [] then [] else shpN h (quarter h 1 L)) ++ ((if quarter h 2 L = [] then [] else shpN h (quarter h 2 L)) ++ (if quarter h 3 L = [] then [] else shpN h (quarter h 3 L)))))
def SS (h : Nat) (L : List Pt) : Nat → List Int
  | 0 => []
  | q + 1 => SS h L q ++ (if quarter h q L = [] then [] else shpN h (quarter h q L))
theorem shpN_succ {h : Nat} {L : List Pt} (hl : ¬ L.length ≤ 4) : shpN (h + 1) L = qsum h L 4 :: SS h L 4 := by
  conv => lhs; unfold shpN
  rw [if_neg hl]
  simp [SS]
theorem shpC_len (n : Nat) : (shpC n).length = nch n := by
  induction n using Nat.strongRecOn with
  | _ n ih =>
    unfold shpC
    split
    · rename_i h; unfold nch; rw [if_pos h]; rfl
    · rename_i h; rw [List.length_cons, ih _ (by omega), nch_step (n := n) (by omega)]
theorem shpN_len : ∀ (h : Nat) (L : List Pt), (shpN h L).length = nds h L
  | 0, L => shpC_len _
  | h + 1, L => by
    unfold shpN nds
    split
    · rfl
    · have sub : ∀ q, ((if quarter h q L = [] then [] else shpN h (quarter h q L)) : List Int).length = nq (nds h) (quarter h q L) := fun q => by
        unfold nq
        split
        · rfl
        · exact shpN_len h _
      simp only [List.length_cons, List.length_append, sub]
      omega
theorem SS_len {h : Nat} {L : List Pt} (hl : ¬ L.length ≤ 4) : ∀ q, q ≤ 4 → (SS h L q).length + 1 ≤ nds (h + 1) L := fun q hq => by
  have h4 : (SS h L 4).length + 1 = nds (h + 1) L := by rw [← shpN_len, shpN_succ hl]; rfl
  have mono : ∀ j, (SS h L q).length ≤ (SS h L (q + j)).length := fun j => by
    induction j with
    | zero => exact Nat.le_refl _
    | succ j ih => refine Nat.le_trans ih ?_; show _ ≤ (SS h L (q + j) ++ _).length; rw [List.length_append]; omega
  have := mono (4 - q)
  rw [show q + (4 - q) = 4 by omega] at this
  omega
theorem nch_le (n : Nat) : nch n ≤ n + 1 := by unfold nch; split <;> omega
theorem nds_le : ∀ (h : Nat) {L : List Pt}, (∀ p ∈ L, PtR p) → nds h L ≤ 1 + (h + 1) * L.length
  | 0, L, _ => by have := nch_le L.length; show nch _ ≤ _; omega
  | h + 1, L, hr => by
    unfold nds
    split
    · omega
    · have hs := sum_quarters (h := h) hr
      have sub : ∀ q, nq (nds h) (quarter h q L) ≤ (h + 2) * (quarter h q L).length := fun q => by
        unfold nq
        split
        · omega
        · rename_i e
          have := nds_le h (L := quarter h q L) fun p hp => hr p (List.mem_filter.1 hp).1
          have h1 : 0 < (quarter h q L).length := List.length_pos_iff.2 e
          have : (h + 2) * (quarter h q L).length = (h + 1) * (quarter h q L).length + (quarter h q L).length := by rw [← Nat.succ_mul]
          omega
      have e : (h + 1 + 1) * L.length = (h + 2) * (quarter h 0 L).length + (h + 2) * (quarter h 1 L).length + (h + 2) * (quarter h 2 L).length + (h + 2) * (quarter h 3 L).length := by
        rw [← Nat.mul_add, ← Nat.mul_add, ← Nat.mul_add, hs]
      have := sub 0; have := sub 1; have := sub 2; have := sub 3
      omega
section
variable {R : Ending → Heap → Prop} {H : Heap}
theorem wu64i {k : Int} (h : 0 ≤ k ∧ k < 18446744073709551616) : IntKind.u64.wrap k = k := IntWalk.u64_in _ (by omega)
theorem s_rqua {p : Pt} {h : Nat} {lv : Int} (hp : PtR p) (hh : h ≤ 31) (hl : lv = 31 - (h : Int)) (k : R (.returned (vi (qt h p))) H) : Meets prog 126 [ptV p, vi lv] H R := by
  refine spec_of func126 (by kernel_rfl) (fun t h => by cases h) ?_ (vc_rqua p.id p.x p.y p.data lv R H) ?_
  · simp [argsR, SV.rep, SegsRep, SC.rep, one]
  unfold nf_rqua
  obtain ⟨x1, x2, y1, y2⟩ := hp
  have hw : IntKind.u64.wrap (IntKind.i64.wrap (31 - lv)) = (h : Int) := by
    rw [w64 (by omega), wu64i (by omega)]; omega
  rw [hw, shr_u32 x1 (by omega), shr_u32 y1 (by omega)]
  have hx : 0 ≤ p.x / 2 ^ h := Int.ediv_nonneg x1 (by have := pow_le (h := h) (by omega); omega)
  have hy : 0 ≤ p.y / 2 ^ h := Int.ediv_nonneg y1 (by have := pow_le (h := h) (by omega); omega)
  rw [Int.tmod_eq_emod_of_nonneg hx, Int.tmod_eq_emod_of_nonneg hy, wu32 (k := 2 * _) (by omega), wu32 (by omega), w64 (by omega)]
  exact ⟨by omega, by decide, by omega, by decide, k⟩
theorem s_pick {v : Value} {l : List Pt} {h q : Nat} {lv : Int} (hs : SliceAt H v 4 (pts l)) (hl : l.length ≤ 1000000) (hp : ∀ p ∈ l, PtR p) (hh : h ≤ 31) (hlv : lv = 31 - (h : Int))
    (k : ∀ v H', H ≤ H' → (∀ b, blockOf v = some b → H b = none) → (∀ b o, H' b = some o → H b = some o ∨ blockOf v = some b) → RowAt H' v tPt 4 (pts (quarter h q l)) → R (.returned v) H') : Meets prog 98 [v, vi lv, vi q] H R := by
  obtain ⟨a, n, c, e, hn⟩ := hs
  subst e
  have hs : SliceAt H (.slice a n c) 4 (pts l) := ⟨a, n, c, rfl, hn⟩
  have hln : l.length = n := by simpa [pts] using hn.1
  refine spec_of func98 (by kernel_rfl) (fun t h => by cases h) ?_ (vc_pick a n c lv q R H) ?_
  · simp [argsR, SV.rep, SC.rep, one]
  unfold nf_pick
  simp only [true_and]
  refine ⟨fun p H' => ∃ t : Nat, p.1.1 = pts (quarter h q (l.take t)) ∧ p.1.2.1 = (t : Int) ∧ t ≤ n ∧ H' = H, fun p _ => (n - p.1.2.1).toNat, ⟨0, by simp, rfl, by omega, rfl⟩, ?_⟩
  rintro ⟨⟨e1, i, _⟩, _⟩ H1 ⟨t, h1, hi, ht, rfl⟩
  simp only at h1 hi ⊢
  subst h1; subst hi
  refine br (fun q0 => ?_) fun q0 => ?_
  · simp only [decide_eq_true_eq] at q0
    obtain ⟨p, _, htk, hx⟩ := drop_cons (l := l) (k := t) (by omega)
    obtain ⟨A, e, g⟩ := pr_get hs hx
    subst e
    have hpl : (pts (quarter h q (l.take t))).length ≤ t := by
      simp only [pts, List.length_map]
      exact Nat.le_trans (List.length_filter_le _ _) (by simp; omega)
    rw [Int.toNat_natCast, w64 (by omega)]
    refine ⟨⟨by omega, by omega⟩, ptr rfl (ptr rfl ⟨_, _, _, _, g, s_rqua (hp p (List.mem_of_getElem? hx)) hh hlv ⟨_, rfl, br (fun q1 => ?_) fun q1 => ?_⟩⟩)⟩
    · refine ⟨⟨by omega, by omega⟩, ptr rfl (ptr rfl ⟨_, _, _, _, g, ?_, ⟨⟨t + 1, ?_, by omega, by omega, rfl⟩, by omega⟩⟩)⟩
      · rw [append_eq, List.length_append, List.length_singleton]; omega
      · rw [htk]
        show _ = pts (List.filter _ (_ ++ _))
        rw [List.filter_append, List.filter_cons_of_pos (by simpa using q1)]
        simp [pts, append_eq]
    · refine ⟨⟨t + 1, ?_, by omega, by omega, rfl⟩, by omega⟩
      rw [htk]
      show _ = pts (List.filter _ (_ ++ _))
      rw [List.filter_append, List.filter_cons_of_neg (by simpa using q1)]
      simp
  · simp only [decide_eq_false_iff_not] at q0
    obtain rfl : t = n := by omega
    rw [List.take_of_length_le (by omega)]
    exact k
theorem s_rshape0 : ∀ (N : Nat) {L : List Pt} {v : Value} {H : Heap} {R : Ending → Heap → Prop}, L.length ≤ N → L.length ≤ 50000 → SliceAt H v 4 (pts L) →
    (∀ v H', H ≤ H' → (∀ b, blockOf v = some b → H b = none) → RowAt H' v 3 1 (cells (shpC L.length)) → R (.returned v) H') → Meets prog 64 [v, vi 32] H R := by
  intro N
  induction N with
  | zero =>
    intro L v H R hN hl hs k
    obtain ⟨a, n, c, e, hn⟩ := hs
    subst e
    have hln : L.length = n := by simpa [pts] using hn.1
    refine spec_of func64 (by kernel_rfl) (fun t h => by cases h) ?_ (vc_rshape a n c 32 R H) ?_
    · simp [argsR, SV.rep, SC.rep, one]
    unfold nf_rshape
    refine br (fun q => fun v H' g1 g2 g3 g4 => k v H' g1 g2 ?_) fun q => by simp at q; omega
    rw [shpC, if_pos (by omega), hln]; exact g4
  | succ N ih =>
    intro L v H R hN hl hs k
    obtain ⟨a, n, c, e, hn⟩ := hs
    subst e
    have hs : SliceAt H (.slice a n c) 4 (pts L) := ⟨a, n, c, rfl, hn⟩
    have hln : L.length = n := by simpa [pts] using hn.1
    refine spec_of func64 (by kernel_rfl) (fun t h => by cases h) ?_ (vc_rshape a n c 32 R H) ?_
    · simp [argsR, SV.rep, SC.rep, one]
    unfold nf_rshape
    refine br (fun q => fun v H' g1 g2 g3 g4 => k v H' g1 g2 ?_) fun q => br (fun _ => ?_) fun q1 => by cases q1
    · simp only [decide_eq_true_eq] at q
      rw [shpC, if_pos (by omega), hln]; exact g4
    simp only [decide_eq_false_iff_not] at q
    have h4 := slice_suf hs (lo := 4) (by omega)
    rw [show (pts L).drop 4 = pts (L.drop 4) by simp [pts]] at h4
    refine ⟨⟨by omega, by omega⟩, ih (L := L.drop 4) (by simp; omega) (by simp; omega) h4 fun v1 H1 hle1 hfr1 hrow1 => ?_⟩
    obtain ⟨a1, c1, rfl⟩ := row_val hrow1
    have hlen := shpC_len (L.drop 4).length
    have hnl := nch_le (L.drop 4).length
    have e5 : [vi 4] :: cells (shpC (L.drop 4).length) = cells (shpC L.length) := by
      conv => rhs; rw [shpC, if_neg (by omega)]
      simp
    refine ⟨_, _, _, rfl, _, row_slice hrow1, ?_, fun v2 H2 g1 g2 g3 g4 => k v2 H2 (heap_trans hle1 g1) (fresh_le hle1 g2) ?_⟩
    · simp only [List.length_cons, List.length_map, hlen]
      simp at hnl ⊢; omega
    · rw [← e5]; exact g4
theorem two_pow {q : Nat} (hq : q < 4) : shlI .i64 1 (IntKind.u64.wrap (q : Int)) = 2 ^ q ∧ 0 ≤ IntKind.u64.wrap (q : Int) := by
  rcases four_eq hq with rfl | rfl | rfl | rfl <;> decide
theorem qsum_range (h : Nat) (L : List Pt) : ∀ q, q ≤ 4 → -(2 : Int) ^ q ≤ qsum h L q ∧ qsum h L q ≤ -1
  | 0, _ => by simp [qsum]
  | q + 1, hq => by
    have h1 := qsum_range h L q (by omega)
    unfold qsum qb
    have h2 : (2 : Int) ^ (q + 1) = 2 * 2 ^ q := by rw [Int.pow_succ]; omega
    have h3 := pow_le (h := q) (by omega)
    split <;> omega
theorem s_rshape : ∀ (h : Nat) {L : List Pt} {v : Value} {lv : Int} {H : Heap} {R : Ending → Heap → Prop}, h ≤ 32 → lv = 32 - (h : Int) → L.length ≤ 50000 → (∀ p ∈ L, PtR p) → SliceAt H v 4 (pts L) →
    (∀ v H', H ≤ H' → (∀ b, blockOf v = some b → H b = none) → RowAt H' v 3 1 (cells (shpN h L)) → R (.returned v) H') → Meets prog 64 [v, vi lv] H R := by
  intro h
  induction h with
  | zero => intro L v lv H R hh hlv hl hp hs k; subst hlv; exact s_rshape0 _ (Nat.le_refl _) hl hs k
  | succ h ih =>
    intro L v lv H R hh hlv hl hp hs k
    obtain ⟨a, n, c, e, hn⟩ := hs
    subst e
    have hs : SliceAt H (.slice a n c) 4 (pts L) := ⟨a, n, c, rfl, hn⟩
    have hln : L.length = n := by simpa [pts] using hn.1
    refine spec_of func64 (by kernel_rfl) (fun t h => by cases h) ?_ (vc_rshape a n c lv R H) ?_
    · simp [argsR, SV.rep, SC.rep, one]
    unfold nf_rshape
    refine br (fun q => fun v H' g1 g2 g3 g4 => k v H' g1 g2 ?_) fun q => br (fun q1 => by simp at q1; omega) fun _ => ?_
    · simp only [decide_eq_true_eq] at q
      unfold shpN; rw [if_pos (by omega), hln]; exact g4
    simp only [decide_eq_false_iff_not] at q
    simp only [true_and]
    refine ⟨fun p H' => ∃ q : Nat, p.1.1 = cells (qsum h L q :: SS h L q) ∧ p.1.2.1 = (q : Int) ∧ q ≤ 4 ∧ H ≤ H', fun p _ => (4 - p.1.2.1).toNat, ⟨0, rfl, rfl, by omega, heap_refl _⟩, ?_⟩
    rintro ⟨⟨e1, i, _⟩, _⟩ H1 ⟨u, h1, hi, hu, hle⟩
    simp only at h1 hi ⊢
    subst h1; subst hi
    refine br (fun q0 => ?_) fun q0 => ?_
    · simp only [decide_eq_true_eq] at q0
      have hlQ : (quarter h u L).length ≤ L.length := List.length_filter_le _ _
      refine s_pick (h := h) (slice_le hs hle) (by omega) hp (by omega) (by omega) fun v1 H2 hle2 hfr2 _ hrow2 => ?_
      obtain ⟨a2, c2, rfl⟩ := row_val hrow2
      have hpl : (pts (quarter h u L)).length = (quarter h u L).length := by simp [pts]
      rw [hpl] at hrow2 ⊢
      refine ⟨_, _, _, rfl, br (fun q1 => ?_) fun q1 => ?_⟩
      · simp only [decide_eq_true_eq] at q1
        have hQ : quarter h u L ≠ [] := fun e => by rw [e] at q1; simp at q1
        obtain ⟨t1, t2⟩ := two_pow (q := u) (by omega)
        have hr := qsum_range h L u (by omega)
        have hpw := pow_le (h := u) (by omega)
        have hsum : IntKind.i64.wrap (qsum h L u - shlI .i64 1 (IntKind.u64.wrap (u : Int))) = qsum h L (u + 1) := by
          rw [t1]
          have h16 : (2 : Int) ^ u ≤ 8 := by rcases four_eq (q := u) (by omega) with rfl | rfl | rfl | rfl <;> decide
          rw [w64 (by omega)]
          conv => rhs; unfold qsum qb
          rw [if_neg hQ]
        refine ⟨⟨by simp, by simp⟩, _, ⟨_, rfl, rfl⟩, t2, ⟨by simp, by simp⟩, by simp, ih (L := quarter h u L) (by omega) (by rw [w64 (by omega)]; omega) (by omega) (fun p hm => hp p (List.mem_filter.1 hm).1) (row_slice hrow2) fun v3 H3 hle3 hfr3 hrow3 => ?_⟩
        obtain ⟨a3, c3, rfl⟩ := row_val hrow3
        rw [hsum]
        have hSS : SS h L (u + 1) = SS h L u ++ shpN h (quarter h u L) := by conv => lhs; unfold SS
                                                                             rw [if_neg hQ]
        have e6 : List.append (List.set (cells (qsum h L u :: SS h L u)) 0 [vi (qsum h L (u + 1))]) (cells (shpN h (quarter h u L))) = cells (qsum h L (u + 1) :: SS h L (u + 1)) := by
          rw [hSS]; simp [append_eq]
        rw [w64 (by omega)]
        have hb := SS_len (h := h) (L := L) (by omega) (u + 1) (by omega)
        have hb2 := nds_le (h + 1) hp
        have hb3 : (h + 1 + 1) * L.length ≤ 34 * 50000 := Nat.mul_le_mul (by omega) hl
        refine ⟨_, _, _, rfl, _, row_slice hrow3, ?_, ⟨u + 1, e6, by omega, by omega, heap_trans hle (heap_trans hle2 hle3)⟩, by omega⟩
        rw [e6]
        simp only [List.length_map, List.length_cons]; omega
      · simp only [decide_eq_false_iff_not] at q1
        have hQ : quarter h u L = [] := List.length_eq_zero_iff.1 (by omega)
        rw [w64 (by omega)]
        refine ⟨⟨u + 1, ?_, by omega, by omega, heap_trans hle hle2⟩, by omega⟩
        have e1 : qsum h L (u + 1) = qsum h L u := by conv => lhs; unfold qsum qb
                                                      rw [if_pos hQ]; omega
        have e2 : SS h L (u + 1) = SS h L u := by conv => lhs; unfold SS
                                                  rw [if_pos hQ, List.append_nil]
        rw [e1, e2]
    · simp only [decide_eq_false_iff_not] at q0
      obtain rfl : u = 4 := by omega
      rw [← shpN_succ (by omega)]
      exact fun v1 H2 g1 g2 g3 g4 => k v1 H2 (heap_trans hle g1) (fresh_le hle g2) g4
theorem s_rShape {v : Value} {l : List Pt} (hs : SliceAt H v 4 (pts l)) (hl : l.length ≤ 50000) (hp : ∀ p ∈ l, PtR p)
    (k : ∀ v H', H ≤ H' → (∀ b, blockOf v = some b → H b = none) → RowAt H' v 3 1 (cells (shpN 32 (sortP l))) → R (.returned v) H') : Meets prog 23 [v] H R := by
  obtain ⟨a, n, c, e, hn⟩ := hs
  subst e
  have hs : SliceAt H (.slice a n c) 4 (pts l) := ⟨a, n, c, rfl, hn⟩
  refine spec_of func23 (by kernel_rfl) (fun t h => by cases h) ?_ (vc_rShape a n c R H) ?_
  · simp [argsR, SV.rep, SC.rep, one]
  unfold nf_rShape
  refine s_rsort hs (by omega) fun v1 H1 hle1 hfr1 hrow1 => ?_
  obtain ⟨a1, c1, rfl⟩ := row_val hrow1
  have hlen := sortP_len l
  refine ⟨_, _, _, rfl, s_rshape 32 (Nat.le_refl _) (by omega) (by omega) (fun p hm => hp p (sortP_mem.1 hm)) (row_slice hrow1) fun v2 H2 hle2 hfr2 hrow2 => ?_⟩
  obtain ⟨a2, c2, rfl⟩ := row_val hrow2
  exact ⟨_, _, _, rfl, k _ _ (heap_trans hle1 hle2) (fresh_le hle1 hfr2) hrow2⟩
theorem s_rNodes {v : Value} {l : List Pt} (hs : SliceAt H v 4 (pts l)) (hl : l.length ≤ 50000) (hp : ∀ p ∈ l, PtR p)
    (k : ∀ H', H ≤ H' → R (.returned (vi (nds 32 (sortP l)))) H') : Meets prog 40 [v] H R := by
  obtain ⟨a, n, c, e, hn⟩ := hs
  subst e
  have hs : SliceAt H (.slice a n c) 4 (pts l) := ⟨a, n, c, rfl, hn⟩
  refine spec_of func40 (by kernel_rfl) (fun t h => by cases h) ?_ (vc_rNodes a n c R H) ?_
  · simp [argsR, SV.rep, SC.rep, one]
  unfold nf_rNodes
  refine s_rShape hs hl hp fun v1 H1 hle1 hfr1 hrow1 => ?_
  obtain ⟨a1, c1, rfl⟩ := row_val hrow1
  refine ⟨_, _, _, rfl, ?_⟩
  rw [show (cells (shpN 32 (sortP l))).length = nds 32 (sortP l) by rw [List.length_map, shpN_len]]
  exact k _ hle1
end
end Cr

set_option linter.unusedVariables false
set_option linter.unusedSimpArgs false
namespace Cr
open Go Sx Stb Bt
open Go.Proofs.Try
set_option maxRecDepth 100000
def h_tins : Hints := { pan := true, pk := some [4, 5] }
def nf_tins (g : Option Addr) (i : Int) (x : Int) (y : Int) (d : ByteArray) (R : Ending → Heap → Prop) (H : Heap) : Prop := Meets prog (58 : Nat) [Value.agg { toList := [Value.int IntKind.i64 i, Value.int IntKind.u32 x, Value.int IntKind.u32 y, Value.string d] }] H fun (e : Ending) (H' : Nat → Option Obj) ↦ (∃ (n : Int), e = Ending.returned (Value.int IntKind.i64 n) ∧ Br (n != (0 : Int)) (R (Ending.returned (Value.tuple { toList := [Value.pointer none, Value.int IntKind.i64 n] })) H') (∃ (G : Nat → Option Obj), G ≤ H' ∧ Meets prog (42 : Nat) [Value.pointer g] H' fun (e : Ending) (H'_1 : Nat → Option Obj) ↦ (Keep G H' H' H'_1 ∧ ∃ (a : Option Addr), ∃ (n : Nat), ∃ (c : Nat), e = Ending.returned (Value.slice a n c) ∧ Meets prog (77 : Nat) [Value.slice a n c, Value.int IntKind.i64 i] (delLs H'_1 []) fun (e : Ending) (H' : Nat → Option Obj) ↦ (Keep G (delLs H'_1 []) (delLs H'_1 []) H' ∧ ∃ (n : Int), e = Ending.returned (Value.int IntKind.i64 n) ∧ Br (decide (n ≥ (0 : Int))) (R (Ending.returned (Value.tuple { toList := [Value.pointer none, Value.int IntKind.i64 (22 : Int)] })) (delLs H' [])) (Meets prog (52 : Nat) [Value.pointer g] (delLs H' []) fun (e : Ending) (H' : Nat → Option Obj) ↦ (∃ (a : Option Addr), e = Ending.returned (Value.pointer a) ∧ ∃ (G : Nat → Option Obj), G ≤ H' ∧ Meets prog (63 : Nat) [] H' fun (e : Ending) (H'_2 : Nat → Option Obj) ↦ (Keep G H' H' H'_2 ∧ ∃ (n : Int), ∃ (n_1 : Int), ∃ (n_2 : Int), e = Ending.returned (Value.agg { toList := [Value.int IntKind.u32 n, Value.int IntKind.u32 n_1, Value.int IntKind.i64 n_2] }) ∧ Meets prog (78 : Nat) [Value.agg { toList := [Value.pointer a] }, Value.int IntKind.i64 (1 : Int), Value.agg { toList := [Value.int IntKind.u32 n, Value.int IntKind.u32 n_1, Value.int IntKind.i64 n_2] }, Value.agg { toList := [Value.int IntKind.i64 i, Value.int IntKind.u32 x, Value.int IntKind.u32 y, Value.string d] }] (delLs H'_2 []) fun (e : Ending) (H' : Nat → Option Obj) ↦ (Keep G (delLs H'_2 []) (delLs H'_2 []) H' ∧ e = Ending.returned (Value.tuple { toList := [] }) ∧ ∀ (b : Nat), delLs H' [] b = none → ∀ (b_1 : Nat), Heap.upd (delLs H' ([] ++ [] ++ ([] ++ ([] ++ ([] ++ ([] ++ [])) ++ ([] ++ ([] ++ ([] ++ ([] ++ []))) ++ []))))) b (Obj.cells { toList := [Value.pointer a] } (33 : Nat)) b_1 = none → MeetsD prog (61 : Nat) [Value.pointer (some { block := b, off := (0 : Nat) }), Value.pointer (some { block := b_1, off := (0 : Nat) })] FrameMode.returning (Heap.upd (Heap.upd (delLs H' []) b (Obj.cells { toList := [Value.pointer a] } (33 : Nat))) b_1 (Obj.cells { toList := [Value.int IntKind.i64 (0 : Int)] } (34 : Nat))) fun (e : Ending) (u : FrameMode) (H' : Nat → Option Obj) ↦ (∃ (v : Value), e = Ending.returned v) ∧ settle u = FrameMode.returning ∧ ∃ (a : Option Addr), (∃ (b_2 : Nat), blockOf (Value.pointer (some { block := b, off := (0 : Nat) })) = some b_2 ∧ H' b_2 = some (Obj.cells { toList := [Value.pointer a] } (33 : Nat))) ∧ ∃ (n : Int), (∃ (b_2 : Nat), blockOf (Value.pointer (some { block := b_1, off := (0 : Nat) })) = some b_2 ∧ Heap.delO H' (blockOf (Value.pointer (some { block := b, off := (0 : Nat) }))) b_2 = some (Obj.cells { toList := [Value.int IntKind.i64 n] } (34 : Nat))) ∧ R (Ending.returned (Value.tuple { toList := [Value.pointer a, Value.int IntKind.i64 n] })) (Heap.delO (Heap.delO H' (blockOf (Value.pointer (some { block := b, off := (0 : Nat) })))) (blockOf (Value.pointer (some { block := b_1, off := (0 : Nat) }))))) ∨ ∃ (c : List PanicEntry), e = Ending.panicked c ∧ ∀ (b : Nat), H' b = none → ∀ (b_1 : Nat), Heap.upd H' b (Obj.cells { toList := [Value.pointer none] } (33 : Nat)) b_1 = none → MeetsD prog (61 : Nat) [Value.pointer (some { block := b, off := (0 : Nat) }), Value.pointer (some { block := b_1, off := (0 : Nat) })] (FrameMode.panicking c) (Heap.upd (Heap.upd H' b (Obj.cells { toList := [Value.pointer none] } (33 : Nat))) b_1 (Obj.cells { toList := [Value.int IntKind.i64 (0 : Int)] } (34 : Nat))) fun (e : Ending) (u : FrameMode) (H' : Nat → Option Obj) ↦ (∃ (v : Value), e = Ending.returned v) ∧ ((settle u = FrameMode.returning ∧ ∃ (a : Option Addr), (∃ (b_2 : Nat), blockOf (Value.pointer (some { block := b, off := (0 : Nat) })) = some b_2 ∧ H' b_2 = some (Obj.cells { toList := [Value.pointer a] } (33 : Nat))) ∧ ∃ (n : Int), (∃ (b_2 : Nat), blockOf (Value.pointer (some { block := b_1, off := (0 : Nat) })) = some b_2 ∧ Heap.delO H' (blockOf (Value.pointer (some { block := b, off := (0 : Nat) }))) b_2 = some (Obj.cells { toList := [Value.int IntKind.i64 n] } (34 : Nat))) ∧ R (Ending.returned (Value.tuple { toList := [Value.pointer a, Value.int IntKind.i64 n] })) (Heap.delO (Heap.delO H' (blockOf (Value.pointer (some { block := b, off := (0 : Nat) })))) (blockOf (Value.pointer (some { block := b_1, off := (0 : Nat) }))))) ∨ ∃ (c' : List PanicEntry), settle u = FrameMode.panicking c' ∧ R (Ending.panicked c') H')) ∨ ∃ (c : List PanicEntry), e = Ending.panicked c ∧ ∀ (b : Nat), H'_2 b = none → ∀ (b_1 : Nat), Heap.upd H'_2 b (Obj.cells { toList := [Value.pointer none] } (33 : Nat)) b_1 = none → MeetsD prog (61 : Nat) [Value.pointer (some { block := b, off := (0 : Nat) }), Value.pointer (some { block := b_1, off := (0 : Nat) })] (FrameMode.panicking c) (Heap.upd (Heap.upd H'_2 b (Obj.cells { toList := [Value.pointer none] } (33 : Nat))) b_1 (Obj.cells { toList := [Value.int IntKind.i64 (0 : Int)] } (34 : Nat))) fun (e : Ending) (u : FrameMode) (H' : Nat → Option Obj) ↦ (∃ (v : Value), e = Ending.returned v) ∧ ((settle u = FrameMode.returning ∧ ∃ (a : Option Addr), (∃ (b_2 : Nat), blockOf (Value.pointer (some { block := b, off := (0 : Nat) })) = some b_2 ∧ H' b_2 = some (Obj.cells { toList := [Value.pointer a] } (33 : Nat))) ∧ ∃ (n : Int), (∃ (b_2 : Nat), blockOf (Value.pointer (some { block := b_1, off := (0 : Nat) })) = some b_2 ∧ Heap.delO H' (blockOf (Value.pointer (some { block := b, off := (0 : Nat) }))) b_2 = some (Obj.cells { toList := [Value.int IntKind.i64 n] } (34 : Nat))) ∧ R (Ending.returned (Value.tuple { toList := [Value.pointer a, Value.int IntKind.i64 n] })) (Heap.delO (Heap.delO H' (blockOf (Value.pointer (some { block := b, off := (0 : Nat) })))) (blockOf (Value.pointer (some { block := b_1, off := (0 : Nat) }))))) ∨ ∃ (c' : List PanicEntry), settle u = FrameMode.panicking c' ∧ R (Ending.panicked c') H')) ∨ ∃ (c : List PanicEntry), e = Ending.panicked c ∧ ∀ (b : Nat), H' b = none → ∀ (b_1 : Nat), Heap.upd H' b (Obj.cells { toList := [Value.pointer none] } (33 : Nat)) b_1 = none → MeetsD prog (61 : Nat) [Value.pointer (some { block := b, off := (0 : Nat) }), Value.pointer (some { block := b_1, off := (0 : Nat) })] (FrameMode.panicking c) (Heap.upd (Heap.upd H' b (Obj.cells { toList := [Value.pointer none] } (33 : Nat))) b_1 (Obj.cells { toList := [Value.int IntKind.i64 (0 : Int)] } (34 : Nat))) fun (e : Ending) (u : FrameMode) (H' : Nat → Option Obj) ↦ (∃ (v : Value), e = Ending.returned v) ∧ ((settle u = FrameMode.returning ∧ ∃ (a : Option Addr), (∃ (b_2 : Nat), blockOf (Value.pointer (some { block := b, off := (0 : Nat) })) = some b_2 ∧ H' b_2 = some (Obj.cells { toList := [Value.pointer a] } (33 : Nat))) ∧ ∃ (n : Int), (∃ (b_2 : Nat), blockOf (Value.pointer (some { block := b_1, off := (0 : Nat) })) = some b_2 ∧ Heap.delO H' (blockOf (Value.pointer (some { block := b, off := (0 : Nat) }))) b_2 = some (Obj.cells { toList := [Value.int IntKind.i64 n] } (34 : Nat))) ∧ R (Ending.returned (Value.tuple { toList := [Value.pointer a, Value.int IntKind.i64 n] })) (Heap.delO (Heap.delO H' (blockOf (Value.pointer (some { block := b, off := (0 : Nat) })))) (blockOf (Value.pointer (some { block := b_1, off := (0 : Nat) }))))) ∨ ∃ (c' : List PanicEntry), settle u = FrameMode.panicking c' ∧ R (Ending.panicked c') H'))) ∨ ∃ (c : List PanicEntry), e = Ending.panicked c ∧ R (Ending.panicked c) H') ∨ ∃ (c : List PanicEntry), e = Ending.panicked c ∧ R (Ending.panicked c) H'_1)) ∨ ∃ (c : List PanicEntry), e = Ending.panicked c ∧ R (Ending.panicked c) H'
theorem vc_tins (g : Option Addr) (i : Int) (x : Int) (y : Int) (d : ByteArray) (R : Ending → Heap → Prop) (H : Heap) : vcFun prog h_tins f45 [SV.c (SC.v (Value.pointer g)), ptA i x y d] R H = nf_tins g i x y d R H := by kernel_rfl

def nf_tdel (g : Option Addr) (i : Int) (x : Int) (y : Int) (d : ByteArray) (R : Ending → Heap → Prop) (H : Heap) : Prop := Meets prog (52 : Nat) [Value.pointer g] H fun (e : Ending) (H' : Nat → Option Obj) ↦ (∃ (a : Option Addr), e = Ending.returned (Value.pointer a) ∧ ∃ (G : Nat → Option Obj), G ≤ H' ∧ Meets prog (63 : Nat) [] H' fun (e : Ending) (H'_1 : Nat → Option Obj) ↦ (Keep G H' H' H'_1 ∧ ∃ (n : Int), ∃ (n_1 : Int), ∃ (n_2 : Int), e = Ending.returned (Value.agg { toList := [Value.int IntKind.u32 n, Value.int IntKind.u32 n_1, Value.int IntKind.i64 n_2] }) ∧ Meets prog (76 : Nat) [Value.agg { toList := [Value.pointer a] }, Value.int IntKind.i64 (1 : Int), Value.agg { toList := [Value.int IntKind.u32 n, Value.int IntKind.u32 n_1, Value.int IntKind.i64 n_2] }, Value.agg { toList := [Value.int IntKind.i64 i, Value.int IntKind.u32 x, Value.int IntKind.u32 y, Value.string d] }] (delLs H'_1 []) fun (e : Ending) (H' : Nat → Option Obj) ↦ (Keep G (delLs H'_1 []) (delLs H'_1 []) H' ∧ e = Ending.returned (Value.tuple { toList := [] }) ∧ ∀ (b : Nat), delLs H' [] b = none → ∀ (b_1 : Nat), Heap.upd (delLs H' ([] ++ [] ++ ([] ++ ([] ++ ([] ++ ([] ++ [])) ++ ([] ++ ([] ++ ([] ++ ([] ++ []))) ++ []))))) b (Obj.cells { toList := [Value.pointer a] } (33 : Nat)) b_1 = none → MeetsD prog (61 : Nat) [Value.pointer (some { block := b, off := (0 : Nat) }), Value.pointer (some { block := b_1, off := (0 : Nat) })] FrameMode.returning (Heap.upd (Heap.upd (delLs H' []) b (Obj.cells { toList := [Value.pointer a] } (33 : Nat))) b_1 (Obj.cells { toList := [Value.int IntKind.i64 (0 : Int)] } (34 : Nat))) fun (e : Ending) (u : FrameMode) (H' : Nat → Option Obj) ↦ (∃ (v : Value), e = Ending.returned v) ∧ settle u = FrameMode.returning ∧ ∃ (a : Option Addr), (∃ (b_2 : Nat), blockOf (Value.pointer (some { block := b, off := (0 : Nat) })) = some b_2 ∧ H' b_2 = some (Obj.cells { toList := [Value.pointer a] } (33 : Nat))) ∧ ∃ (n : Int), (∃ (b_2 : Nat), blockOf (Value.pointer (some { block := b_1, off := (0 : Nat) })) = some b_2 ∧ Heap.delO H' (blockOf (Value.pointer (some { block := b, off := (0 : Nat) }))) b_2 = some (Obj.cells { toList := [Value.int IntKind.i64 n] } (34 : Nat))) ∧ R (Ending.returned (Value.tuple { toList := [Value.pointer a, Value.int IntKind.i64 n] })) (Heap.delO (Heap.delO H' (blockOf (Value.pointer (some { block := b, off := (0 : Nat) })))) (blockOf (Value.pointer (some { block := b_1, off := (0 : Nat) }))))) ∨ ∃ (c : List PanicEntry), e = Ending.panicked c ∧ ∀ (b : Nat), H' b = none → ∀ (b_1 : Nat), Heap.upd H' b (Obj.cells { toList := [Value.pointer none] } (33 : Nat)) b_1 = none → MeetsD prog (61 : Nat) [Value.pointer (some { block := b, off := (0 : Nat) }), Value.pointer (some { block := b_1, off := (0 : Nat) })] (FrameMode.panicking c) (Heap.upd (Heap.upd H' b (Obj.cells { toList := [Value.pointer none] } (33 : Nat))) b_1 (Obj.cells { toList := [Value.int IntKind.i64 (0 : Int)] } (34 : Nat))) fun (e : Ending) (u : FrameMode) (H' : Nat → Option Obj) ↦ (∃ (v : Value), e = Ending.returned v) ∧ ((settle u = FrameMode.returning ∧ ∃ (a : Option Addr), (∃ (b_2 : Nat), blockOf (Value.pointer (some { block := b, off := (0 : Nat) })) = some b_2 ∧ H' b_2 = some (Obj.cells { toList := [Value.pointer a] } (33 : Nat))) ∧ ∃ (n : Int), (∃ (b_2 : Nat), blockOf (Value.pointer (some { block := b_1, off := (0 : Nat) })) = some b_2 ∧ Heap.delO H' (blockOf (Value.pointer (some { block := b, off := (0 : Nat) }))) b_2 = some (Obj.cells { toList := [Value.int IntKind.i64 n] } (34 : Nat))) ∧ R (Ending.returned (Value.tuple { toList := [Value.pointer a, Value.int IntKind.i64 n] })) (Heap.delO (Heap.delO H' (blockOf (Value.pointer (some { block := b, off := (0 : Nat) })))) (blockOf (Value.pointer (some { block := b_1, off := (0 : Nat) }))))) ∨ ∃ (c' : List PanicEntry), settle u = FrameMode.panicking c' ∧ R (Ending.panicked c') H')) ∨ ∃ (c : List PanicEntry), e = Ending.panicked c ∧ ∀ (b : Nat), H'_1 b = none → ∀ (b_1 : Nat), Heap.upd H'_1 b (Obj.cells { toList := [Value.pointer none] } (33 : Nat)) b_1 = none → MeetsD prog (61 : Nat) [Value.pointer (some { block := b, off := (0 : Nat) }), Value.pointer (some { block := b_1, off := (0 : Nat) })] (FrameMode.panicking c) (Heap.upd (Heap.upd H'_1 b (Obj.cells { toList := [Value.pointer none] } (33 : Nat))) b_1 (Obj.cells { toList := [Value.int IntKind.i64 (0 : Int)] } (34 : Nat))) fun (e : Ending) (u : FrameMode) (H' : Nat → Option Obj) ↦ (∃ (v : Value), e = Ending.returned v) ∧ ((settle u = FrameMode.returning ∧ ∃ (a : Option Addr), (∃ (b_2 : Nat), blockOf (Value.pointer (some { block := b, off := (0 : Nat) })) = some b_2 ∧ H' b_2 = some (Obj.cells { toList := [Value.pointer a] } (33 : Nat))) ∧ ∃ (n : Int), (∃ (b_2 : Nat), blockOf (Value.pointer (some { block := b_1, off := (0 : Nat) })) = some b_2 ∧ Heap.delO H' (blockOf (Value.pointer (some { block := b, off := (0 : Nat) }))) b_2 = some (Obj.cells { toList := [Value.int IntKind.i64 n] } (34 : Nat))) ∧ R (Ending.returned (Value.tuple { toList := [Value.pointer a, Value.int IntKind.i64 n] })) (Heap.delO (Heap.delO H' (blockOf (Value.pointer (some { block := b, off := (0 : Nat) })))) (blockOf (Value.pointer (some { block := b_1, off := (0 : Nat) }))))) ∨ ∃ (c' : List PanicEntry), settle u = FrameMode.panicking c' ∧ R (Ending.panicked c') H')) ∨ ∃ (c : List PanicEntry), e = Ending.panicked c ∧ ∀ (b : Nat), H' b = none → ∀ (b_1 : Nat), Heap.upd H' b (Obj.cells { toList := [Value.pointer none] } (33 : Nat)) b_1 = none → MeetsD prog (61 : Nat) [Value.pointer (some { block := b, off := (0 : Nat) }), Value.pointer (some { block := b_1, off := (0 : Nat) })] (FrameMode.panicking c) (Heap.upd (Heap.upd H' b (Obj.cells { toList := [Value.pointer none] } (33 : Nat))) b_1 (Obj.cells { toList := [Value.int IntKind.i64 (0 : Int)] } (34 : Nat))) fun (e : Ending) (u : FrameMode) (H' : Nat → Option Obj) ↦ (∃ (v : Value), e = Ending.returned v) ∧ ((settle u = FrameMode.returning ∧ ∃ (a : Option Addr), (∃ (b_2 : Nat), blockOf (Value.pointer (some { block := b, off := (0 : Nat) })) = some b_2 ∧ H' b_2 = some (Obj.cells { toList := [Value.pointer a] } (33 : Nat))) ∧ ∃ (n : Int), (∃ (b_2 : Nat), blockOf (Value.pointer (some { block := b_1, off := (0 : Nat) })) = some b_2 ∧ Heap.delO H' (blockOf (Value.pointer (some { block := b, off := (0 : Nat) }))) b_2 = some (Obj.cells { toList := [Value.int IntKind.i64 n] } (34 : Nat))) ∧ R (Ending.returned (Value.tuple { toList := [Value.pointer a, Value.int IntKind.i64 n] })) (Heap.delO (Heap.delO H' (blockOf (Value.pointer (some { block := b, off := (0 : Nat) })))) (blockOf (Value.pointer (some { block := b_1, off := (0 : Nat) }))))) ∨ ∃ (c' : List PanicEntry), settle u = FrameMode.panicking c' ∧ R (Ending.panicked c') H')
theorem vc_tdel (g : Option Addr) (i : Int) (x : Int) (y : Int) (d : ByteArray) (R : Ending → Heap → Prop) (H : Heap) : vcFun prog h_tins f44 [SV.c (SC.v (Value.pointer g)), ptA i x y d] R H = nf_tdel g i x y d R H := by kernel_rfl

theorem specD_of {P : Program} {f : FuncId} {fn : Func} {hs : Hints} {args : List SV} {vs : List Value} {u : FrameMode} {H : Heap} {R : Ending → FrameMode → Heap → Prop} {X : Prop} (hf : P.funcs[f]? = some fn) (hc : callable P f = true)
    (hE : ∀ t, memN hs.eqs t = true → EqOK P t) (ha : argsR args vs) (hv : vcFunD P hs fn args u R H = X) (hx : X) : MeetsD P f vs u H R := meetsD_of_vc hf hc hE ha (by rw [hv]; exact hx)
theorem del_two {H : Heap} {b b1 : Nat} {o o1 : Obj} (h : H b = none) (h1 : H b1 = none) : (((H.upd b o).upd b1 o1).delO (some b)).delO (some b1) = H := by
  funext x
  show (if x = b1 then none else if x = b then none else (if x = b1 then some o1 else if x = b then some o else H x)) = H x
  by_cases e1 : x = b1
  · subst e1; rw [if_pos rfl, h1]
  · by_cases e : x = b
    · subst e; rw [if_neg e1, if_pos rfl, h]
    · rw [if_neg e1, if_neg e, if_neg e1, if_neg e]
def FinR (R : Ending → Heap → Prop) (b b1 : Nat) (e : Ending) (u : FrameMode) (H' : Heap) : Prop := (∃ v : Value, e = .returned v) ∧ settle u = .returning ∧ ∃ a : Option Addr, (∃ b2, blockOf (.pointer (some ⟨b, 0, none⟩)) = some b2 ∧ H' b2 = some (.cells #[.pointer a] 33 (0, 0))) ∧
  ∃ n : Int, (∃ b2, blockOf (.pointer (some ⟨b1, 0, none⟩)) = some b2 ∧ (H'.delO (blockOf (.pointer (some ⟨b, 0, none⟩)))) b2 = some (.cells #[vi n] 34 (0, 0))) ∧ R (.returned (.tuple #[.pointer a, vi n])) ((H'.delO (blockOf (.pointer (some ⟨b, 0, none⟩)))).delO (blockOf (.pointer (some ⟨b1, 0, none⟩))))
section
variable {R : Ending → Heap → Prop} {H : Heap}
theorem fin_at {b b1 : Nat} {a : Option Addr} {n : Int} (hb : H b = none) (hb1 : H b1 = none) (hne : b1 ≠ b) (k : R (.returned (.tuple #[.pointer a, vi n])) H) {u : FrameMode} (hu : settle u = .returning) :
    FinR R b b1 (.returned unitV) u ((H.upd b (.cells #[.pointer a] 33 (0, 0))).upd b1 (.cells #[vi n] 34 (0, 0))) := by
  refine ⟨⟨_, rfl⟩, hu, a, ⟨b, rfl, by rw [upd_ne _ _ (Ne.symm hne), upd_same]⟩, n, ⟨b1, rfl, ?_⟩, ?_⟩
  · show (if b1 = b then none else _) = _
    rw [if_neg hne, upd_same]
  · have := del_two (o := .cells #[.pointer a] 33 (0, 0)) (o1 := .cells #[vi n] 34 (0, 0)) hb hb1
    show R _ (Heap.delO (Heap.delO _ (some b)) (some b1))
    rw [this]; exact k
theorem fin_ret {a : Option Addr} (k : R (.returned (.tuple #[.pointer a, vi 0])) H) : ∀ b, H b = none → ∀ b1, H.upd b (.cells #[.pointer a] 33 (0, 0)) b1 = none →
    MeetsD prog 61 [.pointer (some ⟨b, 0, none⟩), .pointer (some ⟨b1, 0, none⟩)] .returning ((H.upd b (.cells #[.pointer a] 33 (0, 0))).upd b1 (.cells #[vi 0] 34 (0, 0))) (FinR R b b1) := by
  intro b hb b1 hb1
  have hne : b1 ≠ b := by rintro rfl; rw [upd_same] at hb1; cases hb1
  rw [upd_ne _ _ hne] at hb1
  refine specD_of func61 (by kernel_rfl) (fun t h => by cases h) ?_ (vc_caught0 ⟨b, 0, none⟩ ⟨b1, 0, none⟩ _ _) ?_
  · simp [argsR, SV.rep, SC.rep, one]
  unfold nf_caught0
  exact ⟨rfl, fin_at hb hb1 hne k rfl⟩
theorem fin_pan {e : Int} (k : R (.returned (.tuple #[.pointer none, vi e])) H) : ∀ b, H b = none → ∀ b1, H.upd b (.cells #[.pointer none] 33 (0, 0)) b1 = none →
    MeetsD prog 61 [.pointer (some ⟨b, 0, none⟩), .pointer (some ⟨b1, 0, none⟩)] (.panicking (stopE e)) ((H.upd b (.cells #[.pointer none] 33 (0, 0))).upd b1 (.cells #[vi 0] 34 (0, 0))) fun e u H' =>
      (∃ v : Value, e = .returned v) ∧ ((settle u = .returning ∧ ∃ a : Option Addr, (∃ b2, blockOf (.pointer (some ⟨b, 0, none⟩)) = some b2 ∧ H' b2 = some (.cells #[.pointer a] 33 (0, 0))) ∧
        ∃ n : Int, (∃ b2, blockOf (.pointer (some ⟨b1, 0, none⟩)) = some b2 ∧ (H'.delO (blockOf (.pointer (some ⟨b, 0, none⟩)))) b2 = some (.cells #[vi n] 34 (0, 0))) ∧ R (.returned (.tuple #[.pointer a, vi n])) ((H'.delO (blockOf (.pointer (some ⟨b, 0, none⟩)))).delO (blockOf (.pointer (some ⟨b1, 0, none⟩))))) ∨
        ∃ c' : List PanicEntry, settle u = .panicking c' ∧ R (.panicked c') H') := by
  intro b hb b1 hb1
  have hne : b1 ≠ b := by rintro rfl; rw [upd_same] at hb1; cases hb1
  rw [upd_ne _ _ hne] at hb1
  refine specD_of func61 (by kernel_rfl) (fun t h => by cases h) ?_ (vc_caught1 ⟨b, 0, none⟩ ⟨b1, 0, none⟩ e _ _) ?_
  · simp [argsR, SV.rep, SC.rep, one]
  unfold nf_caught1
  refine ⟨rfl, fun _ => none, none_le _, ptr rfl (ptr rfl ⟨#[.pointer none], 33, ⟨by rw [upd_ne _ _ (Ne.symm hne), upd_same], rfl, by simp⟩, rfl, ptr rfl (ptr rfl ⟨#[vi 0], 34, ⟨by rw [upd_ne _ _ hne, upd_same], rfl, by simp⟩, rfl, ?_⟩)⟩)⟩
  have e1 : Heap.upd (Heap.upd (Heap.upd (Heap.upd H b (.cells #[.pointer none] 33 (0, 0))) b1 (.cells #[vi 0] 34 (0, 0))) b (.cells (writeCells #[.pointer none] 0 [.pointer none]) 33 (0, 0))) b1 (.cells (writeCells #[vi 0] 0 [vi e]) 34 (0, 0))
      = Heap.upd (Heap.upd H b (.cells #[.pointer none] 33 (0, 0))) b1 (.cells #[vi e] 34 (0, 0)) := by
    funext x
    unfold Heap.upd
    by_cases h1 : x = b1
    · subst h1; simp [writeCells]
    · by_cases h2 : x = b
      · subst h2; simp [h1, writeCells]
      · simp [h1, h2]
  rw [e1]
  have h5 := fin_at (R := R) (u := (recU (.panicking (stopE e))).2) hb hb1 hne k rfl
  exact ⟨h5.1, .inl h5.2⟩
end
end Cr

set_option linter.unusedVariables false
set_option linter.unusedSimpArgs false
namespace Cr
open Go Sx Stb Bt
open Go.Proofs.Try
set_option maxRecDepth 100000
def h_tpts : Hints := { loops := [(3, ⟨[0, 9, 10], [.row 3 28 4, .f 11 (.int .i64)], []⟩)] }
def nf_tpts (g : Option Addr) (R : Ending → Heap → Prop) (H : Heap) : Prop := Meets prog (28 : Nat) [Value.pointer g] H fun (e : Ending) (H' : Nat → Option Obj) ↦ ∃ (a : Option Addr), ∃ (n : Nat), ∃ (c : Nat), e = Ending.returned (Value.slice a n c) ∧ g = g ∧ a = a ∧ n = n ∧ c = c ∧ (↑n : Int) = (↑n : Int) ∧ LoopP (fun (K : (List (List Value) × Int × PUnit) × PUnit → (Nat → Option Obj) → Prop) (p : (List (List Value) × Int × PUnit) × PUnit) (H : Nat → Option Obj) ↦ Br (decide (p.fst.snd.fst < (↑n : Int))) (((0 : Int) ≤ p.fst.snd.fst ∧ p.fst.snd.fst < (↑n : Int)) ∧ PtrK a fun (A : Addr) ↦ PtrK (some (Addr.add A (Int.toNat p.fst.snd.fst * (1 : Nat)))) fun (a_1 : Addr) ↦ ∃ (n_1 : Int), Heap.has H a_1 [Value.int IntKind.i64 n_1] ∧ Meets prog (50 : Nat) [Value.pointer g, Value.int IntKind.i64 n_1] H fun (e : Ending) (H' : Nat → Option Obj) ↦ ∃ (b : Bool), ∃ (a_2 : Option Addr), ∃ (n_2 : Nat), ∃ (c_1 : Nat), ∃ (n_3 : Int), ∃ (xs : List Int), List.length xs = (4 : Nat) ∧ ∃ (xs_1 : List Int), List.length xs_1 = (4 : Nat) ∧ ∃ (b_1 : Bool), e = Ending.returned (Value.tuple { toList := [Value.agg { toList := Value.bool b :: Value.slice a_2 n_2 c_1 :: Value.int IntKind.i64 n_3 :: List.append (List.map (Value.int IntKind.i64) xs) (flatD [Seg.ints IntKind.i64 (4 : Nat) xs_1]) }, Value.bool b_1] }) ∧ ∃ (es2 : List (List Value)), SliceAt H' (Value.slice a_2 n_2 c_1) (4 : Nat) es2 ∧ List.length (List.append p.fst.fst es2) * (32 : Nat) ≤ (140737488355328 : Nat) ∧ g = g ∧ a = a ∧ n = n ∧ c = c ∧ (↑n : Int) = (↑n : Int) ∧ K ((List.append p.fst.fst es2, IntKind.wrap IntKind.i64 (p.fst.snd.fst + (1 : Int)), PUnit.unit), PUnit.unit) H') (∀ (v : Value) (H' : Nat → Option Obj), H ≤ H' → (∀ (b : Nat), blockOf v = some b → H b = none) → (∀ (b : Nat) (o : Obj), H' b = some o → H b = some o ∨ blockOf v = some b) → RowAt H' v (28 : Nat) (4 : Nat) p.fst.fst → Meets prog (59 : Nat) [v] H' fun (e : Ending) (H' : Nat → Option Obj) ↦ ∃ (a : Option Addr), ∃ (n : Nat), ∃ (c : Nat), e = Ending.returned (Value.slice a n c) ∧ ∃ (es : List (List Value)), RowAt H' v (28 : Nat) (4 : Nat) es ∧ R (Ending.returned (Value.slice a n c)) (Heap.delO H' (blockOf v)))) (([], (0 : Int), PUnit.unit), PUnit.unit) H'
theorem vc_tpts (g : Option Addr) (R : Ending → Heap → Prop) (H : Heap) : vcFun prog h_tpts f42 [SV.c (SC.v (Value.pointer g))] R H = nf_tpts g R H := by kernel_rfl

theorem delH_keep {H : Heap} {o : Option Nat} {x : Nat} {ob : Obj} (hn : ∀ k, o = some k → k ≠ x) (h : H x = some ob) : H.delO o x = some ob := by
  cases o with
  | none => exact h
  | some k => show (if x = k then none else H x) = _; rw [if_neg (Ne.symm (hn k rfl))]; exact h
def ptsM (m : M) (i : Int) : List Pt := ((m i).getD nd0).pts
theorem ptsM_some {m : M} {i : Int} {d : Nd} (h : m i = some d) : ptsM m i = d.pts := by unfold ptsM; rw [h]; rfl
theorem flat_four {α β : Type} {J : Nat → List α} {f : α → List β} : (J 0 ++ (J 1 ++ (J 2 ++ J 3))).flatMap f = (J 0).flatMap f ++ ((J 1).flatMap f ++ ((J 2).flatMap f ++ (J 3).flatMap f)) := by simp [List.flatMap_append]
theorem ChP_pts {m : M} : ∀ {I : List Int} {L : List Pt}, ChP m I L → I.flatMap (ptsM m) = L
  | [id], L, h => by simp [ptsM_some h.2]
  | id :: nx :: r, L, h => by
    rw [List.flatMap_cons, ChP_pts h.2.2, ptsM_some h.2.1]
    exact List.take_append_drop 4 L
theorem TrP_pts {m : M} : ∀ {h : Nat} {id : Int} {L : List Pt} {I : List Int}, (∀ p ∈ L, PtR p) → TrP m h id L I → (I.flatMap (ptsM m)).Perm L
  | 0, id, L, I, _, h => by rw [ChP_pts h.2]
  | n + 1, id, L, I, hr, h => by
    unfold TrP at h
    split at h
    · rw [ChP_pts h.2]
    · obtain ⟨ks, cs, J, h1, h2, h3, rfl, h4⟩ := h
      have sub : ∀ q, q < 4 → ((J q).flatMap (ptsM m)).Perm (quarter n q L) := fun q hq => by
        rcases h4 q hq with ⟨e1, _, _, e4⟩ | ⟨e1, _, _, e4⟩
        · rw [e1, e4]; exact List.Perm.refl _
        · exact TrP_pts (fun p hp => hr p (List.mem_filter.1 hp).1) e4
      rw [List.flatMap_cons, ptsM_some h1, List.nil_append, flat_four]
      exact ((sub 0 (by omega)).append ((sub 1 (by omega)).append ((sub 2 (by omega)).append (sub 3 (by omega))))).trans (quarters_perm hr)
theorem ptsM_len {m : M} (hD : Dom m) : ∀ I : List Int, (I.flatMap (ptsM m)).length ≤ 4 * I.length
  | [] => by simp
  | i :: I => by
    rw [List.flatMap_cons, List.length_append, List.length_cons]
    have := ptsM_len hD I
    have h2 : (ptsM m i).length ≤ 4 := by
      cases e : m i with
      | none => unfold ptsM; rw [e]; simp
      | some d => rw [ptsM_some e]; exact hD.few e
    omega
section
variable {R : Ending → Heap → Prop} {H : Heap}
theorem s_tpts {g : Addr} {r : Nat} {m : M} (hg : GroveAt H g r m) (hD : Dom m) (k : ∀ v H', H ≤ H' → (∀ b, blockOf v = some b → H b = none) → RowAt H' v tPt 4 (pts (sortP ((idsOf m).flatMap (ptsM m)))) → R (.returned v) H') :
    Meets prog 42 [.pointer (some g)] H R := by
  refine spec_of func42 (by kernel_rfl) (fun t h => by cases h) ?_ (vc_tpts (some g) R H) ?_
  · simp [argsR, SV.rep, SC.rep, one]
  unfold nf_tpts
  refine s_ids hg fun v0 H0 hle0 hfr0 hrow0 => ?_
  obtain ⟨a0, c0, rfl⟩ := row_val hrow0
  have hil : (idsOf m).length ≤ 255 := idsBelow_len m 255
  refine ⟨_, _, _, rfl, ?_⟩
  simp only [true_and]
  generalize hI : idsOf m = I at *
  have hIl : (cells I).length = I.length := by simp [cells]
  rw [hIl] at hrow0 ⊢
  refine ⟨fun p H' => ∃ t : Nat, p.1.1 = pts ((I.take t).flatMap (ptsM m)) ∧ p.1.2.1 = (t : Int) ∧ t ≤ I.length ∧ H0 ≤ H', fun p _ => (I.length - p.1.2.1).toNat, ⟨0, by simp, rfl, by omega, heap_refl _⟩, ?_⟩
  rintro ⟨⟨e1, i, _⟩, _⟩ H1 ⟨t, h1, hi, ht, hle1⟩
  simp only at h1 hi ⊢
  subst h1; subst hi
  refine br (fun q => ?_) fun q => ?_
  · simp only [decide_eq_true_eq] at q
    obtain ⟨x, _, htk, hx⟩ := drop_cons (l := I) (k := t) (by omega)
    obtain ⟨A, e, g0⟩ := ir_get (slice_le (row_slice hrow0) hle1) hx
    subst e
    rw [Int.toNat_natCast, w64 (by omega)]
    refine ⟨⟨by omega, by omega⟩, ptr rfl (ptr rfl ⟨_, g0, s_get (hg.le (heap_trans hle0 hle1)) (fun d e => Nat.le_trans (hD.few e) (by omega)) fun v H2 hle2 hv => ?_⟩)⟩
    obtain ⟨a, n, c, rfl, hs, hk, hc⟩ := hv
    have hfl := ptsM_len hD (I.take (t + 1))
    rw [htk, List.flatMap_append, List.length_append] at hfl
    simp only [List.flatMap_cons, List.flatMap_nil, List.append_nil, List.length_append, List.length_take, List.length_singleton] at hfl
    refine ⟨_, a, n, c, _, _, hk, _, hc, _, rfl, _, hs, ?_, ⟨t + 1, ?_, by omega, by omega, heap_trans hle1 hle2⟩, by omega⟩
    · show (pts _ ++ pts (ptsM m x)).length * 32 ≤ _
      simp only [pts, List.length_append, List.length_map]
      omega
    · rw [htk, List.flatMap_append]
      show pts _ ++ pts (ptsM m x) = _
      simp [pts]
  · simp only [decide_eq_false_iff_not] at q
    obtain rfl : t = I.length := by omega
    rw [List.take_length]
    have hfl := ptsM_len hD I
    refine fun v1 H2 g1 g2 g3 g4 => s_srt (row_slice g4) (by omega) fun v2 H3 hle3 hfr3 hrow3 => ?_
    obtain ⟨a2, c2, rfl⟩ := row_val hrow3
    have hle2 : H ≤ H1 := heap_trans hle0 hle1
    have ne : ∀ b, blockOf (.slice a2 (pts (sortP (I.flatMap (ptsM m)))).length c2) = some b → H3 b ≠ none := fun b e => by
      rcases hrow3 with ⟨q1, _⟩ | ⟨b2, o, cap, cc, q1, q2, _⟩
      · rw [q1] at e; cases e
      · rw [q1] at e; cases e; rw [q2]; simp
    refine ⟨_, _, _, rfl, _, row_le g4 fun b o _ e => hle3 _ _ e, k _ _ (le_delO (heap_trans hle2 (heap_trans g1 hle3)) (fresh_le hle2 g2)) (fresh_le (heap_trans hle2 g1) hfr3) (row_le hrow3 fun b o e q => delH_keep (fun k' e' => ?_) q)⟩
    rintro rfl
    have h1 := hfr3 _ e
    rcases g4 with ⟨q1, _⟩ | ⟨b2, o, cap, cc, q1, q2, _⟩
    · rw [q1] at e'; cases e'
    · rw [q1] at e'; cases e'; rw [h1] at q2; cases q2
end
end Cr

set_option linter.unusedVariables false
set_option linter.unusedSimpArgs false
namespace Cr
open Go Sx Stb Bt
open Go.Proofs.Try
set_option maxRecDepth 100000
/-- The tree of points L; its nodes are the numbers I. -/
structure TreeOK (m : M) (L : List Pt) (I : List Int) : Prop where
  dom : Dom m
  tr : TrP m 32 1 L I
  nd : I.Nodup
  all : ∀ i, m i ≠ none → i ∈ I
  lok : LOK L
theorem TreeOK.iff {m : M} {L : List Pt} {I : List Int} (h : TreeOK m L I) (i : Int) : m i ≠ none ↔ i ∈ I := ⟨h.all i, TrP_there h.tr i⟩
theorem TreeOK.free {m : M} {L : List Pt} {I : List Int} (h : TreeOK m L I) : (freeL m).length + nds 32 L = 255 := by
  rw [← TrP_len h.tr]
  have h1 : I.Perm (numsL.filter fun i => !(m i).isNone) := by
    refine (List.perm_ext_iff_of_nodup h.nd ((numsL_rise.imp fun h => by omega : numsL.Nodup).filter _)).2 fun i => ?_
    rw [List.mem_filter, mem_numsL, ← h.iff]
    cases e : m i with
    | none => simp
    | some d => have := h.dom i d e; simp; omega
  have h2 : ∀ (l : List Int) (f : Int → Bool), (l.filter f).length + (l.filter fun i => !f i).length = l.length := fun l f => by
    induction l with
    | nil => rfl
    | cons x l ih => by_cases e : f x <;> simp [List.filter_cons, e] <;> omega
  rw [h1.length_eq]
  have := h2 numsL fun i => (m i).isNone
  rw [show numsL.length = 255 by simp] at this
  exact this
theorem ids_rise (m : M) (t : Nat) : (idsBelow m t).Pairwise (· < ·) := by
  unfold idsBelow
  refine List.Pairwise.filter _ ?_
  rw [List.pairwise_map]
  exact List.pairwise_lt_range.imp fun h => by omega
theorem TreeOK.ids {m : M} {L : List Pt} {I : List Int} (h : TreeOK m L I) : (idsOf m).Perm I :=
  (List.perm_ext_iff_of_nodup ((ids_rise m 255).imp fun h => by omega) h.nd).2 fun i => by
    show i ∈ idsBelow m 255 ↔ _
    rw [mem_idsBelow, ← h.iff]
    cases e : m i with
    | none => simp
    | some d => have := h.dom i d e; simp; omega
theorem TreeOK.pts {m : M} {L : List Pt} {I : List Int} (h : TreeOK m L I) : ((idsOf m).flatMap (ptsM m)).Perm L := (h.ids.flatMap_right _).trans (TrP_pts h.lok.range h.tr)
abbrev mE : M := setM (fun _ => none) 1 ⟨true, [], 0, z4, z4⟩
theorem mE_one : mE 1 = some nd1 := setM_same
theorem mE_ne {i : Int} (h : i ≠ 1) : mE i = none := setM_ne h
theorem mE_at {i : Int} (hi : mE i ≠ none) : i = 1 := by
  by_cases e : i = 1
  · exact e
  · exact absurd (mE_ne e) hi
theorem freeL_mE : freeL mE = numsL.tail := by
  have h : freeL (fun _ => none) = numsL := List.filter_eq_self.2 fun i _ => rfl
  exact freeL_take (i := 1) (r := numsL.tail) (by rw [h]; rfl)
theorem mE_free : (freeL mE).length = 254 := by rw [freeL_mE]; simp
theorem dom_mE : Dom mE := Dom.none.set ⟨by omega, by omega⟩ (leafOK LOK.nil (by simp) (by omega))
theorem tree_mE : TreeOK mE [] [1] := ⟨dom_mE, TrP_nil setM_same, by simp, fun i hi => by rw [mE_at hi]; simp, LOK.nil⟩
theorem pcode_bad {p : Pt} (h : pcode p ≠ 0) : ¬ ptOK p := fun e => h (pcode_ok.2 e)
/-- A tree that is grown out of nothing. -/
theorem grown {L : List Pt} (hL : LOK L) : (nds 32 L ≤ 255 → ∃ m I, growF 32 mE 1 L = some m ∧ (Dom m → TreeOK m L I) ∧ Low m) ∧ (255 < nds 32 L → growF 32 mE 1 L = none) := by
  have hs := growF_spec 32 mE 1 L (by rw [mE_one]; simp)
  unfold GrowOK at hs
  rw [mE_free] at hs
  refine ⟨fun h => ?_, fun h => hs.2 (by omega)⟩
  obtain ⟨m1, d, I, e1, e2, e3, e4⟩ := hs.1 (by omega)
  have h1 : m1 1 ≠ none := by rw [e2.keep (by rw [mE_one]; simp), mE_one]; simp
  have hall : ∀ i, setM m1 1 d i ≠ none → i ∈ (1 :: I : List Int) := fun i hi => by
    by_cases e : i = 1
    · simp [e]
    · by_cases hI : i ∈ I
      · exact List.mem_cons_of_mem _ hI
      · exfalso; rw [setM_ne e, e2.same i hI] at hi; exact e (mE_at hi)
  refine ⟨_, 1 :: I, e1, fun hD => ⟨hD, e4, List.nodup_cons.2 ⟨e2.off (by rw [mE_one]; simp), e2.nodup⟩, hall, hL⟩, fun i j hi hj => ?_⟩
  rw [freeL_set h1, e2.free] at hj
  rcases List.mem_cons.1 (hall i hi) with rfl | hi'
  · have h2 := (mem_freeL (m := mE)).1 (List.mem_of_mem_drop hj)
    have : j ≠ 1 := by rintro rfl; rw [mE_one] at h2; cases h2.2.2
    omega
  · have h2 := (e2.mem i).1 hi'
    have h3 := freeL_rise mE
    rw [← List.take_append_drop I.length (freeL mE), List.pairwise_append] at h3
    exact h3.2.2 i h2 j hj
section
variable {R : Ending → Heap → Prop} {H : Heap}
theorem s_tins {g : Addr} {r : Nat} {m : M} {L : List Pt} {I : List Int} {p : Pt} (hg : GroveAt H g r m) (hT : TreeOK m L I) (hpr : PtR p)
    (k1 : pcode p ≠ 0 → R (.returned (.tuple #[.pointer none, vi (pcode p)])) H)
    (k2 : ptOK p → p.id ∈ L.map Pt.id → ∀ H', H ≤ H' → R (.returned (.tuple #[.pointer none, vi 22])) H')
    (k3 : ptOK p → p.id ∉ L.map Pt.id → 255 < nds 32 (insP L p) → ∀ H', H ≤ H' → R (.returned (.tuple #[.pointer none, vi 10])) H')
    (k4 : ptOK p → p.id ∉ L.map Pt.id → nds 32 (insP L p) ≤ 255 → ∀ b r' m' I' H', H b = none → H r' = none → b ≠ r' → H ≤ H' → GroveAt H' ⟨b, 0, none⟩ r' m' → TreeOK m' (insP L p) I' → (Low m → ∀ i ∈ I, i ∈ I') → Chg m m' (32 + nch L.length) →
      R (.returned (.tuple #[.pointer (some ⟨b, 0, none⟩), vi 0])) H') :
    Meets prog 45 [.pointer (some g), ptV p] H R := by
  refine spec_of func45 (by kernel_rfl) (fun t h => by cases h) ?_ (vc_tins (some g) p.id p.x p.y p.data R H) ?_
  · simp [argsR, SV.rep, SegsRep, SC.rep, one]
  unfold nf_tins
  have hlI : (idsOf m).length ≤ 255 := idsBelow_len m 255
  have hPp := hT.pts
  have hbig : L.length ≤ 1020 := by
    rw [← hPp.length_eq]
    have := ptsM_len hT.dom (idsOf m); omega
  refine s_pchk (.inl ⟨_, rfl, br (fun q => k1 (by simpa using q)) fun q => ?_⟩)
  have hok : ptOK p := pcode_ok.1 (by simpa using q)
  refine ⟨_, none_le _, s_tpts hg hT.dom fun v1 H1 hle1 hfr1 hrow1 => ?_⟩
  rw [sortP_perm hT.lok.rise hPp] at hrow1
  obtain ⟨a1, c1, rfl⟩ := row_val hrow1
  have ids : ∀ i : Nat, L.findIdx? (fun x => x.id == p.id) = some i → p.id ∈ L.map Pt.id := fun i hi => by
    rw [List.findIdx?_eq_some_iff_getElem] at hi
    obtain ⟨h1, h2, _⟩ := hi
    rw [← eq_of_beq h2]
    exact List.mem_map_of_mem (List.getElem_mem h1)
  refine .inl ⟨keep_none _ _, _, _, _, rfl, s_find (row_slice hrow1) (by omega) (fun i hi => .inl ⟨keep_none _ _, _, rfl, br (fun _ => k2 hok (ids i hi) _ hle1) fun q1 => by simp at q1⟩) fun hi => .inl ⟨keep_none _ _, _, rfl, br (fun q1 => by simp at q1) fun _ => ?_⟩⟩
  have hno : p.id ∉ L.map Pt.id := fun hm => by
    obtain ⟨x, hx, e⟩ := List.mem_map.1 hm
    have := List.findIdx?_eq_none_iff.1 hi x hx
    simp [e] at this
  refine s_gcl hT.dom (hg.le hle1) fun r2 b hr hb hne H2 hle2 hg2 => .inl ⟨_, rfl, _, none_le _, s_croot (.inl ⟨keep_none _ _, _, _, _, rfl, ?_⟩)⟩
  have hle := heap_trans hle1 hle2
  have nn : ∀ x, H1 x = none → H x = none := fun x e => by
    cases e' : H x with
    | none => rfl
    | some o => rw [hle1 _ _ e'] at e; cases e
  have up : ∀ H', GMod r2 H2 H' → H ≤ H' := fun H' hm x o e => hm x o (by rintro rfl; rw [nn _ hr] at e; cases e) (hle _ _ e)
  have hc0 : Cor 32 0 := ⟨by omega, by decide, by decide⟩
  obtain ⟨T, hT1⟩ := TrP_head hT.tr
  have hfree := hT.free
  have htr := hT.tr
  have hnd := hT.nd
  rw [hT1] at htr hnd
  refine s_add 32 (Nat.le_refl _) (by omega) hc0 hc0 (by omega) hg2 hT.dom hT.lok htr hnd hok hpr hno (fun hle3 m' T' H3 f1 f2 f3 f4 D3 g3 m3 => .inl ⟨keep_none _ _, rfl, fin_ret ?_⟩) fun hlt H3 m3 => .inr ⟨_, rfl, fin_pan (k3 hok hno (by omega) _ (up _ m3))⟩
  refine k4 hok hno (by omega) b r2 m' (1 :: T') H3 (nn _ hb) (nn _ hr) (Ne.symm hne) (up _ m3) g3 ⟨D3, f1, f2.nodup, fun i hi => ?_, hT.lok.ins hno hok hpr⟩ (fun hlow i hi => f3 hlow i (hT1 ▸ hi)) f4
  by_cases h1 : i ∈ (1 :: T' : List Int)
  · exact h1
  · exfalso
    by_cases h2 : i ∈ (1 :: T : List Int)
    · exact hi (f2.gone i h2 h1)
    · rw [f2.same i h2 h1] at hi
      exact h2 (hT1 ▸ hT.all i hi)
theorem s_tdel {g : Addr} {r : Nat} {m : M} {L : List Pt} {I : List Int} {p : Pt} (hg : GroveAt H g r m) (hT : TreeOK m L I) (hpr : PtR p)
    (k1 : (∀ x ∈ L, mt p x = false) → ∀ H', H ≤ H' → R (.returned (.tuple #[.pointer none, vi 14])) H')
    (k2 : (∃ x ∈ L, mt p x = true) → ∀ b r' m' I' H', H b = none → H r' = none → b ≠ r' → H ≤ H' → GroveAt H' ⟨b, 0, none⟩ r' m' → TreeOK m' (cutP L p) I' → R (.returned (.tuple #[.pointer (some ⟨b, 0, none⟩), vi 0])) H') :
    Meets prog 44 [.pointer (some g), ptV p] H R := by
  refine spec_of func44 (by kernel_rfl) (fun t h => by cases h) ?_ (vc_tdel (some g) p.id p.x p.y p.data R H) ?_
  · simp [argsR, SV.rep, SegsRep, SC.rep, one]
  unfold nf_tdel
  have hIl := TrP_len hT.tr
  have hPp := TrP_pts hT.lok.range hT.tr
  have hbig : L.length ≤ 1020 := by
    rw [← hPp.length_eq]
    have := ptsM_len hT.dom I
    have := hT.free
    omega
  refine s_gcl hT.dom hg fun r2 b hr hb hne H2 hle2 hg2 => .inl ⟨_, rfl, _, none_le _, s_croot (.inl ⟨keep_none _ _, _, _, _, rfl, ?_⟩)⟩
  have up : ∀ H', GMod r2 H2 H' → H ≤ H' := fun H' hm x o e => hm x o (by rintro rfl; rw [hr] at e; cases e) (hle2 _ _ e)
  have hc0 : Cor 32 0 := ⟨by omega, by decide, by decide⟩
  obtain ⟨T, hT1⟩ := TrP_head hT.tr
  have htr := hT.tr
  have hnd := hT.nd
  rw [hT1] at htr hnd
  refine s_cut 32 (Nat.le_refl _) (by omega) hc0 hc0 (by omega) hg2 hT.dom hT.lok htr hnd hpr (fun hex m' T' H3 f1 f2 D3 g3 m3 => .inl ⟨keep_none _ _, rfl, fin_ret ?_⟩) fun hno H3 m3 => .inr ⟨_, rfl, fin_pan (k1 hno _ (up _ m3))⟩
  refine k2 hex b r2 m' (1 :: T') H3 hb hr (Ne.symm hne) (up _ m3) g3 ⟨D3, f1, f2.nodup, fun i hi => ?_, hT.lok.sub List.filter_sublist⟩
  by_cases h1 : i ∈ (1 :: T' : List Int)
  · exact h1
  · exfalso
    by_cases h2 : i ∈ (1 :: T : List Int)
    · exact hi (f2.gone i h2 h1)
    · rw [f2.same i h2 h1] at hi
      exact h2 (hT1 ▸ hT.all i hi)
end
end Cr

set_option linter.unusedVariables false
set_option linter.unusedSimpArgs false
namespace Cr
open Go Sx Stb Bt
open Go.Proofs.Try
set_option maxRecDepth 100000
def h_wshape : Hints := { deep := true, own := [46, 73], loops := [(8, ⟨[0, 1, 4, 54], [.f 6 (.int .i64), .f 55 (.int .i64)], [.keep 4]⟩), (15, ⟨[0, 77], [.f 78 (.int .i64)], []⟩)] }
def nf_wshape (b : Addr) (id : Int) (R : Ending → Heap → Prop) (H : Heap) : Prop := PtrK (some b) fun (a : Addr) ↦ PtrK (some a) fun (a : Addr) ↦ PtrK (some (Addr.add a (0 : Nat))) fun (a : Addr) ↦ ∃ (a_1 : Option Addr), Heap.has H a [Value.pointer a_1] ∧ Meets prog (50 : Nat) [Value.pointer a_1, Value.int IntKind.i64 id] H fun (e : Ending) (H' : Nat → Option Obj) ↦ ∃ (b_1 : Bool), ∃ (a : Option Addr), ∃ (n : Nat), ∃ (c : Nat), ∃ (n_1 : Int), ∃ (xs : List Int), List.length xs = (4 : Nat) ∧ ∃ (xs_1 : List Int), List.length xs_1 = (4 : Nat) ∧ ∃ (b_2 : Bool), e = Ending.returned (Value.tuple { toList := [Value.agg { toList := Value.bool b_1 :: Value.slice a n c :: Value.int IntKind.i64 n_1 :: List.append (List.map (Value.int IntKind.i64) xs) (flatD [Seg.ints IntKind.i64 (4 : Nat) xs_1]) }, Value.bool b_2] }) ∧ Br (!b_2) (R (Ending.returned (Value.tuple { toList := [] })) H') (PtrK (some b) fun (a_2 : Addr) ↦ PtrK (some a_2) fun (a_3 : Addr) ↦ PtrK (some (Addr.add a_3 (1 : Nat))) fun (a_4 : Addr) ↦ ∃ (r : Option Nat), Heap.has H' a_4 [Value.map r] ∧ ∃ (b_3 : Bool), (∃ (b : Bool), LookAt H' r IntKind.i64 id (Value.bool false) (Value.bool b_3) b) ∧ Br b_3 (R (Ending.returned (Value.tuple { toList := [] })) H') (PtrK (some b) fun (a_5 : Addr) ↦ PtrK (some a_5) fun (a_6 : Addr) ↦ PtrK (some (Addr.add a_6 (1 : Nat))) fun (a_7 : Addr) ↦ ∃ (r : Option Nat), Heap.has H' a_7 [Value.map r] ∧ MapK r fun (r : Nat) ↦ ∃ (es : Array MapEntry), ∃ (clk : Nat), (H' r = some (Obj.map es clk) ∧ IntKeys IntKind.i64 es.toList) ∧ Br b_1 (PtrK (some b) fun (a : Addr) ↦ PtrK (some a) fun (a : Addr) ↦ PtrK (some (Addr.add a (2 : Nat))) fun (a : Addr) ↦ ∃ (a_8 : Option Addr), ∃ (n_2 : Nat), ∃ (c : Nat), Heap.has (Heap.upd H' r (mapPut es clk IntKind.i64 id (Value.bool true))) a [Value.slice a_8 n_2 c] ∧ ∃ (es_1 : List (List Value)), RowAt (Heap.upd H' r (mapPut es clk IntKind.i64 id (Value.bool true))) (Value.slice a_8 n_2 c) (3 : Nat) (1 : Nat) es_1 ∧ List.length (List.append es_1 [[Value.int IntKind.i64 (↑n : Int)]]) * (8 : Nat) ≤ (140737488355328 : Nat) ∧ PtrK (some b) fun (a : Addr) ↦ PtrK (some a) fun (a : Addr) ↦ ∀ (v : Value) (H'_1 : Nat → Option Obj), Heap.delO (Heap.upd H' r (mapPut es clk IntKind.i64 id (Value.bool true))) (blockOf (Value.slice a_8 n_2 c)) ≤ H'_1 → (∀ (b : Nat), blockOf v = some b → Heap.delO (Heap.upd H' r (mapPut es clk IntKind.i64 id (Value.bool true))) (blockOf (Value.slice a_8 n_2 c)) b = none) → (∀ (b : Nat) (o : Obj), H'_1 b = some o → Heap.delO (Heap.upd H' r (mapPut es clk IntKind.i64 id (Value.bool true))) (blockOf (Value.slice a_8 n_2 c)) b = some o ∨ blockOf v = some b) → RowAt H'_1 v (3 : Nat) (1 : Nat) (List.append es_1 [[Value.int IntKind.i64 (↑n : Int)]]) → PtrK (some (Addr.add a (2 : Nat))) fun (A : Addr) ↦ ∃ (c : Array Value), ∃ (ty : Nat), (H'_1 A.block = some (Obj.cells c ty) ∧ A.spot = none ∧ A.off + (1 : Nat) ≤ Array.size c) ∧ Meets prog (74 : Nat) [Value.pointer (some b), Value.int IntKind.i64 n_1] (Heap.upd H'_1 A.block (Obj.cells (writeCells c A.off [v]) ty)) fun (e : Ending) (H' : Nat → Option Obj) ↦ e = Ending.returned (Value.tuple { toList := [] }) ∧ R (Ending.returned (Value.tuple { toList := [] })) H') (some b = some b ∧ id = id ∧ (0 : Nat) = (0 : Nat) ∧ xs = xs ∧ b_1 = b_1 ∧ a = a ∧ n = n ∧ c = c ∧ n_1 = n_1 ∧ xs = xs ∧ xs_1 = xs_1 ∧ LoopP (fun (K : (Int × Int × PUnit) × PUnit × PUnit → (Nat → Option Obj) → Prop) (p : (Int × Int × PUnit) × PUnit × PUnit) (H : Nat → Option Obj) ↦ Br (decide (p.fst.snd.fst < (4 : Int))) (((0 : Int) ≤ p.fst.snd.fst ∧ p.fst.snd.fst < (↑(4 : Nat) : Int)) ∧ Br (decide (List.getD xs (Int.toNat p.fst.snd.fst) (0 : Int) > (0 : Int))) ((0 : Int) ≤ p.fst.snd.fst ∧ some b = some b ∧ id = id ∧ (0 : Nat) = (0 : Nat) ∧ xs = xs ∧ b_1 = b_1 ∧ a = a ∧ n = n ∧ c = c ∧ n_1 = n_1 ∧ xs = xs ∧ xs_1 = xs_1 ∧ K ((IntKind.wrap IntKind.i64 (p.fst.fst - shlI IntKind.i64 (1 : Int) p.fst.snd.fst), IntKind.wrap IntKind.i64 (p.fst.snd.fst + (1 : Int)), PUnit.unit), PUnit.unit, PUnit.unit) H) (some b = some b ∧ id = id ∧ (0 : Nat) = (0 : Nat) ∧ xs = xs ∧ b_1 = b_1 ∧ a = a ∧ n = n ∧ c = c ∧ n_1 = n_1 ∧ xs = xs ∧ xs_1 = xs_1 ∧ K ((p.fst.fst, IntKind.wrap IntKind.i64 (p.fst.snd.fst + (1 : Int)), PUnit.unit), PUnit.unit, PUnit.unit) H)) (PtrK (some b) fun (a : Addr) ↦ PtrK (some a) fun (a : Addr) ↦ PtrK (some (Addr.add a (2 : Nat))) fun (a : Addr) ↦ ∃ (a_8 : Option Addr), ∃ (n : Nat), ∃ (c : Nat), Heap.has H a [Value.slice a_8 n c] ∧ ∃ (es : List (List Value)), RowAt H (Value.slice a_8 n c) (3 : Nat) (1 : Nat) es ∧ List.length (List.append es [[Value.int IntKind.i64 p.fst.fst]]) * (8 : Nat) ≤ (140737488355328 : Nat) ∧ PtrK (some b) fun (a : Addr) ↦ PtrK (some a) fun (a : Addr) ↦ ∀ (v : Value) (H' : Nat → Option Obj), Heap.delO H (blockOf (Value.slice a_8 n c)) ≤ H' → (∀ (b : Nat), blockOf v = some b → Heap.delO H (blockOf (Value.slice a_8 n c)) b = none) → (∀ (b : Nat) (o : Obj), H' b = some o → Heap.delO H (blockOf (Value.slice a_8 n c)) b = some o ∨ blockOf v = some b) → RowAt H' v (3 : Nat) (1 : Nat) (List.append es [[Value.int IntKind.i64 p.fst.fst]]) → PtrK (some (Addr.add a (2 : Nat))) fun (A : Addr) ↦ ∃ (c : Array Value), ∃ (ty : Nat), (H' A.block = some (Obj.cells c ty) ∧ A.spot = none ∧ A.off + (1 : Nat) ≤ Array.size c) ∧ some b = some b ∧ xs = xs ∧ LoopP (fun (K : (Int × PUnit) × PUnit → (Nat → Option Obj) → Prop) (p : (Int × PUnit) × PUnit) (H : Nat → Option Obj) ↦ Br (decide (p.fst.fst < (4 : Int))) (((0 : Int) ≤ p.fst.fst ∧ p.fst.fst < (↑(4 : Nat) : Int)) ∧ Meets prog (74 : Nat) [Value.pointer (some b), Value.int IntKind.i64 (List.getD xs (Int.toNat p.fst.fst) (0 : Int))] H fun (e : Ending) (H' : Nat → Option Obj) ↦ e = Ending.returned (Value.tuple { toList := [] }) ∧ some b = some b ∧ xs = xs ∧ K ((IntKind.wrap IntKind.i64 (p.fst.fst + (1 : Int)), PUnit.unit), PUnit.unit) H') (R (Ending.returned (Value.tuple { toList := [] })) H)) (((0 : Int), PUnit.unit), PUnit.unit) (Heap.upd H' A.block (Obj.cells (writeCells c A.off [v]) ty)))) (((-1 : Int), (0 : Int), PUnit.unit), PUnit.unit, PUnit.unit) (Heap.upd H' r (mapPut es clk IntKind.i64 id (Value.bool true))))))
theorem vc_wshape (b : Addr) (id : Int) (R : Ending → Heap → Prop) (H : Heap) : vcFun prog h_wshape f74 [SV.c (SC.v (Value.pointer (some b))), SV.c (SC.v (Value.int IntKind.i64 id))] R H = nf_wshape b id R H := by kernel_rfl

def nf_tshape (g : Option Addr) (R : Ending → Heap → Prop) (H : Heap) : Prop := ∀ (r : Nat), H r = none → ∀ (b : Nat), Heap.upd H r (Obj.map #[] (0 : Nat)) b = none → Meets prog (74 : Nat) [Value.pointer (some { block := b, off := (0 : Nat) }), Value.int IntKind.i64 (1 : Int)] (Heap.upd (Heap.upd H r (Obj.map #[] (0 : Nat))) b (Obj.cells { toList := [Value.pointer g, Value.map (some r), Value.slice none (0 : Nat) (0 : Nat)] } (117 : Nat))) fun (e : Ending) (H' : Nat → Option Obj) ↦ e = Ending.returned (Value.tuple { toList := [] }) ∧ ∃ (a : Option Addr), ∃ (r : Option Nat), ∃ (a_1 : Option Addr), ∃ (n : Nat), ∃ (c : Nat), (∃ (b_1 : Nat), blockOf (Value.pointer (some { block := b, off := (0 : Nat) })) = some b_1 ∧ H' b_1 = some (Obj.cells { toList := [Value.pointer a, Value.map r, Value.slice a_1 n c] } (117 : Nat))) ∧ R (Ending.returned (Value.slice a_1 n c)) (Heap.delO H' (blockOf (Value.pointer (some { block := b, off := (0 : Nat) }))))
theorem vc_tshape (g : Option Addr) (R : Ending → Heap → Prop) (H : Heap) : vcFun prog { } f41 [SV.c (SC.v (Value.pointer g))] R H = nf_tshape g R H := by kernel_rfl

def wkL (g : Addr) (r : Nat) (s : Value) : List Value := [.pointer (some g), .map (some r), s]
/-- A walker stands at b, its map at r; what is in G is as it was. -/
def WkAt (G : Heap) (g : Addr) (b r : Nat) (met : Int → Bool) (out : List Int) (H : Heap) : Prop :=
  G ≤ H ∧ G b = none ∧ G r = none ∧ b ≠ r ∧ (∃ l, MapAt H r .i64 l ∧ ∀ id, getL l id = if met id then some (.bool true) else none) ∧
    ∃ a n c, H b = some (.cells (wkL g r (.slice a n c)).toArray 117 (0, 0)) ∧ RowAt H (.slice a n c) 3 1 (cells out) ∧ ∀ k, blockOf (.slice a n c) = some k → G k = none ∧ k ≠ b ∧ k ≠ r
section
variable {R : Ending → Heap → Prop} {H : Heap}
theorem WkAt.mono {G : Heap} {g : Addr} {b r : Nat} {met : Int → Bool} {out : List Int} {H H' : Heap} (h : WkAt G g b r met out H) (hle : H ≤ H') : WkAt G g b r met out H' := by
  obtain ⟨h1, h2, h3, h4, ⟨l, h5, h6⟩, a, n, c, h8, h9, h10⟩ := h
  exact ⟨heap_trans h1 hle, h2, h3, h4, ⟨l, map_same h5 (fun o e => hle _ _ e), h6⟩, a, n, c, hle _ _ h8, row_le h9 (fun b o _ e => hle _ _ e), h10⟩
theorem WkAt.put {G : Heap} {g : Addr} {b r : Nat} {met : Int → Bool} {out : List Int} {H : Heap} (h : WkAt G g b r met out H) (id : Int) : ∃ es clk, (H r = some (.map es clk) ∧ IntKeys .i64 es.toList) ∧
    WkAt G g b r (fun j => j == id || met j) out (H.upd r (mapPut es clk .i64 id (.bool true))) := by
  obtain ⟨h1, h2, h3, h4, ⟨l, h5, h6⟩, a, n, c, h8, h9, h10⟩ := h
  obtain ⟨es, clk, e1, e2⟩ := map_put h5 id (.bool true)
  refine ⟨es, clk, e1, le_upd h1 h3 _, h2, h3, h4, ⟨_, e2, fun j => ?_⟩, a, n, c, ?_, row_le h9 (fun k o e q => ?_), h10⟩
  · rw [getL_putL, h6]
    by_cases e : j = id
    · subst e; simp
    · simp [e]
  · rw [upd_ne _ _ h4]; exact h8
  · rw [upd_ne _ _ (h10 k e).2.2]; exact q
/-- A number is appended. -/
theorem WkAt.push {G : Heap} {g : Addr} {b r : Nat} {met : Int → Bool} {out : List Int} {H : Heap} (h : WkAt G g b r met out H) (hl : out.length ≤ 1000000) (y : Int) {X : Heap → Prop} (hX : ∀ H', WkAt G g b r met (out ++ [y]) H' → X H') :
    ∃ (a : Option Addr) (n c : Nat), H.has (Addr.add ⟨b, 0, none⟩ 2) [.slice a n c] ∧ ∃ es : List (List Value), RowAt H (.slice a n c) 3 1 es ∧ (List.append es [[vi y]]).length * 8 ≤ 140737488355328 ∧
      PtrK (some ⟨b, 0, none⟩) fun a_1 => PtrK (some a_1) fun a_2 => ∀ (v : Value) (H' : Heap), H.delO (blockOf (.slice a n c)) ≤ H' → (∀ b, blockOf v = some b → (H.delO (blockOf (.slice a n c))) b = none) → (∀ (b : Nat) (o : Obj), H' b = some o → (H.delO (blockOf (.slice a n c))) b = some o ∨ blockOf v = some b) → RowAt H' v 3 1 (List.append es [[vi y]]) →
        PtrK (some (Addr.add a_2 2)) fun A => ∃ (c : Array Value) (ty : TypeId), (H' A.block = some (.cells c ty (0, 0)) ∧ A.spot = none ∧ A.off + 1 ≤ c.size) ∧ X (H'.upd A.block (.cells (writeCells c A.off [v]) ty (0, 0))) := by
  obtain ⟨f1, f2, f3, f4, ⟨l3, f5, f6⟩, a3, n3, c3, f8, f9, f10⟩ := h
  refine ⟨a3, n3, c3, cells_at f8 (k := 2) rfl, _, f9, by simp [cells]; omega, ptr rfl (ptr rfl fun v H3 g1 g2 _ g4 => ptr rfl ?_)⟩
  obtain ⟨a4, c4, rfl⟩ := row_val g4
  have keep : ∀ x ob, (∀ k, blockOf (.slice a3 n3 c3) = some k → k ≠ x) → H x = some ob → H3 x = some ob := fun x ob h1 h2 => g1 _ _ (delO_keep h1 h2)
  have hb3 := keep b _ (fun k e => (f10 k e).2.1) f8
  have hG3 : G ≤ H3 := fun x ob e => keep x ob (fun k e' => by rintro rfl; rw [(f10 k e').1] at e; cases e) (f1 _ _ e)
  have fresh : ∀ k, blockOf (.slice a4 (List.append (cells out) [[vi y]]).length c4) = some k → ∀ x ob, (∀ k, blockOf (.slice a3 n3 c3) = some k → k ≠ x) → H x = some ob → k ≠ x := fun k e x ob h1 h2 => by
    rintro rfl
    have := g2 k e
    rw [delO_keep h1 h2] at this; cases this
  obtain ⟨p1, p2⟩ := cells_put hb3 (k := 2) (by simp [wkL]) (.slice a4 (List.append (cells out) [[vi y]]).length c4)
  refine ⟨_, _, p1, hX _ ?_⟩
  rw [p2]
  have hnb : ∀ k, blockOf (.slice a4 (List.append (cells out) [[vi y]]).length c4) = some k → k ≠ b := fun k e => fresh k e b _ (fun k e => (f10 k e).2.1) f8
  have hmap : ∃ es clk, H r = some (.map es clk) := by obtain ⟨es, clk, e, _⟩ := f5; exact ⟨es, clk, e⟩
  obtain ⟨es3, clk3, hm3⟩ := hmap
  refine ⟨le_upd hG3 f2 _, f2, f3, f4, ⟨l3, map_same f5 (fun o e => ?_), f6⟩, a4, _, c4, upd_same _ _ _, ?_, fun k e => ⟨?_, hnb k e, fresh k e r _ (fun k e => (f10 k e).2.2) hm3⟩⟩
  · rw [upd_ne _ _ (Ne.symm f4)]; exact keep r o (fun k e => (f10 k e).2.2) e
  · have : cells (out ++ [y]) = List.append (cells out) [[vi y]] := by simp [cells]
    rw [this]
    exact row_le g4 fun k o e q => by rw [upd_ne _ _ (hnb k e)]; exact q
  · cases e' : G k with
    | none => rfl
    | some ob => exact absurd rfl (fresh k e k ob (fun k' e2 e3 => by rw [e3] at e2; rw [(f10 k e2).1] at e'; cases e') (f1 _ _ e'))
theorem s_wshape_not {G : Heap} {g : Addr} {b r r0 : Nat} {m : M} {met : Int → Bool} {out : List Int} {id : Int} (hC : WkAt G g b r met out H) (hg : GroveAt G g r0 m) (hD : Dom m) (hn : m id = none ∨ met id = true)
    (k : ∀ H', WkAt G g b r met out H' → R (.returned unitV) H') : Meets prog 74 [.pointer (some ⟨b, 0, none⟩), vi id] H R := by
  refine spec_of func74 (by kernel_rfl) (fun t h => by cases h) ?_ (vc_wshape ⟨b, 0, none⟩ id R H) ?_
  · simp [argsR, SV.rep, SC.rep, one]
  unfold nf_wshape
  have hC0 := hC
  obtain ⟨h1, h2, h3, h4, ⟨l, h5, h6⟩, a, n, c, h8, h9, h10⟩ := hC0
  refine ptr rfl (ptr rfl (ptr rfl ⟨_, cells_at h8 (k := 0) rfl, ?_⟩))
  refine s_get (hg.le h1) (fun d e => Nat.le_trans (hD.few e) (by omega)) fun v H1 hle hv => ?_
  have hC1 := hC.mono hle
  obtain ⟨a', n', c', rfl, hs, hk, hc⟩ := hv
  refine ⟨_, a', n', c', _, _, hk, _, hc, _, rfl, br (fun q => k _ hC1) fun q => ?_⟩
  obtain ⟨d1, d2, d3, d4, ⟨l', d5, d6⟩, a2, n2, c2, d8, d9, d10⟩ := hC1
  rcases hn with hn | hn
  · rw [hn] at q; simp at q
  · have := map_look d5 id (.bool false)
    rw [d6, hn] at this
    exact ptr rfl (ptr rfl (ptr rfl ⟨_, cells_at d8 (k := 1) rfl, true, ⟨_, this⟩, br (fun _ => k _ (hC.mono hle)) fun q => by cases q⟩))
theorem s_wshape_leaf {G : Heap} {g : Addr} {b r r0 : Nat} {m : M} {met : Int → Bool} {out : List Int} {id : Int} {d : Nd} (hC : WkAt G g b r met out H) (hg : GroveAt G g r0 m) (hD : Dom m) (hd : m id = some d) (hlf : d.leaf = true) (hm : met id = false) (hl : out.length ≤ 1000000)
    (k : ∀ H', WkAt G g b r (fun j => j == id || met j) (out ++ [(d.pts.length : Int)]) H' → Meets prog 74 [.pointer (some ⟨b, 0, none⟩), vi d.next] H' fun e H'' => e = .returned unitV ∧ R (.returned unitV) H'') :
    Meets prog 74 [.pointer (some ⟨b, 0, none⟩), vi id] H R := by
  refine spec_of func74 (by kernel_rfl) (fun t h => by cases h) ?_ (vc_wshape ⟨b, 0, none⟩ id R H) ?_
  · simp [argsR, SV.rep, SC.rep, one]
  unfold nf_wshape
  have hC0 := hC
  obtain ⟨h1, h2, h3, h4, ⟨l, h5, h6⟩, a, n, c, h8, h9, h10⟩ := hC0
  refine ptr rfl (ptr rfl (ptr rfl ⟨_, cells_at h8 (k := 0) rfl, ?_⟩))
  refine s_get (hg.le h1) (fun d e => Nat.le_trans (hD.few e) (by omega)) fun v H1 hle hv => ?_
  rw [hd] at hv ⊢
  change NdAt H1 v d at hv
  have hC1 := hC.mono hle
  obtain ⟨a', n', c', rfl, hs, hk, hc⟩ := hv
  have hlen : d.pts.length = n' := by simpa [pts] using (slice_len hs).1
  subst hlen
  refine ⟨_, a', _, c', _, _, hk, _, hc, _, rfl, br (fun q => by simp at q) fun q => ?_⟩
  obtain ⟨d1, d2, d3, d4, ⟨l', d5, d6⟩, a2, n2, c2, d8, d9, d10⟩ := hC1
  have hlk := map_look d5 id (.bool false)
  rw [d6, hm] at hlk
  obtain ⟨es, clk, e1, hC2⟩ := (hC.mono hle).put id
  refine ptr rfl (ptr rfl (ptr rfl ⟨_, cells_at d8 (k := 1) rfl, false, ⟨_, hlk⟩, br (fun q => by cases q) fun _ => ptr rfl (ptr rfl (ptr rfl ⟨_, cells_at d8 (k := 1) rfl, mapk rfl ⟨es, clk, e1, br (fun _ => ?_) fun q => by rw [hlf] at q; cases q⟩⟩))⟩))
  exact ptr rfl (ptr rfl (ptr rfl (hC2.push hl (d.pts.length : Int) fun H' hC' => k H' hC')))
def ksum (ks : List Int) : Nat → Int
  | 0 => -1
  | q + 1 => ksum ks q - if ks.getD q 0 > 0 then 2 ^ q else 0
theorem ksum_range (ks : List Int) : ∀ q, q ≤ 4 → -(2 : Int) ^ q ≤ ksum ks q ∧ ksum ks q ≤ -1
  | 0, _ => by simp [ksum]
  | q + 1, hq => by
    have h1 := ksum_range ks q (by omega)
    unfold ksum
    have h2 : (2 : Int) ^ (q + 1) = 2 * 2 ^ q := by rw [Int.pow_succ]; omega
    have h3 := pow_le (h := q) (by omega)
    split <;> omega
theorem two_pow' {q : Nat} (hq : q < 4) : shlI .i64 1 (q : Int) = 2 ^ q ∧ (2 : Int) ^ q ≤ 8 := by
  rcases four_eq hq with rfl | rfl | rfl | rfl <;> decide
theorem s_wshape_inner {G : Heap} {g : Addr} {b r r0 : Nat} {m : M} {met : Int → Bool} {out : List Int} {id : Int} {d : Nd} (hC : WkAt G g b r met out H) (hg : GroveAt G g r0 m) (hD : Dom m) (hd : m id = some d) (hlf : d.leaf = false) (hm : met id = false) (hl : out.length ≤ 1000000)
    (I : Nat → Heap → Prop) (k0 : ∀ H', WkAt G g b r (fun j => j == id || met j) (out ++ [ksum d.kids 4]) H' → I 0 H')
    (k1 : ∀ q, q < 4 → ∀ H', I q H' → ∀ R', (∀ H'', I (q + 1) H'' → R' (.returned unitV) H'') → Meets prog 74 [.pointer (some ⟨b, 0, none⟩), vi (d.kids.getD q 0)] H' R')
    (k2 : ∀ H', I 4 H' → R (.returned unitV) H') : Meets prog 74 [.pointer (some ⟨b, 0, none⟩), vi id] H R := by
  refine spec_of func74 (by kernel_rfl) (fun t h => by cases h) ?_ (vc_wshape ⟨b, 0, none⟩ id R H) ?_
  · simp [argsR, SV.rep, SC.rep, one]
  unfold nf_wshape
  have hC0 := hC
  obtain ⟨h1, h2, h3, h4, ⟨l, h5, h6⟩, a, n, c, h8, h9, h10⟩ := hC0
  refine ptr rfl (ptr rfl (ptr rfl ⟨_, cells_at h8 (k := 0) rfl, ?_⟩))
  refine s_get (hg.le h1) (fun d e => Nat.le_trans (hD.few e) (by omega)) fun v H1 hle hv => ?_
  rw [hd] at hv ⊢
  change NdAt H1 v d at hv
  have hC1 := hC.mono hle
  obtain ⟨a', n', c', rfl, hs, hk, hc⟩ := hv
  refine ⟨_, a', _, c', _, _, hk, _, hc, _, rfl, br (fun q => by simp at q) fun q => ?_⟩
  obtain ⟨d1, d2, d3, d4, ⟨l', d5, d6⟩, a2, n2, c2, d8, d9, d10⟩ := hC1
  have hlk := map_look d5 id (.bool false)
  rw [d6, hm] at hlk
  obtain ⟨es, clk, e1, hC2⟩ := (hC.mono hle).put id
  refine ptr rfl (ptr rfl (ptr rfl ⟨_, cells_at d8 (k := 1) rfl, false, ⟨_, hlk⟩, br (fun q => by cases q) fun _ => ptr rfl (ptr rfl (ptr rfl ⟨_, cells_at d8 (k := 1) rfl, mapk rfl ⟨es, clk, e1, br (fun q => by rw [hlf] at q; cases q) fun _ => ?_⟩⟩))⟩))
  simp only [true_and]
  generalize H1.upd r (mapPut es clk .i64 id (.bool true)) = H2 at *
  refine ⟨fun p H' => ∃ q : Nat, p.1.1 = ksum d.kids q ∧ p.1.2.1 = (q : Int) ∧ q ≤ 4 ∧ H' = H2, fun p _ => (4 - p.1.2.1).toNat, ⟨0, rfl, rfl, by omega, rfl⟩, ?_⟩
  rintro ⟨⟨s, i, _⟩, _⟩ H3 ⟨u, hs1, hi, hu, rfl⟩
  simp only at hs1 hi ⊢
  subst hs1; subst hi
  refine br (fun q => ?_) fun q => ?_
  · simp only [decide_eq_true_eq] at q
    have hr := ksum_range d.kids u (by omega)
    have hpw := pow_le (h := u) (by omega)
    obtain ⟨t1, t2⟩ := two_pow' (q := u) (by omega)
    rw [Int.toNat_natCast, t1, w64 (k := (u : Int) + 1) (by omega), w64 (k := ksum d.kids u - 2 ^ u) (by omega)]
    refine ⟨⟨by omega, by omega⟩, br (fun q1 => ?_) fun q1 => ?_⟩
    · simp only [decide_eq_true_eq] at q1
      refine ⟨by omega, ⟨u + 1, ?_, by omega, by omega, trivial⟩, by omega⟩
      conv => rhs; unfold ksum
      rw [if_pos q1]
    · simp only [decide_eq_false_iff_not] at q1
      refine ⟨⟨u + 1, ?_, by omega, by omega, trivial⟩, by omega⟩
      conv => rhs; unfold ksum
      rw [if_neg q1]; omega
  · simp only [decide_eq_false_iff_not] at q
    obtain rfl : u = 4 := by omega
    refine ptr rfl (ptr rfl (ptr rfl (hC2.push hl (ksum d.kids 4) fun H4 hC4 => ?_)))
    refine ⟨fun p H' => ∃ q : Nat, p.1.1 = (q : Int) ∧ q ≤ 4 ∧ I q H', fun p _ => (4 - p.1.1).toNat, ⟨0, rfl, by omega, k0 _ hC4⟩, ?_⟩
    rintro ⟨⟨i, _⟩, _⟩ H5 ⟨u, hi, hu, hI⟩
    simp only at hi ⊢
    subst hi
    refine br (fun q => ?_) fun q => ?_
    · simp only [decide_eq_true_eq] at q
      rw [Int.toNat_natCast]
      refine ⟨⟨by omega, by omega⟩, k1 u (by omega) _ hI _ fun H6 hI6 => ⟨rfl, ⟨u + 1, ?_, by omega, hI6⟩, ?_⟩⟩ <;> rw [w64 (by omega)] <;> omega
    · simp only [decide_eq_false_iff_not] at q
      obtain rfl : u = 4 := by omega
      exact k2 _ hI
theorem s_wshape_chain {G : Heap} {g : Addr} {b r r0 : Nat} {m : M} (hg : GroveAt G g r0 m) (hD : Dom m) : ∀ (T : List Int) {L : List Pt} {met : Int → Bool} {out : List Int} {id : Int} {H : Heap} {R : Ending → Heap → Prop}, T.head? = some id → ChP m T L → T.Nodup → (∀ j ∈ T, met j = false) → out.length + T.length ≤ 1000 → WkAt G g b r met out H →
    (∀ H', WkAt G g b r (fun j => decide (j ∈ T) || met j) (out ++ shpC L.length) H' → R (.returned unitV) H') → Meets prog 74 [.pointer (some ⟨b, 0, none⟩), vi id] H R
  | [], L, met, out, id, H, R, e, hc, _, _, _, _, _ => by cases e
  | [i], L, met, out, id, H, R, e, hc, hn, hm, hl, hC, k => by
    cases e
    obtain ⟨h4, hd⟩ := hc
    refine s_wshape_leaf hC hg hD hd rfl (hm _ (List.mem_singleton.2 rfl)) (by omega) fun H' hC' => ?_
    refine s_wshape_not hC' hg hD (.inl ?_) fun H'' hC'' => ⟨rfl, k _ ?_⟩
    · cases e : m 0 with
      | none => rfl
      | some d => have := (hD 0 d e).1; omega
    · have e1 : (fun j => j == i || met j) = fun j => decide (j ∈ [i]) || met j := by
        funext j; by_cases e : j = i <;> simp [e]
      rw [shpC, if_pos h4, ← e1]
      exact hC''
  | i :: nx :: T, L, met, out, id, H, R, e, hc, hn, hm, hl, hC, k => by
    cases e
    obtain ⟨h4, hd, hr⟩ := hc
    have hn' := List.nodup_cons.1 hn
    simp only [List.length_cons] at hl
    refine s_wshape_leaf hC hg hD hd rfl (hm _ (List.mem_cons_self ..)) (by omega) fun H' hC' => ?_
    refine s_wshape_chain hg hD (nx :: T) rfl hr hn'.2 (fun j hj => ?_) (by simp; omega) hC' fun H'' hC'' => ⟨rfl, k _ ?_⟩
    · rw [hm j (List.mem_cons_of_mem _ hj)]
      have : j ≠ i := fun e => hn'.1 (e ▸ hj)
      simp [this]
    · have e1 : shpC L.length = ((L.take 4).length : Int) :: shpC (L.drop 4).length := by
        rw [shpC, if_neg (by omega)]
        simp only [List.length_take, List.length_drop]
        rw [show min 4 L.length = 4 by omega]
        rfl
      have e2 : (fun j => decide (j ∈ i :: nx :: T) || met j) = fun j => decide (j ∈ nx :: T) || (j == i || met j) := by
        funext j
        by_cases h1 : j = i <;> by_cases h2 : j ∈ nx :: T <;> simp [h1, h2]
      have e3 : out ++ ((L.take 4).length : Int) :: shpC (L.drop 4).length = out ++ [((L.take 4).length : Int)] ++ shpC (L.drop 4).length := by simp
      rw [e1, e2, e3]
      exact hC''
theorem ksum_qsum {h : Nat} {L : List Pt} {m : M} {ks cs : List Int} {J : Nat → List Int} (hJ : ∀ q : Nat, q < 4 → SubP (TrP m h) (ks.getD q 0) (cs.getD q 0) (quarter h q L) (J q)) : ∀ q, q ≤ 4 → ksum ks q = qsum h L q
  | 0, _ => rfl
  | q + 1, hq => by
    unfold ksum qsum qb
    rw [ksum_qsum hJ q (by omega)]
    rcases hJ q (by omega) with ⟨e1, e2, _, _⟩ | ⟨e1, e2, _, _⟩
    · rw [if_neg (by omega), if_pos e1]
    · rw [if_pos (by omega), if_neg e1]
theorem s_wshape_tree {G : Heap} {g : Addr} {b r r0 : Nat} {m : M} (hg : GroveAt G g r0 m) (hD : Dom m) : ∀ (h : Nat) {L : List Pt} {I : List Int} {met : Int → Bool} {out : List Int} {id : Int} {H : Heap} {R : Ending → Heap → Prop}, h ≤ 32 → TrP m h id L I → I.Nodup → (∀ j ∈ I, met j = false) → out.length + I.length ≤ 1000 → WkAt G g b r met out H →
    (∀ H', WkAt G g b r (fun j => decide (j ∈ I) || met j) (out ++ shpN h L) H' → R (.returned unitV) H') → Meets prog 74 [.pointer (some ⟨b, 0, none⟩), vi id] H R := by
  have hm0 : m 0 = none := by
    cases e : m 0 with
    | none => rfl
    | some d => have := (hD 0 d e).1; omega
  intro h
  induction h with
  | zero => intro L I met out id H R hh ht hn hm hl hC k; exact s_wshape_chain hg hD I ht.1 ht.2 hn hm hl hC k
  | succ h ih =>
    intro L I met out id H R hh ht hn hm hl hC k
    have ht0 := ht
    unfold TrP at ht
    by_cases h4 : L.length ≤ 4
    · rw [if_pos h4] at ht
      unfold shpN at k
      rw [if_pos h4] at k
      obtain ⟨rfl, hch⟩ := ht
      have e1 : shpC L.length = [(L.length : Int)] := by rw [shpC, if_pos h4]
      rw [← e1] at k
      exact s_wshape_chain hg hD _ rfl hch hn hm hl hC k
    · rw [if_neg h4] at ht
      rw [shpN_succ h4] at k
      obtain ⟨ks, cs, J, hd, hk4, hc4, rfl, hJ⟩ := ht
      have hI : id :: (J 0 ++ (J 1 ++ (J 2 ++ J 3))) = id :: JJ J 4 := by simp [JJ]
      rw [hI] at hn hm hl k
      have sub : ∀ q, q < 4 → (JJ J (q + 1)).Sublist (JJ J 4) := fun q hq => by
        rcases four_eq hq with rfl | rfl | rfl | rfl
        · simp [JJ]
        · simp [JJ]
        · simp only [JJ]; exact List.sublist_append_left _ _
        · exact List.Sublist.refl _
      have len : ∀ q, q ≤ 4 → (SS h L q).length = (JJ J q).length := fun q => by
        induction q with
        | zero => intro _; rfl
        | succ q ihq =>
          intro hq
          simp only [SS, JJ, List.length_append, ihq (by omega)]
          congr 1
          rcases hJ q (by omega) with ⟨e1, _, _, e4⟩ | ⟨e1, _, _, e4⟩
          · rw [if_pos e1, e4]
          · rw [if_neg e1, shpN_len, TrP_len e4]
      simp only [List.length_cons] at hl
      refine s_wshape_inner hC hg hD hd rfl (hm _ (List.mem_cons_self ..)) (by omega) (fun q H' => WkAt G g b r (fun j => decide (j ∈ id :: JJ J q) || met j) (out ++ (qsum h L 4 :: SS h L q)) H') (fun H' hC' => ?_) (fun q hq H' hC' R' k' => ?_) k
      · have e1 : (fun j => j == id || met j) = fun j => decide (j ∈ id :: JJ J 0) || met j := by
          funext j; by_cases e : j = id <;> simp [e, JJ]
        rw [← e1]
        rw [show (Nd.kids ⟨false, [], 0, ks, cs⟩) = ks from rfl, ksum_qsum hJ 4 (by omega)] at hC'
        exact hC'
      · rcases hJ q hq with ⟨e1, e2, _, e4⟩ | ⟨e1, _, _, e4⟩
        · rw [show (Nd.kids ⟨false, [], 0, ks, cs⟩).getD q 0 = 0 from e2]
          refine s_wshape_not hC' hg hD (.inl hm0) fun H'' hC'' => k' _ ?_
          simp only [JJ, SS, e1, e4, if_true, List.append_nil]
          exact hC''
        · have hnd := hn.sublist ((sub q hq).cons_cons id)
          have hnd2 := List.nodup_cons.1 hnd
          have hnd3 := List.nodup_append.1 (show (JJ J q ++ J q).Nodup from hnd2.2)
          have hsl : (JJ J q).length + (J q).length ≤ (JJ J 4).length := by
            have := (sub q hq).length_le
            rwa [show JJ J (q + 1) = JJ J q ++ J q from rfl, List.length_append] at this
          have hlq := len q (by omega)
          refine ih (by omega) e4 hnd3.2.1 (fun j hj => ?_) (by simp only [List.length_append, List.length_cons]; omega) hC' fun H'' hC'' => k' _ ?_
          · have hj4 : j ∈ JJ J (q + 1) := List.mem_append_right _ hj
            rw [hm j (List.mem_cons_of_mem _ ((sub q hq).subset hj4)), Bool.or_false, decide_eq_false_iff_not]
            intro hjm
            rcases List.mem_cons.1 hjm with rfl | hjm
            · exact hnd2.1 hj4
            · exact hnd3.2.2 j hjm j hj rfl
          · have e5 : (fun j => decide (j ∈ id :: JJ J (q + 1)) || met j) = fun j => decide (j ∈ J q) || (decide (j ∈ id :: JJ J q) || met j) := by
              funext j
              rw [show JJ J (q + 1) = JJ J q ++ J q from rfl]
              simp only [List.mem_cons, List.mem_append]
              by_cases h1 : j = id <;> by_cases h2 : j ∈ J q <;> by_cases h3 : j ∈ JJ J q <;> simp [h1, h2, h3]
            have e6 : SS h L (q + 1) = SS h L q ++ shpN h (quarter h q L) := by show SS h L q ++ _ = _; rw [if_neg e1]
            rw [e5, e6, ← List.cons_append, ← List.append_assoc]
            exact hC''
theorem s_tshape {g : Addr} {r0 : Nat} {m : M} {L : List Pt} {I : List Int} (hg : GroveAt H g r0 m) (hT : TreeOK m L I) (k : ∀ v H', H ≤ H' → (∀ b, blockOf v = some b → H b = none) → RowAt H' v 3 1 (cells (shpN 32 L)) → R (.returned v) H') : Meets prog 41 [.pointer (some g)] H R := by
  refine spec_of func41 (by kernel_rfl) (fun t h => by cases h) ?_ (vc_tshape (some g) R H) ?_
  · simp [argsR, SV.rep, SC.rep, one]
  unfold nf_tshape
  intro r hr b hb
  have hne : b ≠ r := by rintro rfl; rw [upd_same] at hb; cases hb
  rw [upd_ne _ _ hne] at hb
  have hC : WkAt H g b r (fun _ => false) [] ((H.upd r (.map #[] 0)).upd b (.cells #[.pointer (some g), .map (some r), .slice none 0 0] 117 (0, 0))) :=
    ⟨le_upd (le_upd (heap_refl _) hr _) hb _, hb, hr, hne, ⟨[], map_same (map_new H r .i64) (fun o e => by rw [upd_ne _ _ (Ne.symm hne)]; exact e), fun id => rfl⟩, none, 0, 0, upd_same _ _ _, .inl ⟨rfl, rfl⟩, fun k e => by cases e⟩
  have hfr := hT.free
  have hl := TrP_len hT.tr
  refine s_wshape_tree hg hT.dom 32 (Nat.le_refl _) hT.tr hT.nd (fun _ _ => rfl) (by simp; omega) hC fun H2 hC2 => ⟨rfl, ?_⟩
  obtain ⟨f1, f2, f3, f4, f5, a3, n3, c3, f8, f9, f10⟩ := hC2
  refine ⟨some g, some r, a3, n3, c3, ⟨b, rfl, f8⟩, k _ _ (fun x ob e => ?_) (fun x e => (f10 x e).1) (row_le f9 fun x o e q => delO_keep (fun k e' => by cases e'; exact (Ne.symm (f10 x e).2.1)) q)⟩
  exact delO_keep (fun k e' => by cases e'; rintro rfl; rw [f2] at e; cases e) (f1 _ _ e)
end
end Cr

set_option linter.unusedVariables false
set_option linter.unusedSimpArgs false
namespace Cr
open Go Sx Stb Bt
open Go.Proofs.Try
set_option maxRecDepth 100000
/-! ### Counting, plainly -/
theorem snocInd {α : Type} {P : List α → Prop} (h0 : P []) (h1 : ∀ V x, P V → P (V ++ [x])) (V : List α) : P V := by
  have : ∀ W : List α, P W.reverse := fun W => by
    induction W with
    | nil => exact h0
    | cons x W ih => rw [List.reverse_cons]; exact h1 _ _ ih
  have := this V.reverse
  rwa [List.reverse_reverse] at this
end Cr

set_option linter.unusedVariables false
set_option linter.unusedSimpArgs false
namespace Cr
open Go Sx Stb Bt
open Go.Proofs.Try
set_option maxRecDepth 100000
def nf_alive23 (R : Ending → Heap → Prop) (H : Heap) : Prop := Meets prog (43 : Nat) [] H fun (e : Ending) (H' : Nat → Option Obj) ↦ ∃ (a : Option Addr), e = Ending.returned (Value.pointer a) ∧ Meets prog (45 : Nat) [Value.pointer a, Value.agg { toList := [Value.int IntKind.i64 (5 : Int), Value.int IntKind.u32 (1 : Int), Value.int IntKind.u32 (2 : Int), Value.string { data := #[] }] }] H' fun (e : Ending) (H' : Nat → Option Obj) ↦ ∃ (a : Option Addr), ∃ (n : Int), e = Ending.returned (Value.tuple { toList := [Value.pointer a, Value.int IntKind.i64 n] }) ∧ Br (n == (0 : Int)) (Meets prog (43 : Nat) [] H' fun (e : Ending) (H' : Nat → Option Obj) ↦ ∃ (a_1 : Option Addr), e = Ending.returned (Value.pointer a_1) ∧ Meets prog (41 : Nat) [Value.pointer a_1] H' fun (e : Ending) (H' : Nat → Option Obj) ↦ ∃ (a_2 : Option Addr), ∃ (n : Nat), ∃ (c : Nat), e = Ending.returned (Value.slice a_2 n c) ∧ ∀ (v : Value) (H'_1 : Nat → Option Obj), H' ≤ H'_1 → (∀ (b : Nat), blockOf v = some b → H' b = none) → (∀ (b : Nat) (o : Obj), H'_1 b = some o → H' b = some o ∨ blockOf v = some b) → RowAt H'_1 v (3 : Nat) (1 : Nat) [[Value.int IntKind.i64 (0 : Int)]] → Meets prog (19 : Nat) [Value.slice a_2 n c, v] H'_1 fun (e : Ending) (H' : Nat → Option Obj) ↦ ∃ (b : Bool), e = Ending.returned (Value.bool b) ∧ ∃ (es : List (List Value)), RowAt H' v (3 : Nat) (1 : Nat) es ∧ Br b (Meets prog (41 : Nat) [Value.pointer a] (Heap.delO H' (blockOf v)) fun (e : Ending) (H' : Nat → Option Obj) ↦ ∃ (a : Option Addr), ∃ (n : Nat), ∃ (c : Nat), e = Ending.returned (Value.slice a n c) ∧ ∀ (v : Value) (H'_2 : Nat → Option Obj), H' ≤ H'_2 → (∀ (b : Nat), blockOf v = some b → H' b = none) → (∀ (b : Nat) (o : Obj), H'_2 b = some o → H' b = some o ∨ blockOf v = some b) → RowAt H'_2 v (3 : Nat) (1 : Nat) [[Value.int IntKind.i64 (1 : Int)]] → Meets prog (19 : Nat) [Value.slice a n c, v] H'_2 fun (e : Ending) (H' : Nat → Option Obj) ↦ ∃ (b : Bool), e = Ending.returned (Value.bool b) ∧ ∃ (es : List (List Value)), RowAt H' v (3 : Nat) (1 : Nat) es ∧ R (Ending.returned (Value.bool b)) (Heap.delO H' (blockOf v))) (R (Ending.returned (Value.bool false)) (Heap.delO H' (blockOf v)))) (R (Ending.returned (Value.bool false)) H')
theorem vc_alive23 (R : Ending → Heap → Prop) (H : Heap) : vcFun prog { } f39 [] R H = nf_alive23 R H := by kernel_rfl

def BuildRes (l : List Pt) (a : Option Addr) (n : Int) (H : Heap) : Prop :=
  (∃ (i : Nat) (p : Pt), l[i]? = some p ∧ (∀ (j : Nat) (q : Pt), j < i → l[j]? = some q → ptOK q) ∧ pcode p ≠ 0 ∧ a = none ∧ n = pcode p) ∨
  (∀ p ∈ l, ptOK p) ∧ ((¬ (l.map Pt.id).Nodup ∧ a = none ∧ n = 22) ∨ (l.map Pt.id).Nodup ∧ ((255 < nds 32 (sortP l) ∧ a = none ∧ n = 10) ∨
    nds 32 (sortP l) ≤ 255 ∧ n = 0 ∧ ∃ b r m I, a = some ⟨b, 0, none⟩ ∧ GroveAt H ⟨b, 0, none⟩ r m ∧ TreeOK m (sortP l) I ∧ Low m))
theorem BuildRes.le {l : List Pt} {a : Option Addr} {n : Int} {H H' : Heap} (h : BuildRes l a n H) (hle : H ≤ H') : BuildRes l a n H' := by
  rcases h with h | ⟨h1, h | ⟨h2, h | ⟨h3, h4, b, r, m, I, h5, h6, h7⟩⟩⟩
  · exact .inl h
  · exact .inr ⟨h1, .inl h⟩
  · exact .inr ⟨h1, .inr ⟨h2, .inl h⟩⟩
  · exact .inr ⟨h1, .inr ⟨h2, .inr ⟨h3, h4, b, r, m, I, h5, h6.le hle, h7⟩⟩⟩
theorem onceP_full {most : Int} : ∀ l : List Pt, (onceP most l).length = l.length → onceP most l = l := by
  refine snocInd (fun _ => rfl) fun l p ih h => ?_
  have h1 := onceP_len most l
  rw [onceP_snoc] at h ⊢
  unfold onceStep at h ⊢
  split
  · rename_i hc
    rw [if_pos hc] at h
    simp only [List.length_append, List.length_singleton] at h
    rw [ih (by omega)]
  · rename_i hc
    rw [if_neg hc] at h
    simp only [List.length_append, List.length_singleton] at h
    omega
theorem onceP_id {most : Int} : ∀ l : List Pt, (∀ p ∈ l, ptOK p) → (l.map Pt.id).Nodup → (l.length : Int) ≤ most → onceP most l = l := by
  refine snocInd (fun _ _ _ => rfl) fun l p ih h1 h2 h3 => ?_
  rw [List.map_append, List.nodup_append] at h2
  simp only [List.length_append, List.length_singleton] at h3
  rw [onceP_snoc, ih (fun q hq => h1 q (List.mem_append_left _ hq)) h2.1 (by omega)]
  unfold onceStep
  rw [if_pos ⟨by omega, h1 p (List.mem_append_right _ (List.mem_singleton.2 rfl)), fun hm => h2.2.2 _ hm p.id (by simp) rfl⟩]
section
variable {R : Ending → Heap → Prop} {H : Heap}
theorem s_treepts {g : Addr} {r : Nat} {m : M} {L : List Pt} {I : List Int} (hg : GroveAt H g r m) (hT : TreeOK m L I) (k : ∀ v H', H ≤ H' → (∀ b, blockOf v = some b → H b = none) → RowAt H' v tPt 4 (pts L) → R (.returned v) H') :
    Meets prog 42 [.pointer (some g)] H R := by
  refine s_tpts hg hT.dom fun v H' h1 h2 h3 => k v H' h1 h2 ?_
  rwa [sortP_perm hT.lok.rise hT.pts] at h3
def pA : Pt := ⟨5, 1, 2, { data := #[] }⟩
theorem insA : insP [] pA = [pA] := rfl
theorem ok_pA : ptOK pA ∧ PtR pA := ⟨by decide, by unfold PtR; decide⟩
theorem shp_small {L : List Pt} (h : L.length ≤ 4) : shpN 32 L = [(L.length : Int)] := by unfold shpN; rw [if_pos h]
theorem s_alive23 (k : ∀ H', H ≤ H' → R (.returned (.bool true)) H') : Meets prog 39 [] H R := by
  refine spec_of func39 (by kernel_rfl) (fun t h => by cases h) ?_ (vc_alive23 R H) ?_
  · simp [argsR]
  unfold nf_alive23
  refine s_empty fun r b _ _ _ H1 hle1 hg1 => ⟨_, rfl, ?_⟩
  refine s_tins (p := pA) (m := mE) hg1 tree_mE ok_pA.2 (fun hc => absurd (pcode_ok.2 ok_pA.1) hc) (fun _ hm => by cases hm) (fun _ _ hn => ?_) fun _ _ _ b2 r2 m2 I2 H2 _ _ _ hle2 hg2 hT2 _ _ => ⟨_, _, rfl, br (fun _ => ?_) fun q => by cases q⟩
  · rw [insA, nds_small (by simp)] at hn; omega
  refine s_empty fun r3 b3 _ _ _ H3 hle3 hg3 => ⟨_, rfl, s_tshape (m := mE) hg3 tree_mE fun v4 H4 hle4 hfr4 hrow4 => ?_⟩
  obtain ⟨a4, c4, rfl⟩ := row_val hrow4
  refine ⟨_, _, _, rfl, fun v5 H5 g1 g2 g3 g4 => ?_⟩
  rw [shp_small (by simp)] at hrow4
  refine s_ints (l := [0]) (l' := [0]) (slice_le (row_slice hrow4) g1) (row_slice g4) (by simp) ⟨true, by simp, _, g4, br (fun _ => ?_) fun q => by cases q⟩
  have hleA := heap_trans hle1 (heap_trans hle2 (heap_trans hle3 (heap_trans hle4 g1)))
  have hleB : H ≤ Heap.delO H5 (blockOf v5) := le_delO hleA (fresh_le (heap_trans hle1 (heap_trans hle2 (heap_trans hle3 hle4))) g2)
  have hleC : H2 ≤ Heap.delO H5 (blockOf v5) := le_delO (heap_trans hle3 (heap_trans hle4 g1)) (fresh_le (heap_trans hle3 hle4) g2)
  refine s_tshape (hg2.le hleC) hT2 fun v6 H6 hle6 hfr6 hrow6 => ?_
  obtain ⟨a6, c6, rfl⟩ := row_val hrow6
  refine ⟨_, _, _, rfl, fun v7 H7 f1 f2 f3 f4 => ?_⟩
  rw [insA, shp_small (by simp)] at hrow6
  refine s_ints (l := [1]) (l' := [1]) (slice_le (row_slice hrow6) f1) (row_slice f4) (by simp) ⟨true, by simp, _, f4, ?_⟩
  exact k _ (le_delO (heap_trans hleB (heap_trans hle6 f1)) (fresh_le (heap_trans hleB hle6) f2))
end
end Cr

set_option linter.unusedVariables false
set_option linter.unusedSimpArgs false
namespace Cr
open Go Sx Stb Bt
open Go.Proofs.Try
set_option maxRecDepth 100000
def chgOf (m m0 : M) (i : Int) : List (Int × Int) := if (m i).isSome = true ∧ m i ≠ m0 i then [(1, i)] else if (m0 i).isSome = true ∧ m i = none then [(2, i)] else []
def chgL (m m0 : M) (t : Nat) : List (Int × Int) := (List.range t).flatMap fun k : Nat => chgOf m m0 ((k : Int) + 1)
theorem chgL_succ (m m0 : M) (t : Nat) : chgL m m0 (t + 1) = chgL m m0 t ++ chgOf m m0 ((t : Int) + 1) := by simp [chgL, List.range_succ]
section
variable {R : Ending → Heap → Prop} {H : Heap}
theorem NdAt.nd {H : Heap} {v : Value} {d : Nd} (h : NdAt H v d) : d.kids.length = 4 ∧ d.counts.length = 4 := by
  obtain ⟨a, n, c, _, _, h1, h2⟩ := h; exact ⟨h1, h2⟩
end
end Cr

set_option linter.unusedVariables false
set_option linter.unusedSimpArgs false
namespace Cr
open Go Sx Stb Bt
open Go.Proofs.Try
set_option maxRecDepth 100000
section
variable {R : Ending → Heap → Prop} {H : Heap}
theorem BuildRes.bad {l : List Pt} {a : Option Addr} {n : Int} {t : Nat} {p : Pt} (h : BuildRes l a n H) (hx : l[t]? = some p) (hok : ∀ (j : Nat) (q : Pt), j < t → l[j]? = some q → ptOK q) (hb : ¬ ptOK p) : a = none ∧ n = pcode p := by
  rcases h with ⟨i, q, h1, h2, h3, h4, h5⟩ | ⟨h1, _⟩
  · have hi : i = t := by
      rcases Nat.lt_trichotomy i t with h | h | h
      · exact absurd (hok i q h h1) (pcode_bad h3)
      · exact h
      · exact absurd (h2 t p h hx) hb
    subst hi
    rw [hx] at h1; cases h1
    exact ⟨h4, h5⟩
  · exact absurd (h1 p (List.mem_of_getElem? hx)) hb
end
end Cr

set_option linter.unusedVariables false
set_option linter.unusedSimpArgs false
namespace Cr
open Go Sx Stb Bt
open Go.Proofs.Try
set_option maxRecDepth 100000
theorem cnt_split (p q : Int → Bool) : ∀ l : List Int, (l.filter p).length = (l.filter fun i => p i && q i).length + (l.filter fun i => p i && !q i).length
  | [] => rfl
  | x :: l => by
    have := cnt_split p q l
    simp only [List.filter_cons]
    cases p x <;> cases q x <;> simp <;> omega
theorem chgL_ones {m m0 : M} (hsub : ∀ i, m0 i ≠ none → m i ≠ none) : ∀ t : Nat, chgL m m0 t = (((List.range t).map fun k : Nat => ((k : Int) + 1)).filter fun i => (m i).isSome && decide (m i ≠ m0 i)).map fun i => (1, i)
  | 0 => rfl
  | t + 1 => by
    rw [chgL_succ, chgL_ones hsub t, List.range_succ, List.map_append, List.filter_append, List.map_append]
    congr 1
    simp only [List.map_cons, List.map_nil]
    generalize ((t : Int) + 1) = i
    unfold chgOf
    by_cases h1 : (m i).isSome = true ∧ m i ≠ m0 i
    · rw [if_pos h1]
      have : ((m i).isSome && decide (m i ≠ m0 i)) = true := by rw [h1.1, decide_eq_true h1.2]; rfl
      simp [List.filter_cons, h1.1, h1.2]
    · rw [if_neg h1, if_neg (fun h => hsub i (fun e => by rw [e] at h; cases h.1) h.2)]
      have : ((m i).isSome && decide (m i ≠ m0 i)) = false := by
        cases e : (m i).isSome with
        | false => rfl
        | true => rw [decide_eq_false fun hn => h1 ⟨e, hn⟩]; rfl
      simp only [List.filter_cons, List.filter_nil]
      generalize ((m i).isSome && decide (m i ≠ m0 i)) = bb at this
      subst this
      rfl
theorem TreeOK.count {m : M} {L : List Pt} {I : List Int} (h : TreeOK m L I) : (numsL.filter fun i => (m i).isSome).length = nds 32 L := by
  have h1 := h.free
  have h2 := cnt_split (fun _ => true) (fun i => (m i).isNone) numsL
  have h3 : (numsL.filter fun _ => true).length = 255 := by rw [List.filter_eq_self.2 fun _ _ => rfl]; simp
  rw [h3] at h2
  simp only [Bool.true_and] at h2
  have e1 : (freeL m).length = (numsL.filter fun i => (m i).isNone).length := rfl
  have e2 : (numsL.filter fun i => !(m i).isNone) = numsL.filter fun i => (m i).isSome := List.filter_congr fun i _ => by cases m i <;> rfl
  rw [e2] at h2
  omega
theorem keeps {m m0 : M} {L L0 : List Pt} {I I0 : List Int} (hT : TreeOK m L I) (hT0 : TreeOK m0 L0 I0) (hI : ∀ i ∈ I0, i ∈ I) {n : Nat} (hC : Chg m0 m n) : (∀ x ∈ chgL m m0 255, x.1 = 1) ∧ nds 32 L0 ≤ nds 32 L ∧ (chgL m m0 255).length ≤ nds 32 L - nds 32 L0 + n := by
  have hsub : ∀ i, m0 i ≠ none → m i ≠ none := fun i hi => (hT.iff i).2 (hI i ((hT0.iff i).1 hi))
  rw [chgL_ones hsub]
  refine ⟨fun x hx => by obtain ⟨i, _, rfl⟩ := List.mem_map.1 hx; rfl, ?_⟩
  rw [List.length_map]
  have c1 := hT.count
  have c0 := hT0.count
  have s1 := cnt_split (fun i => (m i).isSome) (fun i => (m0 i).isSome) numsL
  have e1 : (numsL.filter fun i => (m i).isSome && (m0 i).isSome) = numsL.filter fun i => (m0 i).isSome := List.filter_congr fun i _ => by
    cases e0 : m0 i with
    | none => simp
    | some d =>
      have := hsub i (by rw [e0]; simp)
      cases e : m i with
      | none => exact absurd e this
      | some d => rfl
  rw [e1] at s1
  have s2 := cnt_split (fun i => (m i).isSome && decide (m i ≠ m0 i)) (fun i => (m0 i).isSome) numsL
  have e2 : (numsL.filter fun i => ((m i).isSome && decide (m i ≠ m0 i)) && !(m0 i).isSome) = numsL.filter fun i => (m i).isSome && !(m0 i).isSome := List.filter_congr fun i _ => by
    cases e0 : m0 i with
    | some d => simp
    | none => cases e : m i <;> simp
  rw [e2] at s2
  obtain ⟨C, hCl, hCs⟩ := hC
  have h3 : (numsL.filter fun i => ((m i).isSome && decide (m i ≠ m0 i)) && (m0 i).isSome).length ≤ C.length := by
    refine nodup_len ((numsL_rise.imp fun h => by omega : numsL.Nodup).filter _) fun i hi => ?_
    have hi2 := (List.mem_filter.1 hi).2
    simp only [Bool.and_eq_true, decide_eq_true_eq] at hi2
    by_cases hc : i ∈ C
    · exact hc
    · exfalso
      refine hi2.1.2 (hCs i hc ?_ ?_)
      · intro e; rw [e] at hi2; simp at hi2
      · intro e; rw [e] at hi2; simp at hi2
  show _ ∧ (numsL.filter fun i => (m i).isSome && decide (m i ≠ m0 i)).length ≤ _
  omega
section
variable {R : Ending → Heap → Prop} {H : Heap}
end
end Cr

set_option linter.unusedVariables false
set_option linter.unusedSimpArgs false
namespace Cr
open Go Sx Stb Bt
open Go.Proofs.Try
set_option maxRecDepth 100000
def h_lruns : Hints := { cuts := [(28, ⟨[0, 5, 3, 6], [.row 4 28 4, .row 9 28 4, .f 7 .ptr, .f 8 (.int .i64), .f 10 (.int .i64)], []⟩)], loops := [(6, ⟨[0], [.f 3 .ptr, .row 4 28 4, .f 5 (.int .i64)], []⟩)] }
def nf_lruns (a : Option Addr) (n : Nat) (c : Nat) (R : Ending → Heap → Prop) (H : Heap) : Prop := Meets prog (39 : Nat) [] H fun (e : Ending) (H' : Nat → Option Obj) ↦ ∃ (b : Bool), e = Ending.returned (Value.bool b) ∧ Br (!b) (R (Ending.returned (Value.bool false)) H') (Meets prog (43 : Nat) [] H' fun (e : Ending) (H' : Nat → Option Obj) ↦ ∃ (a_1 : Option Addr), e = Ending.returned (Value.pointer a_1) ∧ a = a ∧ n = n ∧ c = c ∧ LoopP (fun (K : (Option Addr × List (List Value) × Int × PUnit) × PUnit → (Nat → Option Obj) → Prop) (p : (Option Addr × List (List Value) × Int × PUnit) × PUnit) (H : Nat → Option Obj) ↦ Br (decide (p.fst.snd.snd.fst < (↑n : Int))) (Br (decide (p.fst.snd.snd.fst < (40 : Int))) (Meets prog (41 : Nat) [Value.pointer p.fst.fst] H fun (e : Ending) (H' : Nat → Option Obj) ↦ ∃ (a_2 : Option Addr), ∃ (n_1 : Nat), ∃ (c_1 : Nat), e = Ending.returned (Value.slice a_2 n_1 c_1) ∧ CutP (fun (I : (List (List Value) × List (List Value) × Option Addr × Int × Int × PUnit) × PUnit → (Nat → Option Obj) → Prop) ↦ ((0 : Int) ≤ p.fst.snd.snd.fst ∧ p.fst.snd.snd.fst < (↑n : Int)) ∧ PtrK a fun (A : Addr) ↦ PtrK (some (Addr.add A (Int.toNat p.fst.snd.snd.fst * (6 : Nat)))) fun (a_3 : Addr) ↦ PtrK (some (Addr.add a_3 (0 : Nat))) fun (a_4 : Addr) ↦ ∃ (b : Bool), Heap.has H' a_4 [Value.bool b] ∧ Br b (Br (decide ((↑(List.length p.fst.snd.fst) : Int) > (0 : Int))) (((0 : Int) ≤ p.fst.snd.snd.fst ∧ p.fst.snd.snd.fst < (↑n : Int)) ∧ PtrK a fun (A : Addr) ↦ PtrK (some (Addr.add A (Int.toNat p.fst.snd.snd.fst * (6 : Nat)))) fun (a_5 : Addr) ↦ PtrK (some (Addr.add a_5 (1 : Nat))) fun (a_6 : Addr) ↦ ∃ (n_2 : Int), Heap.has H' a_6 [Value.int IntKind.i64 n_2] ∧ (↑(List.length p.fst.snd.fst) : Int) ≠ (0 : Int) ∧ (↑(List.length p.fst.snd.fst) : Int) ≠ (0 : Int) ∧ ((0 : Int) ≤ Int.tmod (IntKind.wrap IntKind.i64 (Int.tmod n_2 (↑(List.length p.fst.snd.fst) : Int) + (↑(List.length p.fst.snd.fst) : Int))) (↑(List.length p.fst.snd.fst) : Int) ∧ Int.tmod (IntKind.wrap IntKind.i64 (Int.tmod n_2 (↑(List.length p.fst.snd.fst) : Int) + (↑(List.length p.fst.snd.fst) : Int))) (↑(List.length p.fst.snd.fst) : Int) < (↑(List.length p.fst.snd.fst) : Int)) ∧ ∃ (n_3 : Int), ∃ (n_4 : Int), ∃ (n_5 : Int), ∃ (s : ByteArray), (∃ (e : List Value), List.get?Internal p.fst.snd.fst (Int.toNat (Int.tmod (IntKind.wrap IntKind.i64 (Int.tmod n_2 (↑(List.length p.fst.snd.fst) : Int) + (↑(List.length p.fst.snd.fst) : Int))) (↑(List.length p.fst.snd.fst) : Int))) = some e ∧ List.take (4 : Nat) (List.drop (0 : Nat) e) = [Value.int IntKind.i64 n_3, Value.int IntKind.u32 n_4, Value.int IntKind.u32 n_5, Value.string s]) ∧ Meets prog (44 : Nat) [Value.pointer p.fst.fst, Value.agg { toList := [Value.int IntKind.i64 n_3, Value.int IntKind.u32 n_4, Value.int IntKind.u32 n_5, Value.string s] }] H' fun (e : Ending) (H' : Nat → Option Obj) ↦ ∃ (a_7 : Option Addr), ∃ (n_6 : Int), e = Ending.returned (Value.tuple { toList := [Value.pointer a_7, Value.int IntKind.i64 n_6] }) ∧ ((0 : Int) ≤ Int.tmod (IntKind.wrap IntKind.i64 (Int.tmod n_2 (↑(List.length p.fst.snd.fst) : Int) + (↑(List.length p.fst.snd.fst) : Int))) (↑(List.length p.fst.snd.fst) : Int) ∧ Int.tmod (IntKind.wrap IntKind.i64 (Int.tmod n_2 (↑(List.length p.fst.snd.fst) : Int) + (↑(List.length p.fst.snd.fst) : Int))) (↑(List.length p.fst.snd.fst) : Int) ≤ (↑(List.length p.fst.snd.fst) : Int)) ∧ ((0 : Int) ≤ IntKind.wrap IntKind.i64 (Int.tmod (IntKind.wrap IntKind.i64 (Int.tmod n_2 (↑(List.length p.fst.snd.fst) : Int) + (↑(List.length p.fst.snd.fst) : Int))) (↑(List.length p.fst.snd.fst) : Int) + (1 : Int)) ∧ IntKind.wrap IntKind.i64 (Int.tmod (IntKind.wrap IntKind.i64 (Int.tmod n_2 (↑(List.length p.fst.snd.fst) : Int) + (↑(List.length p.fst.snd.fst) : Int))) (↑(List.length p.fst.snd.fst) : Int) + (1 : Int)) ≤ (↑(List.length p.fst.snd.fst) : Int)) ∧ List.length (List.take (Int.toNat (Int.tmod (IntKind.wrap IntKind.i64 (Int.tmod n_2 (↑(List.length p.fst.snd.fst) : Int) + (↑(List.length p.fst.snd.fst) : Int))) (↑(List.length p.fst.snd.fst) : Int)) - (0 : Nat)) (List.drop (0 : Nat) p.fst.snd.fst)) * (32 : Nat) ≤ (140737488355328 : Nat) ∧ List.length (List.append (List.take (Int.toNat (Int.tmod (IntKind.wrap IntKind.i64 (Int.tmod n_2 (↑(List.length p.fst.snd.fst) : Int) + (↑(List.length p.fst.snd.fst) : Int))) (↑(List.length p.fst.snd.fst) : Int)) - (0 : Nat)) (List.drop (0 : Nat) p.fst.snd.fst)) (List.take (List.length p.fst.snd.fst - Int.toNat (IntKind.wrap IntKind.i64 (Int.tmod (IntKind.wrap IntKind.i64 (Int.tmod n_2 (↑(List.length p.fst.snd.fst) : Int) + (↑(List.length p.fst.snd.fst) : Int))) (↑(List.length p.fst.snd.fst) : Int) + (1 : Int)))) (List.drop (Int.toNat (IntKind.wrap IntKind.i64 (Int.tmod (IntKind.wrap IntKind.i64 (Int.tmod n_2 (↑(List.length p.fst.snd.fst) : Int) + (↑(List.length p.fst.snd.fst) : Int))) (↑(List.length p.fst.snd.fst) : Int) + (1 : Int)))) p.fst.snd.fst))) * (32 : Nat) ≤ (140737488355328 : Nat) ∧ a = a ∧ n = n ∧ c = c ∧ p.fst.snd.snd.fst = p.fst.snd.snd.fst ∧ p.fst.fst = p.fst.fst ∧ a_2 = a_2 ∧ n_1 = n_1 ∧ c_1 = c_1 ∧ I ((p.fst.snd.fst, List.append (List.take (Int.toNat (Int.tmod (IntKind.wrap IntKind.i64 (Int.tmod n_2 (↑(List.length p.fst.snd.fst) : Int) + (↑(List.length p.fst.snd.fst) : Int))) (↑(List.length p.fst.snd.fst) : Int)) - (0 : Nat)) (List.drop (0 : Nat) p.fst.snd.fst)) (List.take (List.length p.fst.snd.fst - Int.toNat (IntKind.wrap IntKind.i64 (Int.tmod (IntKind.wrap IntKind.i64 (Int.tmod n_2 (↑(List.length p.fst.snd.fst) : Int) + (↑(List.length p.fst.snd.fst) : Int))) (↑(List.length p.fst.snd.fst) : Int) + (1 : Int)))) (List.drop (Int.toNat (IntKind.wrap IntKind.i64 (Int.tmod (IntKind.wrap IntKind.i64 (Int.tmod n_2 (↑(List.length p.fst.snd.fst) : Int) + (↑(List.length p.fst.snd.fst) : Int))) (↑(List.length p.fst.snd.fst) : Int) + (1 : Int)))) p.fst.snd.fst)), a_7, n_6, (0 : Int), PUnit.unit), PUnit.unit) H') (((0 : Int) ≤ p.fst.snd.snd.fst ∧ p.fst.snd.snd.fst < (↑n : Int)) ∧ PtrK a fun (A : Addr) ↦ PtrK (some (Addr.add A (Int.toNat p.fst.snd.snd.fst * (6 : Nat)))) fun (a_5 : Addr) ↦ PtrK (some (Addr.add a_5 (2 : Nat))) fun (a_6 : Addr) ↦ ∃ (n_2 : Int), ∃ (n_3 : Int), ∃ (n_4 : Int), ∃ (s : ByteArray), Heap.has H' a_6 [Value.int IntKind.i64 n_2, Value.int IntKind.u32 n_3, Value.int IntKind.u32 n_4, Value.string s] ∧ Meets prog (45 : Nat) [Value.pointer p.fst.fst, Value.agg { toList := [Value.int IntKind.i64 n_2, Value.int IntKind.u32 n_3, Value.int IntKind.u32 n_4, Value.string s] }] H' fun (e : Ending) (H' : Nat → Option Obj) ↦ ∃ (a_7 : Option Addr), ∃ (n_5 : Int), e = Ending.returned (Value.tuple { toList := [Value.pointer a_7, Value.int IntKind.i64 n_5] }) ∧ List.length p.fst.snd.1 * (32 : Nat) ≤ (140737488355328 : Nat) ∧ List.length (List.append p.fst.snd.1 [[Value.int IntKind.i64 n_2, Value.int IntKind.u32 n_3, Value.int IntKind.u32 n_4, Value.string s]]) * (32 : Nat) ≤ (140737488355328 : Nat) ∧ Br (decide (n_2 < (1 : Int))) (a = a ∧ n = n ∧ c = c ∧ p.fst.snd.snd.fst = p.fst.snd.snd.fst ∧ p.fst.fst = p.fst.fst ∧ a_2 = a_2 ∧ n_1 = n_1 ∧ c_1 = c_1 ∧ I ((p.fst.snd.fst, List.append p.fst.snd.1 [[Value.int IntKind.i64 n_2, Value.int IntKind.u32 n_3, Value.int IntKind.u32 n_4, Value.string s]], a_7, n_5, (4 : Int), PUnit.unit), PUnit.unit) H') (Br (decide (n_2 ≥ (2147483648 : Int))) (a = a ∧ n = n ∧ c = c ∧ p.fst.snd.snd.fst = p.fst.snd.snd.fst ∧ p.fst.fst = p.fst.fst ∧ a_2 = a_2 ∧ n_1 = n_1 ∧ c_1 = c_1 ∧ I ((p.fst.snd.fst, List.append p.fst.snd.1 [[Value.int IntKind.i64 n_2, Value.int IntKind.u32 n_3, Value.int IntKind.u32 n_4, Value.string s]], a_7, n_5, (4 : Int), PUnit.unit), PUnit.unit) H') (Br (decide ((↑(ByteArray.size s) : Int) > (16 : Int))) (a = a ∧ n = n ∧ c = c ∧ p.fst.snd.snd.fst = p.fst.snd.snd.fst ∧ p.fst.fst = p.fst.fst ∧ a_2 = a_2 ∧ n_1 = n_1 ∧ c_1 = c_1 ∧ I ((p.fst.snd.fst, List.append p.fst.snd.1 [[Value.int IntKind.i64 n_2, Value.int IntKind.u32 n_3, Value.int IntKind.u32 n_4, Value.string s]], a_7, n_5, (5 : Int), PUnit.unit), PUnit.unit) H') (∀ (v : Value) (H'_1 : Nat → Option Obj), H' ≤ H'_1 → (∀ (b : Nat), blockOf v = some b → H' b = none) → (∀ (b : Nat) (o : Obj), H'_1 b = some o → H' b = some o ∨ blockOf v = some b) → RowAt H'_1 v (28 : Nat) (4 : Nat) (List.append p.fst.snd.1 [[Value.int IntKind.i64 n_2, Value.int IntKind.u32 n_3, Value.int IntKind.u32 n_4, Value.string s]]) → Meets prog (21 : Nat) [v, Value.int IntKind.i64 (60 : Int)] H'_1 fun (e : Ending) (H' : Nat → Option Obj) ↦ ∃ (a_12 : Option Addr), ∃ (n_6 : Nat), ∃ (c_2 : Nat), e = Ending.returned (Value.slice a_12 n_6 c_2) ∧ ∃ (es : List (List Value)), RowAt H' v (28 : Nat) (4 : Nat) es ∧ Br ((↑n_6 : Int) != (↑(List.length es) : Int)) (a = a ∧ n = n ∧ c = c ∧ p.fst.snd.snd.fst = p.fst.snd.snd.fst ∧ p.fst.fst = p.fst.fst ∧ a_2 = a_2 ∧ n_1 = n_1 ∧ c_1 = c_1 ∧ I ((p.fst.snd.fst, es, a_7, n_5, (22 : Int), PUnit.unit), PUnit.unit) (Heap.delO H' (blockOf v))) (∀ (v_1 : Value) (H'_2 : Nat → Option Obj), Heap.delO H' (blockOf v) ≤ H'_2 → (∀ (b : Nat), blockOf v_1 = some b → Heap.delO H' (blockOf v) b = none) → (∀ (b : Nat) (o : Obj), H'_2 b = some o → Heap.delO H' (blockOf v) b = some o ∨ blockOf v_1 = some b) → RowAt H'_2 v_1 (28 : Nat) (4 : Nat) es → Meets prog (40 : Nat) [v_1] H'_2 fun (e : Ending) (H' : Nat → Option Obj) ↦ ∃ (n_7 : Int), e = Ending.returned (Value.int IntKind.i64 n_7) ∧ ∃ (es : List (List Value)), RowAt H' v_1 (28 : Nat) (4 : Nat) es ∧ Br (decide (n_7 > (255 : Int))) (a = a ∧ n = n ∧ c = c ∧ p.fst.snd.snd.fst = p.fst.snd.snd.fst ∧ p.fst.fst = p.fst.fst ∧ a_2 = a_2 ∧ n_1 = n_1 ∧ c_1 = c_1 ∧ I ((p.fst.snd.fst, es, a_7, n_5, (10 : Int), PUnit.unit), PUnit.unit) (Heap.delO H' (blockOf v_1))) (a = a ∧ n = n ∧ c = c ∧ p.fst.snd.snd.fst = p.fst.snd.snd.fst ∧ p.fst.fst = p.fst.fst ∧ a_2 = a_2 ∧ n_1 = n_1 ∧ c_1 = c_1 ∧ I ((p.fst.snd.fst, es, a_7, n_5, (0 : Int), PUnit.unit), PUnit.unit) (Heap.delO H' (blockOf v_1))))))))) (((0 : Int) ≤ p.fst.snd.snd.fst ∧ p.fst.snd.snd.fst < (↑n : Int)) ∧ PtrK a fun (A : Addr) ↦ PtrK (some (Addr.add A (Int.toNat p.fst.snd.snd.fst * (6 : Nat)))) fun (a_5 : Addr) ↦ PtrK (some (Addr.add a_5 (2 : Nat))) fun (a_6 : Addr) ↦ ∃ (n_2 : Int), ∃ (n_3 : Int), ∃ (n_4 : Int), ∃ (s : ByteArray), Heap.has H' a_6 [Value.int IntKind.i64 n_2, Value.int IntKind.u32 n_3, Value.int IntKind.u32 n_4, Value.string s] ∧ Meets prog (45 : Nat) [Value.pointer p.fst.fst, Value.agg { toList := [Value.int IntKind.i64 n_2, Value.int IntKind.u32 n_3, Value.int IntKind.u32 n_4, Value.string s] }] H' fun (e : Ending) (H' : Nat → Option Obj) ↦ ∃ (a_7 : Option Addr), ∃ (n_5 : Int), e = Ending.returned (Value.tuple { toList := [Value.pointer a_7, Value.int IntKind.i64 n_5] }) ∧ List.length p.fst.snd.1 * (32 : Nat) ≤ (140737488355328 : Nat) ∧ List.length (List.append p.fst.snd.1 [[Value.int IntKind.i64 n_2, Value.int IntKind.u32 n_3, Value.int IntKind.u32 n_4, Value.string s]]) * (32 : Nat) ≤ (140737488355328 : Nat) ∧ Br (decide (n_2 < (1 : Int))) (a = a ∧ n = n ∧ c = c ∧ p.fst.snd.snd.fst = p.fst.snd.snd.fst ∧ p.fst.fst = p.fst.fst ∧ a_2 = a_2 ∧ n_1 = n_1 ∧ c_1 = c_1 ∧ I ((p.fst.snd.fst, List.append p.fst.snd.1 [[Value.int IntKind.i64 n_2, Value.int IntKind.u32 n_3, Value.int IntKind.u32 n_4, Value.string s]], a_7, n_5, (4 : Int), PUnit.unit), PUnit.unit) H') (Br (decide (n_2 ≥ (2147483648 : Int))) (a = a ∧ n = n ∧ c = c ∧ p.fst.snd.snd.fst = p.fst.snd.snd.fst ∧ p.fst.fst = p.fst.fst ∧ a_2 = a_2 ∧ n_1 = n_1 ∧ c_1 = c_1 ∧ I ((p.fst.snd.fst, List.append p.fst.snd.1 [[Value.int IntKind.i64 n_2, Value.int IntKind.u32 n_3, Value.int IntKind.u32 n_4, Value.string s]], a_7, n_5, (4 : Int), PUnit.unit), PUnit.unit) H') (Br (decide ((↑(ByteArray.size s) : Int) > (16 : Int))) (a = a ∧ n = n ∧ c = c ∧ p.fst.snd.snd.fst = p.fst.snd.snd.fst ∧ p.fst.fst = p.fst.fst ∧ a_2 = a_2 ∧ n_1 = n_1 ∧ c_1 = c_1 ∧ I ((p.fst.snd.fst, List.append p.fst.snd.1 [[Value.int IntKind.i64 n_2, Value.int IntKind.u32 n_3, Value.int IntKind.u32 n_4, Value.string s]], a_7, n_5, (5 : Int), PUnit.unit), PUnit.unit) H') (∀ (v : Value) (H'_1 : Nat → Option Obj), H' ≤ H'_1 → (∀ (b : Nat), blockOf v = some b → H' b = none) → (∀ (b : Nat) (o : Obj), H'_1 b = some o → H' b = some o ∨ blockOf v = some b) → RowAt H'_1 v (28 : Nat) (4 : Nat) (List.append p.fst.snd.1 [[Value.int IntKind.i64 n_2, Value.int IntKind.u32 n_3, Value.int IntKind.u32 n_4, Value.string s]]) → Meets prog (21 : Nat) [v, Value.int IntKind.i64 (60 : Int)] H'_1 fun (e : Ending) (H' : Nat → Option Obj) ↦ ∃ (a_12 : Option Addr), ∃ (n_6 : Nat), ∃ (c_2 : Nat), e = Ending.returned (Value.slice a_12 n_6 c_2) ∧ ∃ (es : List (List Value)), RowAt H' v (28 : Nat) (4 : Nat) es ∧ Br ((↑n_6 : Int) != (↑(List.length es) : Int)) (a = a ∧ n = n ∧ c = c ∧ p.fst.snd.snd.fst = p.fst.snd.snd.fst ∧ p.fst.fst = p.fst.fst ∧ a_2 = a_2 ∧ n_1 = n_1 ∧ c_1 = c_1 ∧ I ((p.fst.snd.fst, es, a_7, n_5, (22 : Int), PUnit.unit), PUnit.unit) (Heap.delO H' (blockOf v))) (∀ (v_1 : Value) (H'_2 : Nat → Option Obj), Heap.delO H' (blockOf v) ≤ H'_2 → (∀ (b : Nat), blockOf v_1 = some b → Heap.delO H' (blockOf v) b = none) → (∀ (b : Nat) (o : Obj), H'_2 b = some o → Heap.delO H' (blockOf v) b = some o ∨ blockOf v_1 = some b) → RowAt H'_2 v_1 (28 : Nat) (4 : Nat) es → Meets prog (40 : Nat) [v_1] H'_2 fun (e : Ending) (H' : Nat → Option Obj) ↦ ∃ (n_7 : Int), e = Ending.returned (Value.int IntKind.i64 n_7) ∧ ∃ (es : List (List Value)), RowAt H' v_1 (28 : Nat) (4 : Nat) es ∧ Br (decide (n_7 > (255 : Int))) (a = a ∧ n = n ∧ c = c ∧ p.fst.snd.snd.fst = p.fst.snd.snd.fst ∧ p.fst.fst = p.fst.fst ∧ a_2 = a_2 ∧ n_1 = n_1 ∧ c_1 = c_1 ∧ I ((p.fst.snd.fst, es, a_7, n_5, (10 : Int), PUnit.unit), PUnit.unit) (Heap.delO H' (blockOf v_1))) (a = a ∧ n = n ∧ c = c ∧ p.fst.snd.snd.fst = p.fst.snd.snd.fst ∧ p.fst.fst = p.fst.fst ∧ a_2 = a_2 ∧ n_1 = n_1 ∧ c_1 = c_1 ∧ I ((p.fst.snd.fst, es, a_7, n_5, (0 : Int), PUnit.unit), PUnit.unit) (Heap.delO H' (blockOf v_1))))))))) fun (p_1 : (List (List Value) × List (List Value) × Option Addr × Int × Int × PUnit) × PUnit) (H : Nat → Option Obj) ↦ Br (p_1.fst.snd.snd.snd.fst != p_1.fst.snd.snd.snd.snd.fst) (R (Ending.returned (Value.bool false)) H) (Meets prog (41 : Nat) [Value.pointer p.fst.fst] H fun (e : Ending) (H' : Nat → Option Obj) ↦ ∃ (a_3 : Option Addr), ∃ (n_2 : Nat), ∃ (c_2 : Nat), e = Ending.returned (Value.slice a_3 n_2 c_2) ∧ Meets prog (19 : Nat) [Value.slice a_3 n_2 c_2, Value.slice a_2 n_1 c_1] H' fun (e : Ending) (H' : Nat → Option Obj) ↦ ∃ (b : Bool), e = Ending.returned (Value.bool b) ∧ Br (!b) (R (Ending.returned (Value.bool false)) H') (Br (!(p_1.fst.snd.snd.snd.fst == (0 : Int)) == !Option.isNone p_1.fst.snd.snd.fst) (R (Ending.returned (Value.bool false)) H') (Br (p_1.fst.snd.snd.snd.fst == (0 : Int)) (Meets prog (41 : Nat) [Value.pointer p_1.fst.snd.snd.fst] H' fun (e : Ending) (H' : Nat → Option Obj) ↦ ∃ (a_4 : Option Addr), ∃ (n_3 : Nat), ∃ (c_3 : Nat), e = Ending.returned (Value.slice a_4 n_3 c_3) ∧ ∀ (v : Value) (H'_1 : Nat → Option Obj), H' ≤ H'_1 → (∀ (b : Nat), blockOf v = some b → H' b = none) → (∀ (b : Nat) (o : Obj), H'_1 b = some o → H' b = some o ∨ blockOf v = some b) → RowAt H'_1 v (28 : Nat) (4 : Nat) p_1.fst.snd.fst → Meets prog (23 : Nat) [v] H'_1 fun (e : Ending) (H' : Nat → Option Obj) ↦ ∃ (a_9 : Option Addr), ∃ (n_4 : Nat), ∃ (c_4 : Nat), e = Ending.returned (Value.slice a_9 n_4 c_4) ∧ ∃ (es : List (List Value)), RowAt H' v (28 : Nat) (4 : Nat) es ∧ Meets prog (19 : Nat) [Value.slice a_4 n_3 c_3, Value.slice a_9 n_4 c_4] (Heap.delO H' (blockOf v)) fun (e : Ending) (H' : Nat → Option Obj) ↦ ∃ (b : Bool), e = Ending.returned (Value.bool b) ∧ Br (!b) (R (Ending.returned (Value.bool false)) H') (Meets prog (42 : Nat) [Value.pointer p_1.fst.snd.snd.fst] H' fun (e : Ending) (H' : Nat → Option Obj) ↦ ∃ (a_10 : Option Addr), ∃ (n_5 : Nat), ∃ (c_5 : Nat), e = Ending.returned (Value.slice a_10 n_5 c_5) ∧ ∀ (v : Value) (H'_2 : Nat → Option Obj), H' ≤ H'_2 → (∀ (b : Nat), blockOf v = some b → H' b = none) → (∀ (b : Nat) (o : Obj), H'_2 b = some o → H' b = some o ∨ blockOf v = some b) → RowAt H'_2 v (28 : Nat) (4 : Nat) es → Meets prog (30 : Nat) [v] H'_2 fun (e : Ending) (H' : Nat → Option Obj) ↦ ∃ (a_15 : Option Addr), ∃ (n_6 : Nat), ∃ (c_6 : Nat), e = Ending.returned (Value.slice a_15 n_6 c_6) ∧ ∃ (es : List (List Value)), RowAt H' v (28 : Nat) (4 : Nat) es ∧ Meets prog (32 : Nat) [Value.slice a_10 n_5 c_5, Value.slice a_15 n_6 c_6] (Heap.delO H' (blockOf v)) fun (e : Ending) (H' : Nat → Option Obj) ↦ ∃ (b : Bool), e = Ending.returned (Value.bool b) ∧ Br (!b) (R (Ending.returned (Value.bool false)) H') (a = a ∧ n = n ∧ c = c ∧ K ((p_1.fst.snd.snd.fst, es, IntKind.wrap IntKind.i64 (p.fst.snd.snd.fst + (1 : Int)), PUnit.unit), PUnit.unit) H'))) (Meets prog (41 : Nat) [Value.pointer p.fst.fst] H' fun (e : Ending) (H' : Nat → Option Obj) ↦ ∃ (a_4 : Option Addr), ∃ (n_3 : Nat), ∃ (c_3 : Nat), e = Ending.returned (Value.slice a_4 n_3 c_3) ∧ ∀ (v : Value) (H'_1 : Nat → Option Obj), H' ≤ H'_1 → (∀ (b : Nat), blockOf v = some b → H' b = none) → (∀ (b : Nat) (o : Obj), H'_1 b = some o → H' b = some o ∨ blockOf v = some b) → RowAt H'_1 v (28 : Nat) (4 : Nat) p_1.fst.fst → Meets prog (23 : Nat) [v] H'_1 fun (e : Ending) (H' : Nat → Option Obj) ↦ ∃ (a_9 : Option Addr), ∃ (n_4 : Nat), ∃ (c_4 : Nat), e = Ending.returned (Value.slice a_9 n_4 c_4) ∧ ∃ (es : List (List Value)), RowAt H' v (28 : Nat) (4 : Nat) es ∧ Meets prog (19 : Nat) [Value.slice a_4 n_3 c_3, Value.slice a_9 n_4 c_4] (Heap.delO H' (blockOf v)) fun (e : Ending) (H' : Nat → Option Obj) ↦ ∃ (b : Bool), e = Ending.returned (Value.bool b) ∧ Br (!b) (R (Ending.returned (Value.bool false)) H') (Meets prog (42 : Nat) [Value.pointer p.fst.fst] H' fun (e : Ending) (H' : Nat → Option Obj) ↦ ∃ (a_10 : Option Addr), ∃ (n_5 : Nat), ∃ (c_5 : Nat), e = Ending.returned (Value.slice a_10 n_5 c_5) ∧ ∀ (v : Value) (H'_2 : Nat → Option Obj), H' ≤ H'_2 → (∀ (b : Nat), blockOf v = some b → H' b = none) → (∀ (b : Nat) (o : Obj), H'_2 b = some o → H' b = some o ∨ blockOf v = some b) → RowAt H'_2 v (28 : Nat) (4 : Nat) es → Meets prog (30 : Nat) [v] H'_2 fun (e : Ending) (H' : Nat → Option Obj) ↦ ∃ (a_15 : Option Addr), ∃ (n_6 : Nat), ∃ (c_6 : Nat), e = Ending.returned (Value.slice a_15 n_6 c_6) ∧ ∃ (es : List (List Value)), RowAt H' v (28 : Nat) (4 : Nat) es ∧ Meets prog (32 : Nat) [Value.slice a_10 n_5 c_5, Value.slice a_15 n_6 c_6] (Heap.delO H' (blockOf v)) fun (e : Ending) (H' : Nat → Option Obj) ↦ ∃ (b : Bool), e = Ending.returned (Value.bool b) ∧ Br (!b) (R (Ending.returned (Value.bool false)) H') (a = a ∧ n = n ∧ c = c ∧ K ((p.fst.fst, es, IntKind.wrap IntKind.i64 (p.fst.snd.snd.fst + (1 : Int)), PUnit.unit), PUnit.unit) H'))))))) (R (Ending.returned (Value.bool true)) H)) (R (Ending.returned (Value.bool true)) H)) ((a_1, [], (0 : Int), PUnit.unit), PUnit.unit) H')
theorem vc_lruns (a : Option Addr) (n : Nat) (c : Nat) (R : Ending → Heap → Prop) (H : Heap) : vcFun prog h_lruns f11 [SV.c (SC.v (Value.slice a n c))] R H = nf_lruns a n c R H := by kernel_rfl

end Cr

set_option linter.unusedVariables false
set_option linter.unusedSimpArgs false
namespace Cr
open Go Sx Stb Bt
open Go.Proofs.Try
set_option maxRecDepth 100000
theorem row_off {H H' : Heap} {v w : Value} {ty ty' sz sz' : Nat} {es es' : List (List Value)} (hv : RowAt H v ty sz es) (hw : RowAt H' w ty' sz' es') (hfr : ∀ b, blockOf w = some b → H b = none) : RowAt (H'.delO (blockOf v)) w ty' sz' es' :=
  row_le hw fun x o e q => delO_keep (fun k e' => by
    rintro rfl
    have h1 := hfr _ e
    rcases hv with ⟨q1, _⟩ | ⟨b2, o, cap, cc, q1, q2, _⟩
    · rw [q1] at e'; cases e'
    · rw [q1] at e'; cases e'; rw [q2] at h1; cases h1) q
section
variable {R : Ending → Heap → Prop} {H : Heap}
theorem runs_tail {b' r' : Nat} {m' : M} {own' : List Pt} {I' : List Int} {P0 : Heap → Prop} {K1 : List (List Value) → Heap → Prop} {H : Heap} (hg : GroveAt H ⟨b', 0, none⟩ r' m') (hT : TreeOK m' (sortP own') I') (hp : ∀ p ∈ own', PtR p) (hl : own'.length ≤ 1000) (k : ∀ H', H ≤ H' → K1 (pts own') H') :
    Meets prog 41 [Value.pointer (some ⟨b', 0, none⟩)] H fun (e : Ending) (H' : Nat → Option Obj) => ∃ (a_4 : Option Addr), ∃ (n_3 : Nat), ∃ (c_3 : Nat), e = Ending.returned (Value.slice a_4 n_3 c_3) ∧ ∀ (v : Value) (H'_1 : Nat → Option Obj), Heap.le H' H'_1 → (∀ (b : Nat), blockOf v = some b → H' b = none) → (∀ (b : Nat) (o : Obj), H'_1 b = some o → H' b = some o ∨ blockOf v = some b) → RowAt H'_1 v tPt (4 : Nat) (pts own') →
      Meets prog 23 [v] H'_1 fun (e : Ending) (H' : Nat → Option Obj) => ∃ (a_9 : Option Addr), ∃ (n_4 : Nat), ∃ (c_4 : Nat), e = Ending.returned (Value.slice a_9 n_4 c_4) ∧ ∃ (es : List (List Value)), RowAt H' v tPt (4 : Nat) es ∧
      Meets prog 19 [Value.slice a_4 n_3 c_3, Value.slice a_9 n_4 c_4] (Heap.delO H' (blockOf v)) fun (e : Ending) (H' : Nat → Option Obj) => ∃ (b : Bool), e = Ending.returned (Value.bool b) ∧ Br (!b) (P0 H') (
      Meets prog 42 [Value.pointer (some ⟨b', 0, none⟩)] H' fun (e : Ending) (H' : Nat → Option Obj) => ∃ (a_10 : Option Addr), ∃ (n_5 : Nat), ∃ (c_5 : Nat), e = Ending.returned (Value.slice a_10 n_5 c_5) ∧ ∀ (v : Value) (H'_2 : Nat → Option Obj), Heap.le H' H'_2 → (∀ (b : Nat), blockOf v = some b → H' b = none) → (∀ (b : Nat) (o : Obj), H'_2 b = some o → H' b = some o ∨ blockOf v = some b) → RowAt H'_2 v tPt (4 : Nat) es →
      Meets prog 30 [v] H'_2 fun (e : Ending) (H' : Nat → Option Obj) => ∃ (a_15 : Option Addr), ∃ (n_6 : Nat), ∃ (c_6 : Nat), e = Ending.returned (Value.slice a_15 n_6 c_6) ∧ ∃ (es : List (List Value)), RowAt H' v tPt (4 : Nat) es ∧
      Meets prog 32 [Value.slice a_10 n_5 c_5, Value.slice a_15 n_6 c_6] (Heap.delO H' (blockOf v)) fun (e : Ending) (H' : Nat → Option Obj) => ∃ (b : Bool), e = Ending.returned (Value.bool b) ∧ Br (!b) (P0 H') (K1 es H')) := by
  have hfr := hT.free
  have hsl := sortP_len own'
  refine s_tshape hg hT fun v1 H1 hle1 hfr1 hrow1 => ?_
  obtain ⟨a1, c1, rfl⟩ := row_val hrow1
  refine ⟨_, _, _, rfl, fun v2 H2 g1 g2 _ g4 => ?_⟩
  have hle2 : H ≤ H2 := heap_trans hle1 g1
  refine s_rShape (row_slice g4) (by omega) hp fun v3 H3 hle3 hfr3 hrow3 => ?_
  obtain ⟨a3, c3, rfl⟩ := row_val hrow3
  have k1 : ∀ x o, H1 x = some o → (H3.delO (blockOf v2)) x = some o := le_delO (heap_trans g1 hle3) g2
  refine ⟨_, _, _, rfl, pts own', row_le g4 (fun b o _ e => hle3 _ _ e), ?_⟩
  refine s_ints (l := shpN 32 (sortP own')) (l' := shpN 32 (sortP own')) (slice_le (row_slice hrow1) k1) (row_slice (row_off g4 hrow3 hfr3)) (by rw [shpN_len]; omega) ⟨_, rfl, ?_⟩
  rw [decide_eq_true rfl]
  refine br (fun q => by cases q) fun _ => ?_
  have hle4 : H ≤ H3.delO (blockOf v2) := heap_trans hle1 k1
  generalize H3.delO (blockOf v2) = H4 at *
  refine s_treepts (hg.le hle4) hT fun v5 H5 hle5 hfr5 hrow5 => ?_
  obtain ⟨a5, c5, rfl⟩ := row_val hrow5
  refine ⟨_, _, _, rfl, fun v6 H6 f1 f2 _ f4 => ?_⟩
  refine s_rsort (row_slice f4) (by omega) fun v7 H7 hle7 hfr7 hrow7 => ?_
  obtain ⟨a7, c7, rfl⟩ := row_val hrow7
  have k2 : ∀ x o, H5 x = some o → (H7.delO (blockOf v6)) x = some o := le_delO (heap_trans f1 hle7) f2
  refine ⟨_, _, _, rfl, pts own', row_le f4 (fun b o _ e => hle7 _ _ e), ?_⟩
  refine s_points (l := sortP own') (l' := sortP own') (slice_le (row_slice hrow5) k2) (row_slice (row_off f4 hrow7 hfr7)) (by omega) ⟨_, rfl, ?_⟩
  rw [decide_eq_true rfl]
  refine br (fun q => by cases q) fun _ => k _ (heap_trans hle4 (heap_trans hle5 k2))
def InsRes (L : List Pt) (p : Pt) (a : Option Addr) (n : Int) (H : Heap) : Prop :=
  (pcode p ≠ 0 ∧ a = none ∧ n = pcode p) ∨ ptOK p ∧ ((p.id ∈ L.map Pt.id ∧ a = none ∧ n = 22) ∨ p.id ∉ L.map Pt.id ∧ ((255 < nds 32 (insP L p) ∧ a = none ∧ n = 10) ∨
    nds 32 (insP L p) ≤ 255 ∧ n = 0 ∧ ∃ b r m I, a = some ⟨b, 0, none⟩ ∧ GroveAt H ⟨b, 0, none⟩ r m ∧ TreeOK m (insP L p) I))
theorem InsRes.le {L : List Pt} {p : Pt} {a : Option Addr} {n : Int} {H H' : Heap} (h : InsRes L p a n H) (hle : H ≤ H') : InsRes L p a n H' := by
  rcases h with h | ⟨h1, h | ⟨h2, h | ⟨h3, h4, b, r, m, I, h5, h6, h7⟩⟩⟩
  · exact .inl h
  · exact .inr ⟨h1, .inl h⟩
  · exact .inr ⟨h1, .inr ⟨h2, .inl h⟩⟩
  · exact .inr ⟨h1, .inr ⟨h2, .inr ⟨h3, h4, b, r, m, I, h5, h6.le hle, h7⟩⟩⟩
theorem s_tinsR {g : Addr} {r : Nat} {m : M} {L : List Pt} {I : List Int} {p : Pt} (hg : GroveAt H g r m) (hT : TreeOK m L I) (hpr : PtR p) (k : ∀ a n H', H ≤ H' → InsRes L p a n H' → R (.returned (.tuple #[.pointer a, vi n])) H') : Meets prog 45 [.pointer (some g), ptV p] H R :=
  s_tins hg hT hpr (fun h => k _ _ _ (heap_refl _) (.inl ⟨h, rfl, rfl⟩)) (fun h1 h2 H' hle => k _ _ _ hle (.inr ⟨h1, .inl ⟨h2, rfl, rfl⟩⟩)) (fun h1 h2 h3 H' hle => k _ _ _ hle (.inr ⟨h1, .inr ⟨h2, .inl ⟨h3, rfl, rfl⟩⟩⟩))
    fun h1 h2 h3 b r m I H' _ _ _ hle hg hT _ _ => k _ _ _ hle (.inr ⟨h1, .inr ⟨h2, .inr ⟨h3, rfl, b, r, m, I, rfl, hg, hT⟩⟩⟩)
/-- A call. -/
structure OpR where
  gone : Bool
  at_ : Int
  pt : Pt
abbrev opC (o : OpR) : List Value := [.bool o.gone, vi o.at_, vi o.pt.id, .int .u32 o.pt.x, .int .u32 o.pt.y, .string o.pt.data]
abbrev opsL (l : List OpR) : List (List Value) := l.map opC
theorem op_fld {a : Option Addr} {n c : Nat} {l : List OpR} (h : SliceAt H (.slice a n c) 6 (opsL l)) {i : Nat} {o : OpR} (he : l[i]? = some o) :
    ∃ A, a = some A ∧ H.has ((A.add (i * 6)).add 0) [.bool o.gone] ∧ H.has ((A.add (i * 6)).add 1) [vi o.at_] ∧ H.has ((A.add (i * 6)).add 2) (ptC o.pt) := by
  obtain ⟨A, h1, h0, h2⟩ := slice_get h (i := i) (e := opC o) (by simp [opsL, he])
  have hs : (A.add (i * 6)).spot = none := by rw [add_spot h0]
  refine ⟨A, h1, has_one h2 rfl hs, has_one h2 rfl hs, fun j x hj => ?_⟩
  have e : ((A.add (i * 6)).add 2).add j = (A.add (i * 6)).add (2 + j) := by rw [add_spot hs, add_spot hs, add_spot rfl]; simp [Nat.add_assoc]
  rw [e]
  exact h2 (2 + j) x (by rw [Nat.add_comm]; simpa using hj)
theorem sort_ins {L : List Pt} {p : Pt} (hn : (L.map Pt.id).Nodup) (hp : p.id ∉ L.map Pt.id) : sortP (L ++ [p]) = insP (sortP L) p := by
  unfold insP
  refine (sortP_eq ?_ ((perm_sortP L).append_right [p])).symm
  rw [List.map_append, List.nodup_append]
  exact ⟨hn, by simp, fun a ha b hb => by simp at hb; subst hb; rintro rfl; exact hp ha⟩
theorem sort_cut {L : List Pt} {p : Pt} {i : Nat} (hn : (L.map Pt.id).Nodup) (hi : L[i]? = some p) : sortP (L.eraseIdx i) = cutP (sortP L) p := by
  refine sortP_perm ((sortP_rise hn).sublist List.filter_sublist) ?_
  exact (cutP_perm hn hi (by simp [mt])).trans ((perm_sortP L).symm.filter _)
/-- Which point goes. -/
theorem pick_at {n : Int} {len : Nat} (h0 : 0 < len) (h1 : len ≤ 1000) : ∃ k : Nat, Int.tmod (IntKind.i64.wrap (Int.tmod n (len : Int) + (len : Int))) (len : Int) = (k : Int) ∧ k < len := by
  have a1 := Int.tmod_lt_of_pos n (show (0 : Int) < len by omega)
  have a2 := Int.tmod_lt_of_pos (-n) (show (0 : Int) < len by omega)
  rw [Int.neg_tmod] at a2
  rw [w64 (by omega)]
  have b0 := Int.tmod_nonneg (len : Int) (show 0 ≤ Int.tmod n (len : Int) + (len : Int) by omega)
  have b1 := Int.tmod_lt_of_pos (Int.tmod n (len : Int) + (len : Int)) (show (0 : Int) < len by omega)
  exact ⟨(Int.tmod (Int.tmod n (len : Int) + (len : Int)) (len : Int)).toNat, by omega, by omega⟩
theorem s_lruns {v : Value} {ops : List OpR} (h : SliceAt H v 6 (opsL ops)) (hp : ∀ o ∈ ops, PtR o.pt) (k : ∀ H', H ≤ H' → R (.returned (.bool true)) H') :
    Meets prog 11 [v] H R := by
  obtain ⟨a, m, c, e, hm⟩ := h
  subst e
  have h : SliceAt H (.slice a m c) 6 (opsL ops) := ⟨a, m, c, rfl, hm⟩
  have hlm : ops.length = m := by simpa [opsL] using hm.1
  refine spec_of func11 (by kernel_rfl) (fun t h => by cases h) ?_ (vc_lruns a m c R H) ?_
  · simp [argsR, SV.rep, SC.rep, one]
  unfold nf_lruns
  simp only [true_and]
  refine s_alive23 fun H0 hle0 => ⟨_, rfl, br (fun q => by cases q) fun _ => ?_⟩
  refine s_empty fun r0 b0 _ _ _ H1 hle1 hg1 => ⟨_, rfl, ?_⟩
  have h1 := slice_le h (heap_trans hle0 hle1)
  have hleH1 := heap_trans hle0 hle1
  refine ⟨fun p H' => ∃ (t : Nat) (own : List Pt) (b r : Nat) (mm : M) (I : List Int), p.1.1 = some ⟨b, 0, none⟩ ∧ p.1.2.1 = pts own ∧ p.1.2.2.1 = (t : Int) ∧ t ≤ m ∧ t ≤ 40 ∧ own.length ≤ t ∧ (∀ p ∈ own, PtR p) ∧ (own.map Pt.id).Nodup ∧ GroveAt H' ⟨b, 0, none⟩ r mm ∧ TreeOK mm (sortP own) I ∧ H1 ≤ H',
    fun p _ => (m - p.1.2.2.1).toNat, ⟨0, [], b0, r0, mE, [1], rfl, rfl, rfl, by omega, by omega, by simp, by simp, by simp, hg1, tree_mE, heap_refl _⟩, ?_⟩
  rintro ⟨⟨gp, ow, i, _⟩, _⟩ H2 ⟨t, own, b, r, mm, I, e1, e2, e3, ht, ht40, hol, hpr, hnd, hg, hT, hle2⟩
  simp only at e1 e2 e3 ⊢
  subst e1; subst e2; subst e3
  have hpo : (pts own).length = own.length := by simp [pts]
  refine br (fun q => br (fun q40 => ?_) fun _ => k _ (heap_trans hleH1 hle2)) fun _ => k _ (heap_trans hleH1 hle2)
  simp only [decide_eq_true_eq] at q q40
  have hx : ops[t]? = some ops[t] := List.getElem?_eq_getElem (by omega)
  have hpt := hp _ (List.mem_of_getElem? hx)
  generalize ops[t] = o at *
  refine s_tshape hg hT fun v3 H3 hle3 hfr3 hrow3 => ?_
  obtain ⟨a3, c3, rfl⟩ := row_val hrow3
  have hT0 := hT
  have hfrT := hT.free
  have hsl := sortP_len own
  obtain ⟨A, eA, f0, f1, f2⟩ := op_fld (slice_le h1 (heap_trans hle2 hle3)) hx
  subst eA
  have hg3 := hg.le hle3
  refine ⟨_, _, _, rfl, fun p' H' => ∃ (next : List Pt) (e : Int), p'.1.1 = pts own ∧ p'.1.2.1 = pts next ∧ p'.1.2.2.2.1 = e ∧ p'.1.2.2.2.2.1 = e ∧ H3 ≤ H' ∧ next.length ≤ t + 1 ∧ (∀ p ∈ next, PtR p) ∧
    ((e = 0 ∧ (next.map Pt.id).Nodup ∧ ∃ b' r' m' I', p'.1.2.2.1 = some ⟨b', 0, none⟩ ∧ GroveAt H' ⟨b', 0, none⟩ r' m' ∧ TreeOK m' (sortP next) I') ∨ (e ≠ 0 ∧ p'.1.2.2.1 = none)), ?_, ?_⟩
  · -- the call
    rw [Int.toNat_natCast, hpo]
    refine ⟨⟨by omega, by omega⟩, ptr rfl (ptr rfl (ptr rfl ⟨_, f0, br_and (fun q1 q2 => ?_) fun _ => ?_⟩))⟩
    · simp only [decide_eq_true_eq] at q2
      obtain ⟨kk, hk1, hk2⟩ := pick_at (n := o.at_) (len := own.length) (by omega) (by omega)
      have hkx : own[kk]? = some own[kk] := List.getElem?_eq_getElem hk2
      have hkr := hpr _ (List.mem_of_getElem? hkx)
      refine ⟨⟨by omega, by omega⟩, ptr rfl (ptr rfl (ptr rfl ⟨_, f1, ?_⟩))⟩
      rw [hk1, w64 (k := (kk : Int) + 1) (by omega), Int.toNat_natCast, show ((kk : Int) + 1).toNat = kk + 1 by omega]
      refine ⟨by omega, by omega, ⟨by omega, by omega⟩, _, _, _, _, ⟨ptC own[kk], by simp [pts, hkx], rfl⟩, ?_⟩
      refine s_tdel (p := own[kk]) hg3 hT hkr (fun hno H4 hle4 => ?_) fun hex b4 r4 m4 I4 H4 _ _ _ hle4 hg4 hT4 => ?_
      · have := hno _ (sortP_mem.2 (List.getElem_mem hk2))
        simp [mt] at this
      · have hnx : List.append (List.take (kk - 0) (List.drop 0 (pts own))) (List.take (own.length - (kk + 1)) (List.drop (kk + 1) (pts own))) = pts (own.eraseIdx kk) := by
          rw [List.take_of_length_le (l := List.drop (kk + 1) (pts own)) (by rw [List.length_drop, hpo]; omega), List.eraseIdx_eq_take_drop_succ]
          simp [pts, append_eq]
        have hpe : (pts (own.eraseIdx kk)).length = own.length - 1 := by rw [List.length_map, List.length_eraseIdx_of_lt hk2]
        refine ⟨_, _, rfl, ⟨by omega, by omega⟩, ⟨by omega, by omega⟩, by simp only [List.length_take, List.length_drop, hpo]; omega, by rw [hnx, hpe]; omega, own.eraseIdx kk, 0, rfl, hnx, rfl, rfl, hle4, ?_, fun p hm => hpr p (List.mem_of_mem_eraseIdx hm), .inl ⟨rfl, ?_, b4, r4, m4, I4, rfl, hg4, ?_⟩⟩
        · rw [List.length_eraseIdx_of_lt hk2]; omega
        · exact hnd.sublist ((List.eraseIdx_sublist own kk).map _)
        · rw [sort_cut hnd hkx]; exact hT4
    · refine ⟨⟨by omega, by omega⟩, ptr rfl (ptr rfl (ptr rfl ⟨_, _, _, _, f2, s_tinsR hg3 hT hpt fun an nn H4 hle4 hR => ?_⟩))⟩
      have hnx : List.append (pts own) [[.int .i64 o.pt.id, .int .u32 o.pt.x, .int .u32 o.pt.y, .string o.pt.data]] = pts (own ++ [o.pt]) := by simp [pts, append_eq]
      have hpn : (pts (own ++ [o.pt])).length = own.length + 1 := by simp [pts]
      have hprn : ∀ p ∈ own ++ [o.pt], PtR p := fun p hm => by
        rcases List.mem_append.1 hm with hm | hm
        · exact hpr p hm
        · rw [List.mem_singleton.1 hm]; exact hpt
      refine ⟨_, _, rfl, by omega, by rw [hnx, hpn]; omega, ?_⟩
      rw [hnx]
      have base : ∀ (want : Int) (H5 : Heap), H3 ≤ H5 → nn = want → ((nn = 0 ∧ ((own ++ [o.pt]).map Pt.id).Nodup ∧ ∃ b' r' m' I', an = some ⟨b', 0, none⟩ ∧ GroveAt H5 ⟨b', 0, none⟩ r' m' ∧ TreeOK m' (sortP (own ++ [o.pt])) I') ∨ (nn ≠ 0 ∧ an = none)) →
          ∃ (next : List Pt) (e : Int), pts own = pts own ∧ pts (own ++ [o.pt]) = pts next ∧ nn = e ∧ want = e ∧ H3 ≤ H5 ∧ next.length ≤ t + 1 ∧ (∀ p ∈ next, PtR p) ∧
            ((e = 0 ∧ (next.map Pt.id).Nodup ∧ ∃ b' r' m' I', an = some ⟨b', 0, none⟩ ∧ GroveAt H5 ⟨b', 0, none⟩ r' m' ∧ TreeOK m' (sortP next) I') ∨ (e ≠ 0 ∧ an = none)) := fun want H5 h1 h2 h3 => ⟨own ++ [o.pt], nn, rfl, rfl, rfl, h2.symm, h1, by simp; omega, hprn, h3⟩
      have badc : pcode o.pt ≠ 0 → nn = pcode o.pt ∧ an = none := fun hc => by
        rcases hR with ⟨_, r1, r2⟩ | ⟨r1, _⟩
        · exact ⟨r2, r1⟩
        · exact absurd (pcode_ok.2 r1) hc
      refine br (fun q1 => ?_) fun q1 => br (fun q2 => ?_) fun q2 => br (fun q3 => ?_) fun q3 => ?_
      all_goals simp only [decide_eq_true_eq, decide_eq_false_iff_not] at *
      · have hc : pcode o.pt = 4 := by unfold pcode; rw [if_pos (by omega)]
        obtain ⟨r1, r2⟩ := badc (by omega)
        exact base 4 H4 hle4 (by omega) (.inr ⟨by omega, r2⟩)
      · have hc : pcode o.pt = 4 := by unfold pcode; rw [if_pos (by omega)]
        obtain ⟨r1, r2⟩ := badc (by omega)
        exact base 4 H4 hle4 (by omega) (.inr ⟨by omega, r2⟩)
      · have hc : pcode o.pt = 5 := by unfold pcode; rw [if_neg (by omega), if_pos (by omega)]
        obtain ⟨r1, r2⟩ := badc (by omega)
        exact base 5 H4 hle4 (by omega) (.inr ⟨by omega, r2⟩)
      have hok : ptOK o.pt := ⟨by omega, by omega, by omega⟩
      have hallok : ∀ p ∈ own ++ [o.pt], ptOK p := fun p hm => by
        rcases List.mem_append.1 hm with hm | hm
        · exact hT0.lok.ok p (sortP_mem.2 hm)
        · rw [List.mem_singleton.1 hm]; exact hok
      have hids : o.pt.id ∈ (sortP own).map Pt.id ↔ o.pt.id ∈ own.map Pt.id := by
        simp only [List.mem_map, sortP_mem]
      rcases hR with ⟨r1, _⟩ | ⟨_, hR⟩
      · exact absurd (pcode_ok.2 hok) r1
      intro v5 H5 g1 g2 _ g4
      refine s_once (l := own ++ [o.pt]) (row_slice g4) (by decide) (by simp; omega) fun v6 H6 hle6 hfr6 hrow6 => ?_
      obtain ⟨a6, c6, rfl⟩ := row_val hrow6
      have k5 : H4 ≤ H6.delO (blockOf v5) := le_delO (heap_trans g1 hle6) g2
      have hpl6 : (pts (onceP 60 (own ++ [o.pt]))).length = (onceP 60 (own ++ [o.pt])).length := by simp [pts]
      refine ⟨_, _, _, rfl, pts (own ++ [o.pt]), row_le g4 (fun b o _ e => hle6 _ _ e), ?_⟩
      rw [hpl6, hpn]
      by_cases hdup : o.pt.id ∈ own.map Pt.id
      · -- an Id that is there
        rcases hR with ⟨_, r1, r2⟩ | ⟨r1, _⟩
        rotate_left
        · exact absurd (hids.2 hdup) r1
        refine br (fun _ => base 22 _ (heap_trans hle4 k5) (by omega) (.inr ⟨by omega, r1⟩)) fun q5 => ?_
        exfalso
        have hl5 : (onceP 60 (own ++ [o.pt])).length = (own ++ [o.pt]).length := by simp at q5 ⊢; omega
        have hnn := (once_ok 60 (own ++ [o.pt])).dist
        rw [onceP_full _ hl5, List.map_append, List.nodup_append] at hnn
        exact hnn.2.2 _ hdup o.pt.id (by simp) rfl
      · rcases hR with ⟨r1, _⟩ | ⟨_, hR⟩
        · exact absurd (hids.1 r1) hdup
        have hnd5 : ((own ++ [o.pt]).map Pt.id).Nodup := by
          rw [List.map_append, List.nodup_append]
          exact ⟨hnd, by simp, fun a ha b hb => by simp at hb; subst hb; rintro rfl; exact hdup ha⟩
        rw [onceP_id _ hallok hnd5 (by simp; omega)]
        refine br (fun q5 => by exfalso; simp at q5) fun _ => fun v7 H7 g5 g6 _ g8 => ?_
        refine s_rNodes (l := own ++ [o.pt]) (row_slice g8) (by simp; omega) hprn fun H8 hle8 => ⟨_, rfl, pts (own ++ [o.pt]), row_le g8 (fun b o _ e => hle8 _ _ e), ?_⟩
        have k7 : H4 ≤ H8.delO (blockOf v7) := heap_trans k5 (le_delO (heap_trans g5 hle8) g6)
        rw [sort_ins hnd hdup] at base ⊢
        rcases hR with ⟨r1, r2, r3⟩ | ⟨r1, r2, b', r', m', I', r3, r4, r5⟩
        · refine br (fun _ => base 10 _ (heap_trans hle4 k7) (by omega) (.inr ⟨by omega, r2⟩)) fun q6 => by simp at q6; omega
        · refine br (fun q6 => by simp at q6; omega) fun _ => base 0 _ (heap_trans hle4 k7) (by omega) (.inl ⟨r2, hnd5, b', r', m', I', r3, r4.le k7, r5⟩)
  · -- what is told of it
    rintro ⟨⟨ow2, nx, np, en, wn, _⟩, _⟩ H4 ⟨next, e, f1, f2, f3, f4, hle4, hnl, hnr, hres⟩
    simp only at f1 f2 f3 f4 hres ⊢
    subst f1; subst f2; subst f3; subst f4
    refine br (fun q5 => by simp at q5) fun _ => ?_
    refine s_tshape (hg3.le hle4) hT fun v5 H5 hle5 hfr5 hrow5 => ?_
    obtain ⟨a5, c5, rfl⟩ := row_val hrow5
    have hle45 := heap_trans hle4 hle5
    refine ⟨_, _, _, rfl, s_ints (l := shpN 32 (sortP own)) (l' := shpN 32 (sortP own)) (row_slice hrow5) (slice_le (row_slice hrow3) hle45) (by rw [shpN_len]; omega) ⟨_, rfl, ?_⟩⟩
    rw [decide_eq_true rfl]
    refine br (fun q5 => by cases q5) fun _ => ?_
    have hle25 := heap_trans hle2 (heap_trans hle3 hle45)
    rcases hres with ⟨rfl, hnn, b', r', m', I', rfl, r4, r5⟩ | ⟨he, rfl⟩
    · refine br (fun q6 => by cases q6) fun _ => br (fun _ => ?_) fun q7 => by cases q7
      refine runs_tail (r4.le hle5) r5 hnr (by omega) fun H6 hle6 => ?_
      rw [w64 (by omega)]
      exact ⟨⟨t + 1, next, b', r', m', I', rfl, rfl, by omega, by omega, by omega, hnl, hnr, hnn, (r4.le hle5).le hle6, r5, heap_trans hle25 hle6⟩, by omega⟩
    · refine br (fun q6 => by simp [he] at q6) fun _ => br (fun q7 => absurd (by simpa using q7) he) fun _ => ?_
      refine runs_tail (hg3.le hle45) hT hpr (by omega) fun H6 hle6 => ?_
      rw [w64 (by omega)]
      exact ⟨⟨t + 1, own, b, r, mm, I, rfl, rfl, by omega, by omega, by omega, by omega, hpr, hnd, (hg3.le hle45).le hle6, hT, heap_trans hle25 hle6⟩, by omega⟩
end
end Cr

set_option linter.unusedVariables false
set_option linter.unusedSimpArgs false
namespace Cr
open Go Sx Stb Bt
open Go.Proofs.Try
set_option maxRecDepth 100000
theorem own : ownKnob Go.Proofs.Try.prog.godebug = none := by kernel_rfl
theorem laidOut : laidOutB Go.Proofs.Try.prog = true := by kernel_rfl
section
variable {H : Type} {enc : TypeId × Value → H} {W : World}
theorem openPt {fuel : Nat} {cs : List Value} {y : DataW H × List MemPlace} (h : DataW.trod enc prog W 0 (fun _ => true) true fuel 28 cs = some y) : ∃ p : Pt, cs = ptC p ∧ PtR p := by
  obtain ⟨y0, y1, y2, y3, n, _, hl, h0, h1, h2, h3⟩ := Go.Joins.trod_struct4 Go.Proofs.Try.underlying28 h
  obtain ⟨a, e0, _, _⟩ := DataW.trod_int Go.Proofs.Try.underlying3 h0
  obtain ⟨b, e1, _, w1⟩ := DataW.trod_int Go.Proofs.Try.underlying26 h1
  obtain ⟨c, e2, _, w2⟩ := DataW.trod_int Go.Proofs.Try.underlying26 h2
  obtain ⟨s, e3, _, _⟩ := DataW.trod_string Go.Proofs.Try.underlying9 h3
  have c4 : prog.cellsOf 28 = 4 := by kernel_rfl
  have c1 : prog.cellsOf 3 = 1 := by kernel_rfl
  have c2 : prog.cellsOf 26 = 1 := by kernel_rfl
  have c3 : prog.cellsOf 9 = 1 := by kernel_rfl
  rw [c4] at hl
  match cs, hl with
  | [q0, q1, q2, q3], _ =>
    simp only [c1, c2, c3, List.drop_zero, List.drop_succ_cons, List.take_succ_cons, List.take_zero] at e0 e1 e2 e3
    cases e0; cases e1; cases e2; cases e3
    refine ⟨⟨a, b, c, s⟩, rfl, ?_⟩
    have r1 : 0 ≤ b ∧ b < 4294967296 := by simp [Lit.wf, IntKind.min, IntKind.max, IntKind.bits, IntKind.signed] at w1; omega
    have r2 : 0 ≤ c ∧ c < 4294967296 := by simp [Lit.wf, IntKind.min, IntKind.max, IntKind.bits, IntKind.signed] at w2; omega
    exact ⟨r1.1, r1.2, r2.1, r2.2⟩
end
end Cr

set_option linter.unusedVariables false
set_option linter.unusedSimpArgs false
namespace Cr
open Go Sx Stb Bt
open Go.Proofs.Try
set_option maxRecDepth 100000
section
variable {H : Type} {enc : TypeId × Value → H} {W : World}
/-- A slice of structs that is handed in. -/
theorem openSl {E : Type} [Inhabited E] {tS tE sz : Nat} {cell : E → List Value} {Q : E → Prop} (hS : prog.underlying tS = some (.slice tE)) (hc : prog.cellsOf tE = sz) (hsz : 0 < sz) (hcl : ∀ e, (cell e).length = sz) (hon : ∀ e, ∀ x ∈ cell e, one x = true)
    (op : ∀ (fuel : Nat) (cs : List Value) (y : DataW H × List MemPlace), DataW.trod enc prog W 0 (fun _ => true) true fuel tE cs = some y → ∃ e, cs = cell e ∧ Q e)
    {v : Value} {d : DataW H} {ps : List MemPlace} {base : Nat} (hv : Value.okWide prog W .any base tS v) (h : DataW.Trod enc prog W 0 (fun _ => true) true tS v d ps) : ∃ l : List E, SliceAt (full W) v sz (l.map cell) ∧ ∀ e ∈ l, Q e := by
  obtain ⟨a, len, cap, rfl⟩ := Go.WideShapes.okWide_slice hS hv
  obtain ⟨fuel, hf⟩ := h
  rcases Go.Deep.open_slice hS hf with ⟨e, e2⟩ | ⟨A, ln, cp, m, n, D, Pl, e, hb, hl, hm, hmm, e2, hx⟩
  · cases e
    exact ⟨[], slice_nil _, by simp⟩
  · cases e
    simp only [if_true] at hmm
    subst hmm
    have pick : ∀ i, ∃ p : E, i < len → Q p ∧ (full W).has (A.add (i * sz)) (cell p) ∧ A.spot = none := fun i => by
      by_cases hi : i < len
      · obtain ⟨cs', h1, h2⟩ := hx i (by omega)
        rw [hc] at h1
        obtain ⟨p, rfl, hp⟩ := op _ _ _ h2
        obtain ⟨_, h3, h4⟩ := World.cells?_some h1
        refine ⟨p, fun _ => ⟨hp, ?_, ?_⟩⟩
        · intro j x hj
          have hj4 : j < sz := by have := (List.getElem?_eq_some_iff.1 hj).1; rw [hcl] at this; exact this
          have := h4 j hj4
          rw [hj] at this
          exact this
        · obtain ⟨cs0, k1, k2⟩ := hx 0 (by omega)
          rw [hc] at k1
          obtain ⟨k5, k3, k4⟩ := World.cells?_some k1
          have := k4 0 hsz
          simp only [Nat.zero_mul, add0] at this
          rw [List.getElem?_eq_getElem (by omega)] at this
          unfold World.cell? at this
          split at this
          · split at this
            · cases this
            · rename_i hs
              simpa using hs
          · cases this
      · exact ⟨default, fun h => absurd h hi⟩
    obtain ⟨f, hf⟩ := Classical.axiomOfChoice pick
    refine ⟨(List.range len).map f, ⟨some A, len, _, rfl, by simp, hl, ?_, ?_, fun i e he => ?_⟩, ?_⟩
    · intro e he
      obtain ⟨p, _, rfl⟩ := List.mem_map.1 he
      exact hcl p
    · intro e he
      obtain ⟨p, _, rfl⟩ := List.mem_map.1 he
      exact hon p
    · simp only [List.getElem?_map] at he
      obtain ⟨p, hp, rfl⟩ := Option.map_eq_some_iff.1 he
      obtain ⟨i', hi', rfl⟩ := Option.map_eq_some_iff.1 hp
      have hlt := (List.getElem?_eq_some_iff.1 hi').1
      have hii : i' = i := by have := (List.getElem?_eq_some_iff.1 hi').2; simp at this; omega
      subst hii
      obtain ⟨_, g1, g2⟩ := hf i' (by simpa using hlt)
      exact ⟨A, rfl, g2, g1⟩
    · intro p hp
      obtain ⟨i, hi, rfl⟩ := List.mem_map.1 hp
      exact (hf i (List.mem_range.1 hi)).1
instance : Inhabited OpR := ⟨⟨false, 0, ⟨0, 0, 0, { data := #[] }⟩⟩⟩
theorem openOp {fuel : Nat} {cs : List Value} {y : DataW H × List MemPlace} (h : DataW.trod enc prog W 0 (fun _ => true) true fuel 63 cs = some y) : ∃ o : OpR, cs = opC o ∧ PtR o.pt := by
  obtain ⟨y0, y1, y2, n, _, hl, h0, h1, h2⟩ := Go.Deep.trod_struct3 Go.Proofs.Try.underlying63 h
  obtain ⟨a, e0, _⟩ := DataW.trod_bool Go.Proofs.Try.underlying4 h0
  obtain ⟨b, e1, _, _⟩ := DataW.trod_int Go.Proofs.Try.underlying3 h1
  obtain ⟨p, e2, hp⟩ := openPt h2
  have c6 : prog.cellsOf 63 = 6 := by kernel_rfl
  have c1 : prog.cellsOf 4 = 1 := by kernel_rfl
  have c2 : prog.cellsOf 3 = 1 := by kernel_rfl
  have c4 : prog.cellsOf 28 = 4 := by kernel_rfl
  rw [c6] at hl
  match cs, hl with
  | [q0, q1, q2, q3, q4, q5], _ =>
    simp only [c1, c2, c4, List.drop_zero, List.drop_succ_cons, List.take_succ_cons, List.take_zero] at e0 e1 e2
    cases e0; cases e1
    refine ⟨⟨a, b, p⟩, ?_, hp⟩
    have e3 : [q2, q3, q4, q5] = ptC p := e2
    cases e3
    rfl
theorem openOps {v : Value} {d : DataW H} {ps : List MemPlace} {base : Nat} (hv : Value.okWide prog W .any base 60 v) (h : DataW.Trod enc prog W 0 (fun _ => true) true 60 v d ps) : ∃ l : List OpR, SliceAt (full W) v 6 (opsL l) ∧ ∀ o ∈ l, PtR o.pt :=
  openSl (cell := opC) (Q := fun o => PtR o.pt) Go.Proofs.Try.underlying60 (by kernel_rfl) (by omega) (fun _ => rfl) (fun e x hx => by simp [opC] at hx; rcases hx with rfl | rfl | rfl | rfl | rfl | rfl <;> rfl) (fun _ _ _ h => openOp h) hv h
end
end Cr
