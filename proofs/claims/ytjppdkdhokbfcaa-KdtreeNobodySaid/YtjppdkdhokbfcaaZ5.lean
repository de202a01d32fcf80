/- Own texts, one behind the other: SxApr, E7, E9, D2, A5, A16, D3, D4, E10, E12, E13, A9, E14. -/
import Derived.Deep.Slices
import Derived.Deep.Strs
import Derived.Test.YtjppdkdhokbfcaaRows
import Derived.Test.YtjppdkdhokbfcaaChecked
import Derived.Test.YtjppdkdhokbfcaaZ4
set_option linter.unusedVariables false
set_option linter.unusedSimpArgs false
namespace Sx
open Go
/-- What may come of a row that is handed on: all else is as it was; it stands where it stood, or in new memory. -/
structure AOwn (v v' : Value) (H H' : Heap) : Prop where
  keep : ∀ b o, blockOf v ≠ some b → H b = some o → H' b = some o
  new : ∀ b, blockOf v' = some b → blockOf v = some b ∨ H b = none
theorem AOwn.refl (v : Value) (H : Heap) : AOwn v v H H := ⟨fun _ _ _ h => h, fun _ h => .inl h⟩
theorem AOwn.trans {v v' v'' : Value} {A B D : Heap} (h : AOwn v v' A B) (h' : AOwn v' v'' B D) : AOwn v v'' A D where
  keep b o hb e := h'.keep b o (fun q => by rcases h.new b q with h1 | h1
                                            · exact hb h1
                                            · rw [e] at h1; cases h1) (h.keep b o hb e)
  new b hb := by
    rcases h'.new b hb with h1 | h1
    · exact h.new b h1
    · by_cases q : blockOf v = some b
      · exact .inl q
      · right
        cases e : A b with
        | none => rfl
        | some o => rw [h.keep b o q e] at h1; cases h1
/-- Cells behind a row are written: it has more elements. -/
theorem row_tail {H : Heap} {A : Addr} {n c ty sz : Nat} {es es2 : List (List Value)} (h : RowAt H (.slice (some A) n c) ty sz es) (hc : n + es2.length ≤ c) (hw : ∀ e ∈ es2, e.length = sz) (h1 : ∀ e ∈ es2, ∀ x ∈ e, one x = true) :
    ∃ cs, (H A.block = some (.cells cs ty (0, 0)) ∧ A.spot = none ∧ A.off + n * sz + es2.length * sz ≤ cs.size) ∧ RowAt (H.upd A.block (.cells (writeCells cs (A.off + n * sz) es2.flatten) ty (0, 0))) (.slice (some A) (n + es2.length) c) ty sz (es ++ es2) := by
  rcases h with ⟨e, -⟩ | ⟨b, o, cap, cs, e, hb, hcap, hfit, hel, hfl, hon⟩
  · cases e
  have e1 := Value.slice.inj e
  obtain ⟨e2, rfl, rfl⟩ := e1
  cases e2
  have hF2 : es2.flatten.length = es2.length * sz := flatten_len hw
  have hm : (es.length + es2.length) * sz ≤ c * sz := Nat.mul_le_mul_right _ hc
  rw [Nat.add_mul] at hm
  have hroom : o + es.length * sz + es2.length * sz ≤ cs.size := by omega
  refine ⟨cs, ⟨hb, rfl, hroom⟩, .inr ⟨b, o, c, writeCells cs (o + es.length * sz) es2.flatten, by rw [List.length_append], by rw [upd_same], by rw [List.length_append]; exact hc, ?_, ?_, ?_, ?_⟩⟩
  · rw [writeCells_size _ _ _ (by rw [hF2]; exact hroom)]; exact hfit
  · intro e he
    rcases List.mem_append.1 he with he | he
    · exact hel e he
    · exact hw e he
  · rw [write_lw _ _ _ (by rw [hF2]; exact hroom), lw, List.append_assoc, List.drop_append, List.drop_take, List.length_append, Nat.add_mul]
    have e3 : o + es.length * sz - o = es.length * sz := by omega
    have e4 : (List.take (o + es.length * sz) cs.toList).length = o + es.length * sz := by simp; omega
    rw [e3, hfl, e4, show o - (o + es.length * sz) = 0 by omega, List.drop_zero, ← List.append_assoc, List.flatten_append]
    exact List.take_left' (by rw [List.length_append, flatten_len hel, hF2])
  · intro e he
    rcases List.mem_append.1 he with he | he
    · exact hon e he
    · exact h1 e he
theorem apr_row {H : Heap} {a : Option Addr} {n c ty sz : Nat} {es es2 : List (List Value)} (h : RowAt H (.slice a n c) ty sz es) (hw : ∀ e ∈ es2, e.length = sz) (h1 : ∀ e ∈ es2, ∀ x ∈ e, one x = true) {by_ : Nat} (hroom : (n + es2.length) * by_ ≤ roomMax)
    {K : Option Addr → Nat → Nat → Heap → Prop} (k : ∀ a' c' H', AOwn (.slice a n c) (.slice a' (n + es2.length) c') H H' → RowAt H' (.slice a' (n + es2.length) c') ty sz (es ++ es2) → K a' (n + es2.length) c' H') :
    (n + es2.length ≤ c → FillX a n sz es2 H fun H' => K a (n + es2.length) c H') ∧
    (c < n + es2.length → (n + es2.length) * by_ ≤ roomMax ∧ ∀ (b cap : Nat) (H' : Heap), H ≤ H' → H b = none → (∀ x o, H' x = some o → H x = some o ∨ x = b) → RowAt H' (.slice (some ⟨b, 0, none⟩) (n + es2.length) cap) ty sz (es ++ es2) → K (some ⟨b, 0, none⟩) (n + es2.length) cap H') := by
  refine ⟨fun hc => ?_, fun hc => ⟨hroom, fun b cap H' hle hb _ hrow => k _ _ _ ⟨fun x o _ e => hle x o e, fun x hx => ?_⟩ hrow⟩⟩
  · cases a with
    | none =>
      rcases h with ⟨e, rfl⟩ | ⟨b, o, cap, cs, e, _⟩
      · cases e
        have : es2 = [] := List.length_eq_zero_iff.1 (by omega)
        subst this
        exact Or.inl ⟨rfl, k none 0 H (AOwn.refl _ _) (.inl ⟨rfl, rfl⟩)⟩
      · cases e
    | some A =>
      obtain ⟨cs, g1, g2⟩ := row_tail h hc hw h1
      refine Or.inr ⟨A, cs, ty, rfl, g1, k _ _ _ ⟨fun x o hx e => ?_, fun x hx => .inl hx⟩ g2⟩
      rw [upd_ne _ _ (fun q => hx (by rw [q]; rfl))]; exact e
  · simp only [blockOf, Option.some.injEq] at hx
    subst hx
    exact .inr hb
/-- A row's first elements, as a slice that has less room. -/
theorem row_take {H : Heap} {a : Option Addr} {n c ty sz : Nat} {es : List (List Value)} (h : RowAt H (.slice a n c) ty sz es) {k : Nat} (hk : k ≤ n) : RowAt H (.slice a k c) ty sz (es.take k) := by
  rcases h with ⟨e, rfl⟩ | ⟨b, o, cap, cs, e, hb, hcap, hfit, hel, hfl, hon⟩
  · cases e
    exact .inl ⟨by rw [show k = 0 by omega], by simp⟩
  · obtain ⟨rfl, rfl, rfl⟩ := Value.slice.inj e
    have hl : (es.take k).length = k := by rw [List.length_take]; omega
    refine .inr ⟨b, o, c, cs, by rw [hl], hb, by omega, hfit, fun e he => hel e (List.mem_of_mem_take he), ?_, fun e he => hon e (List.mem_of_mem_take he)⟩
    rw [hl]
    have hF : (es.take k).flatten.length = k * sz := by rw [flatten_len fun e he => hel e (List.mem_of_mem_take he), hl]
    have h2 : es.flatten = (es.take k).flatten ++ (es.drop k).flatten := by rw [← List.flatten_append, List.take_append_drop]
    have h3 : k * sz ≤ es.length * sz := Nat.mul_le_mul_right _ hk
    have h4 : List.take (k * sz) (List.take (es.length * sz) (List.drop o cs.toList)) = List.take (k * sz) (List.drop o cs.toList) := by rw [List.take_take, Nat.min_eq_left h3]
    rw [← h4, hfl, h2]
    exact List.take_left' hF
end Sx

set_option linter.unusedVariables false
set_option linter.unusedSimpArgs false
namespace Cr
open Go Sx Go.Proofs Go.Sort
open Go.Proofs.Try
set_option maxRecDepth 100000
section
variable {H : Heap} {R : Ending → Heap → Prop}
theorem sub0 (c z : Nat) : subAddr none c 0 z = none := by unfold subAddr; split <;> rfl
theorem subA (A : Addr) (c z : Nat) : subAddr (some A) c 0 z = some A := by
  unfold subAddr
  split
  · rfl
  · cases A with | mk b o s => cases s <;> simp [Addr.add]
/-- Room for so many numbers. -/
theorem s_grw {k : Nat} (hk : k ≤ 1000000) (kk : ∀ v H', H ≤ H' → (∀ b, blockOf v = some b → H b = none) → RowAt H' v 3 1 [] → R (.returned v) H') : Meets prog 38 [.slice none 0 0, vi (k : Int)] H R := by
  refine spec_of func38 (by kernel_rfl) (fun t h => by cases h) ?_ (vc_grw none 0 0 (k : Int) R H) ?_
  · simp [argsR, SV.rep, SC.rep, Sx.one]
  unfold nf_grw
  have e0 : IntKind.wrap .i64 ((k : Int) - IntKind.wrap .i64 (((0 : Nat) : Int) - ((0 : Nat) : Int))) = (k : Int) := by
    rw [wi64 (k := ((0 : Nat) : Int) - ((0 : Nat) : Int)) (by omega), wi64 (by omega)]; omega
  refine br (fun q => by simp at q; omega) fun _ => br (fun q => ?_) fun q => ?_
  · rw [e0] at q ⊢
    simp only [sub0]
    have hk0 : 0 < k := by simpa using q
    refine ⟨by simp, [], slice_nil H, ⟨by omega, by omega⟩, fun hc => ?_, fun hc => ?_⟩
    · simp at hc; omega
    · refine ⟨by simp; omega, fun b cap H' hle hb hb2 hrow => ⟨⟨by simp, by simp⟩, ?_⟩⟩
      rw [subA]
      refine kk _ _ hle (fun x hx => ?_) ?_
      · simp only [blockOf, Option.some.injEq] at hx
        subst hx; exact hb
      · have := row_take hrow (k := 0) (by simp)
        simpa using this
  · rw [e0] at q
    have : k = 0 := by simp at q; omega
    exact kk _ _ (fun _ _ e => e) (fun b hb => by cases hb) (.inl ⟨rfl, rfl⟩)
theorem s_cct {v : Value} {vs : List Value} {ls : List (List Int)} (h : SliceAt H v 1 (vs.map fun x => [x])) (hv : ∀ (i : Nat) (x : Value) (l : List Int), vs[i]? = some x → ls[i]? = some l → SliceAt H x 1 (cells l)) (hvl : vs.length = ls.length) (hn3 : ls.length ≤ 1000) (hl : ls.flatten.length ≤ 1000000)
    (k : ∀ v' H', H ≤ H' → (∀ b, blockOf v' = some b → H b = none) → RowAt H' v' 3 1 (cells ls.flatten) → R (.returned v') H') : Meets prog 26 [v] H R := by
  obtain ⟨a, n, c, e, hn⟩ := h
  subst e
  have h : SliceAt H (.slice a n c) 1 (vs.map fun x => [x]) := ⟨a, n, c, rfl, hn⟩
  have hln : vs.length = n := by simpa using hn.1
  refine spec_of func26 (by kernel_rfl) (fun t h => by cases h) ?_ (vc_cct a n c R H) ?_
  · simp [argsR, SV.rep, SC.rep, Sx.one]
  unfold nf_cct
  have bnd : ∀ t, (ls.take t).flatten.length ≤ ls.flatten.length := fun t => by
    conv => rhs; rw [← List.take_append_drop t ls]
    rw [List.flatten_append, List.length_append]
    omega
  have nxt : ∀ t l, ls[t]? = some l → (ls.take (t + 1)).flatten = (ls.take t).flatten ++ l := fun t l hl => by
    rw [List.take_add_one, hl]; simp
  simp only [true_and]
  refine ⟨fun p H' => ∃ t : Nat, p.1.2.1 = (t : Int) ∧ t ≤ n ∧ p.1.1 = ((ls.take t).flatten.length : Int) ∧ H' = H, fun p _ => (n - p.1.2.1).toNat, ⟨0, rfl, by omega, by simp, rfl⟩, ?_⟩
  rintro ⟨⟨sz, i, _⟩, _⟩ H1 ⟨t, hi, ht, hsz, rfl⟩
  simp only at hi hsz ⊢
  subst hi hsz
  refine br (fun q1 => ?_) fun q1 => ?_
  · simp only [decide_eq_true_eq] at q1
    obtain ⟨x, _, _, hx⟩ := drop_cons (l := vs) (k := t) (by omega)
    obtain ⟨l, _, _, hll⟩ := drop_cons (l := ls) (k := t) (by omega)
    obtain ⟨a1, n1, c1, e1, hs1⟩ := hv t x l hx hll
    subst e1
    have hl1 : l.length = n1 := by simpa using hs1.1
    obtain ⟨A, e, _, g⟩ := slice_get h (i := t) (e := [.slice a1 n1 c1]) (by simp [hx])
    subst e
    have b1 := bnd (t + 1)
    rw [nxt t l hll, List.length_append] at b1
    have e2 : IntKind.wrap .i64 (((ls.take t).flatten.length : Int) + (n1 : Int)) = (((ls.take (t + 1)).flatten.length : Nat) : Int) := by
      rw [nxt t l hll, List.length_append, wi64 (by omega)]; omega
    refine ⟨⟨by omega, by omega⟩, ptr rfl (ptr rfl ⟨a1, n1, c1, g, ?_⟩)⟩
    rw [e2]
    refine br (fun q => by simp at q; omega) fun _ => ?_
    rw [wi64 (by omega)]
    exact ⟨⟨t + 1, by simp, by omega, rfl, by trivial⟩, by simp; omega⟩
  · simp only [decide_eq_false_iff_not] at q1
    rw [List.take_of_length_le (by omega)]
    refine s_grw (by omega) fun v2 H2 hle2 hf2 hrow2 => ?_
    obtain ⟨a2, c2, rfl⟩ := row_val hrow2
    refine ⟨a2, _, c2, rfl, fun p H' => ∃ t : Nat, p.1.2.1 = (t : Int) ∧ t ≤ n ∧ RowAt H' (.slice p.1.1.1 p.1.1.2.1 p.1.1.2.2) 3 1 (cells (ls.take t).flatten) ∧ H1 ≤ H' ∧ ∀ b, blockOf (.slice p.1.1.1 p.1.1.2.1 p.1.1.2.2) = some b → H1 b = none, fun p _ => (n - p.1.2.1).toNat, ⟨0, rfl, by omega, hrow2, hle2, hf2⟩, ?_⟩
    rintro ⟨⟨⟨a3, n3, c3⟩, i, _⟩, _⟩ H3 ⟨t, hi, ht, hrow3, hle3, hf3⟩
    simp only at hi hrow3 hf3 ⊢
    subst hi
    refine br (fun q1 => ?_) fun q1 => ?_
    · simp only [decide_eq_true_eq] at q1
      obtain ⟨x, _, _, hx⟩ := drop_cons (l := vs) (k := t) (by omega)
      obtain ⟨l, _, _, hll⟩ := drop_cons (l := ls) (k := t) (by omega)
      obtain ⟨A, e, _, g⟩ := slice_get (slice_le h hle3) (i := t) (e := [x]) (by simp [hx])
      subst e
      have hs3 := slice_le (hv t x l hx hll) hle3
      obtain ⟨a1, n1, c1, e1, hs1⟩ := id hs3
      subst e1
      have b1 := bnd (t + 1)
      rw [nxt t l hll, List.length_append] at b1
      have hn3 : (ls.take t).flatten.length = n3 := by have := (row_len hrow3).1; simp only [cells, List.length_map] at this; exact this
      refine ⟨⟨by omega, by omega⟩, ptr rfl (ptr rfl ⟨a1, n1, c1, g, _, row_slice hrow3, _, hs3, ?_⟩)⟩
      rw [wi64 (by omega)]
      refine apr_row (K := fun a' n' c' H' => (∃ t' : Nat, ((t : Int) + 1) = (t' : Int) ∧ t' ≤ n ∧ RowAt H' (.slice a' n' c') 3 1 (cells (ls.take t').flatten) ∧ H1 ≤ H' ∧ ∀ b, blockOf (.slice a' n' c') = some b → H1 b = none) ∧ ((n : Int) - ((t : Int) + 1)).toNat < ((n : Int) - (t : Int)).toNat) hrow3 (by simp [cells]) (by simp [cells, Sx.one]) (by_ := 8) (by simp only [cells, List.length_map]; unfold roomMax; omega) fun a' c' H' ho hr' => ⟨⟨t + 1, by simp, by omega, ?_, fun b o e => ?_, fun b hb => ?_⟩, by omega⟩
      · rw [nxt t l hll]
        simpa [cells] using hr'
      · exact ho.keep b o (fun e2 => by rw [hf3 b e2] at e; cases e) (hle3 b o e)
      · rcases ho.new b hb with q | q
        · exact hf3 b q
        · cases q2 : H1 b with
          | none => rfl
          | some o => rw [hle3 b o q2] at q; cases q
    · simp only [decide_eq_false_iff_not] at q1
      rw [List.take_of_length_le (by omega)] at hrow3
      exact k _ _ hle3 hf3 hrow3
theorem s_kord : ∀ (T : KT) {H : Heap} {R : Ending → Heap → Prop} {t : Option Addr}, KAt H T t → T.pre.length ≤ 1000 → (∀ v' H', H ≤ H' → (∀ b, blockOf v' = some b → H b = none) → RowAt H' v' 3 1 (cells T.pre) → R (.returned v') H') → Meets prog 11 [.pointer t] H R
  | .nil, H, R, t, h, hd, k => by
    refine spec_of func11 (by kernel_rfl) (fun t h => by cases h) ?_ (vc_kord t R H) ?_
    · simp [argsR, SV.rep, SC.rep, Sx.one]
    unfold nf_kord
    exact s_kis h ⟨_, rfl, br (fun _ => k _ _ (fun _ _ e => e) (fun b hb => by cases hb) (.inl ⟨rfl, rfl⟩)) fun q => by simp [KT.some] at q⟩
  | .node p l r, H, R, t, h, hd, k => by
    have h0 := h
    obtain ⟨A, a, b, rfl, g, h1, h2⟩ := h
    have hd : (l.pre ++ r.pre).length + 1 ≤ 1000 := hd
    rw [List.length_append] at hd
    refine spec_of func11 (by kernel_rfl) (fun t h => by cases h) ?_ (vc_kord (some A) R H) ?_
    · simp [argsR, SV.rep, SC.rep, Sx.one]
    unfold nf_kord
    refine s_kis h0 ⟨_, rfl, br (fun q => by simp [KT.some] at q) fun _ => ⟨H, fun _ _ e => e, ptr rfl (ptr rfl (ptr rfl (ptr rfl ⟨p.id, has_at (k := 1) g rfl, ptr rfl (ptr rfl (ptr rfl ⟨a, has_at g rfl, ptr rfl (ptr rfl (ptr rfl ⟨b, has_at g rfl, ?_⟩))⟩))⟩)))⟩⟩
    refine s_kord l h1 (by omega) fun v1 H1 hle1 hf1 hr1 => ?_
    obtain ⟨a1, c1, rfl⟩ := row_val hr1
    refine ⟨fun b o e _ => hle1 b o e, a1, _, c1, rfl, ?_⟩
    simp only [delLs_nil]
    refine s_kord r (kAt_le hle1 h2) (by omega) fun v2 H2 hle2 hf2 hr2 => ?_
    obtain ⟨a2, c2, rfl⟩ := row_val hr2
    refine ⟨fun b o e _ => hle2 b o e, a2, _, c2, rfl, ?_⟩
    intro v3 H3 hle3 hf3 hb3 hr3 v4 H4 hle4 hf4 hb4 hr4
    have hr4' : RowAt H4 v4 24 1 ([v3, .slice a1 (cells l.pre).length c1, .slice a2 (cells r.pre).length c2].map fun x => [x]) := hr4
    refine s_cct (ls := [[p.id], l.pre, r.pre]) (row_slice hr4') ?_ rfl (by simp) (by simp; omega) fun v5 H5 hle5 hf5 hr5 => ?_
    · intro i x w hx hw
      match i, hx, hw with
      | 0, hx, hw => simp at hx hw; subst hx hw; exact slice_le (row_slice hr3) hle4
      | 1, hx, hw => simp at hx hw; subst hx hw; have := slice_le (row_slice hr1) (heap_trans hle2 (heap_trans hle3 hle4)); simpa using this
      | 2, hx, hw => simp at hx hw; subst hx hw; have := slice_le (row_slice hr2) (heap_trans hle3 hle4); simpa using this
    · obtain ⟨a5, c5, rfl⟩ := row_val hr5
      refine ⟨fun b o e _ => hle5 b o e, a5, _, c5, rfl, ?_⟩
      have hle : H ≤ H3 := heap_trans hle1 (heap_trans hle2 hle3)
      have e6 : [p.id] :: [l.pre, r.pre] = [[p.id], l.pre, r.pre] := rfl
      refine k _ _ (le_delO (heap_trans hle (heap_trans hle4 hle5)) fun b hb => ?_) (fun b hb => ?_) ?_
      · cases q : H b with
        | none => rfl
        | some o => have := hf4 b hb; rw [hle b o q] at this; cases this
      · cases q : H b with
        | none => rfl
        | some o => have := hf5 b hb; rw [hle4 b o (hle b o q)] at this; cases this
      · have := row_delO hr5 (o := blockOf v4) fun b hb e => rowat_known hr4 e (hf5 b hb)
        have e7 : cells (KT.node p l r).pre = cells [[p.id], l.pre, r.pre].flatten := by simp [KT.pre]
        rw [e7]
        exact this
end
end Cr

set_option linter.unusedVariables false
set_option linter.unusedSimpArgs false
namespace Cr
open Go Sx Go.Proofs Go.Sort
open Stb (isort insR Srtd isort_srtd isort_snoc isort_len insR_at)
open Go.Proofs.Try
set_option maxRecDepth 100000
abbrev ltD (dp : Int) : Pt → Pt → Bool := ltOf (cfK dp)
/-- Points with Ids of their own. -/
def UId (l : List Pt) : Prop := (l.map Pt.id).Nodup
theorem UId.inj {l : List Pt} (h : UId l) {x y : Pt} (hx : x ∈ l) (hy : y ∈ l) (e : x.id = y.id) : x = y := by
  unfold UId at h
  induction l with
  | nil => cases hx
  | cons z l ih =>
    rw [List.map_cons, List.nodup_cons] at h
    rcases List.mem_cons.1 hx with hx | hx
    · rcases List.mem_cons.1 hy with hy | hy
      · rw [hx, hy]
      · exact absurd (List.mem_map.2 ⟨y, hy, by rw [← hx]; exact e.symm⟩) h.1
    · rcases List.mem_cons.1 hy with hy | hy
      · exact absurd (List.mem_map.2 ⟨x, hx, by rw [← hy]; exact e⟩) h.1
      · exact ih h.2 hx hy
theorem UId.perm {l l' : List Pt} (h : UId l) (p : l'.Perm l) : UId l' := (p.map _).nodup_iff.2 h
theorem UId.sub {l l' : List Pt} (h : UId l) (p : l'.Sublist l) : UId l' := List.Nodup.sublist (p.map _) h
/-- Sorted, of the same points: the same. -/
theorem sort_one {dp : Int} : ∀ {s s' : List Pt}, UId s → s'.Perm s → s.Pairwise (fun x y => ltD dp y x = false) → s'.Pairwise (fun x y => ltD dp y x = false) → s' = s
  | [], s', _, hp, _, _ => hp.eq_nil
  | x :: s, [], _, hp, _, _ => by have := hp.length_eq; simp at this
  | x :: s, y :: s', hu, hp, h1, h2 => by
    rw [List.pairwise_cons] at h1 h2
    have hxy : x = y := by
      have hy : y ∈ x :: s := hp.mem_iff.1 (List.mem_cons_self ..)
      have hx : x ∈ y :: s' := hp.mem_iff.2 (List.mem_cons_self ..)
      rcases List.mem_cons.1 hy with e | hy
      · exact e.symm
      · rcases List.mem_cons.1 hx with e | hx
        · exact e
        · have a := h1.1 y hy
          have b := h2.1 x hx
          have a : ltOf (cfK dp) y x = false := a
          have b : ltOf (cfK dp) x y = false := b
          rw [ltK, decide_eq_false_iff_not] at a b
          exact hu.inj (List.mem_cons_self ..) (List.mem_cons_of_mem _ hy) (by omega)
    subst hxy
    rw [sort_one (hu.sub (List.sublist_cons_self ..)) (List.Perm.cons_inv hp) h1.2 h2.2]
theorem Grow.det : ∀ {dp : Int} {l : List Pt} {T : KT}, Grow dp l T → ∀ {l' : List Pt} {T' : KT}, l'.Perm l → UId l → Grow dp l' T' → T' = T
  | _, _, _, .nil, l', T', hp, hu, h => by
    have := hp.eq_nil
    subst this
    cases h with
    | nil => rfl
    | node hp' hs hm _ _ =>
      have := hp'.eq_nil
      subst this
      simp at hm
  | dp, l, _, .node hp0 hs0 hm0 ha0 hb0, l', T', hp, hu, h => by
    cases h with
    | nil =>
      have := hp.symm.eq_nil
      subst this
      have := hp0.eq_nil
      subst this
      simp at hm0
    | node hp1 hs1 hm1 ha1 hb1 =>
      have e := sort_one (hu.perm hp0) ((hp1.trans hp).trans hp0.symm) hs0 hs1
      subst e
      rw [hm0] at hm1
      cases hm1
      have u := hu.perm hp0
      rw [Grow.det ha0 (.refl _) (u.sub (List.take_sublist ..)) ha1, Grow.det hb0 (.refl _) (u.sub (List.drop_sublist ..)) hb1]
theorem Grow.len : ∀ {dp : Int} {l : List Pt} {T : KT}, Grow dp l T → T.pre.length = l.length ∧ T.dep ≤ l.length
  | _, _, _, .nil => ⟨rfl, by simp [KT.dep]⟩
  | _, _, _, .node (s := s) hp hs hm ha hb => by
    obtain ⟨a1, a2⟩ := Grow.len ha
    obtain ⟨b1, b2⟩ := Grow.len hb
    have hl := hp.length_eq
    have := (List.getElem?_eq_some_iff.1 hm).1
    rw [List.length_take] at a1 a2
    rw [List.length_drop] at b1 b2
    refine ⟨?_, ?_⟩
    · simp only [KT.pre, List.length_cons, List.length_append, a1, b1]; omega
    · simp only [KT.dep]; omega
section
variable {H : Heap} {R : Ending → Heap → Prop}
end
end Cr

set_option linter.unusedVariables false
set_option linter.unusedSimpArgs false
namespace Cr
open Go Sx Stb
open Go.Proofs.Try
set_option maxRecDepth 100000
def h_cpf : Hints := { loops := [(4, ⟨[0, 1, 4], [.f 5 (.int .i64)], []⟩), (9, ⟨[0, 1, 4, 6], [.f 5 (.int .i64), .f 7 (.int .i64)], []⟩)] }
def nf_cpf (a : Option Addr) (n : Nat) (c : Nat) (g : Nat) (R : Ending → Heap → Prop) (H : Heap) : Prop := Br (decide ((↑n : Int) < (2 : Int))) (R (Ending.returned (Value.slice a n c)) H) (a = a ∧ n = n ∧ c = c ∧ Value.func (Fn.func g) { toList := [] } { toList := [] } = Value.func (Fn.func g) { toList := [] } { toList := [] } ∧ (none : Option Addr) = none ∧ (0 : Nat) = (0 : Nat) ∧ (0 : Nat) = (0 : Nat) ∧ LoopP (fun (K : (Int × PUnit) × PUnit → (Nat → Option Obj) → Prop) (p : (Int × PUnit) × PUnit) (H : Nat → Option Obj) ↦ Br (decide (p.fst.fst < (↑n : Int))) (∃ (G : Nat → Option Obj), G ≤ H ∧ ((0 : Int) ≤ p.fst.fst ∧ p.fst.fst < (↑n : Int)) ∧ PtrK a fun (A : Addr) ↦ PtrK (some (Addr.add A (Int.toNat p.fst.fst * (4 : Nat)))) fun (a_1 : Addr) ↦ ∃ (n_1 : Int), ∃ (n_2 : Int), ∃ (n_3 : Int), ∃ (s : ByteArray), Heap.has G a_1 [Value.int IntKind.i64 n_1, Value.int IntKind.u32 n_2, Value.int IntKind.u32 n_3, Value.string s] ∧ ((0 : Int) ≤ IntKind.wrap IntKind.i64 (p.fst.fst - (1 : Int)) ∧ IntKind.wrap IntKind.i64 (p.fst.fst - (1 : Int)) < (↑n : Int)) ∧ PtrK a fun (A : Addr) ↦ PtrK (some (Addr.add A (Int.toNat (IntKind.wrap IntKind.i64 (p.fst.fst - (1 : Int))) * (4 : Nat)))) fun (a_2 : Addr) ↦ ∃ (n_4 : Int), ∃ (n_5 : Int), ∃ (n_6 : Int), ∃ (s_1 : ByteArray), Heap.has G a_2 [Value.int IntKind.i64 n_4, Value.int IntKind.u32 n_5, Value.int IntKind.u32 n_6, Value.string s_1] ∧ Meets prog g [Value.agg { toList := [Value.int IntKind.i64 n_1, Value.int IntKind.u32 n_2, Value.int IntKind.u32 n_3, Value.string s] }, Value.agg { toList := [Value.int IntKind.i64 n_4, Value.int IntKind.u32 n_5, Value.int IntKind.u32 n_6, Value.string s_1] }] H fun (e : Ending) (H' : Nat → Option Obj) ↦ Keep G H H H' ∧ ∃ (b : Bool), e = Ending.returned (Value.bool b) ∧ Br b (((0 : Int) ≤ p.fst.fst ∧ p.fst.fst ≤ (↑n : Int)) ∧ a = a ∧ n = n ∧ c = c ∧ Value.func (Fn.func g) { toList := [] } { toList := [] } = Value.func (Fn.func g) { toList := [] } { toList := [] } ∧ (none : Option Addr) = none ∧ (0 : Nat) = (0 : Nat) ∧ (0 : Nat) = (0 : Nat) ∧ subAddr a c (Int.toNat p.fst.fst) (4 : Nat) = subAddr a c (Int.toNat p.fst.fst) (4 : Nat) ∧ n - Int.toNat p.fst.fst = n - Int.toNat p.fst.fst ∧ c - Int.toNat p.fst.fst = c - Int.toNat p.fst.fst ∧ LoopP (fun (K : (Int × Int × PUnit) × PUnit → (Nat → Option Obj) → Prop) (p_1 : (Int × Int × PUnit) × PUnit) (H : Nat → Option Obj) ↦ Br (decide (p_1.fst.snd.fst < (↑(n - Int.toNat p.fst.fst) : Int))) (∃ (G : Nat → Option Obj), G ≤ H ∧ ((0 : Int) ≤ p_1.fst.snd.fst ∧ p_1.fst.snd.fst < (↑(n - Int.toNat p.fst.fst) : Int)) ∧ PtrK (subAddr a c (Int.toNat p.fst.fst) (4 : Nat)) fun (A : Addr) ↦ PtrK (some (Addr.add A (Int.toNat p_1.fst.snd.fst * (4 : Nat)))) fun (a_3 : Addr) ↦ ∃ (n_7 : Int), ∃ (n_8 : Int), ∃ (n_9 : Int), ∃ (s : ByteArray), Heap.has G a_3 [Value.int IntKind.i64 n_7, Value.int IntKind.u32 n_8, Value.int IntKind.u32 n_9, Value.string s] ∧ ((0 : Int) ≤ IntKind.wrap IntKind.i64 (p_1.fst.snd.fst - (1 : Int)) ∧ IntKind.wrap IntKind.i64 (p_1.fst.snd.fst - (1 : Int)) < (↑(n - Int.toNat p.fst.fst) : Int)) ∧ PtrK (subAddr a c (Int.toNat p.fst.fst) (4 : Nat)) fun (A : Addr) ↦ PtrK (some (Addr.add A (Int.toNat (IntKind.wrap IntKind.i64 (p_1.fst.snd.fst - (1 : Int))) * (4 : Nat)))) fun (a_4 : Addr) ↦ ∃ (n_10 : Int), ∃ (n_11 : Int), ∃ (n_12 : Int), ∃ (s_2 : ByteArray), Heap.has G a_4 [Value.int IntKind.i64 n_10, Value.int IntKind.u32 n_11, Value.int IntKind.u32 n_12, Value.string s_2] ∧ Meets prog g [Value.agg { toList := [Value.int IntKind.i64 n_7, Value.int IntKind.u32 n_8, Value.int IntKind.u32 n_9, Value.string s] }, Value.agg { toList := [Value.int IntKind.i64 n_10, Value.int IntKind.u32 n_11, Value.int IntKind.u32 n_12, Value.string s_2] }] H fun (e : Ending) (H' : Nat → Option Obj) ↦ Keep G H H H' ∧ ∃ (b : Bool), e = Ending.returned (Value.bool b) ∧ Br (!b) (((0 : Int) ≤ p_1.fst.snd.fst ∧ p_1.fst.snd.fst < (↑(n - Int.toNat p.fst.fst) : Int)) ∧ PtrK (subAddr a c (Int.toNat p.fst.fst) (4 : Nat)) fun (A : Addr) ↦ PtrK (some (Addr.add A (Int.toNat p_1.fst.snd.fst * (4 : Nat)))) fun (a_5 : Addr) ↦ ∃ (n_13 : Int), ∃ (n_14 : Int), ∃ (n_15 : Int), ∃ (s : ByteArray), Heap.has (delLs H' []) a_5 [Value.int IntKind.i64 n_13, Value.int IntKind.u32 n_14, Value.int IntKind.u32 n_15, Value.string s] ∧ ((0 : Int) ≤ p_1.fst.fst ∧ p_1.fst.fst < (↑n : Int)) ∧ PtrK a fun (A : Addr) ↦ PtrK (some (Addr.add A (Int.toNat p_1.fst.fst * (4 : Nat)))) fun (A : Addr) ↦ ∃ (c_1 : Array Value), ∃ (ty : Nat), (delLs H' [] A.block = some (Obj.cells c_1 ty) ∧ A.spot = none ∧ A.off + (4 : Nat) ≤ Array.size c_1) ∧ a = a ∧ n = n ∧ c = c ∧ Value.func (Fn.func g) { toList := [] } { toList := [] } = Value.func (Fn.func g) { toList := [] } { toList := [] } ∧ (none : Option Addr) = none ∧ (0 : Nat) = (0 : Nat) ∧ (0 : Nat) = (0 : Nat) ∧ subAddr a c (Int.toNat p.fst.fst) (4 : Nat) = subAddr a c (Int.toNat p.fst.fst) (4 : Nat) ∧ n - Int.toNat p.fst.fst = n - Int.toNat p.fst.fst ∧ c - Int.toNat p.fst.fst = c - Int.toNat p.fst.fst ∧ K ((IntKind.wrap IntKind.i64 (p_1.fst.fst + (1 : Int)), IntKind.wrap IntKind.i64 (p_1.fst.snd.fst + (1 : Int)), PUnit.unit), PUnit.unit) (Heap.upd (delLs H' []) A.block (Obj.cells (writeCells c_1 A.off [Value.int IntKind.i64 n_13, Value.int IntKind.u32 n_14, Value.int IntKind.u32 n_15, Value.string s]) ty))) (a = a ∧ n = n ∧ c = c ∧ Value.func (Fn.func g) { toList := [] } { toList := [] } = Value.func (Fn.func g) { toList := [] } { toList := [] } ∧ (none : Option Addr) = none ∧ (0 : Nat) = (0 : Nat) ∧ (0 : Nat) = (0 : Nat) ∧ subAddr a c (Int.toNat p.fst.fst) (4 : Nat) = subAddr a c (Int.toNat p.fst.fst) (4 : Nat) ∧ n - Int.toNat p.fst.fst = n - Int.toNat p.fst.fst ∧ c - Int.toNat p.fst.fst = c - Int.toNat p.fst.fst ∧ K ((p_1.fst.fst, IntKind.wrap IntKind.i64 (p_1.fst.snd.fst + (1 : Int)), PUnit.unit), PUnit.unit) (delLs H' []))) (((0 : Int) ≤ p_1.fst.fst ∧ p_1.fst.fst ≤ (↑n : Int)) ∧ (n - Int.toNat p_1.fst.fst = (0 : Nat) ∧ ((0 : Int) ≤ p_1.fst.fst ∧ p_1.fst.fst ≤ (↑c : Int)) ∧ R (Ending.returned (Value.slice (subAddr a c (0 : Nat) (4 : Nat)) (Int.toNat p_1.fst.fst - (0 : Nat)) (c - (0 : Nat)))) H ∨ ∃ (A : Addr), ∃ (c_1 : Array Value), ∃ (ty : Nat), subAddr a c (Int.toNat p_1.fst.fst) (4 : Nat) = some A ∧ (H A.block = some (Obj.cells c_1 ty) ∧ A.spot = none ∧ A.off + (n - Int.toNat p_1.fst.fst) * (4 : Nat) ≤ Array.size c_1) ∧ ((0 : Int) ≤ p_1.fst.fst ∧ p_1.fst.fst ≤ (↑c : Int)) ∧ R (Ending.returned (Value.slice (subAddr a c (0 : Nat) (4 : Nat)) (Int.toNat p_1.fst.fst - (0 : Nat)) (c - (0 : Nat)))) (Heap.upd H A.block (Obj.cells (writeCells c_1 A.off (List.flatten (List.replicate (n - Int.toNat p_1.fst.fst) [Value.int IntKind.i64 (0 : Int), Value.int IntKind.u32 (0 : Int), Value.int IntKind.u32 (0 : Int), Value.string { data := #[] }]))) ty))))) ((p.fst.fst, (1 : Int), PUnit.unit), PUnit.unit) (delLs H' [])) (a = a ∧ n = n ∧ c = c ∧ Value.func (Fn.func g) { toList := [] } { toList := [] } = Value.func (Fn.func g) { toList := [] } { toList := [] } ∧ (none : Option Addr) = none ∧ (0 : Nat) = (0 : Nat) ∧ (0 : Nat) = (0 : Nat) ∧ K ((IntKind.wrap IntKind.i64 (p.fst.fst + (1 : Int)), PUnit.unit), PUnit.unit) (delLs H' []))) (R (Ending.returned (Value.slice a n c)) H)) (((1 : Int), PUnit.unit), PUnit.unit) H)
theorem vc_cpf (a : Option Addr) (n : Nat) (c : Nat) (g : Nat) (R : Ending → Heap → Prop) (H : Heap) : vcFun prog h_cpf f22 [SV.c (SC.v (Value.slice a n c)), SV.c (SC.v (Value.func (Fn.func g) #[] #[]))] R H = nf_cpf a n c g R H := by kernel_rfl

end Cr

set_option linter.unusedVariables false
set_option linter.unusedSimpArgs false
namespace Cr
open Go Sx Go.Proofs Go.Sort
open Go.Proofs.Try
set_option maxRecDepth 100000
structure Rd where
  f : Int
  t : Int
  hi : Int
  lo : Int
  deriving Inhabited, DecidableEq
section
variable {H : Heap} {R : Ending → Heap → Prop}
end
end Cr

set_option linter.unusedVariables false
set_option linter.unusedSimpArgs false
namespace Cr
open Go Sx Go.Proofs
open Go.Proofs.Try
set_option maxRecDepth 100000
/-- By a road. -/
def Joi (r : List Rd) (a b : Int) : Prop := ∃ x ∈ r, (x.f = a ∧ x.t = b) ∨ (x.f = b ∧ x.t = a)
/-! ### slices.Compact of a sorted row -/
/-- What is beside a place. -/
structure Bes (m : Int) (r : List Rd) (a : Int) (B : List Int) : Prop where
  up : B.Pairwise (· < ·)
  mem : ∀ b, b ∈ B ↔ (0 ≤ b ∧ b < m) ∧ Joi r a b
section
variable {H : Heap} {R : Ending → Heap → Prop}
end
end Cr

set_option linter.unusedVariables false
set_option linter.unusedSimpArgs false
namespace Cr
open Go Sx Stb
open Go.Sort (SWO)
open Go.Proofs.Try
set_option maxRecDepth 100000
/-- A predicate of two points. -/
def Pred2 (g : Nat) (f : Pt → Pt → Bool) : Prop := ∀ (p q : Pt) (H : Heap) (R : Ending → Heap → Prop), R (.returned (.bool (f p q))) H → Meets prog g [ptV p, ptV q] H R
/-- What stays behind an element. -/
def cptG (f : Pt → Pt → Bool) (y : Pt) : List Pt → List Pt
  | [] => []
  | x :: r => if f x y then cptG f x r else x :: cptG f x r
def cpt (f : Pt → Pt → Bool) : List Pt → List Pt
  | [] => []
  | x :: r => x :: cptG f x r
theorem cptG_snoc (f : Pt → Pt → Bool) (x : Pt) : ∀ (r : List Pt) (y z : Pt), (y :: r).getLast? = some z → cptG f y (r ++ [x]) = cptG f y r ++ (if f x z then [] else [x])
  | [], y, z, h => by
    simp at h; subst h
    simp only [List.nil_append, cptG]
  | w :: r, y, z, h => by
    have ih := cptG_snoc f x r w z (by simpa using h)
    rw [List.cons_append, cptG, cptG, ih]
    split <;> simp
theorem cpt_snoc (f : Pt → Pt → Bool) (x z : Pt) {l : List Pt} (h : l.getLast? = some z) : cpt f (l ++ [x]) = cpt f l ++ (if f x z then [] else [x]) := by
  cases l with
  | nil => cases h
  | cons y r =>
    rw [List.cons_append, cpt, cpt, cptG_snoc f x r y z h]
    simp
theorem take_last {l : List Pt} {t : Nat} {y : Pt} (h0 : 0 < t) (h : l[t - 1]? = some y) : (l.take t).getLast? = some y := by
  have hl := (List.getElem?_eq_some_iff.1 h).1
  rw [List.getLast?_eq_getElem?, List.length_take, List.getElem?_take_of_lt (by omega), show min t l.length - 1 = t - 1 by omega]
  exact h
section
variable {H : Heap} {R : Ending → Heap → Prop}
theorem s_cpf {g : Nat} {f : Pt → Pt → Bool} (hf : Pred2 g f) {v : Value} {ty : Nat} {l : List Pt} (h : RowAt H v ty 4 (pts l)) (hl : l.length ≤ 1000000)
    (k : ∀ v' H', RowAt H' v' ty 4 (pts (cpt f l)) → blockOf v' = blockOf v → Mod v H H' → R (.returned v') H') : Meets prog 22 [v, .func (.func g) #[] #[]] H R := by
  obtain ⟨a, c, rfl⟩ := row_val h
  have hpl : (pts l).length = l.length := by simp [pts]
  rw [hpl] at h k ⊢
  refine spec_of func22 (by kernel_rfl) (fun t h => by cases h) ?_ (vc_cpf a l.length c g R H) ?_
  · simp [argsR, SV.rep, SC.rep, Sx.one]
  unfold nf_cpf
  simp only [true_and]
  refine br (fun q => ?_) fun q => ?_
  · have : cpt f l = l := by
      match l, q with
      | [], _ => rfl
      | [x], _ => rfl
      | x :: y :: r, q => simp at q; omega
    rw [this] at k
    exact k _ _ h rfl (Mod.refl _ _)
  have h2 : 2 ≤ l.length := by simp at q; omega
  obtain ⟨A, rfl⟩ : ∃ A, a = some A := by
    obtain ⟨A, e, _⟩ := pr_get (row_slice h) (i := 0) (p := l[0]) (List.getElem?_eq_getElem (by omega))
    exact ⟨A, e⟩
  have hsp : A.spot = none := by
    obtain ⟨A', e, hs, _⟩ := slice_get (row_slice h) (i := 0) (e := ptC l[0]) (by show (l.map ptC)[0]? = _; rw [List.getElem?_map, List.getElem?_eq_getElem (by omega)]; rfl)
    cases e; exact hs
  have hcap := (row_len h).2
  refine ⟨fun p H' => ∃ t : Nat, p.1.1 = (t : Int) ∧ 1 ≤ t ∧ t ≤ l.length ∧ cpt f (l.take t) = l.take t ∧ H' = H, fun p _ => (l.length - p.1.1).toNat, ⟨1, rfl, by omega, by omega, ?_, rfl⟩, ?_⟩
  · match l, h2 with
    | x :: r, _ => simp [cpt, cptG]
  rintro ⟨⟨i, _⟩, _⟩ H1 ⟨t, hi, ht1, ht, hcp, rfl⟩
  simp only at hi ⊢
  subst hi
  refine br (fun q1 => ?_) fun q1 => ?_
  rotate_left
  · simp only [decide_eq_false_iff_not] at q1
    rw [List.take_of_length_le (by omega)] at hcp
    rw [hcp] at k
    exact k _ _ h rfl (Mod.refl _ _)
  simp only [decide_eq_true_eq] at q1
  obtain ⟨x, hd, htk, hx⟩ := drop_cons (l := l) (k := t) (by omega)
  obtain ⟨y, _, _, hy⟩ := drop_cons (l := l) (k := t - 1) (by omega)
  obtain ⟨A1, e, g1⟩ := pr_get (row_slice h) (i := t) hx
  cases e
  obtain ⟨A2, e, g2⟩ := pr_get (row_slice h) (i := t - 1) hy
  cases e
  rw [wi64 (k := (t : Int) - 1) (by omega), wi64 (k := (t : Int) + 1) (by omega), show ((t : Int) - 1).toNat = t - 1 by omega]
  refine ⟨H1, fun _ _ e => e, ⟨by omega, by omega⟩, ptr rfl (ptr rfl ⟨_, _, _, _, g1, ⟨by omega, by omega⟩, ptr rfl (ptr rfl ⟨_, _, _, _, g2, hf x y _ _ ⟨keep_same _ _ _, _, rfl, ?_⟩⟩)⟩)⟩
  have hsn := cpt_snoc f x y (l := l.take t) (take_last (by omega) hy)
  rw [← htk, hcp] at hsn
  simp only [delLs_nil]
  refine br (fun q2 => ?_) fun q2 => ?_
  rotate_left
  · rw [q2] at hsn
    simp only [Bool.false_eq_true, if_false] at hsn
    exact ⟨⟨t + 1, by simp, by omega, by omega, by rw [hsn, htk], by trivial⟩, by simp; omega⟩
  rw [Int.toNat_natCast]
  have hsub : ∀ j : Nat, PtrK (subAddr (some A) c t 4) = PtrK (some ⟨A.block, A.off + t * 4, none⟩) := fun j => by
    have : subAddr (some A) c t 4 = some ⟨A.block, A.off + t * 4, none⟩ := by
      unfold subAddr
      rw [if_neg (by omega)]
      simp [add_spot hsp]
    rw [this]
  rw [hsub 0]
  have hadr : ∀ j : Nat, (⟨A.block, A.off + t * 4, none⟩ : Addr).add (j * 4) = A.add ((t + j) * 4) := fun j => by
    rw [add_spot rfl, add_spot hsp]; simp only [Addr.mk.injEq, and_true, true_and]; omega
  -- t: the first place that is told twice
  refine ⟨by omega, fun p H' => ∃ (s : Nat) (F M : List Pt) (z : Pt), p.1.2.1 = (s : Int) ∧ 1 ≤ s ∧ t + s ≤ l.length ∧ F = cpt f (l.take (t + s)) ∧ p.1.1 = (F.length : Int) ∧ l[t + s - 1]? = some z ∧ F.length + M.length + 1 = t + s ∧ RowAt H' (.slice (some A) l.length c) ty 4 (pts (F ++ M ++ [z] ++ l.drop (t + s))) ∧ Mod (.slice (some A) l.length c) H1 H', fun p _ => (l.length - p.1.2.1).toNat, ⟨1, l.take t, [], x, rfl, by omega, by omega, ?_, ?_, by rw [Nat.add_sub_cancel]; exact hx, by simp; omega, ?_, Mod.refl _ _⟩, ?_⟩
  · rw [hsn, q2]; simp
  · rw [List.length_take]; simp; omega
  · have : l.take t ++ [] ++ [x] ++ l.drop (t + 1) = l := by
      rw [List.append_nil, ← htk, List.take_append_drop]
    rw [this]; exact h
  rintro ⟨⟨w, i, _⟩, _⟩ H2 ⟨s, F, M, z, hi, hs1, hs, hF, hw, hz, hlen, hrow, hmod⟩
  simp only at hi hw ⊢
  subst hi; subst hw
  refine br (fun q3 => ?_) fun q3 => ?_
  · simp only [decide_eq_true_eq] at q3
    obtain ⟨u, hd2, htk2, hu⟩ := drop_cons (l := l) (k := t + s) (by omega)
    have gu : (F ++ M ++ [z] ++ l.drop (t + s))[t + s]? = some u := by
      rw [List.getElem?_append_right (by simp; omega)]
      simp only [List.length_append, List.length_singleton]
      rw [show t + s - (F.length + M.length + 1) = 0 by omega, hd2]; rfl
    have gz : (F ++ M ++ [z] ++ l.drop (t + s))[t + s - 1]? = some z := by
      rw [List.getElem?_append_left (by simp; omega), List.getElem?_append_right (by simp; omega)]
      simp only [List.length_append]
      rw [show t + s - 1 - (F.length + M.length) = 0 by omega]; rfl
    obtain ⟨A3, e, g3⟩ := pr_get (row_slice hrow) (i := t + s) gu
    cases e
    obtain ⟨A4, e, g4⟩ := pr_get (row_slice hrow) (i := t + s - 1) gz
    cases e
    have hsn2 := cpt_snoc f u z (l := l.take (t + s)) (take_last (by omega) hz)
    rw [← htk2, ← hF] at hsn2
    rw [wi64 (k := (s : Int) - 1) (by omega), wi64 (k := (s : Int) + 1) (by omega), show ((s : Int) - 1).toNat = s - 1 by omega, Int.toNat_natCast]
    have b1 : (0 : Int) ≤ (s : Int) ∧ (s : Int) < ((l.length - t : Nat) : Int) := ⟨by omega, by omega⟩
    have b2 : (0 : Int) ≤ (s : Int) - 1 ∧ (s : Int) - 1 < ((l.length - t : Nat) : Int) := ⟨by omega, by omega⟩
    have e3 : H2.has ((⟨A.block, A.off + t * 4, none⟩ : Addr).add (s * 4)) (ptC u) := by rw [hadr]; exact g3
    have e4 : H2.has ((⟨A.block, A.off + t * 4, none⟩ : Addr).add ((s - 1) * 4)) (ptC z) := by rw [hadr, show t + (s - 1) = t + s - 1 by omega]; exact g4
    refine ⟨H2, fun _ _ e => e, b1, ptr rfl (ptr rfl ⟨_, _, _, _, e3, b2, ptr rfl (ptr rfl ⟨_, _, _, _, e4, hf u z _ _ ⟨keep_same _ _ _, _, rfl, ?_⟩⟩)⟩)⟩
    refine br (fun q4 => ?_) fun q4 => ?_
    · have q4 : f u z = false := by simpa using q4
      rw [q4] at hsn2
      simp only [Bool.false_eq_true, if_false] at hsn2
      have hFl : F.length < l.length := by omega
      obtain ⟨c1, m1, r1, d1⟩ := pr_put hrow (i := F.length) hFl u
      have hset : ∃ M', M'.length = M.length ∧ (F ++ M ++ [z] ++ l.drop (t + s)).set F.length u = (F ++ [u]) ++ M' ++ [u] ++ l.drop (t + s + 1) := by
        rw [hd2]
        cases M with
        | nil => exact ⟨[], rfl, by simp⟩
        | cons m M' => exact ⟨M' ++ [z], by simp, by simp⟩
      obtain ⟨M', hM', hset⟩ := hset
      rw [hset] at r1
      rw [Int.toNat_natCast, wi64 (k := (F.length : Int) + 1) (by omega)]
      refine ⟨b1, ptr rfl (ptr rfl ⟨_, _, _, _, e3, ⟨by omega, by omega⟩, ptr rfl (ptr rfl ⟨_, _, m1, ⟨s + 1, F ++ [u], M', u, by simp, by omega, by omega, ?_, by simp, ?_, by simp; omega, ?_, hmod.trans d1⟩, by simp; omega⟩)⟩)⟩
      · rw [← hsn2]; rfl
      · rw [show t + (s + 1) - 1 = t + s by omega]; exact hu
      · exact r1
    · have q4 : f u z = true := by simpa using q4
      rw [q4] at hsn2
      simp only [if_true, List.append_nil] at hsn2
      refine ⟨⟨s + 1, F, M ++ [z], u, by simp, by omega, by omega, ?_, rfl, ?_, by simp; omega, ?_, hmod⟩, by simp; omega⟩
      · rw [← hsn2]; rfl
      · rw [show t + (s + 1) - 1 = t + s by omega]; exact hu
      · rw [hd2] at hrow
        have : F ++ (M ++ [z]) ++ [u] ++ l.drop (t + (s + 1)) = F ++ M ++ [z] ++ u :: l.drop (t + s + 1) := by simp [Nat.add_assoc]
        rw [this]; exact hrow
  · simp only [decide_eq_false_iff_not] at q3
    have hts : t + s = l.length := by omega
    rw [hts, List.take_length] at hF
    rw [hts, List.drop_length, List.append_nil, List.append_assoc] at hrow
    rw [← hF] at k
    have hz2 : pts (F ++ (M ++ [z])) = pts F ++ pts (M ++ [z]) := by simp [pts]
    rw [hz2] at hrow
    obtain ⟨cl, ⟨e1, e2, e3⟩, r1, d1⟩ := row_fill hrow (ws := List.replicate (l.length - F.length) [vi 0, .int .u32 0, .int .u32 0, .string { data := #[] }]) (by simp [pts]; omega) (by intro e he; rw [List.eq_of_mem_replicate he]; rfl) (by intro e he x hx; rw [List.eq_of_mem_replicate he] at hx; simp at hx; rcases hx with rfl | rfl | rfl | rfl <;> rfl)
    have hfl : (pts F).length = F.length := by simp [pts]
    have hsub2 : subAddr (some A) c F.length 4 = some ⟨A.block, A.off + F.length * 4, none⟩ := by
      unfold subAddr
      rw [if_neg (by omega)]
      simp [add_spot e2]
    have hsub0 : subAddr (some A) c 0 4 = some A := by
      unfold subAddr
      split
      · rfl
      · simp
    rw [Int.toNat_natCast, hsub0, Nat.sub_zero, Nat.sub_zero]
    rw [List.length_replicate] at e3
    refine ⟨⟨by omega, by omega⟩, .inr ⟨_, cl, ty, hsub2, ⟨e1, rfl, ?_⟩, ⟨by omega, by omega⟩, ?_⟩⟩
    · rw [hfl] at e3; exact e3
    · rw [hfl] at r1 d1
      have := row_prefix r1
      rw [hfl] at this
      exact k _ _ this rfl (hmod.trans d1)
end
end Cr

set_option linter.unusedVariables false
set_option linter.unusedSimpArgs false
namespace Cr
open Go Sx Stb
open Go.Sort (SWO)
open Go.Proofs.Try
set_option maxRecDepth 100000
/-- The point of an Id. -/
def look (L : List Pt) (id : Int) : Option Pt := L.find? fun p => p.id == id
abbrev eqId (p q : Pt) : Bool := p.id == q.id
/-- The first of each Id, by Id. -/
def fixP (l : List Pt) : List Pt := cpt eqId (sortP l)
theorem cptG_len (f : Pt → Pt → Bool) : ∀ (r : List Pt) (y : Pt), (cptG f y r).length ≤ r.length
  | [], _ => by simp [cptG]
  | x :: r, y => by
    have := cptG_len f r x
    unfold cptG
    split <;> simp <;> omega
theorem fixP_len (l : List Pt) : (fixP l).length ≤ l.length := by
  rw [← sortP_len l]
  unfold fixP
  cases sortP l with
  | nil => simp [cpt]
  | cons y r => have := cptG_len eqId r y; simp [cpt]; omega
end Cr

set_option linter.unusedVariables false
set_option linter.unusedSimpArgs false
namespace Cr
open Go Sx Go.Proofs Go.Sort
open Go.Proofs.Try
set_option maxRecDepth 100000
section
variable {H : Heap} {R : Ending → Heap → Prop}
theorem pred_new : Pred2 24 eqId := fun p q H R k => by
  refine spec_of func24 (by kernel_rfl) (fun t h => by cases h) ?_ (vc_knew1 p.id p.x p.y p.data q.id q.x q.y q.data R H) ?_
  · simp [argsR, SV.rep, SC.rep, Sx.one, SegsRep]
  unfold nf_knew1
  exact k
theorem s_knew {v : Value} {l : List Pt} (h : SliceAt H v 4 (pts l)) (hl : l.length ≤ 1000) (k : ∀ T t H', Grow 0 (fixP l) T → KAt (offH H H') T t → H ≤ H' → R (.returned (.pointer t)) H') : Meets prog 9 [v] H R := by
  obtain ⟨a, n, c, e, hn⟩ := h
  subst e
  have h : SliceAt H (.slice a n c) 4 (pts l) := ⟨a, n, c, rfl, hn⟩
  refine spec_of func9 (by kernel_rfl) (fun t h => by cases h) ?_ (vc_knew a n c R H) ?_
  · simp [argsR, SV.rep, SC.rep, Sx.one]
  unfold nf_knew
  refine s_srt h (by omega) fun v1 H1 hle hf hrow => ?_
  obtain ⟨a1, c1, rfl⟩ := row_val hrow
  refine ⟨a1, _, c1, rfl, s_cpf pred_new hrow (by rw [sortP_len]; omega) fun v2 H2 hr2 hb2 hm2 => ?_⟩
  obtain ⟨a2, c2, rfl⟩ := row_val hr2
  have hle2 : H ≤ H2 := fun b o e => by
    rw [hm2 b (fun e2 => by rw [hf b e2] at e; cases e)]
    exact hle b o e
  have hfl := fixP_len l
  refine ⟨a2, _, c2, rfl, s_kgrow (fixP l).length (Nat.le_refl _) (row_slice hr2) (by omega) (by omega) (by omega) fun T t H' g ka hle3 => ⟨t, rfl, k T t H' g (kAt_le (off_mono hle2 fun _ _ e => e) ka) (heap_trans hle2 hle3)⟩⟩
theorem s_alive44 (k : ∀ H', H ≤ H' → R (.returned (.bool true)) H') : Meets prog 6 [] H R := by
  refine spec_of func6 (by kernel_rfl) (fun t h => by cases h) ?_ (vc_kal44 R H) ?_
  · simp [argsR]
  unfold nf_kal44
  intro v H1 hle1 hf1 hb1 hrow1
  have hrow : RowAt H1 v 44 4 (pts [⟨5, 0, 0, ⟨#[]⟩⟩]) := hrow1
  refine s_knew (row_slice hrow) (by simp) fun T t H2 g ka hle2 => ⟨t, rfl, _, row_le hrow (fun b o _ => hle2 b o), ?_⟩
  have gT : T = .node ⟨5, 0, 0, ⟨#[]⟩⟩ .nil .nil := by
    refine (Grow.det (l := [⟨5, 0, 0, ⟨#[]⟩⟩]) (T := .node ⟨5, 0, 0, ⟨#[]⟩⟩ .nil .nil) (.node (s := [⟨5, 0, 0, ⟨#[]⟩⟩]) (.refl _) (List.pairwise_singleton ..) rfl .nil .nil) ?_ (by simp [UId]) g)
    have : fixP [⟨5, 0, 0, ⟨#[]⟩⟩] = [⟨5, 0, 0, ⟨#[]⟩⟩] := by decide
    rw [this]
  subst gT
  have ka' := kAt_le (off_del (o := blockOf v) fun b hb => rowat_known hrow hb) ka
  refine s_kdep _ ka' (by simp [KT.dep]) ⟨_, rfl, br (fun _ => ?_) fun q => by simp [KT.dep] at q⟩
  refine s_kord _ ka' (by simp [KT.pre]) fun v3 H3 hle3 hf3 hr3 => ?_
  obtain ⟨a3, c3, rfl⟩ := row_val hr3
  refine ⟨a3, _, c3, rfl, fun v4 H4 hle4 hf4 hb4 hr4 => ?_⟩
  have hr4 : RowAt H4 v4 3 1 (cells [5]) := hr4
  refine s_ints (slice_le (row_slice hr3) hle4) (row_slice hr4) (by simp [KT.pre]) ⟨_, rfl, _, hr4, ?_⟩
  rw [lend_off hle4 hf4 hb4]
  have e : decide ((KT.node ⟨5, 0, 0, ⟨#[]⟩⟩ .nil .nil).pre = [5]) = true := by simp [KT.pre]
  rw [e]
  exact k _ (heap_trans (le_delO (heap_trans hle1 hle2) hf1) hle3)
end
end Cr

set_option linter.unusedVariables false
set_option linter.unusedSimpArgs false
namespace Cr
open Go Sx Stb
open Go.Proofs.Try
set_option maxRecDepth 100000
def h_lkn : Hints := { pub := [10], loops := [(4, ⟨[0, 1, 2, 6], [.f 7 (.int .i64)], [.keep 2, .keep 12]⟩)] }
def h_near : Hints := { pub := [19], loops := [(5, ⟨[1, 2, 3, 9, 26, 27], [.row 10 44 4, .f 28 (.int .i64)], []⟩)] }
def nf_lkn (x0 : Int) (y0 : Int) (x1 : Int) (y1 : Int) (k : Int) (R : Ending → Heap → Prop) (H : Heap) : Prop := ∀ (b : Nat), H b = none → Meets prog (9 : Nat) [Value.slice none (0 : Nat) (0 : Nat)] (Heap.upd H b (Obj.cells { toList := [Value.bool false, Value.int IntKind.i64 (0 : Int), Value.int IntKind.u32 (0 : Int), Value.int IntKind.u32 (0 : Int), Value.string { data := #[] }, Value.pointer none, Value.pointer none] } (46 : Nat))) fun (e : Ending) (H' : Nat → Option Obj) ↦ ∃ (a : Option Addr), e = Ending.returned (Value.pointer a) ∧ x0 = x0 ∧ y0 = y0 ∧ x1 = x1 ∧ y1 = y1 ∧ k = k ∧ (0 : Nat) = (0 : Nat) ∧ x0 = x0 ∧ y0 = y0 ∧ x1 = x1 ∧ y1 = y1 ∧ [[Value.pointer none], [Value.pointer (some { block := b, off := (0 : Nat) })], [Value.pointer a]] = [[Value.pointer none], [Value.pointer (some { block := b, off := (0 : Nat) })], [Value.pointer a]] ∧ LoopP (fun (K : (Int × PUnit) × PUnit × PUnit × PUnit → (Nat → Option Obj) → Prop) (p : (Int × PUnit) × PUnit × PUnit × PUnit) (H : Nat → Option Obj) ↦ Br (decide (p.fst.fst < (↑(List.length [[Value.pointer none], [Value.pointer (some { block := b, off := (0 : Nat) })], [Value.pointer a]]) : Int))) (∃ (G : Nat → Option Obj), G ≤ H ∧ ((0 : Int) ≤ p.fst.fst ∧ p.fst.fst < (↑(List.length [[Value.pointer none], [Value.pointer (some { block := b, off := (0 : Nat) })], [Value.pointer a]]) : Int)) ∧ ∃ (a_1 : Option Addr), (∃ (e : List Value), List.get?Internal [[Value.pointer none], [Value.pointer (some { block := b, off := (0 : Nat) })], [Value.pointer a]] (Int.toNat p.fst.fst) = some e ∧ List.take (1 : Nat) (List.drop (0 : Nat) e) = [Value.pointer a_1]) ∧ ((0 : Int) ≤ p.fst.fst ∧ p.fst.fst < (↑(List.length [[Value.pointer none], [Value.pointer (some { block := b, off := (0 : Nat) })], [Value.pointer a]]) : Int)) ∧ ∃ (a_2 : Option Addr), (∃ (e : List Value), List.get?Internal [[Value.pointer none], [Value.pointer (some { block := b, off := (0 : Nat) })], [Value.pointer a]] (Int.toNat p.fst.fst) = some e ∧ List.take (1 : Nat) (List.drop (0 : Nat) e) = [Value.pointer a_2]) ∧ ((0 : Int) ≤ p.fst.fst ∧ p.fst.fst < (↑(List.length [[Value.pointer none], [Value.pointer (some { block := b, off := (0 : Nat) })], [Value.pointer a]]) : Int)) ∧ ∃ (a_3 : Option Addr), (∃ (e : List Value), List.get?Internal [[Value.pointer none], [Value.pointer (some { block := b, off := (0 : Nat) })], [Value.pointer a]] (Int.toNat p.fst.fst) = some e ∧ List.take (1 : Nat) (List.drop (0 : Nat) e) = [Value.pointer a_3]) ∧ ((0 : Int) ≤ p.fst.fst ∧ p.fst.fst < (↑(List.length [[Value.pointer none], [Value.pointer (some { block := b, off := (0 : Nat) })], [Value.pointer a]]) : Int)) ∧ ∃ (a_4 : Option Addr), (∃ (e : List Value), List.get?Internal [[Value.pointer none], [Value.pointer (some { block := b, off := (0 : Nat) })], [Value.pointer a]] (Int.toNat p.fst.fst) = some e ∧ List.take (1 : Nat) (List.drop (0 : Nat) e) = [Value.pointer a_4]) ∧ Meets prog (14 : Nat) [Value.pointer a_1, Value.agg { toList := [Value.int IntKind.u32 x0, Value.int IntKind.u32 y0, Value.int IntKind.u32 x1, Value.int IntKind.u32 y1] }] H fun (e : Ending) (H' : Nat → Option Obj) ↦ Keep G H H H' ∧ ∃ (a_5 : Option Addr), ∃ (n : Nat), ∃ (c : Nat), e = Ending.returned (Value.slice a_5 n c) ∧ Meets prog (16 : Nat) [Value.pointer a_2, Value.int IntKind.u32 (1 : Int), Value.int IntKind.u32 (2 : Int), Value.int IntKind.i64 k] (delLs H' []) fun (e : Ending) (H'_1 : Nat → Option Obj) ↦ Keep G (delLs H' []) (delLs H' []) H'_1 ∧ ∃ (a_6 : Option Addr), ∃ (n_1 : Nat), ∃ (c : Nat), e = Ending.returned (Value.slice a_6 n_1 c) ∧ Meets prog (11 : Nat) [Value.pointer a_3] (delLs H'_1 []) fun (e : Ending) (H' : Nat → Option Obj) ↦ Keep G (delLs H'_1 []) (delLs H'_1 []) H' ∧ ∃ (a_7 : Option Addr), ∃ (n_2 : Nat), ∃ (c : Nat), e = Ending.returned (Value.slice a_7 n_2 c) ∧ Meets prog (12 : Nat) [Value.pointer a_4] (delLs H' []) fun (e : Ending) (H'_2 : Nat → Option Obj) ↦ Keep G (delLs H' []) (delLs H' []) H'_2 ∧ ∃ (n_3 : Int), e = Ending.returned (Value.int IntKind.i64 n_3) ∧ Br (IntKind.wrap IntKind.i64 (IntKind.wrap IntKind.i64 (IntKind.wrap IntKind.i64 ((↑n : Int) + (↑n_1 : Int)) + (↑n_2 : Int)) + n_3) != (0 : Int)) (R (Ending.returned (Value.bool false)) (delLs H'_2 [])) (x0 = x0 ∧ y0 = y0 ∧ x1 = x1 ∧ y1 = y1 ∧ k = k ∧ (0 : Nat) = (0 : Nat) ∧ x0 = x0 ∧ y0 = y0 ∧ x1 = x1 ∧ y1 = y1 ∧ [[Value.pointer none], [Value.pointer (some { block := b, off := (0 : Nat) })], [Value.pointer a]] = [[Value.pointer none], [Value.pointer (some { block := b, off := (0 : Nat) })], [Value.pointer a]] ∧ K ((IntKind.wrap IntKind.i64 (p.fst.fst + (1 : Int)), PUnit.unit), PUnit.unit, PUnit.unit, PUnit.unit) (delLs H'_2 []))) (Meets prog (6 : Nat) [] H fun (e : Ending) (H' : Nat → Option Obj) ↦ ∃ (b : Bool), e = Ending.returned (Value.bool b) ∧ R (Ending.returned (Value.bool b)) H')) (((0 : Int), PUnit.unit), PUnit.unit, PUnit.unit, PUnit.unit) H'
theorem vc_lkn (x0 : Int) (y0 : Int) (x1 : Int) (y1 : Int) (k : Int) (R : Ending → Heap → Prop) (H : Heap) : vcFun prog h_lkn f5 [SV.agg [Seg.c (SC.v (Value.int IntKind.u32 x0)), Seg.c (SC.v (Value.int IntKind.u32 y0)), Seg.c (SC.v (Value.int IntKind.u32 x1)), Seg.c (SC.v (Value.int IntKind.u32 y1))], SV.c (SC.v (Value.int IntKind.i64 k))] R H = nf_lkn x0 y0 x1 y1 k R H := by kernel_rfl

def nf_knear (t : Option Addr) (x : Int) (y : Int) (k : Int) (R : Ending → Heap → Prop) (H : Heap) : Prop := ∀ (b : Nat), H b = none → Meets prog (29 : Nat) [Value.pointer (some { block := b, off := (0 : Nat) }), Value.pointer t, Value.int IntKind.i64 (0 : Int)] (Heap.upd H b (Obj.cells { toList := [Value.int IntKind.u32 x, Value.int IntKind.u32 y, Value.int IntKind.i64 (minI (maxI k (0 : Int)) (64 : Int)), Value.slice none (0 : Nat) (0 : Nat)] } (60 : Nat))) fun (e : Ending) (H' : Nat → Option Obj) ↦ e = Ending.returned (Value.tuple { toList := [] }) ∧ PtrK (some { block := b, off := (0 : Nat) }) fun (a : Addr) ↦ PtrK (some a) fun (a : Addr) ↦ PtrK (some (Addr.add a (3 : Nat))) fun (a : Addr) ↦ ∃ (a_1 : Option Addr), ∃ (n : Nat), ∃ (c : Nat), Heap.has H' a [Value.slice a_1 n c] ∧ x = x ∧ y = y ∧ k = k ∧ (some { block := b, off := (0 : Nat) } : Option Addr) = some { block := b, off := (0 : Nat) } ∧ a_1 = a_1 ∧ n = n ∧ c = c ∧ (↑n : Int) = (↑n : Int) ∧ LoopP (fun (K : (List (List Value) × Int × PUnit) × PUnit → (Nat → Option Obj) → Prop) (p : (List (List Value) × Int × PUnit) × PUnit) (H : Nat → Option Obj) ↦ Br (decide (p.fst.snd.fst < (↑n : Int))) (((0 : Int) ≤ p.fst.snd.fst ∧ p.fst.snd.fst < (↑n : Int)) ∧ PtrK a_1 fun (A : Addr) ↦ PtrK (some (Addr.add A (Int.toNat p.fst.snd.fst * (6 : Nat)))) fun (a : Addr) ↦ ∃ (n_1 : Int), ∃ (n_2 : Int), ∃ (n_3 : Int), ∃ (s : ByteArray), ∃ (n_4 : Int), ∃ (n_5 : Int), Heap.has H a [Value.int IntKind.i64 n_1, Value.int IntKind.u32 n_2, Value.int IntKind.u32 n_3, Value.string s, Value.int IntKind.u64 n_4, Value.int IntKind.u64 n_5] ∧ List.length (List.append p.fst.fst [[Value.int IntKind.i64 n_1, Value.int IntKind.u32 n_2, Value.int IntKind.u32 n_3, Value.string s]]) * (32 : Nat) ≤ (140737488355328 : Nat) ∧ x = x ∧ y = y ∧ k = k ∧ (some { block := b, off := (0 : Nat) } : Option Addr) = some { block := b, off := (0 : Nat) } ∧ a_1 = a_1 ∧ n = n ∧ c = c ∧ (↑n : Int) = (↑n : Int) ∧ K ((List.append p.fst.fst [[Value.int IntKind.i64 n_1, Value.int IntKind.u32 n_2, Value.int IntKind.u32 n_3, Value.string s]], IntKind.wrap IntKind.i64 (p.fst.snd.fst + (1 : Int)), PUnit.unit), PUnit.unit) H) (∀ (v : Value) (H' : Nat → Option Obj), H ≤ H' → (∀ (b : Nat), blockOf v = some b → H b = none) → (∀ (b : Nat) (o : Obj), H' b = some o → H b = some o ∨ blockOf v = some b) → RowAt H' v (44 : Nat) (4 : Nat) p.fst.fst → R (Ending.returned v) H')) (([], (0 : Int), PUnit.unit), PUnit.unit) H'
theorem vc_knear (t : Option Addr) (x : Int) (y : Int) (k : Int) (R : Ending → Heap → Prop) (H : Heap) : vcFun prog h_near f16 [SV.c (SC.v (Value.pointer t)), SV.c (SC.v (Value.int IntKind.u32 x)), SV.c (SC.v (Value.int IntKind.u32 y)), SV.c (SC.v (Value.int IntKind.i64 k))] R H = nf_knear t x y k R H := by kernel_rfl

end Cr

set_option linter.unusedVariables false
set_option linter.unusedSimpArgs false
namespace Cr
open Go Sx Go.Proofs Go.Sort
open Go.Proofs.Try
set_option maxRecDepth 100000
/-- A tree that nobody made. -/
def NoT (H : Heap) : Option Addr → Prop
  | none => True
  | some A => H.has A [.bool false]
theorem noT_le {H H' : Heap} {t : Option Addr} (h : NoT H t) (hle : H ≤ H') : NoT H' t := by
  cases t with
  | none => trivial
  | some A => exact has_le h hle
section
variable {H : Heap} {R : Ending → Heap → Prop}
theorem n_kis {t : Option Addr} (h : NoT H t) (k : R (.returned (.bool false)) H) : Meets prog 25 [.pointer t] H R := by
  refine spec_of func25 (by kernel_rfl) (fun t h => by cases h) ?_ (vc_kis t R H) ?_
  · simp [argsR, SV.rep, SC.rep, Sx.one]
  unfold nf_kis
  cases t with
  | none => exact br (fun q => by simp at q) fun _ => k
  | some A => exact br (fun _ => ptr rfl (ptr rfl (ptr rfl ⟨false, h, k⟩))) fun q => by simp at q
theorem n_kdep {t : Option Addr} (h : NoT H t) (k : R (.returned (vi 0)) H) : Meets prog 12 [.pointer t] H R := by
  refine spec_of func12 (by kernel_rfl) (fun t h => by cases h) ?_ (vc_kdep t R H) ?_
  · simp [argsR, SV.rep, SC.rep, Sx.one]
  unfold nf_kdep
  exact n_kis h ⟨_, rfl, br (fun _ => k) fun q => by simp at q⟩
theorem n_kord {t : Option Addr} (h : NoT H t) (k : R (.returned (.slice none 0 0)) H) : Meets prog 11 [.pointer t] H R := by
  refine spec_of func11 (by kernel_rfl) (fun t h => by cases h) ?_ (vc_kord t R H) ?_
  · simp [argsR, SV.rep, SC.rep, Sx.one]
  unfold nf_kord
  exact n_kis h ⟨_, rfl, br (fun _ => k) fun q => by simp at q⟩
theorem n_kgat {t : Option Addr} {x0 y0 x1 y1 dp : Int} (h : NoT H t) (k : R (.returned (.slice none 0 0)) H) : Meets prog 27 [.pointer t, .agg #[.int .u32 x0, .int .u32 y0, .int .u32 x1, .int .u32 y1], vi dp] H R := by
  refine spec_of func27 (by kernel_rfl) (fun t h => by cases h) ?_ (vc_kgat t x0 y0 x1 y1 dp R H) ?_
  · simp [argsR, SV.rep, SC.rep, Sx.one, SegsRep]
  unfold nf_kgat
  exact n_kis h ⟨_, rfl, br (fun _ => k) fun q => by simp at q⟩
theorem n_kran {t : Option Addr} {x0 y0 x1 y1 : Int} (h : NoT H t) (k : ∀ a c H', H ≤ H' → R (.returned (.slice a 0 c)) H') : Meets prog 14 [.pointer t, .agg #[.int .u32 x0, .int .u32 y0, .int .u32 x1, .int .u32 y1]] H R := by
  refine spec_of func14 (by kernel_rfl) (fun t h => by cases h) ?_ (vc_kran t x0 y0 x1 y1 R H) ?_
  · simp [argsR, SV.rep, SC.rep, Sx.one, SegsRep]
  unfold nf_kran
  refine n_kgat h ⟨none, 0, 0, rfl, s_srt (l := []) (slice_nil H) (by simp) fun v H1 hle hf hr => ?_⟩
  obtain ⟨a, c, rfl⟩ := row_val hr
  exact ⟨a, _, c, rfl, k _ _ _ hle⟩
theorem n_kvis {f t : Option Addr} {dp : Int} (h : NoT H t) (k : R (.returned (.tuple #[])) H) : Meets prog 29 [.pointer f, .pointer t, vi dp] H R := by
  refine spec_of func29 (by kernel_rfl) (fun t h => by cases h) ?_ (vc_kvis f t dp R H) ?_
  · simp [argsR, SV.rep, SC.rep, Sx.one]
  unfold nf_kvis
  exact n_kis h ⟨_, rfl, br (fun _ => k) fun q => by simp at q⟩
theorem n_knear {t : Option Addr} {x y k0 : Int} (h : NoT H t) (k2 : ∀ a c H', H ≤ H' → R (.returned (.slice a 0 c)) H') : Meets prog 16 [.pointer t, .int .u32 x, .int .u32 y, vi k0] H R := by
  refine spec_of func16 (by kernel_rfl) (fun t h => by cases h) ?_ (vc_knear t x y k0 R H) ?_
  · simp [argsR, SV.rep, SC.rep, Sx.one]
  unfold nf_knear
  intro b hb
  refine n_kvis (noT_le h (upd_le hb)) ⟨rfl, ptr rfl (ptr rfl (ptr rfl ⟨none, 0, 0, has_at (k := 3) new_has rfl, ?_⟩))⟩
  simp only [true_and]
  refine ⟨fun p H' => p.1.1 = [] ∧ p.1.2.1 = 0 ∧ H ≤ H', fun _ _ => 0, ⟨rfl, rfl, upd_le hb⟩, ?_⟩
  rintro ⟨⟨rows, i, _⟩, _⟩ H1 ⟨h1, h2, hle⟩
  simp only at h1 h2 ⊢
  subst h1; subst h2
  refine br (fun q => by simp at q) fun _ v H2 hle2 hf2 hb2 hr2 => ?_
  rcases hr2 with ⟨rfl, _⟩ | ⟨b2, o, cap, cs, rfl, _⟩
  · exact k2 _ _ _ (heap_trans hle hle2)
  · exact k2 _ _ _ (heap_trans hle hle2)
theorem s_lkn {x0 y0 x1 y1 k0 : Int} (k : ∀ H', H ≤ H' → R (.returned (.bool true)) H') : Meets prog 5 [.agg #[.int .u32 x0, .int .u32 y0, .int .u32 x1, .int .u32 y1], vi k0] H R := by
  refine spec_of func5 (by kernel_rfl) (fun t h => by cases h) ?_ (vc_lkn x0 y0 x1 y1 k0 R H) ?_
  · simp [argsR, SV.rep, SC.rep, Sx.one, SegsRep]
  unfold nf_lkn
  intro b hb
  refine s_knew (l := []) (slice_nil _) (by simp) fun T t H1 g ka hle1 => ⟨t, rfl, ?_⟩
  have hT : t = none := by
    have e : fixP [] = [] := rfl
    rw [e] at g
    cases g with
    | nil => exact ka
    | node hp hs hm _ _ =>
      have := hp.eq_nil
      subst this
      simp at hm
  subst hT
  have hbk : NoT H1 (some ⟨b, 0, none⟩) := has_le (has_at (k := 0) new_has rfl) hle1
  simp only [true_and]
  refine ⟨fun p H' => ∃ t : Nat, p.1.1 = (t : Int) ∧ t ≤ 3 ∧ H1 ≤ H', fun p _ => (3 - p.1.1).toNat, ⟨0, rfl, by omega, fun _ _ e => e⟩, ?_⟩
  rintro ⟨⟨i, _⟩, _⟩ H2 ⟨t, hi, ht, hle2⟩
  simp only at hi ⊢
  subst hi
  refine br (fun q => ?_) fun q => ?_
  · have ht3 : t < 3 := by simp at q; omega
    obtain ⟨P, hP, hno⟩ : ∃ P : Option Addr, ([[Value.pointer none], [.pointer (some ⟨b, 0, none⟩)], [.pointer none]] : List (List Value))[t]? = some [.pointer P] ∧ NoT H2 P := by
      match t, ht3 with
      | 0, _ => exact ⟨none, rfl, trivial⟩
      | 1, _ => exact ⟨_, rfl, noT_le hbk hle2⟩
      | 2, _ => exact ⟨none, rfl, trivial⟩
    have bd : (0 : Int) ≤ (t : Int) ∧ (t : Int) < ((List.length ([[Value.pointer none], [.pointer (some ⟨b, 0, none⟩)], [.pointer none]] : List (List Value)) : Nat) : Int) := ⟨by omega, by simp; omega⟩
    refine ⟨H2, fun _ _ e => e, bd, P, ⟨_, hP, rfl⟩, bd, P, ⟨_, hP, rfl⟩, bd, P, ⟨_, hP, rfl⟩, bd, P, ⟨_, hP, rfl⟩, ?_⟩
    refine n_kran hno fun a c H3 hle3 => ⟨fun b o e _ => hle3 b o e, a, 0, c, rfl, ?_⟩
    simp only [delLs_nil]
    refine n_knear (noT_le hno hle3) fun a4 c4 H4 hle4 => ⟨fun b o e _ => hle4 b o e, a4, 0, c4, rfl, ?_⟩
    refine n_kord (noT_le hno (heap_trans hle3 hle4)) ⟨fun b o e _ => e, none, 0, 0, rfl, ?_⟩
    refine n_kdep (noT_le hno (heap_trans hle3 hle4)) ⟨fun b o e _ => e, 0, rfl, br (fun q => by simp [wi64] at q) fun _ => ?_⟩
    rw [wi64 (by omega)]
    exact ⟨⟨t + 1, by simp, by omega, heap_trans hle2 (heap_trans hle3 hle4)⟩, by simp; omega⟩
  · exact s_alive44 fun H3 hle3 => ⟨true, rfl, k _ (heap_trans (upd_le hb) (heap_trans hle1 (heap_trans hle2 hle3)))⟩
end
end Cr

set_option linter.unusedVariables false
set_option linter.unusedSimpArgs false
namespace Cr
open Go Sx
open Go.Proofs.Try
set_option maxRecDepth 100000
theorem own : ownKnob Go.Proofs.Try.prog.godebug = none := by kernel_rfl
theorem laidOut : laidOutB Go.Proofs.Try.prog = true := by kernel_rfl
section
variable {H : Type} {enc : TypeId × Value → H} {W : World}
theorem u32_wf {b : Int} (w : (Lit.int .u32 b).wf = true) : U32 b := by simp [Lit.wf, IntKind.min, IntKind.max, IntKind.bits, IntKind.signed] at w; omega
theorem i64_wf {b : Int} (w : (Lit.int .i64 b).wf = true) : -9223372036854775808 ≤ b ∧ b ≤ 9223372036854775807 := by simp [Lit.wf, IntKind.min, IntKind.max, IntKind.bits, IntKind.signed] at w; omega
abbrev I64 (x : Int) : Prop := -9223372036854775808 ≤ x ∧ x ≤ 9223372036854775807
theorem openI {v : Value} {d : DataW H} {ps : List MemPlace} {base : Nat} (hv : Value.okWide prog W .any base 3 v) (h : DataW.Trod enc prog W 0 (fun _ => true) true 3 v d ps) : ∃ a : Int, v = vi a ∧ I64 a := by
  obtain ⟨n, rfl, _, _, hw⟩ := Go.ChangeShapes.open_int Go.Proofs.Try.underlying3 hv h
  exact ⟨n, rfl, i64_wf hw⟩
end
end Cr

set_option linter.unusedVariables false
set_option linter.unusedSimpArgs false
namespace Cr
open Go Sx
open Go.Proofs.Try
set_option maxRecDepth 100000
structure Rc where
  x0 : Int
  y0 : Int
  x1 : Int
  y1 : Int
abbrev rcV (r : Rc) : Value := .agg #[.int .u32 r.x0, .int .u32 r.y0, .int .u32 r.x1, .int .u32 r.y1]
structure RcOK (r : Rc) : Prop where
  x0 : U32 r.x0
  y0 : U32 r.y0
  x1 : U32 r.x1
  y1 : U32 r.y1
section
variable {H : Type} {enc : TypeId × Value → H} {W : World}
theorem openRcV {v : Value} {d : DataW H} {ps : List MemPlace} {base : Nat} (hv : Value.okWide prog W .any base 36 v) (h : DataW.Trod enc prog W 0 (fun _ => true) true 36 v d ps) : ∃ r : Rc, v = rcV r ∧ RcOK r := by
  obtain ⟨cs, rfl, _⟩ := Go.WideShapes.okWide_struct Go.Proofs.Try.underlying36 hv
  obtain ⟨fuel, hf⟩ := h
  obtain ⟨y0, y1, y2, y3, n, _, hl, h0, h1, h2, h3⟩ := Go.Joins.trod_struct4 Go.Proofs.Try.underlying36 hf
  obtain ⟨a, e0, _, w0⟩ := DataW.trod_int Go.Proofs.Try.underlying34 h0
  obtain ⟨b, e1, _, w1⟩ := DataW.trod_int Go.Proofs.Try.underlying34 h1
  obtain ⟨c, e2, _, w2⟩ := DataW.trod_int Go.Proofs.Try.underlying34 h2
  obtain ⟨s, e3, _, w3⟩ := DataW.trod_int Go.Proofs.Try.underlying34 h3
  have c4 : prog.cellsOf 36 = 4 := by kernel_rfl
  have c2 : prog.cellsOf 34 = 1 := by kernel_rfl
  obtain ⟨cl⟩ := cs
  simp only [Value.cells] at hl e0 e1 e2 e3
  rw [c4] at hl
  match cl, hl with
  | [q0, q1, q2, q3], _ =>
    simp only [c2, List.drop_zero, List.drop_succ_cons, List.take_succ_cons, List.take_zero] at e0 e1 e2 e3
    cases e0; cases e1; cases e2; cases e3
    exact ⟨⟨a, b, c, s⟩, rfl, ⟨u32_wf w0, u32_wf w1, u32_wf w2, u32_wf w3⟩⟩
end
end Cr
