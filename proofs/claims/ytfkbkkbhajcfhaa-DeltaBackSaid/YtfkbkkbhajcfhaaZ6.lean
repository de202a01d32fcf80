/- Own texts, one behind the other: D3, D4, D6, D5, D9, D10, D18, D15, D19, SxOpen, A9. -/
import Derived.Deep.Slices
import Derived.Deep.Strs
import Derived.Test.YtfkbkkbhajcfhaaRows
import Derived.Test.YtfkbkkbhajcfhaaChecked
import Derived.Test.YtfkbkkbhajcfhaaZ5
set_option linter.unusedVariables false
set_option linter.unusedSimpArgs false
namespace Cr
open Go Sx Stb
open Go.Sort (SWO)
open Go.Proofs.Try
set_option linter.unusedSectionVars false
variable [Dr]
set_option maxRecDepth 100000
/-- A predicate of two points. -/
def Pred2 (g : Nat) (f : Pt → Pt → Bool) : Prop := ∀ (p q : Pt) (H : Heap) (R : Ending → Heap → Prop), R (.returned (.bool (f p q))) H → Meets prog g [ptV p, ptV q] H R
/-- What stays behind an element. -/
def cptG (f : Pt → Pt → Bool) (y : Pt) : List Pt → List Pt
  | [] => []
  | x :: r => if f x y then cptG f x r else x :: cptG f x r
def cpt (f : Pt → Pt → Bool) : List Pt → List Pt
  | [] => []
  | x :: r => x :: cptG f x r
theorem cptG_snoc (f : Pt → Pt → Bool) (x : Pt) : ∀ (r : List Pt) (y z : Pt), (y :: r).getLast? = some z → cptG f y (r ++ [x]) = cptG f y r ++ (if f x z then [] else [x])
  | [], y, z, h => by
    simp at h; subst h
    simp only [List.nil_append, cptG]
  | w :: r, y, z, h => by
    have ih := cptG_snoc f x r w z (by simpa using h)
    rw [List.cons_append, cptG, cptG, ih]
    split <;> simp
theorem cpt_snoc (f : Pt → Pt → Bool) (x z : Pt) {l : List Pt} (h : l.getLast? = some z) : cpt f (l ++ [x]) = cpt f l ++ (if f x z then [] else [x]) := by
  cases l with
  | nil => cases h
  | cons y r =>
    rw [List.cons_append, cpt, cpt, cptG_snoc f x r y z h]
    simp
theorem take_last {l : List Pt} {t : Nat} {y : Pt} (h0 : 0 < t) (h : l[t - 1]? = some y) : (l.take t).getLast? = some y := by
  have hl := (List.getElem?_eq_some_iff.1 h).1
  rw [List.getLast?_eq_getElem?, List.length_take, List.getElem?_take_of_lt (by omega), show min t l.length - 1 = t - 1 by omega]
  exact h
section
variable {H : Heap} {R : Ending → Heap → Prop}
theorem s_cpf {g : Nat} {f : Pt → Pt → Bool} (hf : Pred2 g f) {v : Value} {ty : Nat} {l : List Pt} (h : RowAt H v ty 4 (pts l)) (hl : l.length ≤ 1000000)
    (k : ∀ v' H', RowAt H' v' ty 4 (pts (cpt f l)) → blockOf v' = blockOf v → Mod v H H' → R (.returned v') H') : Meets prog 15 [v, .func (.func g) #[] #[]] H R := by
  obtain ⟨a, c, rfl⟩ := row_val h
  have hpl : (pts l).length = l.length := by simp [pts]
  rw [hpl] at h k ⊢
  refine spec_of func15 (by kernel_rfl) (fun t h => by cases h) ?_ (vc_cpf a l.length c g R H) ?_
  · simp [argsR, SV.rep, SC.rep, Sx.one]
  unfold nf_cpf
  simp only [true_and]
  refine br (fun q => ?_) fun q => ?_
  · have : cpt f l = l := by
      match l, q with
      | [], _ => rfl
      | [x], _ => rfl
      | x :: y :: r, q => simp at q; omega
    rw [this] at k
    exact k _ _ h rfl (Mod.refl _ _)
  have h2 : 2 ≤ l.length := by simp at q; omega
  obtain ⟨A, rfl⟩ : ∃ A, a = some A := by
    obtain ⟨A, e, _⟩ := pr_get (row_slice h) (i := 0) (p := l[0]) (List.getElem?_eq_getElem (by omega))
    exact ⟨A, e⟩
  have hsp : A.spot = none := by
    obtain ⟨A', e, hs, _⟩ := slice_get (row_slice h) (i := 0) (e := ptC l[0]) (by show (l.map ptC)[0]? = _; rw [List.getElem?_map, List.getElem?_eq_getElem (by omega)]; rfl)
    cases e; exact hs
  have hcap := (row_len h).2
  refine ⟨fun p H' => ∃ t : Nat, p.1.1 = (t : Int) ∧ 1 ≤ t ∧ t ≤ l.length ∧ cpt f (l.take t) = l.take t ∧ H' = H, fun p _ => (l.length - p.1.1).toNat, ⟨1, rfl, by omega, by omega, ?_, rfl⟩, ?_⟩
  · match l, h2 with
    | x :: r, _ => simp [cpt, cptG]
  rintro ⟨⟨i, _⟩, _⟩ H1 ⟨t, hi, ht1, ht, hcp, rfl⟩
  simp only at hi ⊢
  subst hi
  refine br (fun q1 => ?_) fun q1 => ?_
  rotate_left
  · simp only [decide_eq_false_iff_not] at q1
    rw [List.take_of_length_le (by omega)] at hcp
    rw [hcp] at k
    exact k _ _ h rfl (Mod.refl _ _)
  simp only [decide_eq_true_eq] at q1
  obtain ⟨x, hd, htk, hx⟩ := drop_cons (l := l) (k := t) (by omega)
  obtain ⟨y, _, _, hy⟩ := drop_cons (l := l) (k := t - 1) (by omega)
  obtain ⟨A1, e, g1⟩ := pr_get (row_slice h) (i := t) hx
  cases e
  obtain ⟨A2, e, g2⟩ := pr_get (row_slice h) (i := t - 1) hy
  cases e
  rw [wi64 (k := (t : Int) - 1) (by omega), wi64 (k := (t : Int) + 1) (by omega), show ((t : Int) - 1).toNat = t - 1 by omega]
  refine ⟨H1, fun _ _ e => e, ⟨by omega, by omega⟩, ptr rfl (ptr rfl ⟨_, _, _, _, g1, ⟨by omega, by omega⟩, ptr rfl (ptr rfl ⟨_, _, _, _, g2, hf x y _ _ ⟨keep_same _ _ _, _, rfl, ?_⟩⟩)⟩)⟩
  have hsn := cpt_snoc f x y (l := l.take t) (take_last (by omega) hy)
  rw [← htk, hcp] at hsn
  simp only [delLs_nil]
  refine br (fun q2 => ?_) fun q2 => ?_
  rotate_left
  · rw [q2] at hsn
    simp only [Bool.false_eq_true, if_false] at hsn
    exact ⟨⟨t + 1, by simp, by omega, by omega, by rw [hsn, htk], by trivial⟩, by simp; omega⟩
  rw [Int.toNat_natCast]
  have hsub : ∀ j : Nat, PtrK (subAddr (some A) c t 4) = PtrK (some ⟨A.block, A.off + t * 4, none⟩) := fun j => by
    have : subAddr (some A) c t 4 = some ⟨A.block, A.off + t * 4, none⟩ := by
      unfold subAddr
      rw [if_neg (by omega)]
      simp [add_spot hsp]
    rw [this]
  rw [hsub 0]
  have hadr : ∀ j : Nat, (⟨A.block, A.off + t * 4, none⟩ : Addr).add (j * 4) = A.add ((t + j) * 4) := fun j => by
    rw [add_spot rfl, add_spot hsp]; simp only [Addr.mk.injEq, and_true, true_and]; omega
  -- t: the first place that is told twice
  refine ⟨by omega, fun p H' => ∃ (s : Nat) (F M : List Pt) (z : Pt), p.1.2.1 = (s : Int) ∧ 1 ≤ s ∧ t + s ≤ l.length ∧ F = cpt f (l.take (t + s)) ∧ p.1.1 = (F.length : Int) ∧ l[t + s - 1]? = some z ∧ F.length + M.length + 1 = t + s ∧ RowAt H' (.slice (some A) l.length c) ty 4 (pts (F ++ M ++ [z] ++ l.drop (t + s))) ∧ Mod (.slice (some A) l.length c) H1 H', fun p _ => (l.length - p.1.2.1).toNat, ⟨1, l.take t, [], x, rfl, by omega, by omega, ?_, ?_, by rw [Nat.add_sub_cancel]; exact hx, by simp; omega, ?_, Mod.refl _ _⟩, ?_⟩
  · rw [hsn, q2]; simp
  · rw [List.length_take]; simp; omega
  · have : l.take t ++ [] ++ [x] ++ l.drop (t + 1) = l := by
      rw [List.append_nil, ← htk, List.take_append_drop]
    rw [this]; exact h
  rintro ⟨⟨w, i, _⟩, _⟩ H2 ⟨s, F, M, z, hi, hs1, hs, hF, hw, hz, hlen, hrow, hmod⟩
  simp only at hi hw ⊢
  subst hi; subst hw
  refine br (fun q3 => ?_) fun q3 => ?_
  · simp only [decide_eq_true_eq] at q3
    obtain ⟨u, hd2, htk2, hu⟩ := drop_cons (l := l) (k := t + s) (by omega)
    have gu : (F ++ M ++ [z] ++ l.drop (t + s))[t + s]? = some u := by
      rw [List.getElem?_append_right (by simp; omega)]
      simp only [List.length_append, List.length_singleton]
      rw [show t + s - (F.length + M.length + 1) = 0 by omega, hd2]; rfl
    have gz : (F ++ M ++ [z] ++ l.drop (t + s))[t + s - 1]? = some z := by
      rw [List.getElem?_append_left (by simp; omega), List.getElem?_append_right (by simp; omega)]
      simp only [List.length_append]
      rw [show t + s - 1 - (F.length + M.length) = 0 by omega]; rfl
    obtain ⟨A3, e, g3⟩ := pr_get (row_slice hrow) (i := t + s) gu
    cases e
    obtain ⟨A4, e, g4⟩ := pr_get (row_slice hrow) (i := t + s - 1) gz
    cases e
    have hsn2 := cpt_snoc f u z (l := l.take (t + s)) (take_last (by omega) hz)
    rw [← htk2, ← hF] at hsn2
    rw [wi64 (k := (s : Int) - 1) (by omega), wi64 (k := (s : Int) + 1) (by omega), show ((s : Int) - 1).toNat = s - 1 by omega, Int.toNat_natCast]
    have b1 : (0 : Int) ≤ (s : Int) ∧ (s : Int) < ((l.length - t : Nat) : Int) := ⟨by omega, by omega⟩
    have b2 : (0 : Int) ≤ (s : Int) - 1 ∧ (s : Int) - 1 < ((l.length - t : Nat) : Int) := ⟨by omega, by omega⟩
    have e3 : H2.has ((⟨A.block, A.off + t * 4, none⟩ : Addr).add (s * 4)) (ptC u) := by rw [hadr]; exact g3
    have e4 : H2.has ((⟨A.block, A.off + t * 4, none⟩ : Addr).add ((s - 1) * 4)) (ptC z) := by rw [hadr, show t + (s - 1) = t + s - 1 by omega]; exact g4
    refine ⟨H2, fun _ _ e => e, b1, ptr rfl (ptr rfl ⟨_, _, _, _, e3, b2, ptr rfl (ptr rfl ⟨_, _, _, _, e4, hf u z _ _ ⟨keep_same _ _ _, _, rfl, ?_⟩⟩)⟩)⟩
    refine br (fun q4 => ?_) fun q4 => ?_
    · have q4 : f u z = false := by simpa using q4
      rw [q4] at hsn2
      simp only [Bool.false_eq_true, if_false] at hsn2
      have hFl : F.length < l.length := by omega
      obtain ⟨c1, m1, r1, d1⟩ := pr_put hrow (i := F.length) hFl u
      have hset : ∃ M', M'.length = M.length ∧ (F ++ M ++ [z] ++ l.drop (t + s)).set F.length u = (F ++ [u]) ++ M' ++ [u] ++ l.drop (t + s + 1) := by
        rw [hd2]
        cases M with
        | nil => exact ⟨[], rfl, by simp⟩
        | cons m M' => exact ⟨M' ++ [z], by simp, by simp⟩
      obtain ⟨M', hM', hset⟩ := hset
      rw [hset] at r1
      rw [Int.toNat_natCast, wi64 (k := (F.length : Int) + 1) (by omega)]
      refine ⟨b1, ptr rfl (ptr rfl ⟨_, _, _, _, e3, ⟨by omega, by omega⟩, ptr rfl (ptr rfl ⟨_, _, m1, ⟨s + 1, F ++ [u], M', u, by simp, by omega, by omega, ?_, by simp, ?_, by simp; omega, ?_, hmod.trans d1⟩, by simp; omega⟩)⟩)⟩
      · rw [← hsn2]; rfl
      · rw [show t + (s + 1) - 1 = t + s by omega]; exact hu
      · exact r1
    · have q4 : f u z = true := by simpa using q4
      rw [q4] at hsn2
      simp only [if_true, List.append_nil] at hsn2
      refine ⟨⟨s + 1, F, M ++ [z], u, by simp, by omega, by omega, ?_, rfl, ?_, by simp; omega, ?_, hmod⟩, by simp; omega⟩
      · rw [← hsn2]; rfl
      · rw [show t + (s + 1) - 1 = t + s by omega]; exact hu
      · rw [hd2] at hrow
        have : F ++ (M ++ [z]) ++ [u] ++ l.drop (t + (s + 1)) = F ++ M ++ [z] ++ u :: l.drop (t + s + 1) := by simp [Nat.add_assoc]
        rw [this]; exact hrow
  · simp only [decide_eq_false_iff_not] at q3
    have hts : t + s = l.length := by omega
    rw [hts, List.take_length] at hF
    rw [hts, List.drop_length, List.append_nil, List.append_assoc] at hrow
    rw [← hF] at k
    have hz2 : pts (F ++ (M ++ [z])) = pts F ++ pts (M ++ [z]) := by simp [pts]
    rw [hz2] at hrow
    obtain ⟨cl, ⟨e1, e2, e3⟩, r1, d1⟩ := row_fill hrow (ws := List.replicate (l.length - F.length) [vi 0, .int .u32 0, .int .u32 0, .string { data := #[] }]) (by simp [pts]; omega) (by intro e he; rw [List.eq_of_mem_replicate he]; rfl) (by intro e he x hx; rw [List.eq_of_mem_replicate he] at hx; simp at hx; rcases hx with rfl | rfl | rfl | rfl <;> rfl)
    have hfl : (pts F).length = F.length := by simp [pts]
    have hsub2 : subAddr (some A) c F.length 4 = some ⟨A.block, A.off + F.length * 4, none⟩ := by
      unfold subAddr
      rw [if_neg (by omega)]
      simp [add_spot e2]
    have hsub0 : subAddr (some A) c 0 4 = some A := by
      unfold subAddr
      split
      · rfl
      · simp
    rw [Int.toNat_natCast, hsub0, Nat.sub_zero, Nat.sub_zero]
    rw [List.length_replicate] at e3
    refine ⟨⟨by omega, by omega⟩, .inr ⟨_, cl, ty, hsub2, ⟨e1, rfl, ?_⟩, ⟨by omega, by omega⟩, ?_⟩⟩
    · rw [hfl] at e3; exact e3
    · rw [hfl] at r1 d1
      have := row_prefix r1
      rw [hfl] at this
      exact k _ _ this rfl (hmod.trans d1)
end
end Cr

set_option linter.unusedVariables false
set_option linter.unusedSimpArgs false
namespace Cr
open Go Sx Stb
open Go.Sort (SWO)
open Go.Proofs.Try
set_option linter.unusedSectionVars false
variable [Dr]
set_option maxRecDepth 100000
/-- The point of an Id. -/
def look (L : List Pt) (id : Int) : Option Pt := L.find? fun p => p.id == id
abbrev SId (L : List Pt) : Prop := L.Pairwise fun p q => p.id < q.id
abbrev eqId (p q : Pt) : Bool := p.id == q.id
/-- The first of each Id, by Id. -/
def fixP (l : List Pt) : List Pt := cpt eqId (sortP l)
theorem look_cons (x : Pt) (r : List Pt) (id : Int) : look (x :: r) id = if x.id = id then some x else look r id := by
  unfold look
  rw [List.find?_cons]
  by_cases h : x.id = id
  · rw [if_pos h, show (x.id == id) = true by simpa using h]
  · rw [if_neg h, show (x.id == id) = false by simpa using h]
theorem look_snoc (x : Pt) (r : List Pt) (id : Int) : look (r ++ [x]) id = (look r id).or (if x.id = id then some x else none) := by
  unfold look
  rw [List.find?_append]
  congr 1
  have := look_cons x [] id
  unfold look at this
  rw [this]; rfl
theorem look_some {l : List Pt} {id : Int} {p : Pt} (h : look l id = some p) : p ∈ l ∧ p.id = id := ⟨List.mem_of_find?_eq_some h, by simpa using List.find?_some h⟩
theorem look_none {l : List Pt} {id : Int} : look l id = none ↔ ∀ p ∈ l, p.id ≠ id := by
  unfold look
  rw [List.find?_eq_none]
  simp
theorem cptG_look : ∀ (r : List Pt) (y : Pt), (y :: r).Pairwise (fun p q => p.id ≤ q.id) → SId (y :: cptG eqId y r) ∧ ∀ id, look (y :: cptG eqId y r) id = look (y :: r) id
  | [], y, _ => ⟨by simp [cptG], fun id => rfl⟩
  | x :: r, y, h => by
    obtain ⟨h1, h2⟩ := List.pairwise_cons.1 h
    obtain ⟨ih1, ih2⟩ := cptG_look r x h2
    have hxy := h1 x List.mem_cons_self
    obtain ⟨i1, i2⟩ := List.pairwise_cons.1 ih1
    unfold cptG
    by_cases e : x.id = y.id
    · have e1 : eqId x y = true := by simpa using e
      rw [if_pos e1]
      refine ⟨List.pairwise_cons.2 ⟨fun z hz => by have := i1 z hz; omega, i2⟩, fun id => ?_⟩
      have := ih2 id
      rw [look_cons, look_cons] at this
      rw [look_cons, look_cons, look_cons]
      by_cases q : y.id = id
      · rw [if_pos q, if_pos q]
      · rw [if_neg q, if_neg q]
        rw [if_neg (by omega), if_neg (by omega)] at this
        rw [if_neg (by omega)]
        exact this
    · have e1 : ¬ eqId x y = true := by simpa using e
      rw [if_neg e1]
      refine ⟨List.pairwise_cons.2 ⟨fun z hz => ?_, ih1⟩, fun id => ?_⟩
      · rcases List.mem_cons.1 hz with rfl | hz
        · omega
        · have := i1 z hz; omega
      · rw [look_cons y, look_cons y, ih2 id]
theorem sortP_le (l : List Pt) : (sortP l).Pairwise fun p q => p.id ≤ q.id := (isort_srtd swo_I l).imp fun {p q} h => by simpa using h
theorem look_sortP (l : List Pt) (id : Int) : look (sortP l) id = look l id := by
  have h := isort_stab swo_I l ⟨id, 0, 0, default⟩
  have e : eqv ltI ⟨id, 0, 0, default⟩ = fun p => p.id == id := by
    funext p
    unfold eqv
    by_cases q : p.id = id
    · subst q; simp
    · have : (p.id == id) = false := by simpa using q
      rw [this]
      by_cases q2 : id < p.id
      · simp [q2]
      · have : p.id < id := by omega
        simp [this]
  rw [e] at h
  have := congrArg List.head? h
  rw [List.head?_filter, List.head?_filter] at this
  exact this
theorem fixP_sid (l : List Pt) : SId (fixP l) := by
  unfold fixP
  have h := sortP_le l
  cases q : sortP l with
  | nil => simp [cpt]
  | cons y r => rw [q] at h; exact (cptG_look r y h).1
theorem look_fixP (l : List Pt) (id : Int) : look (fixP l) id = look l id := by
  rw [← look_sortP l id]
  unfold fixP
  have h := sortP_le l
  cases q : sortP l with
  | nil => rfl
  | cons y r => rw [q] at h; exact (cptG_look r y h).2 id
theorem cptG_len (f : Pt → Pt → Bool) : ∀ (r : List Pt) (y : Pt), (cptG f y r).length ≤ r.length
  | [], _ => by simp [cptG]
  | x :: r, y => by
    have := cptG_len f r x
    unfold cptG
    split <;> simp <;> omega
theorem fixP_len (l : List Pt) : (fixP l).length ≤ l.length := by
  rw [← sortP_len l]
  unfold fixP
  cases sortP l with
  | nil => simp [cpt]
  | cons y r => have := cptG_len eqId r y; simp [cpt]; omega
theorem sid_look {L : List Pt} (h : SId L) {p : Pt} (hp : p ∈ L) : look L p.id = some p := by
  induction L with
  | nil => cases hp
  | cons x r ih =>
    obtain ⟨h1, h2⟩ := List.pairwise_cons.1 h
    rw [look_cons]
    rcases List.mem_cons.1 hp with rfl | hp
    · rw [if_pos rfl]
    · have := h1 p hp
      rw [if_neg (by omega)]; exact ih h2 hp
theorem sid_mem {L : List Pt} (h : SId L) {p : Pt} : p ∈ L ↔ look L p.id = some p := ⟨sid_look h, fun e => (look_some e).1⟩
theorem sid_eq : ∀ {L M : List Pt}, SId L → SId M → (∀ id, look L id = look M id) → L = M
  | [], [], _, _, _ => rfl
  | [], y :: M, _, _, h => by have := h y.id; rw [look_cons, if_pos rfl] at this; cases this
  | x :: L, [], _, _, h => by have := h x.id; rw [look_cons, if_pos rfl] at this; cases this
  | x :: L, y :: M, hL, hM, h => by
    have mx : x ∈ y :: M := (sid_mem hM).2 (by rw [← h]; exact sid_look hL List.mem_cons_self)
    have my : y ∈ x :: L := (sid_mem hL).2 (by rw [h]; exact sid_look hM List.mem_cons_self)
    obtain ⟨l1, l2⟩ := List.pairwise_cons.1 hL
    obtain ⟨m1, m2⟩ := List.pairwise_cons.1 hM
    have e : x = y := by
      rcases List.mem_cons.1 mx with e | mx
      · exact e
      · rcases List.mem_cons.1 my with e | my
        · exact e.symm
        · have := m1 x mx; have := l1 y my; omega
    subst e
    rw [sid_eq l2 m2 fun id => ?_]
    by_cases q : x.id = id
    · subst q
      rw [look_none.2 fun p hp => by have := l1 p hp; omega, look_none.2 fun p hp => by have := m1 p hp; omega]
    · have := h id
      rw [look_cons, look_cons, if_neg q, if_neg q] at this
      exact this
/-- The law's way to the first of each Id. -/
def firstsP (l : List Pt) : List Pt := l.foldl (fun acc p => if look acc p.id = none then acc ++ [p] else acc) []
theorem firstsP_snoc (l : List Pt) (p : Pt) : firstsP (l ++ [p]) = if look (firstsP l) p.id = none then firstsP l ++ [p] else firstsP l := by
  unfold firstsP
  rw [List.foldl_append]
  rfl
theorem firstsP_ok (l : List Pt) : (∀ id, look (firstsP l) id = look l id) ∧ (∀ id, ((firstsP l).filter fun p => p.id == id).length ≤ 1) ∧ (firstsP l).length ≤ l.length := by
  have key : ∀ n, ∀ l : List Pt, l.length = n → (∀ id, look (firstsP l) id = look l id) ∧ (∀ id, ((firstsP l).filter fun p => p.id == id).length ≤ 1) ∧ (firstsP l).length ≤ l.length := by
    intro n
    induction n with
    | zero =>
      intro l hl
      obtain rfl := List.eq_nil_of_length_eq_zero hl
      simp [firstsP]
    | succ n ih =>
      intro l hl
      rcases List.eq_nil_or_concat l with rfl | ⟨r, p, rfl⟩
      · simp at hl
      rw [List.concat_eq_append] at hl ⊢
      obtain ⟨h1, h2, h3⟩ := ih r (by simpa using hl)
      rw [firstsP_snoc]
      by_cases q : look (firstsP r) p.id = none
      · rw [if_pos q]
        refine ⟨fun id => by rw [look_snoc, look_snoc, h1], fun id => ?_, by simp; omega⟩
        rw [List.filter_append, List.length_append]
        by_cases e : p.id = id
        · have : (firstsP r).filter (fun z => z.id == id) = [] := by
            rw [List.filter_eq_nil_iff]
            intro z hz
            have := look_none.1 q z hz
            simp; omega
          rw [this]; simp [e]
        · have := h2 id
          simp [e]; simpa using this
      · rw [if_neg q]
        refine ⟨fun id => ?_, h2, by simp; omega⟩
        rw [look_snoc, h1]
        by_cases e : p.id = id
        · subst e
          rw [h1] at q
          cases e2 : look r p.id with
          | none => exact (q e2).elim
          | some z => rfl
        · rw [if_neg e, Option.or_none]
  exact key l.length l rfl
theorem sid_of {M : List Pt} (h : M.Pairwise fun p q => p.id ≤ q.id) (h1 : ∀ id, (M.filter fun p => p.id == id).length ≤ 1) : SId M := by
  induction M with
  | nil => exact List.Pairwise.nil
  | cons x r ih =>
    obtain ⟨a, b⟩ := List.pairwise_cons.1 h
    refine List.pairwise_cons.2 ⟨fun y hy => ?_, ih b fun id => ?_⟩
    · have := a y hy
      by_cases e : x.id = y.id
      · have h2 := h1 x.id
        rw [List.filter_cons, if_pos (by simp), List.length_cons] at h2
        have : y ∈ r.filter fun p => p.id == x.id := List.mem_filter.2 ⟨hy, by simpa using e.symm⟩
        have := List.length_pos_of_mem this
        omega
      · omega
    · have h2 := h1 id
      rw [List.filter_cons] at h2
      split at h2
      · rw [List.length_cons] at h2; omega
      · exact h2
theorem lawFix (l : List Pt) : sortP (firstsP l) = fixP l := by
  obtain ⟨h1, h2, _⟩ := firstsP_ok l
  refine sid_eq (sid_of (sortP_le _) fun id => ?_) (fixP_sid l) fun id => ?_
  · have h := isort_stab swo_I (firstsP l) ⟨id, 0, 0, default⟩
    have e : eqv ltI ⟨id, 0, 0, default⟩ = fun p => p.id == id := by
      funext p
      unfold eqv
      by_cases q : p.id = id
      · subst q; simp
      · have : (p.id == id) = false := by simpa using q
        rw [this]
        by_cases q2 : id < p.id
        · simp [q2]
        · have : p.id < id := by omega
          simp [this]
    rw [e] at h
    show ((isort ltI (firstsP l)).filter fun p => p.id == id).length ≤ 1
    rw [h]; exact h2 id
  · rw [look_sortP, look_fixP, h1]
theorem idx_some {l : List Pt} {id : Int} {i : Nat} (h : l.findIdx? (fun p => p.id == id) = some i) : ∃ p, look l id = some p ∧ l[i]? = some p ∧ p.id = id := by
  rw [List.findIdx?_eq_some_iff_getElem] at h
  obtain ⟨hl, h1, h2⟩ := h
  have e : look l id = some l[i] := by
    unfold look
    rw [List.find?_eq_some_iff_getElem]
    exact ⟨h1, i, hl, rfl, fun j hj => by simpa using h2 j hj⟩
  exact ⟨l[i], e, by simp, by simpa using h1⟩
theorem idx_none {l : List Pt} {id : Int} (h : l.findIdx? (fun p => p.id == id) = none) : look l id = none := by
  unfold look
  rw [List.find?_eq_none]
  rw [List.findIdx?_eq_none_iff] at h
  intro x hx
  simp [h x hx]
end Cr

set_option linter.unusedVariables false
set_option linter.unusedSimpArgs false
namespace Cr
open Go Sx Stb
open Go.Sort (SWO)
open Go.Proofs.Try
set_option linter.unusedSectionVars false
variable [Dr]
set_option maxRecDepth 100000
section
variable {H : Heap} {R : Ending → Heap → Prop}
theorem pred_dfix : Pred2 17 eqId := by
  intro p q H R k
  refine spec_of func17 (by kernel_rfl) (fun t h => by cases h) ?_ (vc_dfix1 p.id p.x p.y p.data q.id q.x q.y q.data R H) ?_
  · simp [argsR, SV.rep, SegsRep, SC.rep, Sx.one]
  unfold nf_dfix1
  exact k
theorem s_dfix {v : Value} {l : List Pt} (h : SliceAt H v 4 (pts l)) (hl : l.length ≤ 1000000) (k : ∀ v H', H ≤ H' → (∀ b, blockOf v = some b → H b = none) → RowAt H' v tPt 4 (pts (fixP l)) → R (.returned v) H') : Meets prog 10 [v] H R := by
  obtain ⟨a, n, c, e, hn⟩ := h
  subst e
  have h : SliceAt H (.slice a n c) 4 (pts l) := ⟨a, n, c, rfl, hn⟩
  refine spec_of func10 (by kernel_rfl) (fun t h => by cases h) ?_ (vc_dfix a n c R H) ?_
  · simp [argsR, SV.rep, SC.rep, Sx.one]
  unfold nf_dfix
  refine s_srt h hl fun v1 H1 hle hf hrow => ?_
  obtain ⟨a1, c1, rfl⟩ := row_val hrow
  refine ⟨a1, _, c1, rfl, s_cpf pred_dfix hrow (by rw [sortP_len]; exact hl) fun v2 H2 hr2 hb2 hm2 => ?_⟩
  obtain ⟨a2, c2, rfl⟩ := row_val hr2
  refine ⟨a2, _, c2, rfl, k _ H2 (fun b o e => ?_) (fun b hb => hf b (by rw [← hb2]; exact hb)) hr2⟩
  rw [hm2 b (fun e2 => by rw [hf b e2] at e; cases e)]
  exact hle b o e
abbrev z0 : Pt := ⟨0, 0, 0, { data := #[] }⟩
theorem s_dof {v : Value} {l : List Pt} {id : Int} (h : SliceAt H v 4 (pts l)) (hl : l.length ≤ 1000000) (k : R (.returned (.tuple #[ptV ((look l id).getD z0), .bool (look l id).isSome])) H) : Meets prog 12 [v, vi id] H R := by
  obtain ⟨a, n, c, e, hn⟩ := h
  subst e
  have h : SliceAt H (.slice a n c) 4 (pts l) := ⟨a, n, c, rfl, hn⟩
  have hln : l.length = n := by simpa using hn.1
  refine spec_of func12 (by kernel_rfl) (fun t h => by cases h) ?_ (vc_dof a n c id R H) ?_
  · simp [argsR, SV.rep, SC.rep, Sx.one]
  unfold nf_dof
  refine s_find h hl (fun i hi => ⟨_, rfl, br (fun q => ?_) fun q => ?_⟩) fun hi => ⟨_, rfl, br (fun _ => ?_) fun q => by simp at q⟩
  · simp at q; omega
  · obtain ⟨p, h1, h2, _⟩ := idx_some hi
    have hil := (List.getElem?_eq_some_iff.1 h2).1
    obtain ⟨A, e, g⟩ := pr_get h (i := i) h2
    subst e
    rw [h1] at k
    exact ⟨⟨by omega, by omega⟩, ptr rfl (ptr rfl ⟨_, _, _, _, g, k⟩)⟩
  · rw [idx_none hi] at k
    exact k
theorem isort_inc (L : List Int) : (L.mergeSort fun x y => decide (x ≤ y)).Pairwise (· ≤ ·) := by
  have := List.pairwise_mergeSort (le := fun x y : Int => decide (x ≤ y)) (fun a b c h1 h2 => by simp at *; omega) (fun a b => by simp; omega) L
  exact this.imp fun h => by simpa using h
/-- The Ids of some lists, rising. -/
structure IdsOf (ls : List (List Pt)) (I : List Int) : Prop where
  up : I.Pairwise (· < ·)
  mem : ∀ id, id ∈ I ↔ ∃ l ∈ ls, ∃ p ∈ l, p.id = id
  few : I.length ≤ (ls.map List.length).sum
theorem s_dids {v : Value} {vs : List Value} {ls : List (List Pt)} (h : SliceAt H v 1 (vs.map fun x => [x])) (hv : ∀ (i : Nat) (x : Value) (l : List Pt), vs[i]? = some x → ls[i]? = some l → SliceAt H x 4 (pts l)) (hvl : vs.length = ls.length) (hn3 : ls.length ≤ 3) (hl : ∀ l ∈ ls, l.length ≤ 1000000)
    (k : ∀ I v' H', IdsOf ls I → H ≤ H' → (∀ b, blockOf v' = some b → H b = none) → RowAt H' v' 3 1 (cells I) → R (.returned v') H') : Meets prog 11 [v] H R := by
  obtain ⟨a, n, c, e, hn⟩ := h
  subst e
  have h : SliceAt H (.slice a n c) 1 (vs.map fun x => [x]) := ⟨a, n, c, rfl, hn⟩
  have hln : vs.length = n := by simpa using hn.1
  refine spec_of func11 (by kernel_rfl) (fun t h => by cases h) ?_ (vc_dids a n c R H) ?_
  · simp [argsR, SV.rep, SC.rep, Sx.one]
  unfold nf_dids
  simp only [true_and]
  have bnd : ∀ t, t ≤ n → ((ls.take t).flatten.map Pt.id).length ≤ t * 1000000 := by
    intro t
    induction t with
    | zero => intro _; simp
    | succ t ih =>
      intro ht
      obtain ⟨x, _, htk, hx⟩ := drop_cons (l := ls) (k := t) (by omega)
      have := hl x (List.mem_of_getElem? hx)
      have := ih (by omega)
      rw [htk, List.flatten_append, List.map_append, List.length_append]
      simp at this ⊢
      omega
  refine ⟨fun p H' => ∃ t : Nat, p.1.1 = (t : Int) ∧ t ≤ n ∧ p.1.2.1 = cells ((ls.take t).flatten.map Pt.id) ∧ H' = H, fun p _ => (n - p.1.1).toNat, ⟨0, rfl, by omega, rfl, rfl⟩, ?_⟩
  rintro ⟨⟨i, rows, _⟩, _⟩ H1 ⟨t, hi, ht, hrows, rfl⟩
  simp only at hi hrows ⊢
  subst hi hrows
  refine br (fun q1 => ?_) fun q1 => ?_
  · simp only [decide_eq_true_eq] at q1
    obtain ⟨x, _, _, hx⟩ := drop_cons (l := vs) (k := t) (by omega)
    obtain ⟨l, _, htk, hll⟩ := drop_cons (l := ls) (k := t) (by omega)
    obtain ⟨a1, n1, c1, e1, hs1⟩ := hv t x l hx hll
    subst e1
    have hs : SliceAt H1 (.slice a1 n1 c1) 4 (pts l) := ⟨a1, n1, c1, rfl, hs1⟩
    have hl1 : l.length = n1 := by simpa using hs1.1
    obtain ⟨A, e, _, g⟩ := slice_get h (i := t) (e := [.slice a1 n1 c1]) (by simp [hx])
    subst e
    have bt := bnd t (by omega)
    have hlm := hl l (List.mem_of_getElem? hll)
    refine ⟨⟨by omega, by omega⟩, ptr rfl (ptr rfl ⟨a1, n1, c1, g, ?_⟩)⟩
    refine ⟨fun p H' => ∃ s : Nat, p.1.1 = (s : Int) ∧ s ≤ n1 ∧ p.1.2.1 = cells ((ls.take t).flatten.map Pt.id ++ (l.take s).map Pt.id) ∧ H' = H1, fun p _ => (n1 - p.1.1).toNat, ⟨0, rfl, by omega, by simp, rfl⟩, ?_⟩
    rintro ⟨⟨i, rows, _⟩, _⟩ H2 ⟨s, hi, hs2, hrows, rfl⟩
    simp only at hi hrows ⊢
    subst hi hrows
    refine br (fun q2 => ?_) fun q2 => ?_
    · simp only [decide_eq_true_eq] at q2
      obtain ⟨p, _, htk2, hp⟩ := drop_cons (l := l) (k := s) (by omega)
      obtain ⟨A', e, g2⟩ := pr_get hs (i := s) hp
      subst e
      have hap : List.append (cells ((ls.take t).flatten.map Pt.id ++ (l.take s).map Pt.id)) [[vi p.id]] = cells ((ls.take t).flatten.map Pt.id ++ (l.take (s + 1)).map Pt.id) := by rw [htk2]; simp [cells]
      refine ⟨⟨by omega, by omega⟩, ptr rfl (ptr rfl ⟨_, _, _, _, g2, ?_⟩)⟩
      rw [hap, wi64 (by omega)]
      refine ⟨?_, ⟨s + 1, by simp, by omega, rfl, by trivial⟩, by simp; omega⟩
      have : (List.take (s + 1) l).length ≤ l.length := by simp; omega
      have e9 : ((l.take (s + 1)).map Pt.id).length = (l.take (s + 1)).length := List.length_map _
      rw [cells_len, List.length_append, e9]
      omega
    · simp only [decide_eq_false_iff_not] at q2
      obtain rfl : s = n1 := by omega
      rw [wi64 (by omega)]
      refine ⟨⟨t + 1, by simp, by omega, ?_, by trivial⟩, by simp; omega⟩
      have e9 : l.take s = l := List.take_of_length_le (by omega)
      rw [htk, e9, List.flatten_append, List.map_append]
      simp
  · simp only [decide_eq_false_iff_not] at q1
    obtain rfl : t = n := by omega
    have bt := bnd t (by omega)
    rw [List.take_of_length_le (by omega)] at bt ⊢
    have hsum : (ls.flatten.map Pt.id).length = (ls.map List.length).sum := by rw [List.length_map, List.length_flatten]
    generalize hL : ls.flatten.map Pt.id = L at *
    intro v1 H2 hle hf hb hrow
    refine meets_sortInt Go.Proofs.sortInt (by kernel_rfl) hrow (by omega) fun H3 hr3 hm => ?_
    refine ⟨rfl, _, hr3, fun v2 H4 hle4 hf4 hb4 hrow4 => ?_⟩
    rw [mod_off hm, lend_off hle hf hb] at hle4 hf4
    have hsl : (L.mergeSort fun x y => decide (x ≤ y)).length = L.length := List.length_mergeSort _
    refine meets_compactInt Go.Proofs.compInt (by kernel_rfl) hrow4 (by omega) fun v3 H5 hr5 hb5 hm5 => ?_
    obtain ⟨a5, c5, rfl⟩ := row_val hr5
    refine ⟨(fun _ _ e => by cases e), a5, _, c5, rfl, k _ _ _ ⟨compact_sorted (isort_inc L), fun id => ?_, ?_⟩ (fun b o e => ?_) (fun b hb => hf4 b (by rw [← hb5]; exact hb)) hr5⟩
    · rw [compact_mem, (List.mergeSort_perm _ _).mem_iff, ← hL]
      simp only [List.mem_map, List.mem_flatten]
      constructor
      · rintro ⟨p, ⟨l, h1, h2⟩, h3⟩; exact ⟨l, h1, p, h2, h3⟩
      · rintro ⟨l, h1, p, h2, h3⟩; exact ⟨p, ⟨l, h1, h2⟩, h3⟩
    · have := compact_len (L.mergeSort fun x y => decide (x ≤ y))
      omega
    · have := hle4 b o e
      rw [hm5 b (fun e2 => by rw [hf4 b e2] at e; cases e)]
      exact this
structure Ch where
  kd : Int
  pt : Pt
  deriving Inhabited, DecidableEq
@[reducible] def chC (c : Ch) : List Value := vi c.kd :: ptC c.pt
abbrev chs (l : List Ch) : List (List Value) := l.map chC
abbrev chV (c : Ch) : Value := .agg { toList := [vi c.kd, vi c.pt.id, .int .u32 c.pt.x, .int .u32 c.pt.y, .string c.pt.data] }
/-- A change, made. -/
def oneP (S : List Pt) (c : Ch) : Except Int (List Pt) :=
  if c.kd < 1 ∨ c.kd > 3 then .error 12
  else match S.findIdx? (fun p => p.id == c.pt.id) with
    | some i => if c.kd = 1 then .error 22 else if c.kd = 2 then .ok (S.eraseIdx i) else .ok (S.set i c.pt)
    | none => if c.kd = 1 then .ok (sortP (S ++ [c.pt])) else .error 14
/-- What a call that has a row of its own may do. -/
structure Own (v v' : Value) (H H' : Heap) : Prop where
  keep : ∀ b o, blockOf v ≠ some b → H b = some o → H' b = some o
  new : ∀ b, blockOf v' = some b → blockOf v = some b ∨ H b = none
theorem s_done {v : Value} {S : List Pt} {c : Ch} (h : RowAt H v tPt 4 (pts S)) (hl : S.length ≤ 1000) (k1 : ∀ e, oneP S c = .error e → R (.returned (.tuple #[.slice none 0 0, vi e])) H)
    (k2 : ∀ S' v' H', oneP S c = .ok S' → Own v v' H H' → RowAt H' v' tPt 4 (pts S') → R (.returned (.tuple #[v', vi 0])) H') : Meets prog 13 [v, chV c] H R := by
  obtain ⟨a, cp, rfl⟩ := row_val h
  have hpl : (pts S).length = S.length := by simp [pts]
  rw [hpl] at h k2 ⊢
  refine spec_of func13 (by kernel_rfl) (fun t h => by cases h) ?_ (vc_done a S.length cp c.kd c.pt.id c.pt.x c.pt.y c.pt.data R H) ?_
  · simp [argsR, SV.rep, SC.rep, Sx.one, SegsRep]
  unfold nf_done
  -- the three ways on
  have way1 : S.findIdx? (fun p => p.id == c.pt.id) = none → c.kd = 1 → ∃ es : List (List Value), RowAt H (.slice a S.length cp) tPt 4 es ∧ (List.append es [ptC c.pt]).length * 32 ≤ 140737488355328 ∧ ∀ (v : Value) (H1 : Heap), Heap.delO H (blockOf (.slice a S.length cp)) ≤ H1 → (∀ b, blockOf v = some b → Heap.delO H (blockOf (.slice a S.length cp)) b = none) →
      (∀ b o, H1 b = some o → Heap.delO H (blockOf (.slice a S.length cp)) b = some o ∨ blockOf v = some b) → RowAt H1 v tPt 4 (List.append es [ptC c.pt]) →
      Meets prog 16 [v] H1 fun e H' => ∃ (a : Option Addr) (n c : Nat), e = .returned (.slice a n c) ∧ ∃ es, RowAt H' v tPt 4 es ∧ R (.returned (.tuple #[.slice a n c, vi 0])) (Heap.delO H' (blockOf v)) := by
    intro hi hk
    have hap : List.append (pts S) [ptC c.pt] = pts (S ++ [c.pt]) := by simp [pts]
    refine ⟨_, h, by rw [hap]; simp [pts]; omega, fun v1 H1 hle hf hb hrow => ?_⟩
    rw [hap] at hrow
    refine s_srt (row_slice hrow) (by simp; omega) fun v2 H2 hle2 hf2 hrow2 => ?_
    obtain ⟨a2, c2, rfl⟩ := row_val hrow2
    refine ⟨a2, _, c2, rfl, _, row_le hrow fun b o _ => hle2 b o, k2 (sortP (S ++ [c.pt])) _ _ ?_ ⟨fun b o hb1 e => ?_, fun b hb1 => ?_⟩ (row_delO hrow2 fun b hb1 e => rowat_known hrow e (hf2 b hb1))⟩
    · unfold oneP
      rw [if_neg (by omega), hi]
      simp only
      rw [if_pos hk]
    · have e1 : Heap.delO H (blockOf (.slice a S.length cp)) b = some o := by
        cases q : blockOf (.slice a S.length cp) with
        | none => exact e
        | some z => show (if b = z then none else H b) = some o; rw [if_neg (fun e2 => hb1 (by rw [q, e2]))]; exact e
      have e2 := hle b o e1
      have e3 := hle2 b o e2
      cases q : blockOf v1 with
      | none => exact e3
      | some z => show (if b = z then none else H2 b) = some o; rw [if_neg (fun e4 => by subst e4; rw [hf b q] at e1; cases e1)]; exact e3
    · have e1 := hf2 b hb1
      cases q : H b with
      | none => exact .inr rfl
      | some o =>
        refine .inl ?_
        cases q2 : blockOf (.slice a S.length cp) with
        | none =>
          rw [q2] at hle
          rw [hle b o q] at e1; cases e1
        | some z =>
          by_cases e4 : b = z
          · rw [e4]
          · have : Heap.delO H (blockOf (.slice a S.length cp)) b = some o := by
              rw [q2]; show (if b = z then none else H b) = some o; rw [if_neg e4]; exact q
            rw [hle b o this] at e1; cases e1
  have way2 : ∀ i : Nat, S.findIdx? (fun p => p.id == c.pt.id) = some i → c.kd = 2 → Meets prog 21 [.slice a S.length cp, vi (i : Int), vi (IntKind.i64.wrap ((i : Int) + 1))] H fun e H' => ∃ (a : Option Addr) (n c : Nat), e = .returned (.slice a n c) ∧ R (.returned (.tuple #[.slice a n c, vi 0])) H' := by
    intro i hi hk
    obtain ⟨p, _, h2, _⟩ := idx_some hi
    have hil := (List.getElem?_eq_some_iff.1 h2).1
    rw [wi64 (by omega)]
    refine s_sdel h hil (by omega) fun v' H' hr hb hm => ?_
    obtain ⟨a2, c2, rfl⟩ := row_val hr
    refine ⟨a2, _, c2, rfl, k2 (S.eraseIdx i) _ _ ?_ ⟨fun b o hb1 e => ?_, fun b hb1 => ?_⟩ hr⟩
    · unfold oneP
      rw [if_neg (by omega), hi]
      simp only
      rw [if_neg (by omega), if_pos hk]
    · rw [hm b hb1]; exact e
    · rw [hb] at hb1; exact .inl hb1
  have way3 : ∀ i : Nat, S.findIdx? (fun p => p.id == c.pt.id) = some i → ¬ (c.kd < 1 ∨ c.kd > 3) → c.kd ≠ 1 → c.kd ≠ 2 → (0 ≤ (i : Int) ∧ (i : Int) < (S.length : Int)) ∧ PtrK a fun A => PtrK (some (A.add ((i : Int).toNat * 4))) fun A => ∃ (c1 : Array Value) (ty : TypeId),
      (H A.block = some (.cells c1 ty (0, 0)) ∧ A.spot = none ∧ A.off + 4 ≤ c1.size) ∧ R (.returned (.tuple #[.slice a S.length cp, vi 0])) (H.upd A.block (.cells (writeCells c1 A.off (ptC c.pt)) ty (0, 0))) := by
    intro i hi h0 h1 h2
    obtain ⟨p, _, hp, _⟩ := idx_some hi
    have hil := (List.getElem?_eq_some_iff.1 hp).1
    obtain ⟨A, e, _⟩ := pr_get (row_slice h) (i := i) hp
    subst e
    obtain ⟨c1, m1, r1, d1⟩ := pr_put h hil c.pt
    rw [Int.toNat_natCast]
    refine ⟨⟨by omega, by omega⟩, ptr rfl (ptr rfl ⟨c1, tPt, m1, k2 (S.set i c.pt) _ _ ?_ ⟨fun b o hb1 e => ?_, fun b hb1 => .inl hb1⟩ r1⟩)⟩
    · unfold oneP
      rw [if_neg h0, hi]
      simp only
      rw [if_neg h1, if_neg h2]
    · rw [d1 b hb1]; exact e
  have er12 : (c.kd < 1 ∨ c.kd > 3) → R (.returned (.tuple #[.slice none 0 0, vi 12])) H := fun e => k1 12 (by unfold oneP; rw [if_pos e])
  refine s_find (row_slice h) (by omega) (fun i hi => ⟨_, rfl, br (fun q => er12 (.inl (by simpa using q))) fun q1 => br (fun q => er12 (.inr (by simpa using q))) fun q2 => ?_⟩) fun hi => ⟨_, rfl, br (fun q => er12 (.inl (by simpa using q))) fun q1 => br (fun q => er12 (.inr (by simpa using q))) fun q2 => ?_⟩
  · have h0 : ¬ (c.kd < 1 ∨ c.kd > 3) := by simp at q1 q2; omega
    have hin : ¬ ((i : Int) < 0) := by omega
    refine br_and (fun q3 q4 => k1 22 ?_) fun q3 => br_and (fun q5 q6 => ?_) fun _ => br (fun q7 => ?_) fun q7 => br (fun q8 => way2 i hi (by simpa using q8)) fun q8 => way3 i hi h0 (by simpa using q7) (by simpa using q8)
    · unfold oneP
      rw [if_neg h0, hi]
      simp only
      rw [if_pos (by simpa using q3)]
    · simp at q6; omega
    · exact (q3 ⟨q7, by simp⟩).elim
  · have h0 : ¬ (c.kd < 1 ∨ c.kd > 3) := by simp at q1 q2; omega
    refine br_and (fun q3 q4 => by simp at q4) fun q3 => br_and (fun q5 q6 => k1 14 ?_) fun q5 => br (fun q7 => way1 hi (by simpa using q7)) fun q7 => ?_
    · unfold oneP
      rw [if_neg h0, hi]
      simp only
      rw [if_neg (by simpa using q5)]
    · exact (q5 ⟨by simpa using q7, by simp⟩).elim
end
end Cr

set_option linter.unusedVariables false
set_option linter.unusedSimpArgs false
namespace Cr
open Go Sx Stb
open Go.Proofs.Try
set_option linter.unusedSectionVars false
variable [Dr]
set_option maxRecDepth 100000
def h_lfind : Hints := { loops := [(2, ⟨[0, 1, 4], [.f 5 (.int .i64)], []⟩)] }
def h_lfix : Hints := { loops := [(3, ⟨[0, 2], [.f 4 (.int .i64), .row 3 33 4], []⟩)] }
def nf_lfind (a : Option Addr) (n : Nat) (c : Nat) (id : Int) (R : Ending → Heap → Prop) (H : Heap) : Prop := a = a ∧ n = n ∧ c = c ∧ id = id ∧ (0 : Int) = (0 : Int) ∧ LoopP (fun (K : (Int × PUnit) × PUnit → (Nat → Option Obj) → Prop) (p : (Int × PUnit) × PUnit) (H : Nat → Option Obj) ↦ Br (decide (p.fst.fst < (↑n : Int))) (((0 : Int) ≤ p.fst.fst ∧ p.fst.fst < (↑n : Int)) ∧ PtrK a fun (A : Addr) ↦ PtrK (some (Addr.add A (Int.toNat p.fst.fst * (4 : Nat)))) fun (a_1 : Addr) ↦ PtrK (some (Addr.add a_1 (0 : Nat))) fun (a_2 : Addr) ↦ ∃ (n_1 : Int), Heap.has H a_2 [Value.int IntKind.i64 n_1] ∧ Br (n_1 == id) (R (Ending.returned (Value.int IntKind.i64 p.fst.fst)) H) (a = a ∧ n = n ∧ c = c ∧ id = id ∧ (0 : Int) = (0 : Int) ∧ K ((IntKind.wrap IntKind.i64 (p.fst.fst + (1 : Int)), PUnit.unit), PUnit.unit) H)) (R (Ending.returned (Value.int IntKind.i64 (-1 : Int))) H)) (((0 : Int), PUnit.unit), PUnit.unit) H
theorem vc_lfind (a : Option Addr) (n : Nat) (c : Nat) (id : Int) (R : Ending → Heap → Prop) (H : Heap) : vcFun prog h_lfind f8 [SV.c (SC.v (Value.slice a n c)), SV.c (SC.v (Value.int IntKind.i64 id))] R H = nf_lfind a n c id R H := by kernel_rfl

def nf_lfix (a : Option Addr) (n : Nat) (c : Nat) (R : Ending → Heap → Prop) (H : Heap) : Prop := a = a ∧ n = n ∧ c = c ∧ (none : Option Addr) = none ∧ (0 : Nat) = (0 : Nat) ∧ (0 : Nat) = (0 : Nat) ∧ LoopP (fun (K : (Int × List (List Value) × PUnit) × PUnit → (Nat → Option Obj) → Prop) (p : (Int × List (List Value) × PUnit) × PUnit) (H : Nat → Option Obj) ↦ Br (decide (p.fst.fst < (↑n : Int))) (((0 : Int) ≤ p.fst.fst ∧ p.fst.fst < (↑n : Int)) ∧ PtrK a fun (A : Addr) ↦ PtrK (some (Addr.add A (Int.toNat p.fst.fst * (4 : Nat)))) fun (a_1 : Addr) ↦ PtrK (some (Addr.add a_1 (0 : Nat))) fun (a_2 : Addr) ↦ ∃ (n_1 : Int), Heap.has H a_2 [Value.int IntKind.i64 n_1] ∧ ∀ (v : Value) (H' : Nat → Option Obj), H ≤ H' → (∀ (b : Nat), blockOf v = some b → H b = none) → (∀ (b : Nat) (o : Obj), H' b = some o → H b = some o ∨ blockOf v = some b) → RowAt H' v (33 : Nat) (4 : Nat) p.fst.snd.fst → Meets prog (8 : Nat) [v, Value.int IntKind.i64 n_1] H' fun (e : Ending) (H' : Nat → Option Obj) ↦ ∃ (n_2 : Int), e = Ending.returned (Value.int IntKind.i64 n_2) ∧ ∃ (es : List (List Value)), RowAt H' v (33 : Nat) (4 : Nat) es ∧ Br (decide (n_2 < (0 : Int))) (((0 : Int) ≤ p.fst.fst ∧ p.fst.fst < (↑n : Int)) ∧ PtrK a fun (A : Addr) ↦ PtrK (some (Addr.add A (Int.toNat p.fst.fst * (4 : Nat)))) fun (a_7 : Addr) ↦ ∃ (n_3 : Int), ∃ (n_4 : Int), ∃ (n_5 : Int), ∃ (s : ByteArray), Heap.has (Heap.delO H' (blockOf v)) a_7 [Value.int IntKind.i64 n_3, Value.int IntKind.u32 n_4, Value.int IntKind.u32 n_5, Value.string s] ∧ List.length (List.append es [[Value.int IntKind.i64 n_3, Value.int IntKind.u32 n_4, Value.int IntKind.u32 n_5, Value.string s]]) * (32 : Nat) ≤ (140737488355328 : Nat) ∧ a = a ∧ n = n ∧ c = c ∧ (none : Option Addr) = none ∧ (0 : Nat) = (0 : Nat) ∧ (0 : Nat) = (0 : Nat) ∧ K ((IntKind.wrap IntKind.i64 (p.fst.fst + (1 : Int)), List.append es [[Value.int IntKind.i64 n_3, Value.int IntKind.u32 n_4, Value.int IntKind.u32 n_5, Value.string s]], PUnit.unit), PUnit.unit) (Heap.delO H' (blockOf v))) (a = a ∧ n = n ∧ c = c ∧ (none : Option Addr) = none ∧ (0 : Nat) = (0 : Nat) ∧ (0 : Nat) = (0 : Nat) ∧ K ((IntKind.wrap IntKind.i64 (p.fst.fst + (1 : Int)), es, PUnit.unit), PUnit.unit) (Heap.delO H' (blockOf v)))) (∀ (v : Value) (H' : Nat → Option Obj), H ≤ H' → (∀ (b : Nat), blockOf v = some b → H b = none) → (∀ (b : Nat) (o : Obj), H' b = some o → H b = some o ∨ blockOf v = some b) → RowAt H' v (33 : Nat) (4 : Nat) p.fst.snd.fst → Meets prog (14 : Nat) [v] H' fun (e : Ending) (H' : Nat → Option Obj) ↦ ∃ (a : Option Addr), ∃ (n : Nat), ∃ (c : Nat), e = Ending.returned (Value.slice a n c) ∧ ∃ (es : List (List Value)), RowAt H' v (33 : Nat) (4 : Nat) es ∧ R (Ending.returned (Value.slice a n c)) (Heap.delO H' (blockOf v)))) (((0 : Int), [], PUnit.unit), PUnit.unit) H
theorem vc_lfix (a : Option Addr) (n : Nat) (c : Nat) (R : Ending → Heap → Prop) (H : Heap) : vcFun prog h_lfix f7 [SV.c (SC.v (Value.slice a n c))] R H = nf_lfix a n c R H := by kernel_rfl

def nf_al40 (R : Ending → Heap → Prop) (H : Heap) : Prop := ∀ (v : Value) (H' : Nat → Option Obj), H ≤ H' → (∀ (b : Nat), blockOf v = some b → H b = none) → (∀ (b : Nat) (o : Obj), H' b = some o → H b = some o ∨ blockOf v = some b) → RowAt H' v (33 : Nat) (4 : Nat) [[Value.int IntKind.i64 (5 : Int), Value.int IntKind.u32 (0 : Int), Value.int IntKind.u32 (0 : Int), Value.string { data := #[] }]] → Meets prog (5 : Nat) [Value.slice none (0 : Nat) (0 : Nat), v] H' fun (e : Ending) (H' : Nat → Option Obj) ↦ ∃ (a : Option Addr), ∃ (n : Nat), ∃ (c : Nat), e = Ending.returned (Value.slice a n c) ∧ ∃ (es : List (List Value)), RowAt H' v (33 : Nat) (4 : Nat) es ∧ Br ((↑n : Int) == (1 : Int)) (((0 : Int) ≤ (0 : Int) ∧ (0 : Int) < (↑n : Int)) ∧ PtrK a fun (A : Addr) ↦ PtrK (some (Addr.add A (0 : Nat))) fun (a : Addr) ↦ PtrK (some (Addr.add a (0 : Nat))) fun (a : Addr) ↦ ∃ (n : Int), Heap.has (Heap.delO H' (blockOf v)) a [Value.int IntKind.i64 n] ∧ Br (n == (1 : Int)) (Meets prog (5 : Nat) [Value.slice none (0 : Nat) (0 : Nat), Value.slice none (0 : Nat) (0 : Nat)] (Heap.delO H' (blockOf v)) fun (e : Ending) (H' : Nat → Option Obj) ↦ ∃ (a : Option Addr), ∃ (n : Nat), ∃ (c : Nat), e = Ending.returned (Value.slice a n c) ∧ R (Ending.returned (Value.bool ((↑n : Int) == (0 : Int)))) H') (R (Ending.returned (Value.bool false)) (Heap.delO H' (blockOf v)))) (R (Ending.returned (Value.bool false)) (Heap.delO H' (blockOf v)))
theorem vc_al40 (R : Ending → Heap → Prop) (H : Heap) : vcFun prog { } f4 [] R H = nf_al40 R H := by kernel_rfl

end Cr

set_option linter.unusedVariables false
set_option linter.unusedSimpArgs false
namespace Cr
open Go Sx Stb
open Go.Sort (SWO)
open Go.Proofs.Try
set_option linter.unusedSectionVars false
variable [Dr]
set_option maxRecDepth 100000
def applyP : List Pt → List Ch → Except Int (List Pt)
  | S, [] => .ok S
  | S, c :: r => match oneP S c with
    | .error e => .error e
    | .ok S' => applyP S' r
theorem oneP_len {S S' : List Pt} {c : Ch} (h : oneP S c = .ok S') : S'.length ≤ S.length + 1 := by
  unfold oneP at h
  split at h
  · cases h
  · split at h
    · split at h
      · cases h
      · split at h
        · cases h; rw [List.length_eraseIdx]; split <;> omega
        · cases h; rw [List.length_set]; omega
    · split at h
      · cases h; rw [sortP_len]; simp
      · cases h
theorem oneP_err {S : List Pt} {c : Ch} {e : Int} (h : oneP S c = .error e) : e ≠ 0 := by
  unfold oneP at h
  split at h
  · cases h; decide
  · split at h
    · split at h
      · cases h; decide
      · split at h <;> cases h
    · split at h
      · cases h
      · cases h; decide
/-- What became of an Id. -/
def chgOf (A B : List Pt) (id : Int) : Option Ch :=
  match look A id, look B id with
  | none, some q => some ⟨1, q⟩
  | some p, none => some ⟨2, p⟩
  | some p, some q => if p = q then none else some ⟨3, q⟩
  | none, none => none
section
variable {H : Heap} {R : Ending → Heap → Prop}
theorem ch_get {H : Heap} {a : Option Addr} {n c : Nat} {l : List Ch} (h : SliceAt H (.slice a n c) 5 (chs l)) {i : Nat} {p : Ch} (he : l[i]? = some p) : ∃ A, a = some A ∧ H.has (A.add (i * 5)) (chC p) := by
  obtain ⟨A, h1, _, h2⟩ := slice_get h (i := i) (e := chC p) (by simp [chs, he])
  exact ⟨A, h1, h2⟩
theorem s_dapp {v v2 : Value} {l : List Pt} {cs : List Ch} (h : SliceAt H v 4 (pts l)) (h2 : SliceAt H v2 5 (chs cs)) (hl : l.length + cs.length ≤ 900)
    (k1 : ∀ e H', applyP (fixP l) cs = .error e → H ≤ H' → R (.returned (.tuple #[.slice none 0 0, vi e])) H')
    (k2 : ∀ S v' H', applyP (fixP l) cs = .ok S → H ≤ H' → (∀ b, blockOf v' = some b → H b = none) → RowAt H' v' tPt 4 (pts S) → R (.returned (.tuple #[v', vi 0])) H') : Meets prog 6 [v, v2] H R := by
  obtain ⟨a, n, c, e, hn⟩ := h
  subst e
  have h : SliceAt H (.slice a n c) 4 (pts l) := ⟨a, n, c, rfl, hn⟩
  obtain ⟨a', n', c', e, hn'⟩ := h2
  subst e
  have h2 : SliceAt H (.slice a' n' c') 5 (chs cs) := ⟨a', n', c', rfl, hn'⟩
  have hln : cs.length = n' := by simpa using hn'.1
  refine spec_of func6 (by kernel_rfl) (fun t h => by cases h) ?_ (vc_dapp a n c a' n' c' R H) ?_
  · simp [argsR, SV.rep, SC.rep, Sx.one]
  unfold nf_dapp
  refine s_dfix h (by omega) fun v1 H1 hle1 hf1 hrow1 => ?_
  obtain ⟨a1, c1, rfl⟩ := row_val hrow1
  have hfl := fixP_len l
  simp only [true_and]
  refine ⟨a1, _, c1, rfl, fun p H' => ∃ (t : Nat) (S : List Pt), p.1.2.1 = (t : Int) ∧ t ≤ n' ∧ RowAt H' (.slice p.1.1.1 p.1.1.2.1 p.1.1.2.2) tPt 4 (pts S) ∧ applyP (fixP l) cs = applyP S (cs.drop t) ∧ S.length ≤ l.length + t ∧ H ≤ H' ∧ ∀ b, blockOf (.slice p.1.1.1 p.1.1.2.1 p.1.1.2.2) = some b → H b = none, fun p _ => (n' - p.1.2.1).toNat, ⟨0, fixP l, rfl, by omega, hrow1, rfl, by omega, hle1, hf1⟩, ?_⟩
  rintro ⟨⟨⟨a2, n2, c2⟩, i, _⟩, _⟩ H2 ⟨t, S, hi, ht, hrow, hap, hS, hle, hfr⟩
  simp only at hi hrow hfr ⊢
  subst hi
  refine br (fun q1 => ?_) fun q1 => ?_
  · simp only [decide_eq_true_eq] at q1
    obtain ⟨x, hd, _, hx⟩ := drop_cons (l := cs) (k := t) (by omega)
    obtain ⟨A, e, g⟩ := ch_get (slice_le h2 hle) (i := t) hx
    subst e
    rw [hd, applyP] at hap
    refine ⟨⟨by omega, by omega⟩, ptr rfl (ptr rfl ⟨_, _, _, _, _, g, s_done hrow (by omega) (fun e he => ?_) fun S' v' H' hS' ho hr' => ?_⟩)⟩
    · rw [he] at hap
      have := oneP_err he
      exact ⟨none, 0, 0, _, rfl, br (fun _ => k1 e _ hap hle) fun q => by simp at q; exact (this q).elim⟩
    · rw [hS'] at hap
      obtain ⟨a3, c3, rfl⟩ := row_val hr'
      have := oneP_len hS'
      rw [wi64 (by omega)]
      refine ⟨a3, _, c3, _, rfl, br (fun q => by simp at q) fun _ => ⟨⟨t + 1, S', by simp, by omega, hr', hap, by omega, fun b o e => ho.keep b o (fun e2 => by rw [hfr b e2] at e; cases e) (hle b o e), fun b hb => ?_⟩, by simp; omega⟩⟩
      rcases ho.new b hb with q | q
      · exact hfr b q
      · cases q2 : H b with
        | none => rfl
        | some o => rw [hle b o q2] at q; cases q
  · simp only [decide_eq_false_iff_not] at q1
    rw [List.drop_of_length_le (by omega), applyP] at hap
    exact k2 S _ _ hap hle hfr hrow
theorem s_dbet {v v2 : Value} {l l' : List Pt} (h : SliceAt H v 4 (pts l)) (h2 : SliceAt H v2 4 (pts l')) (hl : l.length ≤ 400) (hl' : l'.length ≤ 400)
    (k : ∀ I v' H', IdsOf [fixP l, fixP l'] I → H ≤ H' → (∀ b, blockOf v' = some b → H b = none) → RowAt H' v' 35 5 (chs (I.filterMap (chgOf (fixP l) (fixP l')))) → R (.returned v') H') : Meets prog 5 [v, v2] H R := by
  obtain ⟨a, n, c, e, hn⟩ := h
  subst e
  have h : SliceAt H (.slice a n c) 4 (pts l) := ⟨a, n, c, rfl, hn⟩
  obtain ⟨a', n', c', e, hn'⟩ := h2
  subst e
  have h2 : SliceAt H (.slice a' n' c') 4 (pts l') := ⟨a', n', c', rfl, hn'⟩
  refine spec_of func5 (by kernel_rfl) (fun t h => by
    have := memN_one h
    subst this
    exact eqOK_of (by kernel_rfl) (by kernel_rfl) (by kernel_rfl)) ?_ (vc_dbet a n c a' n' c' R H) ?_
  · simp [argsR, SV.rep, SC.rep, Sx.one]
  unfold nf_dbet
  refine s_dfix h (by omega) fun v1 H1 hle1 hf1 hrow1 => ?_
  have hA1 := row_slice hrow1
  obtain ⟨a1, c1, rfl⟩ := row_val hrow1
  refine ⟨a1, _, c1, rfl, s_dfix (slice_le h2 hle1) (by omega) fun v2 H2 hle2 hf2 hrow2 => ?_⟩
  have hB2 := row_slice hrow2
  obtain ⟨a2, c2, rfl⟩ := row_val hrow2
  refine ⟨a2, _, c2, rfl, fun v3 H3 hle3 hf3 hb3 hrow3 => ?_⟩
  have hAl := fixP_len l
  have hBl := fixP_len l'
  generalize hA : fixP l = A at *
  generalize hB : fixP l' = B at *
  refine s_dids (vs := [.slice a1 (pts A).length c1, .slice a2 (pts B).length c2]) (ls := [A, B]) (row_slice hrow3) ?_ rfl (by simp) ?_ fun I v4 H4 hI hle4 hf4 hrow4 => ?_
  · intro i x w hx hw
    match i, hx, hw with
    | 0, hx, hw => simp at hx hw; subst hx hw; have := slice_le hA1 (heap_trans hle2 hle3); simpa using this
    | 1, hx, hw => simp at hx hw; subst hx hw; have := slice_le hB2 hle3; simpa using this
  · intro w hw
    simp at hw
    rcases hw with rfl | rfl <;> omega
  have hI4 := row_slice (row_delO hrow4 (o := blockOf v3) fun b hb e => rowat_known hrow3 e (hf4 b hb))
  obtain ⟨a4, c4, rfl⟩ := row_val hrow4
  rw [cells_len] at hI4 ⊢
  have hle24 : H2 ≤ Heap.delO H4 (blockOf v3) := le_delO (heap_trans hle3 hle4) hf3
  have hA4 := slice_le hA1 (heap_trans hle2 hle24)
  have hB4 := slice_le hB2 hle24
  have hH := heap_trans hle1 (heap_trans hle2 hle24)
  have hfew := hI.few
  simp only [List.map_cons, List.map_nil, List.sum_cons, List.sum_nil] at hfew
  simp only [true_and]
  refine ⟨a4, _, c4, rfl, _, row_le hrow3 (fun b o _ => hle4 b o), fun p H' => ∃ t : Nat, p.1.1 = (t : Int) ∧ t ≤ I.length ∧ p.1.2.1 = chs ((I.take t).filterMap (chgOf A B)) ∧ H' = Heap.delO H4 (blockOf v3), fun p _ => (I.length - p.1.1).toNat, ⟨0, rfl, by omega, rfl, rfl⟩, ?_⟩
  rintro ⟨⟨i, rows, _⟩, _⟩ H5 ⟨t, hi, ht, hrows, rfl⟩
  simp only at hi hrows ⊢
  subst hi hrows
  refine br (fun q1 => ?_) fun q1 => ?_
  · simp only [decide_eq_true_eq] at q1
    obtain ⟨id, _, htk, hid⟩ := drop_cons (l := I) (k := t) (by omega)
    obtain ⟨Ad, e, g⟩ := ir_get hI4 (i := t) hid
    subst e
    rw [wi64 (by omega)]
    have hfl : ((I.take t).filterMap (chgOf A B)).length ≤ I.length := Nat.le_trans (List.length_filterMap_le _ _) (by simp; omega)
    have go : ∀ o : Option Ch, chgOf A B id = o → (I.take (t + 1)).filterMap (chgOf A B) = (I.take t).filterMap (chgOf A B) ++ o.toList := fun o ho => by
      rw [htk, List.filterMap_append]
      congr 1
      rw [List.filterMap_cons, ho]
      cases o <;> rfl
    have yes : ∀ x : Ch, chgOf A B id = some x → (List.append (chs ((I.take t).filterMap (chgOf A B))) [chC x]).length * 40 ≤ 140737488355328 ∧ (∃ t' : Nat, ((t : Int) + 1) = (t' : Int) ∧ t' ≤ I.length ∧ List.append (chs ((I.take t).filterMap (chgOf A B))) [chC x] = chs ((I.take t').filterMap (chgOf A B)) ∧ Heap.delO H4 (blockOf v3) = Heap.delO H4 (blockOf v3)) ∧ ((I.length : Int) - ((t : Int) + 1)).toNat < ((I.length : Int) - (t : Int)).toNat := fun x hx => by
      have e2 : List.append (chs ((I.take t).filterMap (chgOf A B))) [chC x] = chs ((I.take (t + 1)).filterMap (chgOf A B)) := by rw [go _ hx]; simp [chs]
      refine ⟨?_, ⟨t + 1, by simp, by omega, e2, rfl⟩, by omega⟩
      have : (List.append (chs ((I.take t).filterMap (chgOf A B))) [chC x]).length = ((I.take t).filterMap (chgOf A B)).length + 1 := by simp [chs]
      rw [this]; omega
    refine ⟨⟨by omega, by omega⟩, ptr rfl (ptr rfl ⟨_, g, s_dof hA4 (by omega) ⟨_, _, _, _, _, rfl, s_dof hB4 (by omega) ⟨_, _, _, _, _, rfl, ?_⟩⟩⟩)⟩
    have hmem := (hI.mem id).1 (List.mem_of_getElem? hid)
    cases eA : look A id with
    | none =>
      cases eB : look B id with
      | none =>
        obtain ⟨w, hw, p, hp, hpid⟩ := hmem
        simp at hw
        rcases hw with rfl | rfl
        · exact (look_none.1 eA p hp hpid).elim
        · exact (look_none.1 eB p hp hpid).elim
      | some q => exact br (fun _ => yes ⟨1, q⟩ (by unfold chgOf; rw [eA, eB])) fun q => by cases q
    | some p =>
      refine br (fun q => by cases q) fun _ => ?_
      cases eB : look B id with
      | none => exact br (fun _ => yes ⟨2, p⟩ (by unfold chgOf; rw [eA, eB])) fun q => by cases q
      | some q =>
        refine br (fun q => by cases q) fun _ => ?_
        have hc : chgOf A B id = if p = q then none else some ⟨3, q⟩ := by unfold chgOf; rw [eA, eB]
        refine br (fun q2 => ?_) fun q2 => ?_
        · have hne : p ≠ q := by
            rintro rfl
            simp [andO, ba_beq] at q2
          rw [if_neg hne] at hc
          exact yes ⟨3, q⟩ hc
        · have he : p = q := by
            simp [andO, ba_beq] at q2
            exact pt_eta q2.1.1.1 q2.1.1.2 q2.1.2 q2.2
          rw [if_pos he] at hc
          have e2 := go _ hc
          simp only [Option.toList_none, List.append_nil] at e2
          exact ⟨⟨t + 1, by simp, by omega, by rw [e2], by trivial⟩, by simp; omega⟩
  · simp only [decide_eq_false_iff_not] at q1
    rw [List.take_of_length_le (by omega)]
    intro v6 H6 hle6 hf6 hb6 hrow6
    exact k I v6 H6 hI (heap_trans hH hle6) (fun b hb => by
      cases q : H b with
      | none => rfl
      | some o => have := hf6 b hb; rw [hH b o q] at this; cases this) hrow6
theorem s_lfind {v : Value} {l : List Pt} {id : Int} (h : SliceAt H v 4 (pts l)) (hl : l.length ≤ 1000000) (k1 : ∀ i : Nat, l.findIdx? (fun p => p.id == id) = some i → R (.returned (vi i)) H) (k2 : l.findIdx? (fun p => p.id == id) = none → R (.returned (vi (-1))) H) :
    Meets prog 8 [v, vi id] H R := by
  obtain ⟨a, n, c, e, hn⟩ := h
  subst e
  have h : SliceAt H (.slice a n c) 4 (pts l) := ⟨a, n, c, rfl, hn⟩
  have hln : l.length = n := by simpa using hn.1
  refine spec_of func8 (by kernel_rfl) (fun t h => by cases h) ?_ (vc_lfind a n c id R H) ?_
  · simp [argsR, SV.rep, SC.rep, Sx.one]
  unfold nf_lfind
  simp only [true_and]
  refine ⟨fun p H' => ∃ t : Nat, p.1.1 = (t : Int) ∧ t ≤ n ∧ (∀ i, i < t → ∀ p, l[i]? = some p → p.id ≠ id) ∧ H' = H, fun p _ => (n - p.1.1).toNat, ⟨0, rfl, by omega, fun i hi => by omega, rfl⟩, ?_⟩
  rintro ⟨⟨i, _⟩, _⟩ H1 ⟨t, hi, ht, hno, rfl⟩
  simp only at hi ⊢
  subst hi
  refine br (fun q1 => ?_) fun q1 => ?_
  · simp only [decide_eq_true_eq] at q1
    obtain ⟨x, _, _, hx⟩ := drop_cons (l := l) (k := t) (by omega)
    obtain ⟨A, e, g⟩ := pr_get h (i := t) hx
    subst e
    have hil := (List.getElem?_eq_some_iff.1 hx).1
    have hxe := (List.getElem?_eq_some_iff.1 hx).2
    rw [wi64 (by omega)]
    refine ⟨⟨by omega, by omega⟩, ptr rfl (ptr rfl (ptr rfl ⟨_, has_first g, br (fun q2 => k1 t ?_) fun q2 => ⟨⟨t + 1, by simp, by omega, fun i hi p hp => ?_, by trivial⟩, by simp; omega⟩⟩))⟩
    · rw [List.findIdx?_eq_some_iff_getElem]
      refine ⟨hil, by rw [hxe]; exact q2, fun j hj => ?_⟩
      have := hno j hj l[j] (List.getElem?_eq_getElem (by omega))
      simpa using this
    · by_cases e : i = t
      · subst e
        rw [hx] at hp; cases hp
        simpa using q2
      · exact hno i (by omega) p hp
  · simp only [decide_eq_false_iff_not] at q1
    refine k2 ?_
    rw [List.findIdx?_eq_none_iff]
    intro x hx
    obtain ⟨j, hj, rfl⟩ := List.mem_iff_getElem.1 hx
    have := hno j (by omega) l[j] (List.getElem?_eq_getElem hj)
    simpa using this
theorem s_lfix {v : Value} {l : List Pt} (h : SliceAt H v 4 (pts l)) (hl : l.length ≤ 1000000) (k : ∀ v H', H ≤ H' → (∀ b, blockOf v = some b → H b = none) → RowAt H' v tPt 4 (pts (fixP l)) → R (.returned v) H') : Meets prog 7 [v] H R := by
  obtain ⟨a, n, c, e, hn⟩ := h
  subst e
  have h : SliceAt H (.slice a n c) 4 (pts l) := ⟨a, n, c, rfl, hn⟩
  have hln : l.length = n := by simpa using hn.1
  refine spec_of func7 (by kernel_rfl) (fun t h => by cases h) ?_ (vc_lfix a n c R H) ?_
  · simp [argsR, SV.rep, SC.rep, Sx.one]
  unfold nf_lfix
  simp only [true_and]
  refine ⟨fun p H' => ∃ t : Nat, p.1.1 = (t : Int) ∧ t ≤ n ∧ p.1.2.1 = pts (firstsP (l.take t)) ∧ H' = H, fun p _ => (n - p.1.1).toNat, ⟨0, rfl, by omega, rfl, rfl⟩, ?_⟩
  rintro ⟨⟨i, rows, _⟩, _⟩ H1 ⟨t, hi, ht, hrows, rfl⟩
  simp only at hi hrows ⊢
  subst hi hrows
  have hfl := (firstsP_ok (l.take t)).2.2
  have htl : (l.take t).length = t := by simp; omega
  refine br (fun q1 => ?_) fun q1 => ?_
  · simp only [decide_eq_true_eq] at q1
    obtain ⟨x, _, htk, hx⟩ := drop_cons (l := l) (k := t) (by omega)
    obtain ⟨A, e, g⟩ := pr_get h (i := t) hx
    subst e
    have hsn := firstsP_snoc (l.take t) x
    rw [← htk] at hsn
    refine ⟨⟨by omega, by omega⟩, ptr rfl (ptr rfl (ptr rfl ⟨_, has_first g, fun v1 H2 hle hf hb hrow => ?_⟩))⟩
    have hoff := lend_off hle hf hb
    rw [wi64 (by omega)]
    refine s_lfind (row_slice hrow) (by omega) (fun i hi => ⟨_, rfl, _, hrow, br (fun q => by simp at q; omega) fun _ => ?_⟩) fun hi => ⟨_, rfl, _, hrow, br (fun _ => ?_) fun q => by simp at q⟩
    · obtain ⟨p, h1, _, _⟩ := idx_some hi
      rw [h1] at hsn
      simp only [reduceCtorEq, if_false] at hsn
      rw [hoff]
      exact ⟨⟨t + 1, by simp, by omega, by rw [hsn], by trivial⟩, by simp; omega⟩
    · rw [idx_none hi, if_pos rfl] at hsn
      have hap : List.append (pts (firstsP (l.take t))) [ptC x] = pts (firstsP (l.take (t + 1))) := by rw [hsn]; simp [pts]
      rw [hoff]
      refine ⟨⟨by omega, by omega⟩, ptr rfl (ptr rfl ⟨_, _, _, _, g, ?_⟩)⟩
      show (List.append (pts (firstsP (l.take t))) [ptC x]).length * 32 ≤ _ ∧ (∃ t' : Nat, _ ∧ _ ∧ List.append (pts (firstsP (l.take t))) [ptC x] = _ ∧ _) ∧ _
      rw [hap]
      refine ⟨?_, ⟨t + 1, by simp, by omega, rfl, by trivial⟩, by simp; omega⟩
      rw [hsn]
      simp [pts]; omega
  · simp only [decide_eq_false_iff_not] at q1
    rw [List.take_of_length_le (by omega)] at hfl ⊢
    intro v1 H2 hle hf hb hrow
    refine s_rsort (row_slice hrow) (by omega) fun v2 H3 hle2 hf2 hrow2 => ?_
    rw [lawFix] at hrow2
    have hr := row_delO hrow2 (o := blockOf v1) fun b hb e => rowat_known hrow e (hf2 b hb)
    obtain ⟨a2, c2, rfl⟩ := row_val hrow2
    exact ⟨a2, _, c2, rfl, _, row_le hrow (fun b o _ => hle2 b o), k _ _ (le_delO (heap_trans hle hle2) hf) (fun b hb => by
      cases q : H1 b with
      | none => rfl
      | some o => have := hf2 b hb; rw [hle b o q] at this; cases this) hr⟩
end
end Cr

set_option linter.unusedVariables false
set_option linter.unusedSimpArgs false
namespace Cr
open Go Sx Stb
open Go.Sort (SWO)
open Go.Proofs.Try
set_option linter.unusedSectionVars false
variable [Dr]
set_option maxRecDepth 100000
theorem fixP_nil : fixP [] = [] := rfl
theorem fixP_one (p : Pt) : fixP [p] = [p] := rfl
theorem ids_nil {I : List Int} (h : IdsOf [fixP [], fixP []] I) : I = [] := by
  cases I with
  | nil => rfl
  | cons x r =>
    obtain ⟨l, h1, p, h2, _⟩ := (h.mem x).1 List.mem_cons_self
    simp [fixP_nil] at h1
    subst h1
    cases h2
theorem ids_one {I : List Int} {p : Pt} (h : IdsOf [fixP [], fixP [p]] I) : I = [p.id] := by
  have hm : ∀ id, id ∈ I ↔ id = p.id := fun id => by
    rw [h.mem, fixP_nil, fixP_one]
    constructor
    · rintro ⟨l, h1, q, h2, h3⟩
      simp at h1
      rcases h1 with rfl | rfl
      · cases h2
      · simp at h2; subst h2; exact h3.symm
    · rintro rfl
      exact ⟨[p], by simp, p, by simp, rfl⟩
  have hu := h.up
  match I with
  | [] => have := (hm p.id).2 rfl; cases this
  | [x] => rw [(hm x).1 List.mem_cons_self]
  | x :: y :: r =>
    have h1 := (hm x).1 List.mem_cons_self
    have h2 := (hm y).1 (List.mem_cons_of_mem _ List.mem_cons_self)
    have := (List.pairwise_cons.1 hu).1 y List.mem_cons_self
    omega
section
variable {H : Heap} {R : Ending → Heap → Prop}
theorem s_alive40 (k : ∀ H', H ≤ H' → R (.returned (.bool true)) H') : Meets prog 4 [] H R := by
  refine spec_of func4 (by kernel_rfl) (fun t h => by cases h) ?_ (vc_al40 R H) ?_
  · simp [argsR]
  unfold nf_al40
  intro v H1 hle1 hf1 hb1 hrow1
  let p0 : Pt := ⟨5, 0, 0, { data := #[] }⟩
  have hrow1 : RowAt H1 v 33 4 (pts [p0]) := hrow1
  refine s_dbet (l := []) (slice_nil H1) (row_slice hrow1) (by simp) (by simp) fun I v2 H2 hI hle2 hf2 hrow2 => ?_
  have eI := ids_one hI
  subst eI
  have hch : [p0.id].filterMap (chgOf (fixP []) (fixP [p0])) = [⟨1, p0⟩] := rfl
  rw [hch] at hrow2
  obtain ⟨a2, c2, rfl⟩ := row_val hrow2
  have hr := row_delO hrow2 (o := blockOf v) fun b hb e => rowat_known hrow1 e (hf2 b hb)
  obtain ⟨A, e, g⟩ := ch_get (row_slice hr) (i := 0) rfl
  subst e
  refine ⟨_, _, c2, rfl, _, row_le hrow1 (fun b o _ => hle2 b o), br (fun _ => ⟨by decide, ptr rfl (ptr rfl (ptr rfl ⟨_, has_first g, br (fun _ => ?_) fun q => by simp at q⟩))⟩) fun q => by simp at q⟩
  refine s_dbet (l := []) (l' := []) (slice_nil _) (slice_nil _) (by simp) (by simp) fun I v3 H3 hI hle3 hf3 hrow3 => ?_
  have eI := ids_nil hI
  subst eI
  obtain ⟨a3, c3, rfl⟩ := row_val hrow3
  exact ⟨a3, _, c3, rfl, k _ (heap_trans (le_delO (heap_trans hle1 hle2) hf1) hle3)⟩
end
end Cr

set_option linter.unusedVariables false
set_option linter.unusedSimpArgs false
namespace Cr
open Go Sx Stb
open Go.Sort (SWO)
open Go.Proofs.Try
set_option linter.unusedSectionVars false
variable [Dr]
set_option maxRecDepth 100000
theorem era_look {id : Int} : ∀ {S : List Pt} {i : Nat}, SId S → S.findIdx? (fun p => p.id == id) = some i → ∀ x, look (S.eraseIdx i) x = if x = id then none else look S x
  | [], _, _, h, _ => by simp at h
  | y :: r, i, hs, h, x => by
    obtain ⟨h1, h2⟩ := List.pairwise_cons.1 hs
    rw [List.findIdx?_cons] at h
    by_cases e : y.id = id
    · rw [if_pos (by simpa using e)] at h
      cases h
      rw [List.eraseIdx_cons_zero, look_cons]
      by_cases q : x = id
      · rw [if_pos q, look_none]
        intro p hp; have := h1 p hp; omega
      · rw [if_neg q, if_neg (by omega)]
    · rw [if_neg (by simpa using e)] at h
      cases hj : r.findIdx? (fun p => p.id == id) with
      | none => rw [hj] at h; cases h
      | some j =>
        rw [hj] at h
        cases h
        rw [List.eraseIdx_cons_succ, look_cons, look_cons, era_look h2 hj x]
        by_cases q : x = id
        · rw [if_pos q, if_pos q, if_neg (by omega)]
        · rw [if_neg q, if_neg q]
theorem set_look {q : Pt} : ∀ {S : List Pt} {i : Nat}, SId S → S.findIdx? (fun p => p.id == q.id) = some i → SId (S.set i q) ∧ ∀ x, look (S.set i q) x = if x = q.id then some q else look S x
  | [], _, _, h => by simp at h
  | y :: r, i, hs, h => by
    obtain ⟨h1, h2⟩ := List.pairwise_cons.1 hs
    rw [List.findIdx?_cons] at h
    by_cases e : y.id = q.id
    · rw [if_pos (by simpa using e)] at h
      cases h
      rw [List.set_cons_zero]
      refine ⟨List.pairwise_cons.2 ⟨fun p hp => by have := h1 p hp; omega, h2⟩, fun x => ?_⟩
      rw [look_cons, look_cons]
      by_cases z : x = q.id
      · rw [if_pos z, if_pos z.symm]
      · rw [if_neg z, if_neg (fun e2 => z e2.symm), if_neg (by omega)]
    · rw [if_neg (by simpa using e)] at h
      cases hj : r.findIdx? (fun p => p.id == q.id) with
      | none => rw [hj] at h; cases h
      | some j =>
        rw [hj] at h
        cases h
        obtain ⟨i1, i2⟩ := set_look h2 hj
        rw [List.set_cons_succ]
        refine ⟨List.pairwise_cons.2 ⟨fun p hp => ?_, i1⟩, fun x => ?_⟩
        · rcases List.mem_or_eq_of_mem_set hp with hp | rfl
          · exact h1 p hp
          · obtain ⟨z, _, hz, ez⟩ := idx_some hj
            have := h1 z (List.mem_of_getElem? hz)
            omega
        · rw [look_cons, look_cons, i2]
          by_cases z : x = q.id
          · rw [if_pos z, if_pos z, if_neg (by omega)]
          · rw [if_neg z, if_neg z]
theorem insR_perm {lt : Pt → Pt → Bool} (x : Pt) : ∀ L : List Pt, (insR lt x L).Perm (x :: L)
  | [] => List.Perm.refl _
  | y :: L => by
    unfold insR
    split
    · exact List.Perm.refl _
    · exact ((insR_perm x L).cons y).trans (List.Perm.swap ..)
theorem isort_perm {lt : Pt → Pt → Bool} (L : List Pt) : (isort lt L).Perm L := by
  suffices H : ∀ (L acc : List Pt), (L.foldl (fun acc x => insR lt x acc) acc).Perm (acc ++ L) by simpa [isort] using H L []
  intro L
  induction L with
  | nil => intro acc; simp
  | cons x L ih =>
    intro acc
    rw [List.foldl_cons]
    refine (ih _).trans ?_
    refine ((insR_perm x acc).append_right L).trans ?_
    exact List.perm_middle.symm
theorem ins_look {q : Pt} {S : List Pt} (hs : SId S) (h : look S q.id = none) : SId (sortP (S ++ [q])) ∧ ∀ x, look (sortP (S ++ [q])) x = if x = q.id then some q else look S x := by
  have hn := look_none.1 h
  refine ⟨?_, fun x => ?_⟩
  · have hp : (sortP (S ++ [q])).Perm (S ++ [q]) := isort_perm _
    have h1 : (S ++ [q]).Pairwise fun a b => a.id ≠ b.id := by
      rw [List.pairwise_append]
      refine ⟨hs.imp fun h => by omega, List.pairwise_singleton _ _, fun a ha b hb => ?_⟩
      obtain rfl := List.mem_singleton.1 hb
      exact hn a ha
    have h2 := (hp.pairwise_iff (R := fun a b : Pt => a.id ≠ b.id) fun h => fun e => h e.symm).2 h1
    exact (List.pairwise_and_iff.2 ⟨sortP_le (S ++ [q]), h2⟩).imp fun h => by omega
  · rw [look_sortP, look_snoc]
    by_cases z : x = q.id
    · subst z; rw [h, if_pos rfl]; simp
    · rw [if_neg z, if_neg (fun e => z e.symm), Option.or_none]
theorem chg_id {A B : List Pt} {id : Int} {c : Ch} (h : chgOf A B id = some c) : c.pt.id = id := by
  unfold chgOf at h
  split at h
  · rename_i e1 e2; cases h; exact (look_some e2).2
  · rename_i e1 e2; cases h; exact (look_some e1).2
  · rename_i e1 e2
    split at h
    · cases h
    · cases h; exact (look_some e2).2
  · cases h
theorem chg_none {A B : List Pt} {id : Int} (h : chgOf A B id = none) : look A id = look B id := by
  unfold chgOf at h
  split at h
  · cases h
  · cases h
  · rename_i e1 e2
    split at h
    · rename_i e; subst e; rw [e1, e2]
    · cases h
  · rename_i e1 e2; rw [e1, e2]
theorem idx_of_look {S : List Pt} {id : Int} {p : Pt} (h : look S id = some p) : ∃ i, S.findIdx? (fun p => p.id == id) = some i := by
  cases e : S.findIdx? (fun p => p.id == id) with
  | some i => exact ⟨i, rfl⟩
  | none => rw [idx_none e] at h; cases h
theorem idx_of_none {S : List Pt} {id : Int} (h : look S id = none) : S.findIdx? (fun p => p.id == id) = none := by
  cases e : S.findIdx? (fun p => p.id == id) with
  | none => rfl
  | some i => obtain ⟨p, h1, _⟩ := idx_some e; rw [h1] at h; cases h
theorem one_chg {A B S : List Pt} {id : Int} {c : Ch} (hs : SId S) (ha : look S id = look A id) (h : chgOf A B id = some c) :
    ∃ S', oneP S c = .ok S' ∧ SId S' ∧ ∀ x, look S' x = if x = id then look B id else look S x := by
  have hid := chg_id h
  unfold chgOf at h
  split at h
  · rename_i q e1 e2
    cases h
    simp only at hid
    subst hid
    rw [e1] at ha
    obtain ⟨h1, h2⟩ := ins_look hs ha
    refine ⟨_, ?_, h1, fun x => by rw [h2, e2]⟩
    unfold oneP
    rw [if_neg (by simp), idx_of_none ha]
    simp
  · rename_i p e1 e2
    cases h
    simp only at hid
    subst hid
    rw [e1] at ha
    obtain ⟨i, hi⟩ := idx_of_look ha
    refine ⟨S.eraseIdx i, ?_, hs.sublist (List.eraseIdx_sublist _ _), fun x => by rw [era_look hs hi, e2]⟩
    unfold oneP
    rw [if_neg (by simp), hi]
    simp
  · rename_i p q e1 e2
    split at h
    · cases h
    cases h
    simp only at hid
    subst hid
    rw [e1] at ha
    obtain ⟨i, hi⟩ := idx_of_look ha
    obtain ⟨h1, h2⟩ := set_look hs hi
    refine ⟨_, ?_, h1, fun x => by rw [h2, e2]⟩
    unfold oneP
    rw [if_neg (by simp), hi]
    simp
  · cases h
theorem apply_all {A B : List Pt} : ∀ (J : List Int) {S : List Pt}, SId S → J.Pairwise (· < ·) → (∀ id ∈ J, look S id = look A id) →
    ∃ S', applyP S (J.filterMap (chgOf A B)) = .ok S' ∧ SId S' ∧ ∀ x, look S' x = if x ∈ J then look B x else look S x
  | [], S, hs, _, _ => ⟨S, rfl, hs, fun x => by simp⟩
  | id :: J, S, hs, hj, ha => by
    obtain ⟨j1, j2⟩ := List.pairwise_cons.1 hj
    have h0 := ha id List.mem_cons_self
    cases e : chgOf A B id with
    | none =>
      obtain ⟨S', h1, h2, h3⟩ := apply_all J (A := A) (B := B) hs j2 fun x hx => ha x (List.mem_cons_of_mem _ hx)
      refine ⟨S', by rw [List.filterMap_cons, e]; exact h1, h2, fun x => ?_⟩
      rw [h3]
      by_cases q : x ∈ J
      · rw [if_pos q, if_pos (List.mem_cons_of_mem _ q)]
      · rw [if_neg q]
        by_cases q2 : x = id
        · subst q2; rw [if_pos List.mem_cons_self, h0, chg_none e]
        · rw [if_neg (by simp [q, q2])]
    | some c =>
      obtain ⟨S1, g1, g2, g3⟩ := one_chg hs h0 e
      obtain ⟨S', h1, h2, h3⟩ := apply_all J (A := A) (B := B) g2 j2 fun x hx => by
        have := j1 x hx
        rw [g3, if_neg (by omega)]
        exact ha x (List.mem_cons_of_mem _ hx)
      refine ⟨S', by rw [List.filterMap_cons, e]; show applyP S (c :: _) = _; rw [applyP, g1]; exact h1, h2, fun x => ?_⟩
      rw [h3]
      by_cases q : x ∈ J
      · rw [if_pos q, if_pos (List.mem_cons_of_mem _ q)]
      · rw [if_neg q, g3]
        by_cases q2 : x = id
        · subst q2; rw [if_pos rfl, if_pos List.mem_cons_self]
        · rw [if_neg q2, if_neg (by simp [q, q2])]
theorem apply_back {A B : List Pt} {I : List Int} (hA : SId A) (hB : SId B) (hI : IdsOf [A, B] I) : applyP A (I.filterMap (chgOf A B)) = .ok B := by
  obtain ⟨S', h1, h2, h3⟩ := apply_all I (A := A) (B := B) hA hI.up fun _ _ => rfl
  rw [h1, sid_eq h2 hB fun x => ?_]
  rw [h3]
  by_cases q : x ∈ I
  · rw [if_pos q]
  · rw [if_neg q]
    rw [hI.mem] at q
    have n1 : look A x = none := look_none.2 fun p hp e => q ⟨A, by simp, p, hp, e⟩
    have n2 : look B x = none := look_none.2 fun p hp e => q ⟨B, by simp, p, hp, e⟩
    rw [n1, n2]
theorem chg_up {A B : List Pt} {I : List Int} (hI : I.Pairwise (· < ·)) : (I.filterMap (chgOf A B)).Pairwise fun c d => c.pt.id < d.pt.id := by
  rw [List.pairwise_filterMap]
  exact hI.imp fun h c hc d hd => by rw [chg_id hc, chg_id hd]; exact h
theorem chg_mem {A B : List Pt} {I : List Int} {c : Ch} (h : c ∈ I.filterMap (chgOf A B)) : chgOf A B c.pt.id = some c := by
  obtain ⟨id, _, h⟩ := List.mem_filterMap.1 h
  rw [chg_id h]; exact h
end Cr

set_option linter.unusedVariables false
set_option linter.unusedSimpArgs false
namespace Cr
open Go Sx Stb
open Go.Sort (SWO)
open Go.Proofs.Try
set_option linter.unusedSectionVars false
variable [Dr]
set_option maxRecDepth 100000
/-- Where an Id is, or -1. -/
inductive Fnd (S : List Pt) (id : Int) : Int → Option Pt → Prop
  | yes (i : Nat) (p : Pt) (h : S[i]? = some p) (hl : look S id = some p) : Fnd S id (i : Int) (some p)
  | no (h : look S id = none) : Fnd S id (-1) none
theorem pt_eqb (p q : Pt) : andO (some (andO (some (andO (some (andO none (p.id == q.id))) (p.x == q.x))) (p.y == q.y))) (p.data == q.data) = decide (p = q) := by
  by_cases h : p = q
  · subst h; simp [andO, ba_beq]
  · rw [decide_eq_false h]
    cases e : andO (some (andO (some (andO (some (andO none (p.id == q.id))) (p.x == q.x))) (p.y == q.y))) (p.data == q.data) with
    | false => rfl
    | true =>
      simp [andO, ba_beq] at e
      exact (h (pt_eta e.1.1.1 e.1.1.2 e.1.2 e.2)).elim
section
variable {H : Heap} {R : Ending → Heap → Prop}
theorem s_lfind' {v : Value} {l : List Pt} {id : Int} (h : SliceAt H v 4 (pts l)) (hl : l.length ≤ 1000000) (k : ∀ n, Fnd l id n (look l id) → R (.returned (vi n)) H) : Meets prog 8 [v, vi id] H R := by
  refine s_lfind h hl (fun i hi => k _ ?_) fun hi => k _ ?_
  · obtain ⟨p, h1, h2, _⟩ := idx_some hi
    rw [h1]; exact .yes i p h2 h1
  · have := idx_none hi
    rw [this]; exact .no this
end
end Cr

set_option linter.unusedVariables false
set_option linter.unusedSimpArgs false
namespace Cr
open Go Sx Stb
open Go.Sort (SWO)
open Go.Proofs.Try
set_option linter.unusedSectionVars false
variable [Dr]
set_option maxRecDepth 100000
theorem pw_get {α : Type} {r : α → α → Prop} {l : List α} (h : l.Pairwise r) {i j : Nat} {x y : α} (hij : i < j) (hx : l[i]? = some x) (hy : l[j]? = some y) : r x y := by
  obtain ⟨hi, rfl⟩ := List.getElem?_eq_some_iff.1 hx
  obtain ⟨hj, rfl⟩ := List.getElem?_eq_some_iff.1 hy
  exact List.pairwise_iff_getElem.1 h i j hi hj hij
section
variable {H : Heap} {R : Ending → Heap → Prop}
theorem s_lbak {v v' : Value} {l l' : List Pt} (h : SliceAt H v 4 (pts l)) (h' : SliceAt H v' 4 (pts l')) (k : ∀ H', H ≤ H' → R (.returned (.bool true)) H') :
    Meets prog 3 [v, v'] H R := by
  obtain ⟨a, n, c, e, hn⟩ := h
  subst e
  have h : SliceAt H (.slice a n c) 4 (pts l) := ⟨a, n, c, rfl, hn⟩
  have hl : l.length = n := by simpa using hn.1
  obtain ⟨a', n', c', e, hn'⟩ := h'
  subst e
  have h' : SliceAt H (.slice a' n' c') 4 (pts l') := ⟨a', n', c', rfl, hn'⟩
  have hl' : l'.length = n' := by simpa using hn'.1
  refine spec_of func3 (by kernel_rfl) (fun t h => by
    have := memN_one h
    subst this
    exact eqOK_of (by kernel_rfl) (by kernel_rfl) (by kernel_rfl)) ?_ (vc_lbak a n c a' n' c' R H) ?_
  · simp [argsR, SV.rep, SC.rep, Sx.one]
  unfold nf_lbak
  simp only [true_and]
  refine s_alive40 fun H0 hle0 => ⟨true, rfl, br (fun q => by cases q) fun _ => br (fun _ => k _ hle0) fun q1 => br (fun _ => k _ hle0) fun q2 => ?_⟩
  have b1 : l.length ≤ 30 := by simp at q1; omega
  have b2 : l'.length ≤ 30 := by simp at q2; omega
  have h := slice_le h hle0
  have h' := slice_le h' hle0
  refine s_dbet h h' (by omega) (by omega) fun I v1 H1 hI hle1 hf1 hrow1 => ?_
  have f1 := fixP_len l
  have f2 := fixP_len l'
  have hIl : I.length ≤ 60 := by have := hI.few; simp at this; omega
  have hup := chg_up (A := fixP l) (B := fixP l') hI.up
  have hmem := fun c => chg_mem (A := fixP l) (B := fixP l') (I := I) (c := c)
  have hap := apply_back (fixP_sid l) (fixP_sid l') hI
  have hLl : (I.filterMap (chgOf (fixP l) (fixP l'))).length ≤ 60 := Nat.le_trans (List.length_filterMap_le _ _) hIl
  generalize hL : I.filterMap (chgOf (fixP l) (fixP l')) = L at *
  have hL1 := row_slice hrow1
  obtain ⟨x1, c1, rfl⟩ := row_val hrow1
  have cl : (chs L).length = L.length := by simp [chs]
  refine ⟨x1, _, c1, rfl, s_dapp (slice_le h hle1) hL1 (by omega) (fun e H2 he _ => by rw [hap] at he; cases he) fun S v2 H2 hS hle2 hf2 hrow2 => ?_⟩
  rw [hap] at hS
  cases hS
  have hY2 := row_slice hrow2
  obtain ⟨x2, c2, rfl⟩ := row_val hrow2
  refine ⟨x2, _, c2, _, rfl, s_lfix (slice_le h (heap_trans hle1 hle2)) (by omega) fun v3 H3 hle3 hf3 hrow3 => ?_⟩
  have hX3 := row_slice hrow3
  obtain ⟨x3, c3, rfl⟩ := row_val hrow3
  refine ⟨x3, _, c3, rfl, s_lfix (slice_le h' (heap_trans hle1 (heap_trans hle2 hle3))) (by omega) fun v4 H4 hle4 hf4 hrow4 => ?_⟩
  have hY4 := row_slice hrow4
  obtain ⟨x4, c4, rfl⟩ := row_val hrow4
  have hX4 := slice_le hX3 hle4
  have hL4 := slice_le hL1 (heap_trans hle2 (heap_trans hle3 hle4))
  have hS4 := slice_le hY2 (heap_trans hle3 hle4)
  generalize hX : fixP l = X at *
  generalize hY : fixP l' = Y at *
  have pl : ∀ S : List Pt, (pts S).length = S.length := fun S => by simp [pts]
  refine ⟨x4, _, c4, rfl, fun p H' => ∃ t : Nat, p.1.1 = (t : Int) ∧ t ≤ L.length ∧ H' = H4, fun p _ => (L.length - p.1.1).toNat, ⟨0, rfl, by omega, rfl⟩, ?_⟩
  rintro ⟨⟨z, _⟩, _⟩ H5 ⟨t, hz, ht, rfl⟩
  simp only at hz ⊢
  subst hz
  rw [cl] at hL4 ⊢
  refine br (fun q3 => ?_) fun q3 => ?_
  · simp only [decide_eq_true_eq] at q3
    obtain ⟨x, hd, _, hx⟩ := drop_cons (l := L) (k := t) (by omega)
    obtain ⟨A, e, g⟩ := ch_get hL4 (i := t) hx
    subst e
    have hcx := hmem x (List.mem_of_getElem? hx)
    have bd : (0 : Int) ≤ (t : Int) ∧ (t : Int) < (L.length : Int) := ⟨by omega, by omega⟩
    have gk : H5.has ((A.add (t * 5)).add 0) [vi x.kd] := has_first g
    have gp : H5.has ((A.add (t * 5)).add 1) (ptC x.pt) := by
      intro j y hj
      have e : ((A.add (t * 5)).add 1).add j = (A.add (t * 5)).add (j + 1) := by cases A with | mk b o s => cases s <;> simp [Addr.add, Nat.add_assoc, Nat.add_comm 1]
      rw [e]
      exact g (j + 1) y hj
    have gi : H5.has (((A.add (t * 5)).add 1).add 0) [vi x.pt.id] := has_first gp
    have ms : ((L.length : Int) - ((t : Int) + 1)).toNat < ((L.length : Int) - (t : Int)).toNat := by omega
    rw [wi64 (k := (t : Int) + 1) (by omega), wi64 (k := (t : Int) - 1) (by omega)]
    have lX : X.length ≤ 1000000 := by omega
    have lY : Y.length ≤ 1000000 := by omega
    refine ⟨H5, heap_refl _, bd, ptr rfl (ptr rfl (ptr rfl (ptr rfl ⟨_, gi, bd, ptr rfl (ptr rfl (ptr rfl (ptr rfl ⟨_, gi, ?_⟩)))⟩)))⟩
    refine s_lfind' hX4 lX fun m1 F1 => ⟨fun b o e _ => e, _, rfl, s_lfind' hY4 lY fun m2 F2 => ⟨fun b o e _ => e, _, rfl, ?_⟩⟩
    refine ⟨fun p H' => p.1.1 = true ∧ H' = H5, ?_, ?_⟩
    · -- the three ways
      have hpp : ∀ p : Pt, andO (some (andO (some (andO (some (andO none (p.id == p.id))) (p.x == p.x))) (p.y == p.y))) (p.data == p.data) = true := fun p => by rw [pt_eqb]; simp
      unfold chgOf at hcx
      generalize hid : x.pt.id = id at *
      cases h1 : look X id with
      | none =>
        cases h2 : look Y id with
        | none => rw [h1, h2] at hcx; cases hcx
        | some q =>
          rw [h1] at hcx F1
          rw [h2] at hcx F2
          cases hcx
          cases F1 with
          | no _ =>
          cases F2 with
          | yes j _ hj _ =>
          have hjl := (List.getElem?_eq_some_iff.1 hj).1
          obtain ⟨A4, e, g4⟩ := pr_get hY4 hj
          subst e
          refine ⟨fun p _ => p.1 = true, ⟨bd, ptr rfl (ptr rfl (ptr rfl ⟨_, gk, br (fun _ => br (fun _ => br (fun _ => ⟨⟨by omega, by rw [pl]; omega⟩, ptr rfl (ptr rfl ⟨_, _, _, _, g4, bd, ptr rfl (ptr rfl (ptr rfl ⟨_, _, _, _, gp, hpp q⟩))⟩)⟩) fun q => by simp at q <;> omega) fun q => by simp at q) fun q => by simp at q⟩))⟩, ?_⟩
          rintro ⟨b, _⟩ _ hb
          simp only at hb ⊢
          subst hb
          refine ⟨fun p _ => p.1 = true, br (fun _ => rfl) fun q => by simp at q, ?_⟩
          rintro ⟨b, _⟩ _ hb
          simp only at hb ⊢
          subst hb
          exact br (fun _ => by simp) fun q => by simp at q
      | some p =>
        cases h2 : look Y id with
        | none =>
          rw [h1] at hcx F1
          rw [h2] at hcx F2
          cases hcx
          cases F1 with
          | yes i _ hi _ =>
          cases F2 with
          | no _ =>
          have hil := (List.getElem?_eq_some_iff.1 hi).1
          obtain ⟨A3, e, g3⟩ := pr_get hX4 hi
          subst e
          refine ⟨fun p _ => p.1 = false, ⟨bd, ptr rfl (ptr rfl (ptr rfl ⟨_, gk, br (fun q => by simp at q) fun _ => rfl⟩))⟩, ?_⟩
          rintro ⟨b, _⟩ _ hb
          simp only at hb ⊢
          subst hb
          refine ⟨fun p _ => p.1 = true, br (fun q => by simp at q) fun _ => ⟨bd, ptr rfl (ptr rfl (ptr rfl ⟨_, gk, br (fun _ => br (fun _ => br (fun _ => ⟨⟨by omega, by rw [pl]; omega⟩, ptr rfl (ptr rfl ⟨_, _, _, _, g3, bd, ptr rfl (ptr rfl (ptr rfl ⟨_, _, _, _, gp, hpp p⟩))⟩)⟩) fun q => by simp at q) fun q => by simp at q <;> omega) fun q => by simp at q⟩))⟩, ?_⟩
          rintro ⟨b, _⟩ _ hb
          simp only at hb ⊢
          subst hb
          exact br (fun _ => by simp) fun q => by simp at q
        | some q =>
          rw [h1] at hcx F1
          rw [h2] at hcx F2
          simp only at hcx
          by_cases hpq : p = q
          · rw [if_pos hpq] at hcx; cases hcx
          rw [if_neg hpq] at hcx
          cases hcx
          cases F1 with
          | yes i _ hi _ =>
          cases F2 with
          | yes j _ hj _ =>
          have hil := (List.getElem?_eq_some_iff.1 hi).1
          have hjl := (List.getElem?_eq_some_iff.1 hj).1
          obtain ⟨A3, e, g3⟩ := pr_get hX4 hi
          subst e
          obtain ⟨A4, e, g4⟩ := pr_get hY4 hj
          subst e
          refine ⟨fun p _ => p.1 = false, ⟨bd, ptr rfl (ptr rfl (ptr rfl ⟨_, gk, br (fun q => by simp at q) fun _ => rfl⟩))⟩, ?_⟩
          rintro ⟨b, _⟩ _ hb
          simp only at hb ⊢
          subst hb
          refine ⟨fun p _ => p.1 = false, br (fun q => by simp at q) fun _ => ⟨bd, ptr rfl (ptr rfl (ptr rfl ⟨_, gk, br (fun q => by simp at q) fun _ => rfl⟩))⟩, ?_⟩
          rintro ⟨b, _⟩ _ hb
          simp only at hb ⊢
          subst hb
          refine br (fun q => by simp at q) fun _ => ⟨bd, ptr rfl (ptr rfl (ptr rfl ⟨_, gk, br (fun _ => br (fun _ => br (fun _ => ⟨⟨by omega, by rw [pl]; omega⟩, ptr rfl (ptr rfl ⟨_, _, _, _, g4, bd, ptr rfl (ptr rfl (ptr rfl ⟨_, _, _, _, gp, ?_⟩))⟩)⟩) fun q => by simp at q <;> omega) fun q => by simp at q <;> omega) fun q => by simp at q⟩))⟩
          refine br (fun _ => ⟨⟨by omega, by rw [pl]; omega⟩, ptr rfl (ptr rfl ⟨_, _, _, _, g3, ⟨by omega, by rw [pl]; omega⟩, ptr rfl (ptr rfl ⟨_, _, _, _, g4, ?_, rfl⟩)⟩)⟩) fun qq => by rw [hpp q] at qq; cases qq
          rw [pt_eqb, decide_eq_false hpq]
          rfl
    rintro ⟨⟨b, _⟩, _⟩ H6 ⟨hb, rfl⟩
    simp only at hb ⊢
    subst hb
    have next : ∃ t' : Nat, ((t : Int) + 1) = (t' : Int) ∧ t' ≤ L.length ∧ True := ⟨t + 1, by simp, by omega, trivial⟩
    refine br (fun q => by simp at q) fun _ => br (fun q4 => ?_) fun _ => ⟨next, ms⟩
    simp only [decide_eq_true_eq] at q4
    obtain ⟨y, hy⟩ : ∃ y, L[t - 1]? = some y := ⟨L[t - 1]'(by omega), List.getElem?_eq_getElem (by omega)⟩
    obtain ⟨A', e, g'⟩ := ch_get hL4 (i := t - 1) hy
    cases e
    have e1 : ((t : Int) - 1).toNat = t - 1 := by omega
    have gp' : H6.has ((A.add ((t - 1) * 5)).add 1) (ptC y.pt) := by
      intro j z hj
      have e : ((A.add ((t - 1) * 5)).add 1).add j = (A.add ((t - 1) * 5)).add (j + 1) := by cases A with | mk b o s => cases s <;> simp [Addr.add, Nat.add_assoc, Nat.add_comm 1]
      rw [e]
      exact g' (j + 1) z hj
    rw [e1]
    refine ⟨⟨by omega, by omega⟩, ptr rfl (ptr rfl (ptr rfl (ptr rfl ⟨_, has_first gp', bd, ptr rfl (ptr rfl (ptr rfl (ptr rfl ⟨_, gi, br (fun q5 => ?_) fun _ => ⟨next, ms⟩⟩)))⟩)))⟩
    simp only [decide_eq_true_eq] at q5
    have := pw_get hup (i := t - 1) (j := t) (by omega) hy hx
    omega
  · refine br (fun _ => ?_) fun q => by simp at q
    refine s_points hS4 hY4 (by omega) ⟨_, rfl, ?_⟩
    rw [decide_eq_true rfl]
    exact k _ (heap_trans hle0 (heap_trans hle1 (heap_trans hle2 (heap_trans hle3 hle4))))
end
end Cr

set_option linter.unusedVariables false
set_option linter.unusedSimpArgs false
namespace Sx
open Go
set_option linter.unusedSectionVars false
variable [Dr]
section
variable {P : Program} {H : Type} {enc : TypeId × Value → H} {W : World}
theorem open_sl {E : Type} [Inhabited E] {tS tE sz by_ : Nat} {cell : E → List Value} {Q : E → Prop} (hS : P.underlying tS = some (.slice tE)) (hc : P.cellsOf tE = sz) (hby : P.bytesOf tE = by_) (hsz : 0 < sz) (hcl : ∀ e, (cell e).length = sz)
    (hon : ∀ e, ∀ x ∈ cell e, one x = true)
    (op : ∀ (fuel : Nat) (cs : List Value) (y : DataW H × List MemPlace), DataW.trod enc P W 0 (fun _ => true) true fuel tE cs = some y → ∃ e, cs = cell e ∧ Q e)
    {v : Value} {d : DataW H} {ps : List MemPlace} {base : Nat} (hv : Value.okWide P W .any base tS v) (h : DataW.Trod enc P W 0 (fun _ => true) true tS v d ps) :
    ∃ l : List E, SliceAt (full W) v sz (l.map cell) ∧ (∀ e ∈ l, Q e) ∧ ((d.weights P tS).all (· ≤ reachBytes) = true → l.length * by_ ≤ reachBytes) := by
  obtain ⟨a, len, cap, rfl⟩ := Go.WideShapes.okWide_slice hS hv
  obtain ⟨fuel, hf⟩ := h
  rcases Go.Deep.open_slice hS hf with ⟨e, e2⟩ | ⟨A, ln, cp, m, n, D, Pl, e, hb, hl, hm, hmm, e2, hx⟩
  · cases e
    exact ⟨[], ⟨none, 0, 0, rfl, rfl, Nat.le_refl _, by simp, by simp, by simp⟩, by simp, by simp⟩
  · cases e
    obtain ⟨rfl, -⟩ := Prod.mk.inj e2
    simp only [if_true] at hmm
    subst hmm
    have a0 : A.add (0 * sz) = A := by rw [Nat.zero_mul]; rfl
    have a1 : ∀ B : Addr, B.add 0 = B := fun B => rfl
    have pick : ∀ i, ∃ p : E, i < len → Q p ∧ (full W).has (A.add (i * sz)) (cell p) ∧ A.spot = none := fun i => by
      by_cases hi : i < len
      · obtain ⟨cs', h1, h2⟩ := hx i (by omega)
        rw [hc] at h1
        obtain ⟨p, rfl, hp⟩ := op _ _ _ h2
        obtain ⟨_, h3, h4⟩ := World.cells?_some h1
        refine ⟨p, fun _ => ⟨hp, ?_, ?_⟩⟩
        · intro j x hj
          have hj4 : j < sz := by have := (List.getElem?_eq_some_iff.1 hj).1; rw [hcl] at this; exact this
          have := h4 j hj4
          rw [hj] at this
          exact this
        · obtain ⟨cs0, k1, k2⟩ := hx 0 (by omega)
          rw [hc] at k1
          obtain ⟨k5, k3, k4⟩ := World.cells?_some k1
          have := k4 0 hsz
          rw [a0, a1, List.getElem?_eq_getElem (by omega)] at this
          unfold World.cell? at this
          split at this
          · split at this
            · cases this
            · rename_i hs
              simpa using hs
          · cases this
      · exact ⟨default, fun h => absurd h hi⟩
    obtain ⟨f, hf⟩ := Classical.axiomOfChoice pick
    refine ⟨(List.range len).map f, ⟨some A, len, _, rfl, by simp, hl, ?_, ?_, fun i e he => ?_⟩, ?_, fun hw => ?_⟩
    · intro e he
      obtain ⟨p, _, rfl⟩ := List.mem_map.1 he
      exact hcl p
    · intro e he
      obtain ⟨p, _, rfl⟩ := List.mem_map.1 he
      exact hon p
    · simp only [List.getElem?_map] at he
      obtain ⟨p, hp, rfl⟩ := Option.map_eq_some_iff.1 he
      obtain ⟨i', hi', rfl⟩ := Option.map_eq_some_iff.1 hp
      have hlt := (List.getElem?_eq_some_iff.1 hi').1
      have hii : i' = i := by have := (List.getElem?_eq_some_iff.1 hi').2; simp at this; omega
      subst hii
      obtain ⟨_, g1, g2⟩ := hf i' (by simpa using hlt)
      exact ⟨A, rfl, g2, g1⟩
    · intro p hp
      obtain ⟨i, hi, rfl⟩ := List.mem_map.1 hp
      exact (hf i (List.mem_range.1 hi)).1
    · simp only [DataW.weights, hS, List.all_cons, Bool.and_eq_true, decide_eq_true_eq, List.length_map, List.length_range, hby] at hw
      simp only [List.length_map, List.length_range]
      have h0 := hw.1
      exact Nat.le_trans (Nat.mul_le_mul_right _ (Nat.le_add_right _ _)) h0
end
end Sx

set_option linter.unusedVariables false
set_option linter.unusedSimpArgs false
namespace Cr
open Go Sx
open Go.Proofs.Try
set_option linter.unusedSectionVars false
variable [Dr]
set_option maxRecDepth 100000
theorem own : ownKnob Go.Proofs.Try.prog.godebug = none := by kernel_rfl
theorem laidOut : laidOutB Go.Proofs.Try.prog = true := by kernel_rfl
section
variable {H : Type} {enc : TypeId × Value → H} {W : World}
theorem u32_wf {b : Int} (w : (Lit.int .u32 b).wf = true) : U32 b := by simp [Lit.wf, IntKind.min, IntKind.max, IntKind.bits, IntKind.signed] at w; omega
theorem i64_wf {b : Int} (w : (Lit.int .i64 b).wf = true) : -9223372036854775808 ≤ b ∧ b ≤ 9223372036854775807 := by simp [Lit.wf, IntKind.min, IntKind.max, IntKind.bits, IntKind.signed] at w; omega
abbrev I64 (x : Int) : Prop := -9223372036854775808 ≤ x ∧ x ≤ 9223372036854775807
theorem openPt {fuel : Nat} {cs : List Value} {y : DataW H × List MemPlace} (h : DataW.trod enc prog W 0 (fun _ => true) true fuel 33 cs = some y) : ∃ p : Pt, cs = ptC p ∧ (U32 p.x ∧ U32 p.y) ∧ I64 p.id := by
  obtain ⟨y0, y1, y2, y3, n, _, hl, h0, h1, h2, h3⟩ := Go.Joins.trod_struct4 Go.Proofs.Try.underlying33 h
  obtain ⟨a, e0, _, w0⟩ := DataW.trod_int Go.Proofs.Try.underlying3 h0
  obtain ⟨b, e1, _, w1⟩ := DataW.trod_int Go.Proofs.Try.underlying31 h1
  obtain ⟨c, e2, _, w2⟩ := DataW.trod_int Go.Proofs.Try.underlying31 h2
  obtain ⟨s, e3, _, _⟩ := DataW.trod_string Go.Proofs.Try.underlying9 h3
  have c4 : prog.cellsOf 33 = 4 := by kernel_rfl
  have c1 : prog.cellsOf 3 = 1 := by kernel_rfl
  have c2 : prog.cellsOf 31 = 1 := by kernel_rfl
  have c3 : prog.cellsOf 9 = 1 := by kernel_rfl
  rw [c4] at hl
  match cs, hl with
  | [q0, q1, q2, q3], _ =>
    simp only [c1, c2, c3, List.drop_zero, List.drop_succ_cons, List.take_succ_cons, List.take_zero] at e0 e1 e2 e3
    cases e0; cases e1; cases e2; cases e3
    exact ⟨⟨a, b, c, s⟩, rfl, ⟨u32_wf w1, u32_wf w2⟩, i64_wf w0⟩
theorem openPts {v : Value} {d : DataW H} {ps : List MemPlace} {base : Nat} (hv : Value.okWide prog W .any base 22 v) (h : DataW.Trod enc prog W 0 (fun _ => true) true 22 v d ps) :
    ∃ l : List Pt, SliceAt (full W) v 4 (pts l) ∧ (∀ p ∈ l, (U32 p.x ∧ U32 p.y) ∧ I64 p.id) ∧ ((d.weights prog 22).all (· ≤ reachBytes) = true → l.length ≤ 10000000000000) := by
  obtain ⟨l, h1, h2, h3⟩ := open_sl (P := prog) (cell := ptC) (Q := fun p => (U32 p.x ∧ U32 p.y) ∧ I64 p.id) (sz := 4) (by_ := 32) Go.Proofs.Try.underlying22 (by kernel_rfl) (by kernel_rfl) (by omega) (fun _ => rfl) ptC_one (fun _ _ _ h => openPt h) hv h
  refine ⟨l, h1, h2, fun hw => ?_⟩
  have := h3 hw
  unfold reachBytes at this
  omega
end
end Cr
