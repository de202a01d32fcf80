/- Own texts, one behind the other: D3, D4, D6, D5, D9, D10, D14, D8, D15, SxOpen, A9. -/
import Derived.Deep.Slices
import Derived.Deep.Strs
import Derived.Test.YtadjpaecgbfkkaaRows
import Derived.Test.YtadjpaecgbfkkaaChecked
import Derived.Test.YtadjpaecgbfkkaaZ4
set_option linter.unusedVariables false
set_option linter.unusedSimpArgs false
namespace Cr
open Go Sx Stb
open Go.Sort (SWO)
open Go.Proofs.Try
set_option maxRecDepth 100000
/-- A predicate of two points. -/
def Pred2 (g : Nat) (f : Pt → Pt → Bool) : Prop := ∀ (p q : Pt) (H : Heap) (R : Ending → Heap → Prop), R (.returned (.bool (f p q))) H → Meets prog g [ptV p, ptV q] H R
/-- What stays behind an element. -/
def cptG (f : Pt → Pt → Bool) (y : Pt) : List Pt → List Pt
  | [] => []
  | x :: r => if f x y then cptG f x r else x :: cptG f x r
def cpt (f : Pt → Pt → Bool) : List Pt → List Pt
  | [] => []
  | x :: r => x :: cptG f x r
theorem cptG_snoc (f : Pt → Pt → Bool) (x : Pt) : ∀ (r : List Pt) (y z : Pt), (y :: r).getLast? = some z → cptG f y (r ++ [x]) = cptG f y r ++ (if f x z then [] else [x])
  | [], y, z, h => by
    simp at h; subst h
    simp only [List.nil_append, cptG]
  | w :: r, y, z, h => by
    have ih := cptG_snoc f x r w z (by simpa using h)
    rw [List.cons_append, cptG, cptG, ih]
    split <;> simp
theorem cpt_snoc (f : Pt → Pt → Bool) (x z : Pt) {l : List Pt} (h : l.getLast? = some z) : cpt f (l ++ [x]) = cpt f l ++ (if f x z then [] else [x]) := by
  cases l with
  | nil => cases h
  | cons y r =>
    rw [List.cons_append, cpt, cpt, cptG_snoc f x r y z h]
    simp
theorem take_last {l : List Pt} {t : Nat} {y : Pt} (h0 : 0 < t) (h : l[t - 1]? = some y) : (l.take t).getLast? = some y := by
  have hl := (List.getElem?_eq_some_iff.1 h).1
  rw [List.getLast?_eq_getElem?, List.length_take, List.getElem?_take_of_lt (by omega), show min t l.length - 1 = t - 1 by omega]
  exact h
section
variable {H : Heap} {R : Ending → Heap → Prop}
theorem s_cpf {g : Nat} {f : Pt → Pt → Bool} (hf : Pred2 g f) {v : Value} {ty : Nat} {l : List Pt} (h : RowAt H v ty 4 (pts l)) (hl : l.length ≤ 1000000)
    (k : ∀ v' H', RowAt H' v' ty 4 (pts (cpt f l)) → blockOf v' = blockOf v → Mod v H H' → R (.returned v') H') : Meets prog 85 [v, .func (.func g) #[] #[]] H R := by
  obtain ⟨a, c, rfl⟩ := row_val h
  have hpl : (pts l).length = l.length := by simp [pts]
  rw [hpl] at h k ⊢
  refine spec_of func85 (by kernel_rfl) (fun t h => by cases h) ?_ (vc_cpf a l.length c g R H) ?_
  · simp [argsR, SV.rep, SC.rep, Sx.one]
  unfold nf_cpf
  simp only [true_and]
  refine br (fun q => ?_) fun q => ?_
  · have : cpt f l = l := by
      match l, q with
      | [], _ => rfl
      | [x], _ => rfl
      | x :: y :: r, q => simp at q; omega
    rw [this] at k
    exact k _ _ h rfl (Mod.refl _ _)
  have h2 : 2 ≤ l.length := by simp at q; omega
  obtain ⟨A, rfl⟩ : ∃ A, a = some A := by
    obtain ⟨A, e, _⟩ := pr_get (row_slice h) (i := 0) (p := l[0]) (List.getElem?_eq_getElem (by omega))
    exact ⟨A, e⟩
  have hsp : A.spot = none := by
    obtain ⟨A', e, hs, _⟩ := slice_get (row_slice h) (i := 0) (e := ptC l[0]) (by show (l.map ptC)[0]? = _; rw [List.getElem?_map, List.getElem?_eq_getElem (by omega)]; rfl)
    cases e; exact hs
  have hcap := (row_len h).2
  refine ⟨fun p H' => ∃ t : Nat, p.1.1 = (t : Int) ∧ 1 ≤ t ∧ t ≤ l.length ∧ cpt f (l.take t) = l.take t ∧ H' = H, fun p _ => (l.length - p.1.1).toNat, ⟨1, rfl, by omega, by omega, ?_, rfl⟩, ?_⟩
  · match l, h2 with
    | x :: r, _ => simp [cpt, cptG]
  rintro ⟨⟨i, _⟩, _⟩ H1 ⟨t, hi, ht1, ht, hcp, rfl⟩
  simp only at hi ⊢
  subst hi
  refine br (fun q1 => ?_) fun q1 => ?_
  rotate_left
  · simp only [decide_eq_false_iff_not] at q1
    rw [List.take_of_length_le (by omega)] at hcp
    rw [hcp] at k
    exact k _ _ h rfl (Mod.refl _ _)
  simp only [decide_eq_true_eq] at q1
  obtain ⟨x, hd, htk, hx⟩ := drop_cons (l := l) (k := t) (by omega)
  obtain ⟨y, _, _, hy⟩ := drop_cons (l := l) (k := t - 1) (by omega)
  obtain ⟨A1, e, g1⟩ := pr_get (row_slice h) (i := t) hx
  cases e
  obtain ⟨A2, e, g2⟩ := pr_get (row_slice h) (i := t - 1) hy
  cases e
  rw [wi64 (k := (t : Int) - 1) (by omega), wi64 (k := (t : Int) + 1) (by omega), show ((t : Int) - 1).toNat = t - 1 by omega]
  refine ⟨H1, fun _ _ e => e, ⟨by omega, by omega⟩, ptr rfl (ptr rfl ⟨_, _, _, _, g1, ⟨by omega, by omega⟩, ptr rfl (ptr rfl ⟨_, _, _, _, g2, hf x y _ _ ⟨keep_same _ _ _, _, rfl, ?_⟩⟩)⟩)⟩
  have hsn := cpt_snoc f x y (l := l.take t) (take_last (by omega) hy)
  rw [← htk, hcp] at hsn
  simp only [delLs_nil]
  refine br (fun q2 => ?_) fun q2 => ?_
  rotate_left
  · rw [q2] at hsn
    simp only [Bool.false_eq_true, if_false] at hsn
    exact ⟨⟨t + 1, by simp, by omega, by omega, by rw [hsn, htk], by trivial⟩, by simp; omega⟩
  rw [Int.toNat_natCast]
  have hsub : ∀ j : Nat, PtrK (subAddr (some A) c t 4) = PtrK (some ⟨A.block, A.off + t * 4, none⟩) := fun j => by
    have : subAddr (some A) c t 4 = some ⟨A.block, A.off + t * 4, none⟩ := by
      unfold subAddr
      rw [if_neg (by omega)]
      simp [add_spot hsp]
    rw [this]
  rw [hsub 0]
  have hadr : ∀ j : Nat, (⟨A.block, A.off + t * 4, none⟩ : Addr).add (j * 4) = A.add ((t + j) * 4) := fun j => by
    rw [add_spot rfl, add_spot hsp]; simp only [Addr.mk.injEq, and_true, true_and]; omega
  -- t: the first place that is told twice
  refine ⟨by omega, fun p H' => ∃ (s : Nat) (F M : List Pt) (z : Pt), p.1.2.1 = (s : Int) ∧ 1 ≤ s ∧ t + s ≤ l.length ∧ F = cpt f (l.take (t + s)) ∧ p.1.1 = (F.length : Int) ∧ l[t + s - 1]? = some z ∧ F.length + M.length + 1 = t + s ∧ RowAt H' (.slice (some A) l.length c) ty 4 (pts (F ++ M ++ [z] ++ l.drop (t + s))) ∧ Mod (.slice (some A) l.length c) H1 H', fun p _ => (l.length - p.1.2.1).toNat, ⟨1, l.take t, [], x, rfl, by omega, by omega, ?_, ?_, by rw [Nat.add_sub_cancel]; exact hx, by simp; omega, ?_, Mod.refl _ _⟩, ?_⟩
  · rw [hsn, q2]; simp
  · rw [List.length_take]; simp; omega
  · have : l.take t ++ [] ++ [x] ++ l.drop (t + 1) = l := by
      rw [List.append_nil, ← htk, List.take_append_drop]
    rw [this]; exact h
  rintro ⟨⟨w, i, _⟩, _⟩ H2 ⟨s, F, M, z, hi, hs1, hs, hF, hw, hz, hlen, hrow, hmod⟩
  simp only at hi hw ⊢
  subst hi; subst hw
  refine br (fun q3 => ?_) fun q3 => ?_
  · simp only [decide_eq_true_eq] at q3
    obtain ⟨u, hd2, htk2, hu⟩ := drop_cons (l := l) (k := t + s) (by omega)
    have gu : (F ++ M ++ [z] ++ l.drop (t + s))[t + s]? = some u := by
      rw [List.getElem?_append_right (by simp; omega)]
      simp only [List.length_append, List.length_singleton]
      rw [show t + s - (F.length + M.length + 1) = 0 by omega, hd2]; rfl
    have gz : (F ++ M ++ [z] ++ l.drop (t + s))[t + s - 1]? = some z := by
      rw [List.getElem?_append_left (by simp; omega), List.getElem?_append_right (by simp; omega)]
      simp only [List.length_append]
      rw [show t + s - 1 - (F.length + M.length) = 0 by omega]; rfl
    obtain ⟨A3, e, g3⟩ := pr_get (row_slice hrow) (i := t + s) gu
    cases e
    obtain ⟨A4, e, g4⟩ := pr_get (row_slice hrow) (i := t + s - 1) gz
    cases e
    have hsn2 := cpt_snoc f u z (l := l.take (t + s)) (take_last (by omega) hz)
    rw [← htk2, ← hF] at hsn2
    rw [wi64 (k := (s : Int) - 1) (by omega), wi64 (k := (s : Int) + 1) (by omega), show ((s : Int) - 1).toNat = s - 1 by omega, Int.toNat_natCast]
    have b1 : (0 : Int) ≤ (s : Int) ∧ (s : Int) < ((l.length - t : Nat) : Int) := ⟨by omega, by omega⟩
    have b2 : (0 : Int) ≤ (s : Int) - 1 ∧ (s : Int) - 1 < ((l.length - t : Nat) : Int) := ⟨by omega, by omega⟩
    have e3 : H2.has ((⟨A.block, A.off + t * 4, none⟩ : Addr).add (s * 4)) (ptC u) := by rw [hadr]; exact g3
    have e4 : H2.has ((⟨A.block, A.off + t * 4, none⟩ : Addr).add ((s - 1) * 4)) (ptC z) := by rw [hadr, show t + (s - 1) = t + s - 1 by omega]; exact g4
    refine ⟨H2, fun _ _ e => e, b1, ptr rfl (ptr rfl ⟨_, _, _, _, e3, b2, ptr rfl (ptr rfl ⟨_, _, _, _, e4, hf u z _ _ ⟨keep_same _ _ _, _, rfl, ?_⟩⟩)⟩)⟩
    refine br (fun q4 => ?_) fun q4 => ?_
    · have q4 : f u z = false := by simpa using q4
      rw [q4] at hsn2
      simp only [Bool.false_eq_true, if_false] at hsn2
      have hFl : F.length < l.length := by omega
      obtain ⟨c1, m1, r1, d1⟩ := pr_put hrow (i := F.length) hFl u
      have hset : ∃ M', M'.length = M.length ∧ (F ++ M ++ [z] ++ l.drop (t + s)).set F.length u = (F ++ [u]) ++ M' ++ [u] ++ l.drop (t + s + 1) := by
        rw [hd2]
        cases M with
        | nil => exact ⟨[], rfl, by simp⟩
        | cons m M' => exact ⟨M' ++ [z], by simp, by simp⟩
      obtain ⟨M', hM', hset⟩ := hset
      rw [hset] at r1
      rw [Int.toNat_natCast, wi64 (k := (F.length : Int) + 1) (by omega)]
      refine ⟨b1, ptr rfl (ptr rfl ⟨_, _, _, _, e3, ⟨by omega, by omega⟩, ptr rfl (ptr rfl ⟨_, _, m1, ⟨s + 1, F ++ [u], M', u, by simp, by omega, by omega, ?_, by simp, ?_, by simp; omega, ?_, hmod.trans d1⟩, by simp; omega⟩)⟩)⟩
      · rw [← hsn2]; rfl
      · rw [show t + (s + 1) - 1 = t + s by omega]; exact hu
      · exact r1
    · have q4 : f u z = true := by simpa using q4
      rw [q4] at hsn2
      simp only [if_true, List.append_nil] at hsn2
      refine ⟨⟨s + 1, F, M ++ [z], u, by simp, by omega, by omega, ?_, rfl, ?_, by simp; omega, ?_, hmod⟩, by simp; omega⟩
      · rw [← hsn2]; rfl
      · rw [show t + (s + 1) - 1 = t + s by omega]; exact hu
      · rw [hd2] at hrow
        have : F ++ (M ++ [z]) ++ [u] ++ l.drop (t + (s + 1)) = F ++ M ++ [z] ++ u :: l.drop (t + s + 1) := by simp [Nat.add_assoc]
        rw [this]; exact hrow
  · simp only [decide_eq_false_iff_not] at q3
    have hts : t + s = l.length := by omega
    rw [hts, List.take_length] at hF
    rw [hts, List.drop_length, List.append_nil, List.append_assoc] at hrow
    rw [← hF] at k
    have hz2 : pts (F ++ (M ++ [z])) = pts F ++ pts (M ++ [z]) := by simp [pts]
    rw [hz2] at hrow
    obtain ⟨cl, ⟨e1, e2, e3⟩, r1, d1⟩ := row_fill hrow (ws := List.replicate (l.length - F.length) [vi 0, .int .u32 0, .int .u32 0, .string { data := #[] }]) (by simp [pts]; omega) (by intro e he; rw [List.eq_of_mem_replicate he]; rfl) (by intro e he x hx; rw [List.eq_of_mem_replicate he] at hx; simp at hx; rcases hx with rfl | rfl | rfl | rfl <;> rfl)
    have hfl : (pts F).length = F.length := by simp [pts]
    have hsub2 : subAddr (some A) c F.length 4 = some ⟨A.block, A.off + F.length * 4, none⟩ := by
      unfold subAddr
      rw [if_neg (by omega)]
      simp [add_spot e2]
    have hsub0 : subAddr (some A) c 0 4 = some A := by
      unfold subAddr
      split
      · rfl
      · simp
    rw [Int.toNat_natCast, hsub0, Nat.sub_zero, Nat.sub_zero]
    rw [List.length_replicate] at e3
    refine ⟨⟨by omega, by omega⟩, .inr ⟨_, cl, ty, hsub2, ⟨e1, rfl, ?_⟩, ⟨by omega, by omega⟩, ?_⟩⟩
    · rw [hfl] at e3; exact e3
    · rw [hfl] at r1 d1
      have := row_prefix r1
      rw [hfl] at this
      exact k _ _ this rfl (hmod.trans d1)
end
end Cr

set_option linter.unusedVariables false
set_option linter.unusedSimpArgs false
namespace Cr
open Go Sx Stb
open Go.Sort (SWO)
open Go.Proofs.Try
set_option maxRecDepth 100000
/-- The point of an Id. -/
def look (L : List Pt) (id : Int) : Option Pt := L.find? fun p => p.id == id
abbrev SId (L : List Pt) : Prop := L.Pairwise fun p q => p.id < q.id
abbrev eqId (p q : Pt) : Bool := p.id == q.id
/-- The first of each Id, by Id. -/
def fixP (l : List Pt) : List Pt := cpt eqId (sortP l)
theorem look_cons (x : Pt) (r : List Pt) (id : Int) : look (x :: r) id = if x.id = id then some x else look r id := by
  unfold look
  rw [List.find?_cons]
  by_cases h : x.id = id
  · rw [if_pos h, show (x.id == id) = true by simpa using h]
  · rw [if_neg h, show (x.id == id) = false by simpa using h]
theorem look_snoc (x : Pt) (r : List Pt) (id : Int) : look (r ++ [x]) id = (look r id).or (if x.id = id then some x else none) := by
  unfold look
  rw [List.find?_append]
  congr 1
  have := look_cons x [] id
  unfold look at this
  rw [this]; rfl
theorem look_some {l : List Pt} {id : Int} {p : Pt} (h : look l id = some p) : p ∈ l ∧ p.id = id := ⟨List.mem_of_find?_eq_some h, by simpa using List.find?_some h⟩
theorem look_none {l : List Pt} {id : Int} : look l id = none ↔ ∀ p ∈ l, p.id ≠ id := by
  unfold look
  rw [List.find?_eq_none]
  simp
theorem cptG_look : ∀ (r : List Pt) (y : Pt), (y :: r).Pairwise (fun p q => p.id ≤ q.id) → SId (y :: cptG eqId y r) ∧ ∀ id, look (y :: cptG eqId y r) id = look (y :: r) id
  | [], y, _ => ⟨by simp [cptG], fun id => rfl⟩
  | x :: r, y, h => by
    obtain ⟨h1, h2⟩ := List.pairwise_cons.1 h
    obtain ⟨ih1, ih2⟩ := cptG_look r x h2
    have hxy := h1 x List.mem_cons_self
    obtain ⟨i1, i2⟩ := List.pairwise_cons.1 ih1
    unfold cptG
    by_cases e : x.id = y.id
    · have e1 : eqId x y = true := by simpa using e
      rw [if_pos e1]
      refine ⟨List.pairwise_cons.2 ⟨fun z hz => by have := i1 z hz; omega, i2⟩, fun id => ?_⟩
      have := ih2 id
      rw [look_cons, look_cons] at this
      rw [look_cons, look_cons, look_cons]
      by_cases q : y.id = id
      · rw [if_pos q, if_pos q]
      · rw [if_neg q, if_neg q]
        rw [if_neg (by omega), if_neg (by omega)] at this
        rw [if_neg (by omega)]
        exact this
    · have e1 : ¬ eqId x y = true := by simpa using e
      rw [if_neg e1]
      refine ⟨List.pairwise_cons.2 ⟨fun z hz => ?_, ih1⟩, fun id => ?_⟩
      · rcases List.mem_cons.1 hz with rfl | hz
        · omega
        · have := i1 z hz; omega
      · rw [look_cons y, look_cons y, ih2 id]
theorem sortP_le (l : List Pt) : (sortP l).Pairwise fun p q => p.id ≤ q.id := (isort_srtd swo_I l).imp fun {p q} h => by simpa using h
theorem look_sortP (l : List Pt) (id : Int) : look (sortP l) id = look l id := by
  have h := isort_stab swo_I l ⟨id, 0, 0, default⟩
  have e : eqv ltI ⟨id, 0, 0, default⟩ = fun p => p.id == id := by
    funext p
    unfold eqv
    by_cases q : p.id = id
    · subst q; simp
    · have : (p.id == id) = false := by simpa using q
      rw [this]
      by_cases q2 : id < p.id
      · simp [q2]
      · have : p.id < id := by omega
        simp [this]
  rw [e] at h
  have := congrArg List.head? h
  rw [List.head?_filter, List.head?_filter] at this
  exact this
theorem fixP_sid (l : List Pt) : SId (fixP l) := by
  unfold fixP
  have h := sortP_le l
  cases q : sortP l with
  | nil => simp [cpt]
  | cons y r => rw [q] at h; exact (cptG_look r y h).1
theorem look_fixP (l : List Pt) (id : Int) : look (fixP l) id = look l id := by
  rw [← look_sortP l id]
  unfold fixP
  have h := sortP_le l
  cases q : sortP l with
  | nil => rfl
  | cons y r => rw [q] at h; exact (cptG_look r y h).2 id
theorem cptG_len (f : Pt → Pt → Bool) : ∀ (r : List Pt) (y : Pt), (cptG f y r).length ≤ r.length
  | [], _ => by simp [cptG]
  | x :: r, y => by
    have := cptG_len f r x
    unfold cptG
    split <;> simp <;> omega
theorem fixP_len (l : List Pt) : (fixP l).length ≤ l.length := by
  rw [← sortP_len l]
  unfold fixP
  cases sortP l with
  | nil => simp [cpt]
  | cons y r => have := cptG_len eqId r y; simp [cpt]; omega
theorem sid_look {L : List Pt} (h : SId L) {p : Pt} (hp : p ∈ L) : look L p.id = some p := by
  induction L with
  | nil => cases hp
  | cons x r ih =>
    obtain ⟨h1, h2⟩ := List.pairwise_cons.1 h
    rw [look_cons]
    rcases List.mem_cons.1 hp with rfl | hp
    · rw [if_pos rfl]
    · have := h1 p hp
      rw [if_neg (by omega)]; exact ih h2 hp
theorem sid_mem {L : List Pt} (h : SId L) {p : Pt} : p ∈ L ↔ look L p.id = some p := ⟨sid_look h, fun e => (look_some e).1⟩
theorem sid_eq : ∀ {L M : List Pt}, SId L → SId M → (∀ id, look L id = look M id) → L = M
  | [], [], _, _, _ => rfl
  | [], y :: M, _, _, h => by have := h y.id; rw [look_cons, if_pos rfl] at this; cases this
  | x :: L, [], _, _, h => by have := h x.id; rw [look_cons, if_pos rfl] at this; cases this
  | x :: L, y :: M, hL, hM, h => by
    have mx : x ∈ y :: M := (sid_mem hM).2 (by rw [← h]; exact sid_look hL List.mem_cons_self)
    have my : y ∈ x :: L := (sid_mem hL).2 (by rw [h]; exact sid_look hM List.mem_cons_self)
    obtain ⟨l1, l2⟩ := List.pairwise_cons.1 hL
    obtain ⟨m1, m2⟩ := List.pairwise_cons.1 hM
    have e : x = y := by
      rcases List.mem_cons.1 mx with e | mx
      · exact e
      · rcases List.mem_cons.1 my with e | my
        · exact e.symm
        · have := m1 x mx; have := l1 y my; omega
    subst e
    rw [sid_eq l2 m2 fun id => ?_]
    by_cases q : x.id = id
    · subst q
      rw [look_none.2 fun p hp => by have := l1 p hp; omega, look_none.2 fun p hp => by have := m1 p hp; omega]
    · have := h id
      rw [look_cons, look_cons, if_neg q, if_neg q] at this
      exact this
/-- The law's way to the first of each Id. -/
def firstsP (l : List Pt) : List Pt := l.foldl (fun acc p => if look acc p.id = none then acc ++ [p] else acc) []
theorem firstsP_snoc (l : List Pt) (p : Pt) : firstsP (l ++ [p]) = if look (firstsP l) p.id = none then firstsP l ++ [p] else firstsP l := by
  unfold firstsP
  rw [List.foldl_append]
  rfl
theorem firstsP_ok (l : List Pt) : (∀ id, look (firstsP l) id = look l id) ∧ (∀ id, ((firstsP l).filter fun p => p.id == id).length ≤ 1) ∧ (firstsP l).length ≤ l.length := by
  have key : ∀ n, ∀ l : List Pt, l.length = n → (∀ id, look (firstsP l) id = look l id) ∧ (∀ id, ((firstsP l).filter fun p => p.id == id).length ≤ 1) ∧ (firstsP l).length ≤ l.length := by
    intro n
    induction n with
    | zero =>
      intro l hl
      obtain rfl := List.eq_nil_of_length_eq_zero hl
      simp [firstsP]
    | succ n ih =>
      intro l hl
      rcases List.eq_nil_or_concat l with rfl | ⟨r, p, rfl⟩
      · simp at hl
      rw [List.concat_eq_append] at hl ⊢
      obtain ⟨h1, h2, h3⟩ := ih r (by simpa using hl)
      rw [firstsP_snoc]
      by_cases q : look (firstsP r) p.id = none
      · rw [if_pos q]
        refine ⟨fun id => by rw [look_snoc, look_snoc, h1], fun id => ?_, by simp; omega⟩
        rw [List.filter_append, List.length_append]
        by_cases e : p.id = id
        · have : (firstsP r).filter (fun z => z.id == id) = [] := by
            rw [List.filter_eq_nil_iff]
            intro z hz
            have := look_none.1 q z hz
            simp; omega
          rw [this]; simp [e]
        · have := h2 id
          simp [e]; simpa using this
      · rw [if_neg q]
        refine ⟨fun id => ?_, h2, by simp; omega⟩
        rw [look_snoc, h1]
        by_cases e : p.id = id
        · subst e
          rw [h1] at q
          cases e2 : look r p.id with
          | none => exact (q e2).elim
          | some z => rfl
        · rw [if_neg e, Option.or_none]
  exact key l.length l rfl
theorem sid_of {M : List Pt} (h : M.Pairwise fun p q => p.id ≤ q.id) (h1 : ∀ id, (M.filter fun p => p.id == id).length ≤ 1) : SId M := by
  induction M with
  | nil => exact List.Pairwise.nil
  | cons x r ih =>
    obtain ⟨a, b⟩ := List.pairwise_cons.1 h
    refine List.pairwise_cons.2 ⟨fun y hy => ?_, ih b fun id => ?_⟩
    · have := a y hy
      by_cases e : x.id = y.id
      · have h2 := h1 x.id
        rw [List.filter_cons, if_pos (by simp), List.length_cons] at h2
        have : y ∈ r.filter fun p => p.id == x.id := List.mem_filter.2 ⟨hy, by simpa using e.symm⟩
        have := List.length_pos_of_mem this
        omega
      · omega
    · have h2 := h1 id
      rw [List.filter_cons] at h2
      split at h2
      · rw [List.length_cons] at h2; omega
      · exact h2
theorem lawFix (l : List Pt) : sortP (firstsP l) = fixP l := by
  obtain ⟨h1, h2, _⟩ := firstsP_ok l
  refine sid_eq (sid_of (sortP_le _) fun id => ?_) (fixP_sid l) fun id => ?_
  · have h := isort_stab swo_I (firstsP l) ⟨id, 0, 0, default⟩
    have e : eqv ltI ⟨id, 0, 0, default⟩ = fun p => p.id == id := by
      funext p
      unfold eqv
      by_cases q : p.id = id
      · subst q; simp
      · have : (p.id == id) = false := by simpa using q
        rw [this]
        by_cases q2 : id < p.id
        · simp [q2]
        · have : p.id < id := by omega
          simp [this]
    rw [e] at h
    show ((isort ltI (firstsP l)).filter fun p => p.id == id).length ≤ 1
    rw [h]; exact h2 id
  · rw [look_sortP, look_fixP, h1]
theorem idx_some {l : List Pt} {id : Int} {i : Nat} (h : l.findIdx? (fun p => p.id == id) = some i) : ∃ p, look l id = some p ∧ l[i]? = some p ∧ p.id = id := by
  rw [List.findIdx?_eq_some_iff_getElem] at h
  obtain ⟨hl, h1, h2⟩ := h
  have e : look l id = some l[i] := by
    unfold look
    rw [List.find?_eq_some_iff_getElem]
    exact ⟨h1, i, hl, rfl, fun j hj => by simpa using h2 j hj⟩
  exact ⟨l[i], e, by simp, by simpa using h1⟩
theorem idx_none {l : List Pt} {id : Int} (h : l.findIdx? (fun p => p.id == id) = none) : look l id = none := by
  unfold look
  rw [List.find?_eq_none]
  rw [List.findIdx?_eq_none_iff] at h
  intro x hx
  simp [h x hx]
end Cr

set_option linter.unusedVariables false
set_option linter.unusedSimpArgs false
namespace Cr
open Go Sx Stb
open Go.Sort (SWO)
open Go.Proofs.Try
set_option maxRecDepth 100000
section
variable {H : Heap} {R : Ending → Heap → Prop}
theorem pred_dfix : Pred2 132 eqId := by
  intro p q H R k
  refine spec_of func132 (by kernel_rfl) (fun t h => by cases h) ?_ (vc_dfix1 p.id p.x p.y p.data q.id q.x q.y q.data R H) ?_
  · simp [argsR, SV.rep, SegsRep, SC.rep, Sx.one]
  unfold nf_dfix1
  exact k
theorem s_dfix {v : Value} {l : List Pt} (h : SliceAt H v 4 (pts l)) (hl : l.length ≤ 1000000) (k : ∀ v H', H ≤ H' → (∀ b, blockOf v = some b → H b = none) → RowAt H' v tPt 4 (pts (fixP l)) → R (.returned v) H') : Meets prog 93 [v] H R := by
  obtain ⟨a, n, c, e, hn⟩ := h
  subst e
  have h : SliceAt H (.slice a n c) 4 (pts l) := ⟨a, n, c, rfl, hn⟩
  refine spec_of func93 (by kernel_rfl) (fun t h => by cases h) ?_ (vc_dfix a n c R H) ?_
  · simp [argsR, SV.rep, SC.rep, Sx.one]
  unfold nf_dfix
  refine s_srt h hl fun v1 H1 hle hf hrow => ?_
  obtain ⟨a1, c1, rfl⟩ := row_val hrow
  refine ⟨a1, _, c1, rfl, s_cpf pred_dfix hrow (by rw [sortP_len]; exact hl) fun v2 H2 hr2 hb2 hm2 => ?_⟩
  obtain ⟨a2, c2, rfl⟩ := row_val hr2
  refine ⟨a2, _, c2, rfl, k _ H2 (fun b o e => ?_) (fun b hb => hf b (by rw [← hb2]; exact hb)) hr2⟩
  rw [hm2 b (fun e2 => by rw [hf b e2] at e; cases e)]
  exact hle b o e
abbrev z0 : Pt := ⟨0, 0, 0, { data := #[] }⟩
theorem s_dof {v : Value} {l : List Pt} {id : Int} (h : SliceAt H v 4 (pts l)) (hl : l.length ≤ 1000000) (k : R (.returned (.tuple #[ptV ((look l id).getD z0), .bool (look l id).isSome])) H) : Meets prog 96 [v, vi id] H R := by
  obtain ⟨a, n, c, e, hn⟩ := h
  subst e
  have h : SliceAt H (.slice a n c) 4 (pts l) := ⟨a, n, c, rfl, hn⟩
  have hln : l.length = n := by simpa using hn.1
  refine spec_of func96 (by kernel_rfl) (fun t h => by cases h) ?_ (vc_dof a n c id R H) ?_
  · simp [argsR, SV.rep, SC.rep, Sx.one]
  unfold nf_dof
  refine s_find h hl (fun i hi => ⟨_, rfl, br (fun q => ?_) fun q => ?_⟩) fun hi => ⟨_, rfl, br (fun _ => ?_) fun q => by simp at q⟩
  · simp at q; omega
  · obtain ⟨p, h1, h2, _⟩ := idx_some hi
    have hil := (List.getElem?_eq_some_iff.1 h2).1
    obtain ⟨A, e, g⟩ := pr_get h (i := i) h2
    subst e
    rw [h1] at k
    exact ⟨⟨by omega, by omega⟩, ptr rfl (ptr rfl ⟨_, _, _, _, g, k⟩)⟩
  · rw [idx_none hi] at k
    exact k
abbrev stV (p : Pt) (b : Bool) : Value := .agg { toList := [vi p.id, .int .u32 p.x, .int .u32 p.y, .string p.data, .bool b] }
theorem s_dseen {v : Value} {l : List Pt} {id : Int} (h : SliceAt H v 4 (pts l)) (hl : l.length ≤ 1000000) (k : R (.returned (stV ((look l id).getD z0) (look l id).isSome)) H) : Meets prog 95 [v, vi id] H R := by
  obtain ⟨a, n, c, e, hn⟩ := h
  subst e
  have h : SliceAt H (.slice a n c) 4 (pts l) := ⟨a, n, c, rfl, hn⟩
  refine spec_of func95 (by kernel_rfl) (fun t h => by cases h) ?_ (vc_dseen a n c id R H) ?_
  · simp [argsR, SV.rep, SC.rep, Sx.one]
  unfold nf_dseen
  exact s_dof h hl ⟨_, _, _, _, _, rfl, k⟩
theorem isort_inc (L : List Int) : (L.mergeSort fun x y => decide (x ≤ y)).Pairwise (· ≤ ·) := by
  have := List.pairwise_mergeSort (le := fun x y : Int => decide (x ≤ y)) (fun a b c h1 h2 => by simp at *; omega) (fun a b => by simp; omega) L
  exact this.imp fun h => by simpa using h
/-- The Ids of some lists, rising. -/
structure IdsOf (ls : List (List Pt)) (I : List Int) : Prop where
  up : I.Pairwise (· < ·)
  mem : ∀ id, id ∈ I ↔ ∃ l ∈ ls, ∃ p ∈ l, p.id = id
  few : I.length ≤ (ls.map List.length).sum
theorem s_dids {v : Value} {vs : List Value} {ls : List (List Pt)} (h : SliceAt H v 1 (vs.map fun x => [x])) (hv : ∀ (i : Nat) (x : Value) (l : List Pt), vs[i]? = some x → ls[i]? = some l → SliceAt H x 4 (pts l)) (hvl : vs.length = ls.length) (hn3 : ls.length ≤ 3) (hl : ∀ l ∈ ls, l.length ≤ 1000000)
    (k : ∀ I v' H', IdsOf ls I → H ≤ H' → (∀ b, blockOf v' = some b → H b = none) → RowAt H' v' 3 1 (cells I) → R (.returned v') H') : Meets prog 94 [v] H R := by
  obtain ⟨a, n, c, e, hn⟩ := h
  subst e
  have h : SliceAt H (.slice a n c) 1 (vs.map fun x => [x]) := ⟨a, n, c, rfl, hn⟩
  have hln : vs.length = n := by simpa using hn.1
  refine spec_of func94 (by kernel_rfl) (fun t h => by cases h) ?_ (vc_dids a n c R H) ?_
  · simp [argsR, SV.rep, SC.rep, Sx.one]
  unfold nf_dids
  simp only [true_and]
  have bnd : ∀ t, t ≤ n → ((ls.take t).flatten.map Pt.id).length ≤ t * 1000000 := by
    intro t
    induction t with
    | zero => intro _; simp
    | succ t ih =>
      intro ht
      obtain ⟨x, _, htk, hx⟩ := drop_cons (l := ls) (k := t) (by omega)
      have := hl x (List.mem_of_getElem? hx)
      have := ih (by omega)
      rw [htk, List.flatten_append, List.map_append, List.length_append]
      simp at this ⊢
      omega
  refine ⟨fun p H' => ∃ t : Nat, p.1.1 = (t : Int) ∧ t ≤ n ∧ p.1.2.1 = cells ((ls.take t).flatten.map Pt.id) ∧ H' = H, fun p _ => (n - p.1.1).toNat, ⟨0, rfl, by omega, rfl, rfl⟩, ?_⟩
  rintro ⟨⟨i, rows, _⟩, _⟩ H1 ⟨t, hi, ht, hrows, rfl⟩
  simp only at hi hrows ⊢
  subst hi hrows
  refine br (fun q1 => ?_) fun q1 => ?_
  · simp only [decide_eq_true_eq] at q1
    obtain ⟨x, _, _, hx⟩ := drop_cons (l := vs) (k := t) (by omega)
    obtain ⟨l, _, htk, hll⟩ := drop_cons (l := ls) (k := t) (by omega)
    obtain ⟨a1, n1, c1, e1, hs1⟩ := hv t x l hx hll
    subst e1
    have hs : SliceAt H1 (.slice a1 n1 c1) 4 (pts l) := ⟨a1, n1, c1, rfl, hs1⟩
    have hl1 : l.length = n1 := by simpa using hs1.1
    obtain ⟨A, e, _, g⟩ := slice_get h (i := t) (e := [.slice a1 n1 c1]) (by simp [hx])
    subst e
    have bt := bnd t (by omega)
    have hlm := hl l (List.mem_of_getElem? hll)
    refine ⟨⟨by omega, by omega⟩, ptr rfl (ptr rfl ⟨a1, n1, c1, g, ?_⟩)⟩
    refine ⟨fun p H' => ∃ s : Nat, p.1.1 = (s : Int) ∧ s ≤ n1 ∧ p.1.2.1 = cells ((ls.take t).flatten.map Pt.id ++ (l.take s).map Pt.id) ∧ H' = H1, fun p _ => (n1 - p.1.1).toNat, ⟨0, rfl, by omega, by simp, rfl⟩, ?_⟩
    rintro ⟨⟨i, rows, _⟩, _⟩ H2 ⟨s, hi, hs2, hrows, rfl⟩
    simp only at hi hrows ⊢
    subst hi hrows
    refine br (fun q2 => ?_) fun q2 => ?_
    · simp only [decide_eq_true_eq] at q2
      obtain ⟨p, _, htk2, hp⟩ := drop_cons (l := l) (k := s) (by omega)
      obtain ⟨A', e, g2⟩ := pr_get hs (i := s) hp
      subst e
      have hap : List.append (cells ((ls.take t).flatten.map Pt.id ++ (l.take s).map Pt.id)) [[vi p.id]] = cells ((ls.take t).flatten.map Pt.id ++ (l.take (s + 1)).map Pt.id) := by rw [htk2]; simp [cells]
      refine ⟨⟨by omega, by omega⟩, ptr rfl (ptr rfl ⟨_, _, _, _, g2, ?_⟩)⟩
      rw [hap, wi64 (by omega)]
      refine ⟨?_, ⟨s + 1, by simp, by omega, rfl, by trivial⟩, by simp; omega⟩
      have : (List.take (s + 1) l).length ≤ l.length := by simp; omega
      have e9 : ((l.take (s + 1)).map Pt.id).length = (l.take (s + 1)).length := List.length_map _
      rw [cells_len, List.length_append, e9]
      omega
    · simp only [decide_eq_false_iff_not] at q2
      obtain rfl : s = n1 := by omega
      rw [wi64 (by omega)]
      refine ⟨⟨t + 1, by simp, by omega, ?_, by trivial⟩, by simp; omega⟩
      have e9 : l.take s = l := List.take_of_length_le (by omega)
      rw [htk, e9, List.flatten_append, List.map_append]
      simp
  · simp only [decide_eq_false_iff_not] at q1
    obtain rfl : t = n := by omega
    have bt := bnd t (by omega)
    rw [List.take_of_length_le (by omega)] at bt ⊢
    have hsum : (ls.flatten.map Pt.id).length = (ls.map List.length).sum := by rw [List.length_map, List.length_flatten]
    generalize hL : ls.flatten.map Pt.id = L at *
    intro v1 H2 hle hf hb hrow
    refine meets_sortInt Go.Proofs.sortInt (by kernel_rfl) hrow (by omega) fun H3 hr3 hm => ?_
    refine ⟨rfl, _, hr3, fun v2 H4 hle4 hf4 hb4 hrow4 => ?_⟩
    rw [mod_off hm, lend_off hle hf hb] at hle4 hf4
    have hsl : (L.mergeSort fun x y => decide (x ≤ y)).length = L.length := List.length_mergeSort _
    refine meets_compactInt Go.Proofs.compInt (by kernel_rfl) hrow4 (by omega) fun v3 H5 hr5 hb5 hm5 => ?_
    obtain ⟨a5, c5, rfl⟩ := row_val hr5
    refine ⟨(fun _ _ e => by cases e), a5, _, c5, rfl, k _ _ _ ⟨compact_sorted (isort_inc L), fun id => ?_, ?_⟩ (fun b o e => ?_) (fun b hb => hf4 b (by rw [← hb5]; exact hb)) hr5⟩
    · rw [compact_mem, (List.mergeSort_perm _ _).mem_iff, ← hL]
      simp only [List.mem_map, List.mem_flatten]
      constructor
      · rintro ⟨p, ⟨l, h1, h2⟩, h3⟩; exact ⟨l, h1, p, h2, h3⟩
      · rintro ⟨l, h1, p, h2, h3⟩; exact ⟨p, ⟨l, h1, h2⟩, h3⟩
    · have := compact_len (L.mergeSort fun x y => decide (x ≤ y))
      omega
    · have := hle4 b o e
      rw [hm5 b (fun e2 => by rw [hf4 b e2] at e; cases e)]
      exact this
structure Ch where
  kd : Int
  pt : Pt
  deriving Inhabited, DecidableEq
@[reducible] def chC (c : Ch) : List Value := vi c.kd :: ptC c.pt
abbrev chs (l : List Ch) : List (List Value) := l.map chC
/-- What a call that has a row of its own may do. -/
structure Own (v v' : Value) (H H' : Heap) : Prop where
  keep : ∀ b o, blockOf v ≠ some b → H b = some o → H' b = some o
  new : ∀ b, blockOf v' = some b → blockOf v = some b ∨ H b = none
end
end Cr

set_option linter.unusedVariables false
set_option linter.unusedSimpArgs false
namespace Cr
open Go Sx Stb
open Go.Proofs.Try
set_option maxRecDepth 100000
def h_lfind : Hints := { loops := [(2, ⟨[0, 1, 4], [.f 5 (.int .i64)], []⟩)] }
def h_lfix : Hints := { loops := [(3, ⟨[0, 2], [.f 4 (.int .i64), .row 3 36 4], []⟩)] }
def nf_lfind (a : Option Addr) (n : Nat) (c : Nat) (id : Int) (R : Ending → Heap → Prop) (H : Heap) : Prop := a = a ∧ n = n ∧ c = c ∧ id = id ∧ (0 : Int) = (0 : Int) ∧ LoopP (fun (K : (Int × PUnit) × PUnit → (Nat → Option Obj) → Prop) (p : (Int × PUnit) × PUnit) (H : Nat → Option Obj) ↦ Br (decide (p.fst.fst < (↑n : Int))) (((0 : Int) ≤ p.fst.fst ∧ p.fst.fst < (↑n : Int)) ∧ PtrK a fun (A : Addr) ↦ PtrK (some (Addr.add A (Int.toNat p.fst.fst * (4 : Nat)))) fun (a_1 : Addr) ↦ PtrK (some (Addr.add a_1 (0 : Nat))) fun (a_2 : Addr) ↦ ∃ (n_1 : Int), Heap.has H a_2 [Value.int IntKind.i64 n_1] ∧ Br (n_1 == id) (R (Ending.returned (Value.int IntKind.i64 p.fst.fst)) H) (a = a ∧ n = n ∧ c = c ∧ id = id ∧ (0 : Int) = (0 : Int) ∧ K ((IntKind.wrap IntKind.i64 (p.fst.fst + (1 : Int)), PUnit.unit), PUnit.unit) H)) (R (Ending.returned (Value.int IntKind.i64 (-1 : Int))) H)) (((0 : Int), PUnit.unit), PUnit.unit) H
theorem vc_lfind (a : Option Addr) (n : Nat) (c : Nat) (id : Int) (R : Ending → Heap → Prop) (H : Heap) : vcFun prog h_lfind f54 [SV.c (SC.v (Value.slice a n c)), SV.c (SC.v (Value.int IntKind.i64 id))] R H = nf_lfind a n c id R H := by kernel_rfl

def nf_lfix (a : Option Addr) (n : Nat) (c : Nat) (R : Ending → Heap → Prop) (H : Heap) : Prop := a = a ∧ n = n ∧ c = c ∧ (none : Option Addr) = none ∧ (0 : Nat) = (0 : Nat) ∧ (0 : Nat) = (0 : Nat) ∧ LoopP (fun (K : (Int × List (List Value) × PUnit) × PUnit → (Nat → Option Obj) → Prop) (p : (Int × List (List Value) × PUnit) × PUnit) (H : Nat → Option Obj) ↦ Br (decide (p.fst.fst < (↑n : Int))) (((0 : Int) ≤ p.fst.fst ∧ p.fst.fst < (↑n : Int)) ∧ PtrK a fun (A : Addr) ↦ PtrK (some (Addr.add A (Int.toNat p.fst.fst * (4 : Nat)))) fun (a_1 : Addr) ↦ PtrK (some (Addr.add a_1 (0 : Nat))) fun (a_2 : Addr) ↦ ∃ (n_1 : Int), Heap.has H a_2 [Value.int IntKind.i64 n_1] ∧ ∀ (v : Value) (H' : Nat → Option Obj), H ≤ H' → (∀ (b : Nat), blockOf v = some b → H b = none) → (∀ (b : Nat) (o : Obj), H' b = some o → H b = some o ∨ blockOf v = some b) → RowAt H' v (36 : Nat) (4 : Nat) p.fst.snd.fst → Meets prog (54 : Nat) [v, Value.int IntKind.i64 n_1] H' fun (e : Ending) (H' : Nat → Option Obj) ↦ ∃ (n_2 : Int), e = Ending.returned (Value.int IntKind.i64 n_2) ∧ ∃ (es : List (List Value)), RowAt H' v (36 : Nat) (4 : Nat) es ∧ Br (decide (n_2 < (0 : Int))) (((0 : Int) ≤ p.fst.fst ∧ p.fst.fst < (↑n : Int)) ∧ PtrK a fun (A : Addr) ↦ PtrK (some (Addr.add A (Int.toNat p.fst.fst * (4 : Nat)))) fun (a_7 : Addr) ↦ ∃ (n_3 : Int), ∃ (n_4 : Int), ∃ (n_5 : Int), ∃ (s : ByteArray), Heap.has (Heap.delO H' (blockOf v)) a_7 [Value.int IntKind.i64 n_3, Value.int IntKind.u32 n_4, Value.int IntKind.u32 n_5, Value.string s] ∧ List.length (List.append es [[Value.int IntKind.i64 n_3, Value.int IntKind.u32 n_4, Value.int IntKind.u32 n_5, Value.string s]]) * (32 : Nat) ≤ (140737488355328 : Nat) ∧ a = a ∧ n = n ∧ c = c ∧ (none : Option Addr) = none ∧ (0 : Nat) = (0 : Nat) ∧ (0 : Nat) = (0 : Nat) ∧ K ((IntKind.wrap IntKind.i64 (p.fst.fst + (1 : Int)), List.append es [[Value.int IntKind.i64 n_3, Value.int IntKind.u32 n_4, Value.int IntKind.u32 n_5, Value.string s]], PUnit.unit), PUnit.unit) (Heap.delO H' (blockOf v))) (a = a ∧ n = n ∧ c = c ∧ (none : Option Addr) = none ∧ (0 : Nat) = (0 : Nat) ∧ (0 : Nat) = (0 : Nat) ∧ K ((IntKind.wrap IntKind.i64 (p.fst.fst + (1 : Int)), es, PUnit.unit), PUnit.unit) (Heap.delO H' (blockOf v)))) (∀ (v : Value) (H' : Nat → Option Obj), H ≤ H' → (∀ (b : Nat), blockOf v = some b → H b = none) → (∀ (b : Nat) (o : Obj), H' b = some o → H b = some o ∨ blockOf v = some b) → RowAt H' v (36 : Nat) (4 : Nat) p.fst.snd.fst → Meets prog (58 : Nat) [v] H' fun (e : Ending) (H' : Nat → Option Obj) ↦ ∃ (a : Option Addr), ∃ (n : Nat), ∃ (c : Nat), e = Ending.returned (Value.slice a n c) ∧ ∃ (es : List (List Value)), RowAt H' v (36 : Nat) (4 : Nat) es ∧ R (Ending.returned (Value.slice a n c)) (Heap.delO H' (blockOf v)))) (((0 : Int), [], PUnit.unit), PUnit.unit) H
theorem vc_lfix (a : Option Addr) (n : Nat) (c : Nat) (R : Ending → Heap → Prop) (H : Heap) : vcFun prog h_lfix f53 [SV.c (SC.v (Value.slice a n c))] R H = nf_lfix a n c R H := by kernel_rfl

def nf_al40 (R : Ending → Heap → Prop) (H : Heap) : Prop := ∀ (v : Value) (H' : Nat → Option Obj), H ≤ H' → (∀ (b : Nat), blockOf v = some b → H b = none) → (∀ (b : Nat) (o : Obj), H' b = some o → H b = some o ∨ blockOf v = some b) → RowAt H' v (36 : Nat) (4 : Nat) [[Value.int IntKind.i64 (5 : Int), Value.int IntKind.u32 (0 : Int), Value.int IntKind.u32 (0 : Int), Value.string { data := #[] }]] → Meets prog (56 : Nat) [Value.slice none (0 : Nat) (0 : Nat), v] H' fun (e : Ending) (H' : Nat → Option Obj) ↦ ∃ (a : Option Addr), ∃ (n : Nat), ∃ (c : Nat), e = Ending.returned (Value.slice a n c) ∧ ∃ (es : List (List Value)), RowAt H' v (36 : Nat) (4 : Nat) es ∧ Br ((↑n : Int) == (1 : Int)) (((0 : Int) ≤ (0 : Int) ∧ (0 : Int) < (↑n : Int)) ∧ PtrK a fun (A : Addr) ↦ PtrK (some (Addr.add A (0 : Nat))) fun (a : Addr) ↦ PtrK (some (Addr.add a (0 : Nat))) fun (a : Addr) ↦ ∃ (n : Int), Heap.has (Heap.delO H' (blockOf v)) a [Value.int IntKind.i64 n] ∧ Br (n == (1 : Int)) (Meets prog (56 : Nat) [Value.slice none (0 : Nat) (0 : Nat), Value.slice none (0 : Nat) (0 : Nat)] (Heap.delO H' (blockOf v)) fun (e : Ending) (H' : Nat → Option Obj) ↦ ∃ (a : Option Addr), ∃ (n : Nat), ∃ (c : Nat), e = Ending.returned (Value.slice a n c) ∧ R (Ending.returned (Value.bool ((↑n : Int) == (0 : Int)))) H') (R (Ending.returned (Value.bool false)) (Heap.delO H' (blockOf v)))) (R (Ending.returned (Value.bool false)) (Heap.delO H' (blockOf v)))
theorem vc_al40 (R : Ending → Heap → Prop) (H : Heap) : vcFun prog { } f52 [] R H = nf_al40 R H := by kernel_rfl

end Cr

set_option linter.unusedVariables false
set_option linter.unusedSimpArgs false
namespace Cr
open Go Sx Stb
open Go.Sort (SWO)
open Go.Proofs.Try
set_option maxRecDepth 100000
/-- What became of an Id. -/
def chgOf (A B : List Pt) (id : Int) : Option Ch :=
  match look A id, look B id with
  | none, some q => some ⟨1, q⟩
  | some p, none => some ⟨2, p⟩
  | some p, some q => if p = q then none else some ⟨3, q⟩
  | none, none => none
section
variable {H : Heap} {R : Ending → Heap → Prop}
theorem ch_get {H : Heap} {a : Option Addr} {n c : Nat} {l : List Ch} (h : SliceAt H (.slice a n c) 5 (chs l)) {i : Nat} {p : Ch} (he : l[i]? = some p) : ∃ A, a = some A ∧ H.has (A.add (i * 5)) (chC p) := by
  obtain ⟨A, h1, _, h2⟩ := slice_get h (i := i) (e := chC p) (by simp [chs, he])
  exact ⟨A, h1, h2⟩
theorem s_dbet {v v2 : Value} {l l' : List Pt} (h : SliceAt H v 4 (pts l)) (h2 : SliceAt H v2 4 (pts l')) (hl : l.length ≤ 400) (hl' : l'.length ≤ 400)
    (k : ∀ I v' H', IdsOf [fixP l, fixP l'] I → H ≤ H' → (∀ b, blockOf v' = some b → H b = none) → RowAt H' v' 95 5 (chs (I.filterMap (chgOf (fixP l) (fixP l')))) → R (.returned v') H') : Meets prog 56 [v, v2] H R := by
  obtain ⟨a, n, c, e, hn⟩ := h
  subst e
  have h : SliceAt H (.slice a n c) 4 (pts l) := ⟨a, n, c, rfl, hn⟩
  obtain ⟨a', n', c', e, hn'⟩ := h2
  subst e
  have h2 : SliceAt H (.slice a' n' c') 4 (pts l') := ⟨a', n', c', rfl, hn'⟩
  refine spec_of func56 (by kernel_rfl) (fun t h => by
    have := memN_one h
    subst this
    exact eqOK_of (by kernel_rfl) (by kernel_rfl) (by kernel_rfl)) ?_ (vc_dbet a n c a' n' c' R H) ?_
  · simp [argsR, SV.rep, SC.rep, Sx.one]
  unfold nf_dbet
  refine s_dfix h (by omega) fun v1 H1 hle1 hf1 hrow1 => ?_
  have hA1 := row_slice hrow1
  obtain ⟨a1, c1, rfl⟩ := row_val hrow1
  refine ⟨a1, _, c1, rfl, s_dfix (slice_le h2 hle1) (by omega) fun v2 H2 hle2 hf2 hrow2 => ?_⟩
  have hB2 := row_slice hrow2
  obtain ⟨a2, c2, rfl⟩ := row_val hrow2
  refine ⟨a2, _, c2, rfl, fun v3 H3 hle3 hf3 hb3 hrow3 => ?_⟩
  have hAl := fixP_len l
  have hBl := fixP_len l'
  generalize hA : fixP l = A at *
  generalize hB : fixP l' = B at *
  refine s_dids (vs := [.slice a1 (pts A).length c1, .slice a2 (pts B).length c2]) (ls := [A, B]) (row_slice hrow3) ?_ rfl (by simp) ?_ fun I v4 H4 hI hle4 hf4 hrow4 => ?_
  · intro i x w hx hw
    match i, hx, hw with
    | 0, hx, hw => simp at hx hw; subst hx hw; have := slice_le hA1 (heap_trans hle2 hle3); simpa using this
    | 1, hx, hw => simp at hx hw; subst hx hw; have := slice_le hB2 hle3; simpa using this
  · intro w hw
    simp at hw
    rcases hw with rfl | rfl <;> omega
  have hI4 := row_slice (row_delO hrow4 (o := blockOf v3) fun b hb e => rowat_known hrow3 e (hf4 b hb))
  obtain ⟨a4, c4, rfl⟩ := row_val hrow4
  rw [cells_len] at hI4 ⊢
  have hle24 : H2 ≤ Heap.delO H4 (blockOf v3) := le_delO (heap_trans hle3 hle4) hf3
  have hA4 := slice_le hA1 (heap_trans hle2 hle24)
  have hB4 := slice_le hB2 hle24
  have hH := heap_trans hle1 (heap_trans hle2 hle24)
  have hfew := hI.few
  simp only [List.map_cons, List.map_nil, List.sum_cons, List.sum_nil] at hfew
  simp only [true_and]
  refine ⟨a4, _, c4, rfl, _, row_le hrow3 (fun b o _ => hle4 b o), fun p H' => ∃ t : Nat, p.1.1 = (t : Int) ∧ t ≤ I.length ∧ p.1.2.1 = chs ((I.take t).filterMap (chgOf A B)) ∧ H' = Heap.delO H4 (blockOf v3), fun p _ => (I.length - p.1.1).toNat, ⟨0, rfl, by omega, rfl, rfl⟩, ?_⟩
  rintro ⟨⟨i, rows, _⟩, _⟩ H5 ⟨t, hi, ht, hrows, rfl⟩
  simp only at hi hrows ⊢
  subst hi hrows
  refine br (fun q1 => ?_) fun q1 => ?_
  · simp only [decide_eq_true_eq] at q1
    obtain ⟨id, _, htk, hid⟩ := drop_cons (l := I) (k := t) (by omega)
    obtain ⟨Ad, e, g⟩ := ir_get hI4 (i := t) hid
    subst e
    rw [wi64 (by omega)]
    have hfl : ((I.take t).filterMap (chgOf A B)).length ≤ I.length := Nat.le_trans (List.length_filterMap_le _ _) (by simp; omega)
    have go : ∀ o : Option Ch, chgOf A B id = o → (I.take (t + 1)).filterMap (chgOf A B) = (I.take t).filterMap (chgOf A B) ++ o.toList := fun o ho => by
      rw [htk, List.filterMap_append]
      congr 1
      rw [List.filterMap_cons, ho]
      cases o <;> rfl
    have yes : ∀ x : Ch, chgOf A B id = some x → (List.append (chs ((I.take t).filterMap (chgOf A B))) [chC x]).length * 40 ≤ 140737488355328 ∧ (∃ t' : Nat, ((t : Int) + 1) = (t' : Int) ∧ t' ≤ I.length ∧ List.append (chs ((I.take t).filterMap (chgOf A B))) [chC x] = chs ((I.take t').filterMap (chgOf A B)) ∧ Heap.delO H4 (blockOf v3) = Heap.delO H4 (blockOf v3)) ∧ ((I.length : Int) - ((t : Int) + 1)).toNat < ((I.length : Int) - (t : Int)).toNat := fun x hx => by
      have e2 : List.append (chs ((I.take t).filterMap (chgOf A B))) [chC x] = chs ((I.take (t + 1)).filterMap (chgOf A B)) := by rw [go _ hx]; simp [chs]
      refine ⟨?_, ⟨t + 1, by simp, by omega, e2, rfl⟩, by omega⟩
      have : (List.append (chs ((I.take t).filterMap (chgOf A B))) [chC x]).length = ((I.take t).filterMap (chgOf A B)).length + 1 := by simp [chs]
      rw [this]; omega
    refine ⟨⟨by omega, by omega⟩, ptr rfl (ptr rfl ⟨_, g, s_dof hA4 (by omega) ⟨_, _, _, _, _, rfl, s_dof hB4 (by omega) ⟨_, _, _, _, _, rfl, ?_⟩⟩⟩)⟩
    have hmem := (hI.mem id).1 (List.mem_of_getElem? hid)
    cases eA : look A id with
    | none =>
      cases eB : look B id with
      | none =>
        obtain ⟨w, hw, p, hp, hpid⟩ := hmem
        simp at hw
        rcases hw with rfl | rfl
        · exact (look_none.1 eA p hp hpid).elim
        · exact (look_none.1 eB p hp hpid).elim
      | some q => exact br (fun _ => yes ⟨1, q⟩ (by unfold chgOf; rw [eA, eB])) fun q => by cases q
    | some p =>
      refine br (fun q => by cases q) fun _ => ?_
      cases eB : look B id with
      | none => exact br (fun _ => yes ⟨2, p⟩ (by unfold chgOf; rw [eA, eB])) fun q => by cases q
      | some q =>
        refine br (fun q => by cases q) fun _ => ?_
        have hc : chgOf A B id = if p = q then none else some ⟨3, q⟩ := by unfold chgOf; rw [eA, eB]
        refine br (fun q2 => ?_) fun q2 => ?_
        · have hne : p ≠ q := by
            rintro rfl
            simp [andO, ba_beq] at q2
          rw [if_neg hne] at hc
          exact yes ⟨3, q⟩ hc
        · have he : p = q := by
            simp [andO, ba_beq] at q2
            exact pt_eta q2.1.1.1 q2.1.1.2 q2.1.2 q2.2
          rw [if_pos he] at hc
          have e2 := go _ hc
          simp only [Option.toList_none, List.append_nil] at e2
          exact ⟨⟨t + 1, by simp, by omega, by rw [e2], by trivial⟩, by simp; omega⟩
  · simp only [decide_eq_false_iff_not] at q1
    rw [List.take_of_length_le (by omega)]
    intro v6 H6 hle6 hf6 hb6 hrow6
    exact k I v6 H6 hI (heap_trans hH hle6) (fun b hb => by
      cases q : H b with
      | none => rfl
      | some o => have := hf6 b hb; rw [hH b o q] at this; cases this) hrow6
theorem s_lfind {v : Value} {l : List Pt} {id : Int} (h : SliceAt H v 4 (pts l)) (hl : l.length ≤ 1000000) (k1 : ∀ i : Nat, l.findIdx? (fun p => p.id == id) = some i → R (.returned (vi i)) H) (k2 : l.findIdx? (fun p => p.id == id) = none → R (.returned (vi (-1))) H) :
    Meets prog 54 [v, vi id] H R := by
  obtain ⟨a, n, c, e, hn⟩ := h
  subst e
  have h : SliceAt H (.slice a n c) 4 (pts l) := ⟨a, n, c, rfl, hn⟩
  have hln : l.length = n := by simpa using hn.1
  refine spec_of func54 (by kernel_rfl) (fun t h => by cases h) ?_ (vc_lfind a n c id R H) ?_
  · simp [argsR, SV.rep, SC.rep, Sx.one]
  unfold nf_lfind
  simp only [true_and]
  refine ⟨fun p H' => ∃ t : Nat, p.1.1 = (t : Int) ∧ t ≤ n ∧ (∀ i, i < t → ∀ p, l[i]? = some p → p.id ≠ id) ∧ H' = H, fun p _ => (n - p.1.1).toNat, ⟨0, rfl, by omega, fun i hi => by omega, rfl⟩, ?_⟩
  rintro ⟨⟨i, _⟩, _⟩ H1 ⟨t, hi, ht, hno, rfl⟩
  simp only at hi ⊢
  subst hi
  refine br (fun q1 => ?_) fun q1 => ?_
  · simp only [decide_eq_true_eq] at q1
    obtain ⟨x, _, _, hx⟩ := drop_cons (l := l) (k := t) (by omega)
    obtain ⟨A, e, g⟩ := pr_get h (i := t) hx
    subst e
    have hil := (List.getElem?_eq_some_iff.1 hx).1
    have hxe := (List.getElem?_eq_some_iff.1 hx).2
    rw [wi64 (by omega)]
    refine ⟨⟨by omega, by omega⟩, ptr rfl (ptr rfl (ptr rfl ⟨_, has_first g, br (fun q2 => k1 t ?_) fun q2 => ⟨⟨t + 1, by simp, by omega, fun i hi p hp => ?_, by trivial⟩, by simp; omega⟩⟩))⟩
    · rw [List.findIdx?_eq_some_iff_getElem]
      refine ⟨hil, by rw [hxe]; exact q2, fun j hj => ?_⟩
      have := hno j hj l[j] (List.getElem?_eq_getElem (by omega))
      simpa using this
    · by_cases e : i = t
      · subst e
        rw [hx] at hp; cases hp
        simpa using q2
      · exact hno i (by omega) p hp
  · simp only [decide_eq_false_iff_not] at q1
    refine k2 ?_
    rw [List.findIdx?_eq_none_iff]
    intro x hx
    obtain ⟨j, hj, rfl⟩ := List.mem_iff_getElem.1 hx
    have := hno j (by omega) l[j] (List.getElem?_eq_getElem hj)
    simpa using this
theorem s_lfix {v : Value} {l : List Pt} (h : SliceAt H v 4 (pts l)) (hl : l.length ≤ 1000000) (k : ∀ v H', H ≤ H' → (∀ b, blockOf v = some b → H b = none) → RowAt H' v tPt 4 (pts (fixP l)) → R (.returned v) H') : Meets prog 53 [v] H R := by
  obtain ⟨a, n, c, e, hn⟩ := h
  subst e
  have h : SliceAt H (.slice a n c) 4 (pts l) := ⟨a, n, c, rfl, hn⟩
  have hln : l.length = n := by simpa using hn.1
  refine spec_of func53 (by kernel_rfl) (fun t h => by cases h) ?_ (vc_lfix a n c R H) ?_
  · simp [argsR, SV.rep, SC.rep, Sx.one]
  unfold nf_lfix
  simp only [true_and]
  refine ⟨fun p H' => ∃ t : Nat, p.1.1 = (t : Int) ∧ t ≤ n ∧ p.1.2.1 = pts (firstsP (l.take t)) ∧ H' = H, fun p _ => (n - p.1.1).toNat, ⟨0, rfl, by omega, rfl, rfl⟩, ?_⟩
  rintro ⟨⟨i, rows, _⟩, _⟩ H1 ⟨t, hi, ht, hrows, rfl⟩
  simp only at hi hrows ⊢
  subst hi hrows
  have hfl := (firstsP_ok (l.take t)).2.2
  have htl : (l.take t).length = t := by simp; omega
  refine br (fun q1 => ?_) fun q1 => ?_
  · simp only [decide_eq_true_eq] at q1
    obtain ⟨x, _, htk, hx⟩ := drop_cons (l := l) (k := t) (by omega)
    obtain ⟨A, e, g⟩ := pr_get h (i := t) hx
    subst e
    have hsn := firstsP_snoc (l.take t) x
    rw [← htk] at hsn
    refine ⟨⟨by omega, by omega⟩, ptr rfl (ptr rfl (ptr rfl ⟨_, has_first g, fun v1 H2 hle hf hb hrow => ?_⟩))⟩
    have hoff := lend_off hle hf hb
    rw [wi64 (by omega)]
    refine s_lfind (row_slice hrow) (by omega) (fun i hi => ⟨_, rfl, _, hrow, br (fun q => by simp at q; omega) fun _ => ?_⟩) fun hi => ⟨_, rfl, _, hrow, br (fun _ => ?_) fun q => by simp at q⟩
    · obtain ⟨p, h1, _, _⟩ := idx_some hi
      rw [h1] at hsn
      simp only [reduceCtorEq, if_false] at hsn
      rw [hoff]
      exact ⟨⟨t + 1, by simp, by omega, by rw [hsn], by trivial⟩, by simp; omega⟩
    · rw [idx_none hi, if_pos rfl] at hsn
      have hap : List.append (pts (firstsP (l.take t))) [ptC x] = pts (firstsP (l.take (t + 1))) := by rw [hsn]; simp [pts]
      rw [hoff]
      refine ⟨⟨by omega, by omega⟩, ptr rfl (ptr rfl ⟨_, _, _, _, g, ?_⟩)⟩
      show (List.append (pts (firstsP (l.take t))) [ptC x]).length * 32 ≤ _ ∧ (∃ t' : Nat, _ ∧ _ ∧ List.append (pts (firstsP (l.take t))) [ptC x] = _ ∧ _) ∧ _
      rw [hap]
      refine ⟨?_, ⟨t + 1, by simp, by omega, rfl, by trivial⟩, by simp; omega⟩
      rw [hsn]
      simp [pts]; omega
  · simp only [decide_eq_false_iff_not] at q1
    rw [List.take_of_length_le (by omega)] at hfl ⊢
    intro v1 H2 hle hf hb hrow
    refine s_rsort (row_slice hrow) (by omega) fun v2 H3 hle2 hf2 hrow2 => ?_
    rw [lawFix] at hrow2
    have hr := row_delO hrow2 (o := blockOf v1) fun b hb e => rowat_known hrow e (hf2 b hb)
    obtain ⟨a2, c2, rfl⟩ := row_val hrow2
    exact ⟨a2, _, c2, rfl, _, row_le hrow (fun b o _ => hle2 b o), k _ _ (le_delO (heap_trans hle hle2) hf) (fun b hb => by
      cases q : H1 b with
      | none => rfl
      | some o => have := hf2 b hb; rw [hle b o q] at this; cases this) hr⟩
end
end Cr

set_option linter.unusedVariables false
set_option linter.unusedSimpArgs false
namespace Cr
open Go Sx Stb
open Go.Sort (SWO)
open Go.Proofs.Try
set_option maxRecDepth 100000
theorem fixP_nil : fixP [] = [] := rfl
theorem fixP_one (p : Pt) : fixP [p] = [p] := rfl
theorem ids_nil {I : List Int} (h : IdsOf [fixP [], fixP []] I) : I = [] := by
  cases I with
  | nil => rfl
  | cons x r =>
    obtain ⟨l, h1, p, h2, _⟩ := (h.mem x).1 List.mem_cons_self
    simp [fixP_nil] at h1
    subst h1
    cases h2
theorem ids_one {I : List Int} {p : Pt} (h : IdsOf [fixP [], fixP [p]] I) : I = [p.id] := by
  have hm : ∀ id, id ∈ I ↔ id = p.id := fun id => by
    rw [h.mem, fixP_nil, fixP_one]
    constructor
    · rintro ⟨l, h1, q, h2, h3⟩
      simp at h1
      rcases h1 with rfl | rfl
      · cases h2
      · simp at h2; subst h2; exact h3.symm
    · rintro rfl
      exact ⟨[p], by simp, p, by simp, rfl⟩
  have hu := h.up
  match I with
  | [] => have := (hm p.id).2 rfl; cases this
  | [x] => rw [(hm x).1 List.mem_cons_self]
  | x :: y :: r =>
    have h1 := (hm x).1 List.mem_cons_self
    have h2 := (hm y).1 (List.mem_cons_of_mem _ List.mem_cons_self)
    have := (List.pairwise_cons.1 hu).1 y List.mem_cons_self
    omega
section
variable {H : Heap} {R : Ending → Heap → Prop}
theorem s_alive40 (k : ∀ H', H ≤ H' → R (.returned (.bool true)) H') : Meets prog 52 [] H R := by
  refine spec_of func52 (by kernel_rfl) (fun t h => by cases h) ?_ (vc_al40 R H) ?_
  · simp [argsR]
  unfold nf_al40
  intro v H1 hle1 hf1 hb1 hrow1
  let p0 : Pt := ⟨5, 0, 0, { data := #[] }⟩
  have hrow1 : RowAt H1 v 36 4 (pts [p0]) := hrow1
  refine s_dbet (l := []) (slice_nil H1) (row_slice hrow1) (by simp) (by simp) fun I v2 H2 hI hle2 hf2 hrow2 => ?_
  have eI := ids_one hI
  subst eI
  have hch : [p0.id].filterMap (chgOf (fixP []) (fixP [p0])) = [⟨1, p0⟩] := rfl
  rw [hch] at hrow2
  obtain ⟨a2, c2, rfl⟩ := row_val hrow2
  have hr := row_delO hrow2 (o := blockOf v) fun b hb e => rowat_known hrow1 e (hf2 b hb)
  obtain ⟨A, e, g⟩ := ch_get (row_slice hr) (i := 0) rfl
  subst e
  refine ⟨_, _, c2, rfl, _, row_le hrow1 (fun b o _ => hle2 b o), br (fun _ => ⟨by decide, ptr rfl (ptr rfl (ptr rfl ⟨_, has_first g, br (fun _ => ?_) fun q => by simp at q⟩))⟩) fun q => by simp at q⟩
  refine s_dbet (l := []) (l' := []) (slice_nil _) (slice_nil _) (by simp) (by simp) fun I v3 H3 hI hle3 hf3 hrow3 => ?_
  have eI := ids_nil hI
  subst eI
  obtain ⟨a3, c3, rfl⟩ := row_val hrow3
  exact ⟨a3, _, c3, rfl, k _ (heap_trans (le_delO (heap_trans hle1 hle2) hf1) hle3)⟩
end
end Cr

set_option linter.unusedVariables false
set_option linter.unusedSimpArgs false
namespace Cr
open Go Sx Stb
open Go.Sort (SWO)
open Go.Proofs.Try
set_option maxRecDepth 100000
/-- What is put together, of an Id. -/
def mOut (x y z : List Pt) (id : Int) : Option Pt := if look y id = look x id then look z id else look y id
/-- Did both make another thing of it? -/
def mBoth (x y z : List Pt) (id : Int) : Bool := !decide (look y id = look x id) && (!decide (look z id = look x id) && !decide (look y id = look z id))
theorem st_eq (o u : Option Pt) : andO (some (andO (some (andO (some (andO (some (andO none ((o.getD z0).id == (u.getD z0).id))) ((o.getD z0).x == (u.getD z0).x))) ((o.getD z0).y == (u.getD z0).y))) ((o.getD z0).data == (u.getD z0).data))) (o.isSome == u.isSome) = decide (o = u) := by
  cases o with
  | none => cases u with
    | none => simp [andO, ba_beq]
    | some q => simp [andO]
  | some p => cases u with
    | none => simp [andO]
    | some q =>
      by_cases h : p = q
      · subst h; simp [andO, ba_beq]
      · rw [decide_eq_false (by simpa using h)]
        cases e : andO (some (andO (some (andO (some (andO (some (andO none (((some p).getD z0).id == ((some q).getD z0).id))) (((some p).getD z0).x == ((some q).getD z0).x))) (((some p).getD z0).y == ((some q).getD z0).y))) (((some p).getD z0).data == ((some q).getD z0).data))) ((some p).isSome == (some q).isSome) with
        | false => rfl
        | true =>
          simp [andO, ba_beq] at e
          exact (h (pt_eta e.1.1.1 e.1.1.2 e.1.2 e.2)).elim
section
variable {H : Heap} {R : Ending → Heap → Prop}
theorem s_dmer {v v' v2 : Value} {l l' l2 : List Pt} (h : SliceAt H v 4 (pts l)) (h' : SliceAt H v' 4 (pts l')) (h2 : SliceAt H v2 4 (pts l2)) (hl : l.length ≤ 400) (hl' : l'.length ≤ 400) (hl2 : l2.length ≤ 400)
    (k : ∀ I w w' H', IdsOf [fixP l, fixP l', fixP l2] I → H ≤ H' → RowAt H' w tPt 4 (pts (I.filterMap (mOut (fixP l) (fixP l') (fixP l2)))) → RowAt H' w' 3 1 (cells (I.filter (mBoth (fixP l) (fixP l') (fixP l2)))) → R (.returned (.tuple #[w, w'])) H') :
    Meets prog 55 [v, v', v2] H R := by
  obtain ⟨a, n, c, e, hn⟩ := h
  subst e
  have h : SliceAt H (.slice a n c) 4 (pts l) := ⟨a, n, c, rfl, hn⟩
  obtain ⟨a', n', c', e, hn'⟩ := h'
  subst e
  have h' : SliceAt H (.slice a' n' c') 4 (pts l') := ⟨a', n', c', rfl, hn'⟩
  obtain ⟨a2, n2, c2, e, hn2⟩ := h2
  subst e
  have h2 : SliceAt H (.slice a2 n2 c2) 4 (pts l2) := ⟨a2, n2, c2, rfl, hn2⟩
  refine spec_of func55 (by kernel_rfl) (fun t h => by
    have := memN_one h
    subst this
    exact eqOK_of (by kernel_rfl) (by kernel_rfl) (by kernel_rfl)) ?_ (vc_dmer a n c a' n' c' a2 n2 c2 R H) ?_
  · simp [argsR, SV.rep, SC.rep, Sx.one]
  unfold nf_dmer
  refine s_dfix h (by omega) fun v1 H1 hle1 hf1 hrow1 => ?_
  have hX1 := row_slice hrow1
  obtain ⟨b1, c1, rfl⟩ := row_val hrow1
  refine ⟨b1, _, c1, rfl, s_dfix (slice_le h' hle1) (by omega) fun v2 H2 hle2 hf2 hrow2 => ?_⟩
  have hY2 := row_slice hrow2
  obtain ⟨b2, c2', rfl⟩ := row_val hrow2
  refine ⟨b2, _, c2', rfl, s_dfix (slice_le h2 (heap_trans hle1 hle2)) (by omega) fun v3 H3 hle3 hf3 hrow3 => ?_⟩
  have hZ3 := row_slice hrow3
  obtain ⟨b3, c3, rfl⟩ := row_val hrow3
  refine ⟨b3, _, c3, rfl, fun v4 H4 hle4 hf4 hb4 hrow4 => ?_⟩
  have hXl := fixP_len l
  have hYl := fixP_len l'
  have hZl := fixP_len l2
  generalize hX : fixP l = X at *
  generalize hY : fixP l' = Y at *
  generalize hZ : fixP l2 = Z at *
  refine s_dids (vs := [.slice b1 (pts X).length c1, .slice b2 (pts Y).length c2', .slice b3 (pts Z).length c3]) (ls := [X, Y, Z]) (row_slice hrow4) ?_ rfl (by simp) ?_ fun I v5 H5 hI hle5 hf5 hrow5 => ?_
  · intro i x w hx hw
    match i, hx, hw with
    | 0, hx, hw => simp at hx hw; subst hx hw; have := slice_le hX1 (heap_trans hle2 (heap_trans hle3 hle4)); simpa using this
    | 1, hx, hw => simp at hx hw; subst hx hw; have := slice_le hY2 (heap_trans hle3 hle4); simpa using this
    | 2, hx, hw => simp at hx hw; subst hx hw; have := slice_le hZ3 hle4; simpa using this
  · intro w hw
    simp at hw
    rcases hw with rfl | rfl | rfl <;> omega
  have hI5 := row_slice (row_delO hrow5 (o := blockOf v4) fun b hb e => rowat_known hrow4 e (hf5 b hb))
  obtain ⟨a5, c5, rfl⟩ := row_val hrow5
  rw [cells_len] at hI5 ⊢
  have hle35 : H3 ≤ Heap.delO H5 (blockOf v4) := le_delO (heap_trans hle4 hle5) hf4
  have hX5 := slice_le hX1 (heap_trans hle2 (heap_trans hle3 hle35))
  have hY5 := slice_le hY2 (heap_trans hle3 hle35)
  have hZ5 := slice_le hZ3 hle35
  have hH := heap_trans hle1 (heap_trans hle2 (heap_trans hle3 hle35))
  have hfew := hI.few
  simp only [List.map_cons, List.map_nil, List.sum_cons, List.sum_nil] at hfew
  simp only [true_and]
  refine ⟨a5, _, c5, rfl, _, row_le hrow4 (fun b o _ => hle5 b o), fun p H' => ∃ t : Nat, p.1.1 = (t : Int) ∧ t ≤ I.length ∧ p.1.2.1 = pts ((I.take t).filterMap (mOut X Y Z)) ∧ p.1.2.2.1 = cells ((I.take t).filter (mBoth X Y Z)) ∧ H' = Heap.delO H5 (blockOf v4), fun p _ => (I.length - p.1.1).toNat, ⟨0, rfl, by omega, rfl, rfl, rfl⟩, ?_⟩
  rintro ⟨⟨i, rows, bths, _⟩, _⟩ H6 ⟨t, hi, ht, hrows, hbths, rfl⟩
  simp only at hi hrows hbths ⊢
  subst hi hrows hbths
  refine br (fun q1 => ?_) fun q1 => ?_
  · simp only [decide_eq_true_eq] at q1
    obtain ⟨id, _, htk, hid⟩ := drop_cons (l := I) (k := t) (by omega)
    obtain ⟨Ad, e, g⟩ := ir_get hI5 (i := t) hid
    subst e
    rw [wi64 (by omega)]
    have hfl : ((I.take t).filterMap (mOut X Y Z)).length ≤ I.length := Nat.le_trans (List.length_filterMap_le _ _) (by simp; omega)
    have hbl : ((I.take t).filter (mBoth X Y Z)).length ≤ I.length := Nat.le_trans (List.length_filter_le _ _) (by simp; omega)
    have go : (I.take (t + 1)).filterMap (mOut X Y Z) = (I.take t).filterMap (mOut X Y Z) ++ (mOut X Y Z id).toList := by
      rw [htk, List.filterMap_append]
      exact congrArg _ (by rw [List.filterMap_cons]; cases mOut X Y Z id <;> rfl)
    have gb : (I.take (t + 1)).filter (mBoth X Y Z) = (I.take t).filter (mBoth X Y Z) ++ if mBoth X Y Z id then [id] else [] := by
      rw [htk, List.filter_append]
      exact congrArg _ (by rw [List.filter_cons]; split <;> rfl)
    have ap : ∀ p : Pt, List.append (pts ((I.take t).filterMap (mOut X Y Z))) [ptC p] = pts ((I.take t).filterMap (mOut X Y Z) ++ [p]) := fun p => by simp [pts]
    have apl : ∀ p : Pt, (pts ((I.take t).filterMap (mOut X Y Z) ++ [p])).length * 32 ≤ 140737488355328 := fun p => by simp [pts]; omega
    have ab : List.append (cells ((I.take t).filter (mBoth X Y Z))) [[vi id]] = cells ((I.take t).filter (mBoth X Y Z) ++ [id]) := by simp [cells]
    have abl : (cells ((I.take t).filter (mBoth X Y Z) ++ [id])).length * 8 ≤ 140737488355328 := by simp [cells]; omega
    have fin : ∀ (o : List Pt) (b : List Int), o = (I.take (t + 1)).filterMap (mOut X Y Z) → b = (I.take (t + 1)).filter (mBoth X Y Z) → (∃ t' : Nat, ((t : Int) + 1) = (t' : Int) ∧ t' ≤ I.length ∧ pts o = pts ((I.take t').filterMap (mOut X Y Z)) ∧ cells b = cells ((I.take t').filter (mBoth X Y Z)) ∧ Heap.delO H5 (blockOf v4) = Heap.delO H5 (blockOf v4)) ∧ ((I.length : Int) - ((t : Int) + 1)).toNat < ((I.length : Int) - (t : Int)).toNat := fun o b ho hb => by
      subst ho hb
      exact ⟨⟨t + 1, by simp, by omega, rfl, rfl, rfl⟩, by omega⟩
    refine ⟨⟨by omega, by omega⟩, ptr rfl (ptr rfl ⟨_, g, s_dseen hX5 (by omega) ⟨_, _, _, _, _, rfl, s_dseen hY5 (by omega) ⟨_, _, _, _, _, rfl, s_dseen hZ5 (by omega) ⟨_, _, _, _, _, rfl, ?_⟩⟩⟩⟩)⟩
    rw [st_eq, st_eq, st_eq]
    refine br (fun q2 => ?_) fun q2 => ?_
    · have e1 : look Y id = look X id := of_decide_eq_true q2
      have eo : mOut X Y Z id = look Z id := by unfold mOut; rw [if_pos e1]
      have eb : mBoth X Y Z id = false := by unfold mBoth; rw [q2]; rfl
      rw [eo] at go
      rw [eb] at gb
      simp only [Bool.false_eq_true, if_false, List.append_nil] at gb
      cases ez : look Z id with
      | none =>
        rw [ez] at go
        simp only [Option.toList_none, List.append_nil] at go
        exact br (fun q => by cases q) fun _ => fin _ _ go.symm gb.symm
      | some q =>
        rw [ez] at go
        refine br (fun _ => ?_) fun q => by cases q
        show (List.append _ [ptC q]).length * 32 ≤ _ ∧ (∃ t' : Nat, _ ∧ _ ∧ List.append _ [ptC q] = _ ∧ _) ∧ _
        rw [ap q]
        exact ⟨apl q, fin _ _ go.symm gb.symm⟩
    · have e1 : look Y id ≠ look X id := of_decide_eq_false q2
      have eo : mOut X Y Z id = look Y id := by unfold mOut; rw [if_neg e1]
      rw [eo] at go
      have rest : ∀ b : List Int, b = (I.take (t + 1)).filter (mBoth X Y Z) → Br (look Y id).isSome ((List.append (pts ((I.take t).filterMap (mOut X Y Z))) [ptC ((look Y id).getD z0)]).length * 32 ≤ 140737488355328 ∧ (∃ t' : Nat, ((t : Int) + 1) = (t' : Int) ∧ t' ≤ I.length ∧ List.append (pts ((I.take t).filterMap (mOut X Y Z))) [ptC ((look Y id).getD z0)] = pts ((I.take t').filterMap (mOut X Y Z)) ∧ cells b = cells ((I.take t').filter (mBoth X Y Z)) ∧ Heap.delO H5 (blockOf v4) = Heap.delO H5 (blockOf v4)) ∧ ((I.length : Int) - ((t : Int) + 1)).toNat < ((I.length : Int) - (t : Int)).toNat)
          ((∃ t' : Nat, ((t : Int) + 1) = (t' : Int) ∧ t' ≤ I.length ∧ pts ((I.take t).filterMap (mOut X Y Z)) = pts ((I.take t').filterMap (mOut X Y Z)) ∧ cells b = cells ((I.take t').filter (mBoth X Y Z)) ∧ Heap.delO H5 (blockOf v4) = Heap.delO H5 (blockOf v4)) ∧ ((I.length : Int) - ((t : Int) + 1)).toNat < ((I.length : Int) - (t : Int)).toNat) := fun b hb => by
        cases ey : look Y id with
        | none =>
          rw [ey] at go
          simp only [Option.toList_none, List.append_nil] at go
          exact br (fun q => by cases q) fun _ => fin _ _ go.symm hb
        | some q =>
          rw [ey] at go
          refine br (fun _ => ?_) fun q => by cases q
          show (List.append _ [ptC q]).length * 32 ≤ _ ∧ (∃ t' : Nat, _ ∧ _ ∧ List.append _ [ptC q] = _ ∧ _) ∧ _
          rw [ap q]
          exact ⟨apl q, fin _ _ go.symm hb⟩
      refine br (fun q3 => br (fun q4 => ?_) fun q4 => ?_) fun q3 => ?_
      · have eb : mBoth X Y Z id = true := by unfold mBoth; rw [q2, q3, q4]; rfl
        rw [eb] at gb
        rw [ab]
        exact ⟨abl, rest _ gb.symm⟩
      · have eb : mBoth X Y Z id = false := by unfold mBoth; rw [q4]; simp
        rw [eb] at gb
        simp only [Bool.false_eq_true, if_false, List.append_nil] at gb
        exact rest _ gb.symm
      · have eb : mBoth X Y Z id = false := by unfold mBoth; rw [q3]; simp
        rw [eb] at gb
        simp only [Bool.false_eq_true, if_false, List.append_nil] at gb
        exact rest _ gb.symm
  · simp only [decide_eq_false_iff_not] at q1
    rw [List.take_of_length_le (by omega)]
    intro v6 H6 hle6 hf6 hb6 hrow6 v7 H7 hle7 hf7 hb7 hrow7
    exact k I v6 v7 H7 hI (heap_trans hH (heap_trans hle6 hle7)) (row_le hrow6 fun b o _ => hle7 b o) hrow7
end
end Cr

set_option linter.unusedVariables false
set_option linter.unusedSimpArgs false
namespace Cr
open Go Sx Stb
open Go.Proofs.Try
set_option maxRecDepth 100000
def h_lmer : Hints := { eqs := [36], loops := [(10, ⟨[0, 1, 2, 6, 7, 8, 9, 10], [.f 13 (.int .i64), .row 11 36 4, .row 12 3 1], []⟩)], cuts := [(15, ⟨[0, 1, 2, 6, 7, 8, 9, 10, 13, 14, 15, 16, 17], [.f 18 .bool, .row 11 36 4, .row 12 3 1], []⟩), (16, ⟨[0, 1, 2, 6, 7, 8, 9, 10, 13, 14, 15, 16, 17, 18], [.f 19 .bool, .row 11 36 4, .row 12 3 1], []⟩), (17, ⟨[0, 1, 2, 6, 7, 8, 9, 10, 13, 14, 15, 16, 17, 18, 19], [.f 20 .bool, .row 11 36 4, .row 12 3 1], []⟩), (19, ⟨[0, 1, 2, 6, 7, 8, 9, 10, 13, 15, 16, 17, 18], [.row 11 36 4, .row 12 3 1], []⟩), (21, ⟨[0, 1, 2, 6, 7, 8, 9, 10, 13, 15, 16, 17, 18], [.row 11 36 4, .row 12 3 1], []⟩)] }
def nf_lmer (a : Option Addr) (n : Nat) (c : Nat) (a' : Option Addr) (n' : Nat) (c' : Nat) (a2 : Option Addr) (n2 : Nat) (c2 : Nat) (R : Ending → Heap → Prop) (H : Heap) : Prop := Meets prog (52 : Nat) [] H fun (e : Ending) (H' : Nat → Option Obj) ↦ ∃ (b : Bool), e = Ending.returned (Value.bool b) ∧ Br (!b) (R (Ending.returned (Value.bool false)) H') (Br (decide ((↑n : Int) > (20 : Int))) (R (Ending.returned (Value.bool true)) H') (Br (decide ((↑n' : Int) > (20 : Int))) (R (Ending.returned (Value.bool true)) H') (Br (decide ((↑n2 : Int) > (20 : Int))) (R (Ending.returned (Value.bool true)) H') (Meets prog (53 : Nat) [Value.slice a n c] H' fun (e : Ending) (H' : Nat → Option Obj) ↦ ∃ (a_1 : Option Addr), ∃ (n_1 : Nat), ∃ (c_1 : Nat), e = Ending.returned (Value.slice a_1 n_1 c_1) ∧ Meets prog (53 : Nat) [Value.slice a' n' c'] H' fun (e : Ending) (H' : Nat → Option Obj) ↦ ∃ (a_2 : Option Addr), ∃ (n_2 : Nat), ∃ (c_2 : Nat), e = Ending.returned (Value.slice a_2 n_2 c_2) ∧ Meets prog (53 : Nat) [Value.slice a2 n2 c2] H' fun (e : Ending) (H' : Nat → Option Obj) ↦ ∃ (a_3 : Option Addr), ∃ (n_3 : Nat), ∃ (c_3 : Nat), e = Ending.returned (Value.slice a_3 n_3 c_3) ∧ ∃ (es2 : List (List Value)), SliceAt H' (Value.slice a_1 n_1 c_1) (4 : Nat) es2 ∧ List.length es2 * (32 : Nat) ≤ (140737488355328 : Nat) ∧ ∃ (es2_1 : List (List Value)), SliceAt H' (Value.slice a_2 n_2 c_2) (4 : Nat) es2_1 ∧ List.length (List.append es2 es2_1) * (32 : Nat) ≤ (140737488355328 : Nat) ∧ ∃ (es2_2 : List (List Value)), SliceAt H' (Value.slice a_3 n_3 c_3) (4 : Nat) es2_2 ∧ List.length (List.append (List.append es2 es2_1) es2_2) * (32 : Nat) ≤ (140737488355328 : Nat) ∧ ∀ (v : Value) (H'_1 : Nat → Option Obj), H' ≤ H'_1 → (∀ (b : Nat), blockOf v = some b → H' b = none) → (∀ (b : Nat) (o : Obj), H'_1 b = some o → H' b = some o ∨ blockOf v = some b) → RowAt H'_1 v (36 : Nat) (4 : Nat) (List.append (List.append es2 es2_1) es2_2) → Meets prog (53 : Nat) [v] H'_1 fun (e : Ending) (H' : Nat → Option Obj) ↦ ∃ (a_8 : Option Addr), ∃ (n_4 : Nat), ∃ (c_4 : Nat), e = Ending.returned (Value.slice a_8 n_4 c_4) ∧ ∃ (es : List (List Value)), RowAt H' v (36 : Nat) (4 : Nat) es ∧ a = a ∧ n = n ∧ c = c ∧ a' = a' ∧ n' = n' ∧ c' = c' ∧ a2 = a2 ∧ n2 = n2 ∧ c2 = c2 ∧ false = false ∧ a_1 = a_1 ∧ n_1 = n_1 ∧ c_1 = c_1 ∧ a_2 = a_2 ∧ n_2 = n_2 ∧ c_2 = c_2 ∧ a_3 = a_3 ∧ n_3 = n_3 ∧ c_3 = c_3 ∧ a_8 = a_8 ∧ n_4 = n_4 ∧ c_4 = c_4 ∧ LoopP (fun (K : (Int × List (List Value) × List (List Value) × PUnit) × PUnit → (Nat → Option Obj) → Prop) (p : (Int × List (List Value) × List (List Value) × PUnit) × PUnit) (H : Nat → Option Obj) ↦ Br (decide (p.fst.fst < (↑n_4 : Int))) (((0 : Int) ≤ p.fst.fst ∧ p.fst.fst < (↑n_4 : Int)) ∧ PtrK a_8 fun (A : Addr) ↦ PtrK (some (Addr.add A (Int.toNat p.fst.fst * (4 : Nat)))) fun (a_9 : Addr) ↦ PtrK (some (Addr.add a_9 (0 : Nat))) fun (a_10 : Addr) ↦ ∃ (n_5 : Int), Heap.has H a_10 [Value.int IntKind.i64 n_5] ∧ Meets prog (54 : Nat) [Value.slice a_1 n_1 c_1, Value.int IntKind.i64 n_5] H fun (e : Ending) (H' : Nat → Option Obj) ↦ ∃ (n_6 : Int), e = Ending.returned (Value.int IntKind.i64 n_6) ∧ Meets prog (54 : Nat) [Value.slice a_2 n_2 c_2, Value.int IntKind.i64 n_5] H' fun (e : Ending) (H' : Nat → Option Obj) ↦ ∃ (n_7 : Int), e = Ending.returned (Value.int IntKind.i64 n_7) ∧ Meets prog (54 : Nat) [Value.slice a_3 n_3 c_3, Value.int IntKind.i64 n_5] H' fun (e : Ending) (H' : Nat → Option Obj) ↦ ∃ (n_8 : Int), e = Ending.returned (Value.int IntKind.i64 n_8) ∧ CutP (fun (I : (Bool × List (List Value) × List (List Value) × PUnit) × PUnit → (Nat → Option Obj) → Prop) ↦ Br (decide (n_7 < (0 : Int))) (Br (decide (n_6 < (0 : Int))) (a = a ∧ n = n ∧ c = c ∧ a' = a' ∧ n' = n' ∧ c' = c' ∧ a2 = a2 ∧ n2 = n2 ∧ c2 = c2 ∧ false = false ∧ a_1 = a_1 ∧ n_1 = n_1 ∧ c_1 = c_1 ∧ a_2 = a_2 ∧ n_2 = n_2 ∧ c_2 = c_2 ∧ a_3 = a_3 ∧ n_3 = n_3 ∧ c_3 = c_3 ∧ a_8 = a_8 ∧ n_4 = n_4 ∧ c_4 = c_4 ∧ p.fst.fst = p.fst.fst ∧ n_5 = n_5 ∧ n_6 = n_6 ∧ n_7 = n_7 ∧ n_8 = n_8 ∧ I ((true, p.fst.snd.fst, p.fst.snd.snd.fst, PUnit.unit), PUnit.unit) H') (Br (decide (n_7 ≥ (0 : Int))) (Br (decide (n_6 ≥ (0 : Int))) (((0 : Int) ≤ n_7 ∧ n_7 < (↑n_2 : Int)) ∧ PtrK a_2 fun (A : Addr) ↦ PtrK (some (Addr.add A (Int.toNat n_7 * (4 : Nat)))) fun (a_11 : Addr) ↦ ∃ (n_9 : Int), ∃ (n_10 : Int), ∃ (n_11 : Int), ∃ (s : ByteArray), Heap.has H' a_11 [Value.int IntKind.i64 n_9, Value.int IntKind.u32 n_10, Value.int IntKind.u32 n_11, Value.string s] ∧ ((0 : Int) ≤ n_6 ∧ n_6 < (↑n_1 : Int)) ∧ PtrK a_1 fun (A : Addr) ↦ PtrK (some (Addr.add A (Int.toNat n_6 * (4 : Nat)))) fun (a_12 : Addr) ↦ ∃ (n_12 : Int), ∃ (n_13 : Int), ∃ (n_14 : Int), ∃ (s_1 : ByteArray), Heap.has H' a_12 [Value.int IntKind.i64 n_12, Value.int IntKind.u32 n_13, Value.int IntKind.u32 n_14, Value.string s_1] ∧ a = a ∧ n = n ∧ c = c ∧ a' = a' ∧ n' = n' ∧ c' = c' ∧ a2 = a2 ∧ n2 = n2 ∧ c2 = c2 ∧ false = false ∧ a_1 = a_1 ∧ n_1 = n_1 ∧ c_1 = c_1 ∧ a_2 = a_2 ∧ n_2 = n_2 ∧ c_2 = c_2 ∧ a_3 = a_3 ∧ n_3 = n_3 ∧ c_3 = c_3 ∧ a_8 = a_8 ∧ n_4 = n_4 ∧ c_4 = c_4 ∧ p.fst.fst = p.fst.fst ∧ n_5 = n_5 ∧ n_6 = n_6 ∧ n_7 = n_7 ∧ n_8 = n_8 ∧ I ((andO (some (andO (some (andO (some (andO none (n_9 == n_12))) (n_10 == n_13))) (n_11 == n_14))) (s == s_1), p.fst.snd.fst, p.fst.snd.snd.fst, PUnit.unit), PUnit.unit) H') (a = a ∧ n = n ∧ c = c ∧ a' = a' ∧ n' = n' ∧ c' = c' ∧ a2 = a2 ∧ n2 = n2 ∧ c2 = c2 ∧ false = false ∧ a_1 = a_1 ∧ n_1 = n_1 ∧ c_1 = c_1 ∧ a_2 = a_2 ∧ n_2 = n_2 ∧ c_2 = c_2 ∧ a_3 = a_3 ∧ n_3 = n_3 ∧ c_3 = c_3 ∧ a_8 = a_8 ∧ n_4 = n_4 ∧ c_4 = c_4 ∧ p.fst.fst = p.fst.fst ∧ n_5 = n_5 ∧ n_6 = n_6 ∧ n_7 = n_7 ∧ n_8 = n_8 ∧ I ((false, p.fst.snd.fst, p.fst.snd.snd.fst, PUnit.unit), PUnit.unit) H')) (a = a ∧ n = n ∧ c = c ∧ a' = a' ∧ n' = n' ∧ c' = c' ∧ a2 = a2 ∧ n2 = n2 ∧ c2 = c2 ∧ false = false ∧ a_1 = a_1 ∧ n_1 = n_1 ∧ c_1 = c_1 ∧ a_2 = a_2 ∧ n_2 = n_2 ∧ c_2 = c_2 ∧ a_3 = a_3 ∧ n_3 = n_3 ∧ c_3 = c_3 ∧ a_8 = a_8 ∧ n_4 = n_4 ∧ c_4 = c_4 ∧ p.fst.fst = p.fst.fst ∧ n_5 = n_5 ∧ n_6 = n_6 ∧ n_7 = n_7 ∧ n_8 = n_8 ∧ I ((false, p.fst.snd.fst, p.fst.snd.snd.fst, PUnit.unit), PUnit.unit) H'))) (Br (decide (n_7 ≥ (0 : Int))) (Br (decide (n_6 ≥ (0 : Int))) (((0 : Int) ≤ n_7 ∧ n_7 < (↑n_2 : Int)) ∧ PtrK a_2 fun (A : Addr) ↦ PtrK (some (Addr.add A (Int.toNat n_7 * (4 : Nat)))) fun (a_11 : Addr) ↦ ∃ (n_9 : Int), ∃ (n_10 : Int), ∃ (n_11 : Int), ∃ (s : ByteArray), Heap.has H' a_11 [Value.int IntKind.i64 n_9, Value.int IntKind.u32 n_10, Value.int IntKind.u32 n_11, Value.string s] ∧ ((0 : Int) ≤ n_6 ∧ n_6 < (↑n_1 : Int)) ∧ PtrK a_1 fun (A : Addr) ↦ PtrK (some (Addr.add A (Int.toNat n_6 * (4 : Nat)))) fun (a_12 : Addr) ↦ ∃ (n_12 : Int), ∃ (n_13 : Int), ∃ (n_14 : Int), ∃ (s_1 : ByteArray), Heap.has H' a_12 [Value.int IntKind.i64 n_12, Value.int IntKind.u32 n_13, Value.int IntKind.u32 n_14, Value.string s_1] ∧ a = a ∧ n = n ∧ c = c ∧ a' = a' ∧ n' = n' ∧ c' = c' ∧ a2 = a2 ∧ n2 = n2 ∧ c2 = c2 ∧ false = false ∧ a_1 = a_1 ∧ n_1 = n_1 ∧ c_1 = c_1 ∧ a_2 = a_2 ∧ n_2 = n_2 ∧ c_2 = c_2 ∧ a_3 = a_3 ∧ n_3 = n_3 ∧ c_3 = c_3 ∧ a_8 = a_8 ∧ n_4 = n_4 ∧ c_4 = c_4 ∧ p.fst.fst = p.fst.fst ∧ n_5 = n_5 ∧ n_6 = n_6 ∧ n_7 = n_7 ∧ n_8 = n_8 ∧ I ((andO (some (andO (some (andO (some (andO none (n_9 == n_12))) (n_10 == n_13))) (n_11 == n_14))) (s == s_1), p.fst.snd.fst, p.fst.snd.snd.fst, PUnit.unit), PUnit.unit) H') (a = a ∧ n = n ∧ c = c ∧ a' = a' ∧ n' = n' ∧ c' = c' ∧ a2 = a2 ∧ n2 = n2 ∧ c2 = c2 ∧ false = false ∧ a_1 = a_1 ∧ n_1 = n_1 ∧ c_1 = c_1 ∧ a_2 = a_2 ∧ n_2 = n_2 ∧ c_2 = c_2 ∧ a_3 = a_3 ∧ n_3 = n_3 ∧ c_3 = c_3 ∧ a_8 = a_8 ∧ n_4 = n_4 ∧ c_4 = c_4 ∧ p.fst.fst = p.fst.fst ∧ n_5 = n_5 ∧ n_6 = n_6 ∧ n_7 = n_7 ∧ n_8 = n_8 ∧ I ((false, p.fst.snd.fst, p.fst.snd.snd.fst, PUnit.unit), PUnit.unit) H')) (a = a ∧ n = n ∧ c = c ∧ a' = a' ∧ n' = n' ∧ c' = c' ∧ a2 = a2 ∧ n2 = n2 ∧ c2 = c2 ∧ false = false ∧ a_1 = a_1 ∧ n_1 = n_1 ∧ c_1 = c_1 ∧ a_2 = a_2 ∧ n_2 = n_2 ∧ c_2 = c_2 ∧ a_3 = a_3 ∧ n_3 = n_3 ∧ c_3 = c_3 ∧ a_8 = a_8 ∧ n_4 = n_4 ∧ c_4 = c_4 ∧ p.fst.fst = p.fst.fst ∧ n_5 = n_5 ∧ n_6 = n_6 ∧ n_7 = n_7 ∧ n_8 = n_8 ∧ I ((false, p.fst.snd.fst, p.fst.snd.snd.fst, PUnit.unit), PUnit.unit) H'))) fun (p_1 : (Bool × List (List Value) × List (List Value) × PUnit) × PUnit) (H : Nat → Option Obj) ↦ CutP (fun (I : (Bool × List (List Value) × List (List Value) × PUnit) × PUnit → (Nat → Option Obj) → Prop) ↦ Br (decide (n_8 < (0 : Int))) (Br (decide (n_6 < (0 : Int))) (a = a ∧ n = n ∧ c = c ∧ a' = a' ∧ n' = n' ∧ c' = c' ∧ a2 = a2 ∧ n2 = n2 ∧ c2 = c2 ∧ false = false ∧ a_1 = a_1 ∧ n_1 = n_1 ∧ c_1 = c_1 ∧ a_2 = a_2 ∧ n_2 = n_2 ∧ c_2 = c_2 ∧ a_3 = a_3 ∧ n_3 = n_3 ∧ c_3 = c_3 ∧ a_8 = a_8 ∧ n_4 = n_4 ∧ c_4 = c_4 ∧ p.fst.fst = p.fst.fst ∧ n_5 = n_5 ∧ n_6 = n_6 ∧ n_7 = n_7 ∧ n_8 = n_8 ∧ p_1.fst.fst = p_1.fst.fst ∧ I ((true, p_1.fst.snd.fst, p_1.fst.snd.snd.fst, PUnit.unit), PUnit.unit) H) (Br (decide (n_8 ≥ (0 : Int))) (Br (decide (n_6 ≥ (0 : Int))) (((0 : Int) ≤ n_8 ∧ n_8 < (↑n_3 : Int)) ∧ PtrK a_3 fun (A : Addr) ↦ PtrK (some (Addr.add A (Int.toNat n_8 * (4 : Nat)))) fun (a_11 : Addr) ↦ ∃ (n_9 : Int), ∃ (n_10 : Int), ∃ (n_11 : Int), ∃ (s : ByteArray), Heap.has H a_11 [Value.int IntKind.i64 n_9, Value.int IntKind.u32 n_10, Value.int IntKind.u32 n_11, Value.string s] ∧ ((0 : Int) ≤ n_6 ∧ n_6 < (↑n_1 : Int)) ∧ PtrK a_1 fun (A : Addr) ↦ PtrK (some (Addr.add A (Int.toNat n_6 * (4 : Nat)))) fun (a_12 : Addr) ↦ ∃ (n_12 : Int), ∃ (n_13 : Int), ∃ (n_14 : Int), ∃ (s_1 : ByteArray), Heap.has H a_12 [Value.int IntKind.i64 n_12, Value.int IntKind.u32 n_13, Value.int IntKind.u32 n_14, Value.string s_1] ∧ a = a ∧ n = n ∧ c = c ∧ a' = a' ∧ n' = n' ∧ c' = c' ∧ a2 = a2 ∧ n2 = n2 ∧ c2 = c2 ∧ false = false ∧ a_1 = a_1 ∧ n_1 = n_1 ∧ c_1 = c_1 ∧ a_2 = a_2 ∧ n_2 = n_2 ∧ c_2 = c_2 ∧ a_3 = a_3 ∧ n_3 = n_3 ∧ c_3 = c_3 ∧ a_8 = a_8 ∧ n_4 = n_4 ∧ c_4 = c_4 ∧ p.fst.fst = p.fst.fst ∧ n_5 = n_5 ∧ n_6 = n_6 ∧ n_7 = n_7 ∧ n_8 = n_8 ∧ p_1.fst.fst = p_1.fst.fst ∧ I ((andO (some (andO (some (andO (some (andO none (n_9 == n_12))) (n_10 == n_13))) (n_11 == n_14))) (s == s_1), p_1.fst.snd.fst, p_1.fst.snd.snd.fst, PUnit.unit), PUnit.unit) H) (a = a ∧ n = n ∧ c = c ∧ a' = a' ∧ n' = n' ∧ c' = c' ∧ a2 = a2 ∧ n2 = n2 ∧ c2 = c2 ∧ false = false ∧ a_1 = a_1 ∧ n_1 = n_1 ∧ c_1 = c_1 ∧ a_2 = a_2 ∧ n_2 = n_2 ∧ c_2 = c_2 ∧ a_3 = a_3 ∧ n_3 = n_3 ∧ c_3 = c_3 ∧ a_8 = a_8 ∧ n_4 = n_4 ∧ c_4 = c_4 ∧ p.fst.fst = p.fst.fst ∧ n_5 = n_5 ∧ n_6 = n_6 ∧ n_7 = n_7 ∧ n_8 = n_8 ∧ p_1.fst.fst = p_1.fst.fst ∧ I ((false, p_1.fst.snd.fst, p_1.fst.snd.snd.fst, PUnit.unit), PUnit.unit) H)) (a = a ∧ n = n ∧ c = c ∧ a' = a' ∧ n' = n' ∧ c' = c' ∧ a2 = a2 ∧ n2 = n2 ∧ c2 = c2 ∧ false = false ∧ a_1 = a_1 ∧ n_1 = n_1 ∧ c_1 = c_1 ∧ a_2 = a_2 ∧ n_2 = n_2 ∧ c_2 = c_2 ∧ a_3 = a_3 ∧ n_3 = n_3 ∧ c_3 = c_3 ∧ a_8 = a_8 ∧ n_4 = n_4 ∧ c_4 = c_4 ∧ p.fst.fst = p.fst.fst ∧ n_5 = n_5 ∧ n_6 = n_6 ∧ n_7 = n_7 ∧ n_8 = n_8 ∧ p_1.fst.fst = p_1.fst.fst ∧ I ((false, p_1.fst.snd.fst, p_1.fst.snd.snd.fst, PUnit.unit), PUnit.unit) H))) (Br (decide (n_8 ≥ (0 : Int))) (Br (decide (n_6 ≥ (0 : Int))) (((0 : Int) ≤ n_8 ∧ n_8 < (↑n_3 : Int)) ∧ PtrK a_3 fun (A : Addr) ↦ PtrK (some (Addr.add A (Int.toNat n_8 * (4 : Nat)))) fun (a_11 : Addr) ↦ ∃ (n_9 : Int), ∃ (n_10 : Int), ∃ (n_11 : Int), ∃ (s : ByteArray), Heap.has H a_11 [Value.int IntKind.i64 n_9, Value.int IntKind.u32 n_10, Value.int IntKind.u32 n_11, Value.string s] ∧ ((0 : Int) ≤ n_6 ∧ n_6 < (↑n_1 : Int)) ∧ PtrK a_1 fun (A : Addr) ↦ PtrK (some (Addr.add A (Int.toNat n_6 * (4 : Nat)))) fun (a_12 : Addr) ↦ ∃ (n_12 : Int), ∃ (n_13 : Int), ∃ (n_14 : Int), ∃ (s_1 : ByteArray), Heap.has H a_12 [Value.int IntKind.i64 n_12, Value.int IntKind.u32 n_13, Value.int IntKind.u32 n_14, Value.string s_1] ∧ a = a ∧ n = n ∧ c = c ∧ a' = a' ∧ n' = n' ∧ c' = c' ∧ a2 = a2 ∧ n2 = n2 ∧ c2 = c2 ∧ false = false ∧ a_1 = a_1 ∧ n_1 = n_1 ∧ c_1 = c_1 ∧ a_2 = a_2 ∧ n_2 = n_2 ∧ c_2 = c_2 ∧ a_3 = a_3 ∧ n_3 = n_3 ∧ c_3 = c_3 ∧ a_8 = a_8 ∧ n_4 = n_4 ∧ c_4 = c_4 ∧ p.fst.fst = p.fst.fst ∧ n_5 = n_5 ∧ n_6 = n_6 ∧ n_7 = n_7 ∧ n_8 = n_8 ∧ p_1.fst.fst = p_1.fst.fst ∧ I ((andO (some (andO (some (andO (some (andO none (n_9 == n_12))) (n_10 == n_13))) (n_11 == n_14))) (s == s_1), p_1.fst.snd.fst, p_1.fst.snd.snd.fst, PUnit.unit), PUnit.unit) H) (a = a ∧ n = n ∧ c = c ∧ a' = a' ∧ n' = n' ∧ c' = c' ∧ a2 = a2 ∧ n2 = n2 ∧ c2 = c2 ∧ false = false ∧ a_1 = a_1 ∧ n_1 = n_1 ∧ c_1 = c_1 ∧ a_2 = a_2 ∧ n_2 = n_2 ∧ c_2 = c_2 ∧ a_3 = a_3 ∧ n_3 = n_3 ∧ c_3 = c_3 ∧ a_8 = a_8 ∧ n_4 = n_4 ∧ c_4 = c_4 ∧ p.fst.fst = p.fst.fst ∧ n_5 = n_5 ∧ n_6 = n_6 ∧ n_7 = n_7 ∧ n_8 = n_8 ∧ p_1.fst.fst = p_1.fst.fst ∧ I ((false, p_1.fst.snd.fst, p_1.fst.snd.snd.fst, PUnit.unit), PUnit.unit) H)) (a = a ∧ n = n ∧ c = c ∧ a' = a' ∧ n' = n' ∧ c' = c' ∧ a2 = a2 ∧ n2 = n2 ∧ c2 = c2 ∧ false = false ∧ a_1 = a_1 ∧ n_1 = n_1 ∧ c_1 = c_1 ∧ a_2 = a_2 ∧ n_2 = n_2 ∧ c_2 = c_2 ∧ a_3 = a_3 ∧ n_3 = n_3 ∧ c_3 = c_3 ∧ a_8 = a_8 ∧ n_4 = n_4 ∧ c_4 = c_4 ∧ p.fst.fst = p.fst.fst ∧ n_5 = n_5 ∧ n_6 = n_6 ∧ n_7 = n_7 ∧ n_8 = n_8 ∧ p_1.fst.fst = p_1.fst.fst ∧ I ((false, p_1.fst.snd.fst, p_1.fst.snd.snd.fst, PUnit.unit), PUnit.unit) H))) fun (p_2 : (Bool × List (List Value) × List (List Value) × PUnit) × PUnit) (H : Nat → Option Obj) ↦ CutP (fun (I : (Bool × List (List Value) × List (List Value) × PUnit) × PUnit → (Nat → Option Obj) → Prop) ↦ Br (decide (n_7 < (0 : Int))) (Br (decide (n_8 < (0 : Int))) (a = a ∧ n = n ∧ c = c ∧ a' = a' ∧ n' = n' ∧ c' = c' ∧ a2 = a2 ∧ n2 = n2 ∧ c2 = c2 ∧ false = false ∧ a_1 = a_1 ∧ n_1 = n_1 ∧ c_1 = c_1 ∧ a_2 = a_2 ∧ n_2 = n_2 ∧ c_2 = c_2 ∧ a_3 = a_3 ∧ n_3 = n_3 ∧ c_3 = c_3 ∧ a_8 = a_8 ∧ n_4 = n_4 ∧ c_4 = c_4 ∧ p.fst.fst = p.fst.fst ∧ n_5 = n_5 ∧ n_6 = n_6 ∧ n_7 = n_7 ∧ n_8 = n_8 ∧ p_1.fst.fst = p_1.fst.fst ∧ p_2.fst.fst = p_2.fst.fst ∧ I ((true, p_2.fst.snd.fst, p_2.fst.snd.snd.fst, PUnit.unit), PUnit.unit) H) (Br (decide (n_7 ≥ (0 : Int))) (Br (decide (n_8 ≥ (0 : Int))) (((0 : Int) ≤ n_7 ∧ n_7 < (↑n_2 : Int)) ∧ PtrK a_2 fun (A : Addr) ↦ PtrK (some (Addr.add A (Int.toNat n_7 * (4 : Nat)))) fun (a_11 : Addr) ↦ ∃ (n_9 : Int), ∃ (n_10 : Int), ∃ (n_11 : Int), ∃ (s : ByteArray), Heap.has H a_11 [Value.int IntKind.i64 n_9, Value.int IntKind.u32 n_10, Value.int IntKind.u32 n_11, Value.string s] ∧ ((0 : Int) ≤ n_8 ∧ n_8 < (↑n_3 : Int)) ∧ PtrK a_3 fun (A : Addr) ↦ PtrK (some (Addr.add A (Int.toNat n_8 * (4 : Nat)))) fun (a_12 : Addr) ↦ ∃ (n_12 : Int), ∃ (n_13 : Int), ∃ (n_14 : Int), ∃ (s_1 : ByteArray), Heap.has H a_12 [Value.int IntKind.i64 n_12, Value.int IntKind.u32 n_13, Value.int IntKind.u32 n_14, Value.string s_1] ∧ a = a ∧ n = n ∧ c = c ∧ a' = a' ∧ n' = n' ∧ c' = c' ∧ a2 = a2 ∧ n2 = n2 ∧ c2 = c2 ∧ false = false ∧ a_1 = a_1 ∧ n_1 = n_1 ∧ c_1 = c_1 ∧ a_2 = a_2 ∧ n_2 = n_2 ∧ c_2 = c_2 ∧ a_3 = a_3 ∧ n_3 = n_3 ∧ c_3 = c_3 ∧ a_8 = a_8 ∧ n_4 = n_4 ∧ c_4 = c_4 ∧ p.fst.fst = p.fst.fst ∧ n_5 = n_5 ∧ n_6 = n_6 ∧ n_7 = n_7 ∧ n_8 = n_8 ∧ p_1.fst.fst = p_1.fst.fst ∧ p_2.fst.fst = p_2.fst.fst ∧ I ((andO (some (andO (some (andO (some (andO none (n_9 == n_12))) (n_10 == n_13))) (n_11 == n_14))) (s == s_1), p_2.fst.snd.fst, p_2.fst.snd.snd.fst, PUnit.unit), PUnit.unit) H) (a = a ∧ n = n ∧ c = c ∧ a' = a' ∧ n' = n' ∧ c' = c' ∧ a2 = a2 ∧ n2 = n2 ∧ c2 = c2 ∧ false = false ∧ a_1 = a_1 ∧ n_1 = n_1 ∧ c_1 = c_1 ∧ a_2 = a_2 ∧ n_2 = n_2 ∧ c_2 = c_2 ∧ a_3 = a_3 ∧ n_3 = n_3 ∧ c_3 = c_3 ∧ a_8 = a_8 ∧ n_4 = n_4 ∧ c_4 = c_4 ∧ p.fst.fst = p.fst.fst ∧ n_5 = n_5 ∧ n_6 = n_6 ∧ n_7 = n_7 ∧ n_8 = n_8 ∧ p_1.fst.fst = p_1.fst.fst ∧ p_2.fst.fst = p_2.fst.fst ∧ I ((false, p_2.fst.snd.fst, p_2.fst.snd.snd.fst, PUnit.unit), PUnit.unit) H)) (a = a ∧ n = n ∧ c = c ∧ a' = a' ∧ n' = n' ∧ c' = c' ∧ a2 = a2 ∧ n2 = n2 ∧ c2 = c2 ∧ false = false ∧ a_1 = a_1 ∧ n_1 = n_1 ∧ c_1 = c_1 ∧ a_2 = a_2 ∧ n_2 = n_2 ∧ c_2 = c_2 ∧ a_3 = a_3 ∧ n_3 = n_3 ∧ c_3 = c_3 ∧ a_8 = a_8 ∧ n_4 = n_4 ∧ c_4 = c_4 ∧ p.fst.fst = p.fst.fst ∧ n_5 = n_5 ∧ n_6 = n_6 ∧ n_7 = n_7 ∧ n_8 = n_8 ∧ p_1.fst.fst = p_1.fst.fst ∧ p_2.fst.fst = p_2.fst.fst ∧ I ((false, p_2.fst.snd.fst, p_2.fst.snd.snd.fst, PUnit.unit), PUnit.unit) H))) (Br (decide (n_7 ≥ (0 : Int))) (Br (decide (n_8 ≥ (0 : Int))) (((0 : Int) ≤ n_7 ∧ n_7 < (↑n_2 : Int)) ∧ PtrK a_2 fun (A : Addr) ↦ PtrK (some (Addr.add A (Int.toNat n_7 * (4 : Nat)))) fun (a_11 : Addr) ↦ ∃ (n_9 : Int), ∃ (n_10 : Int), ∃ (n_11 : Int), ∃ (s : ByteArray), Heap.has H a_11 [Value.int IntKind.i64 n_9, Value.int IntKind.u32 n_10, Value.int IntKind.u32 n_11, Value.string s] ∧ ((0 : Int) ≤ n_8 ∧ n_8 < (↑n_3 : Int)) ∧ PtrK a_3 fun (A : Addr) ↦ PtrK (some (Addr.add A (Int.toNat n_8 * (4 : Nat)))) fun (a_12 : Addr) ↦ ∃ (n_12 : Int), ∃ (n_13 : Int), ∃ (n_14 : Int), ∃ (s_1 : ByteArray), Heap.has H a_12 [Value.int IntKind.i64 n_12, Value.int IntKind.u32 n_13, Value.int IntKind.u32 n_14, Value.string s_1] ∧ a = a ∧ n = n ∧ c = c ∧ a' = a' ∧ n' = n' ∧ c' = c' ∧ a2 = a2 ∧ n2 = n2 ∧ c2 = c2 ∧ false = false ∧ a_1 = a_1 ∧ n_1 = n_1 ∧ c_1 = c_1 ∧ a_2 = a_2 ∧ n_2 = n_2 ∧ c_2 = c_2 ∧ a_3 = a_3 ∧ n_3 = n_3 ∧ c_3 = c_3 ∧ a_8 = a_8 ∧ n_4 = n_4 ∧ c_4 = c_4 ∧ p.fst.fst = p.fst.fst ∧ n_5 = n_5 ∧ n_6 = n_6 ∧ n_7 = n_7 ∧ n_8 = n_8 ∧ p_1.fst.fst = p_1.fst.fst ∧ p_2.fst.fst = p_2.fst.fst ∧ I ((andO (some (andO (some (andO (some (andO none (n_9 == n_12))) (n_10 == n_13))) (n_11 == n_14))) (s == s_1), p_2.fst.snd.fst, p_2.fst.snd.snd.fst, PUnit.unit), PUnit.unit) H) (a = a ∧ n = n ∧ c = c ∧ a' = a' ∧ n' = n' ∧ c' = c' ∧ a2 = a2 ∧ n2 = n2 ∧ c2 = c2 ∧ false = false ∧ a_1 = a_1 ∧ n_1 = n_1 ∧ c_1 = c_1 ∧ a_2 = a_2 ∧ n_2 = n_2 ∧ c_2 = c_2 ∧ a_3 = a_3 ∧ n_3 = n_3 ∧ c_3 = c_3 ∧ a_8 = a_8 ∧ n_4 = n_4 ∧ c_4 = c_4 ∧ p.fst.fst = p.fst.fst ∧ n_5 = n_5 ∧ n_6 = n_6 ∧ n_7 = n_7 ∧ n_8 = n_8 ∧ p_1.fst.fst = p_1.fst.fst ∧ p_2.fst.fst = p_2.fst.fst ∧ I ((false, p_2.fst.snd.fst, p_2.fst.snd.snd.fst, PUnit.unit), PUnit.unit) H)) (a = a ∧ n = n ∧ c = c ∧ a' = a' ∧ n' = n' ∧ c' = c' ∧ a2 = a2 ∧ n2 = n2 ∧ c2 = c2 ∧ false = false ∧ a_1 = a_1 ∧ n_1 = n_1 ∧ c_1 = c_1 ∧ a_2 = a_2 ∧ n_2 = n_2 ∧ c_2 = c_2 ∧ a_3 = a_3 ∧ n_3 = n_3 ∧ c_3 = c_3 ∧ a_8 = a_8 ∧ n_4 = n_4 ∧ c_4 = c_4 ∧ p.fst.fst = p.fst.fst ∧ n_5 = n_5 ∧ n_6 = n_6 ∧ n_7 = n_7 ∧ n_8 = n_8 ∧ p_1.fst.fst = p_1.fst.fst ∧ p_2.fst.fst = p_2.fst.fst ∧ I ((false, p_2.fst.snd.fst, p_2.fst.snd.snd.fst, PUnit.unit), PUnit.unit) H))) fun (p_3 : (Bool × List (List Value) × List (List Value) × PUnit) × PUnit) (H : Nat → Option Obj) ↦ CutP (fun (I : (List (List Value) × List (List Value) × PUnit) × PUnit → (Nat → Option Obj) → Prop) ↦ Br (!p_1.fst.fst) (Br (!p_2.fst.fst) (Br (!p_3.fst.fst) (List.length (List.append p_3.fst.snd.snd.fst [[Value.int IntKind.i64 n_5]]) * (8 : Nat) ≤ (140737488355328 : Nat) ∧ a = a ∧ n = n ∧ c = c ∧ a' = a' ∧ n' = n' ∧ c' = c' ∧ a2 = a2 ∧ n2 = n2 ∧ c2 = c2 ∧ false = false ∧ a_1 = a_1 ∧ n_1 = n_1 ∧ c_1 = c_1 ∧ a_2 = a_2 ∧ n_2 = n_2 ∧ c_2 = c_2 ∧ a_3 = a_3 ∧ n_3 = n_3 ∧ c_3 = c_3 ∧ a_8 = a_8 ∧ n_4 = n_4 ∧ c_4 = c_4 ∧ p.fst.fst = p.fst.fst ∧ n_6 = n_6 ∧ n_7 = n_7 ∧ n_8 = n_8 ∧ p_1.fst.fst = p_1.fst.fst ∧ I ((p_3.fst.snd.fst, List.append p_3.fst.snd.snd.fst [[Value.int IntKind.i64 n_5]], PUnit.unit), PUnit.unit) H) (a = a ∧ n = n ∧ c = c ∧ a' = a' ∧ n' = n' ∧ c' = c' ∧ a2 = a2 ∧ n2 = n2 ∧ c2 = c2 ∧ false = false ∧ a_1 = a_1 ∧ n_1 = n_1 ∧ c_1 = c_1 ∧ a_2 = a_2 ∧ n_2 = n_2 ∧ c_2 = c_2 ∧ a_3 = a_3 ∧ n_3 = n_3 ∧ c_3 = c_3 ∧ a_8 = a_8 ∧ n_4 = n_4 ∧ c_4 = c_4 ∧ p.fst.fst = p.fst.fst ∧ n_6 = n_6 ∧ n_7 = n_7 ∧ n_8 = n_8 ∧ p_1.fst.fst = p_1.fst.fst ∧ I ((p_3.fst.snd.fst, p_3.fst.snd.snd.fst, PUnit.unit), PUnit.unit) H)) (a = a ∧ n = n ∧ c = c ∧ a' = a' ∧ n' = n' ∧ c' = c' ∧ a2 = a2 ∧ n2 = n2 ∧ c2 = c2 ∧ false = false ∧ a_1 = a_1 ∧ n_1 = n_1 ∧ c_1 = c_1 ∧ a_2 = a_2 ∧ n_2 = n_2 ∧ c_2 = c_2 ∧ a_3 = a_3 ∧ n_3 = n_3 ∧ c_3 = c_3 ∧ a_8 = a_8 ∧ n_4 = n_4 ∧ c_4 = c_4 ∧ p.fst.fst = p.fst.fst ∧ n_6 = n_6 ∧ n_7 = n_7 ∧ n_8 = n_8 ∧ p_1.fst.fst = p_1.fst.fst ∧ I ((p_3.fst.snd.fst, p_3.fst.snd.snd.fst, PUnit.unit), PUnit.unit) H)) (a = a ∧ n = n ∧ c = c ∧ a' = a' ∧ n' = n' ∧ c' = c' ∧ a2 = a2 ∧ n2 = n2 ∧ c2 = c2 ∧ false = false ∧ a_1 = a_1 ∧ n_1 = n_1 ∧ c_1 = c_1 ∧ a_2 = a_2 ∧ n_2 = n_2 ∧ c_2 = c_2 ∧ a_3 = a_3 ∧ n_3 = n_3 ∧ c_3 = c_3 ∧ a_8 = a_8 ∧ n_4 = n_4 ∧ c_4 = c_4 ∧ p.fst.fst = p.fst.fst ∧ n_6 = n_6 ∧ n_7 = n_7 ∧ n_8 = n_8 ∧ p_1.fst.fst = p_1.fst.fst ∧ I ((p_3.fst.snd.fst, p_3.fst.snd.snd.fst, PUnit.unit), PUnit.unit) H)) fun (p_4 : (List (List Value) × List (List Value) × PUnit) × PUnit) (H : Nat → Option Obj) ↦ CutP (fun (I : (List (List Value) × List (List Value) × PUnit) × PUnit → (Nat → Option Obj) → Prop) ↦ Br p_1.fst.fst (Br (decide (n_8 ≥ (0 : Int))) (((0 : Int) ≤ n_8 ∧ n_8 < (↑n_3 : Int)) ∧ PtrK a_3 fun (A : Addr) ↦ PtrK (some (Addr.add A (Int.toNat n_8 * (4 : Nat)))) fun (a_11 : Addr) ↦ ∃ (n_9 : Int), ∃ (n_10 : Int), ∃ (n_11 : Int), ∃ (s : ByteArray), Heap.has H a_11 [Value.int IntKind.i64 n_9, Value.int IntKind.u32 n_10, Value.int IntKind.u32 n_11, Value.string s] ∧ List.length (List.append p_4.fst.fst [[Value.int IntKind.i64 n_9, Value.int IntKind.u32 n_10, Value.int IntKind.u32 n_11, Value.string s]]) * (32 : Nat) ≤ (140737488355328 : Nat) ∧ a = a ∧ n = n ∧ c = c ∧ a' = a' ∧ n' = n' ∧ c' = c' ∧ a2 = a2 ∧ n2 = n2 ∧ c2 = c2 ∧ false = false ∧ a_1 = a_1 ∧ n_1 = n_1 ∧ c_1 = c_1 ∧ a_2 = a_2 ∧ n_2 = n_2 ∧ c_2 = c_2 ∧ a_3 = a_3 ∧ n_3 = n_3 ∧ c_3 = c_3 ∧ a_8 = a_8 ∧ n_4 = n_4 ∧ c_4 = c_4 ∧ p.fst.fst = p.fst.fst ∧ n_6 = n_6 ∧ n_7 = n_7 ∧ n_8 = n_8 ∧ p_1.fst.fst = p_1.fst.fst ∧ I ((List.append p_4.fst.fst [[Value.int IntKind.i64 n_9, Value.int IntKind.u32 n_10, Value.int IntKind.u32 n_11, Value.string s]], p_4.fst.snd.fst, PUnit.unit), PUnit.unit) H) (a = a ∧ n = n ∧ c = c ∧ a' = a' ∧ n' = n' ∧ c' = c' ∧ a2 = a2 ∧ n2 = n2 ∧ c2 = c2 ∧ false = false ∧ a_1 = a_1 ∧ n_1 = n_1 ∧ c_1 = c_1 ∧ a_2 = a_2 ∧ n_2 = n_2 ∧ c_2 = c_2 ∧ a_3 = a_3 ∧ n_3 = n_3 ∧ c_3 = c_3 ∧ a_8 = a_8 ∧ n_4 = n_4 ∧ c_4 = c_4 ∧ p.fst.fst = p.fst.fst ∧ n_6 = n_6 ∧ n_7 = n_7 ∧ n_8 = n_8 ∧ p_1.fst.fst = p_1.fst.fst ∧ I ((p_4.fst.fst, p_4.fst.snd.fst, PUnit.unit), PUnit.unit) H)) (a = a ∧ n = n ∧ c = c ∧ a' = a' ∧ n' = n' ∧ c' = c' ∧ a2 = a2 ∧ n2 = n2 ∧ c2 = c2 ∧ false = false ∧ a_1 = a_1 ∧ n_1 = n_1 ∧ c_1 = c_1 ∧ a_2 = a_2 ∧ n_2 = n_2 ∧ c_2 = c_2 ∧ a_3 = a_3 ∧ n_3 = n_3 ∧ c_3 = c_3 ∧ a_8 = a_8 ∧ n_4 = n_4 ∧ c_4 = c_4 ∧ p.fst.fst = p.fst.fst ∧ n_6 = n_6 ∧ n_7 = n_7 ∧ n_8 = n_8 ∧ p_1.fst.fst = p_1.fst.fst ∧ I ((p_4.fst.fst, p_4.fst.snd.fst, PUnit.unit), PUnit.unit) H)) fun (p_5 : (List (List Value) × List (List Value) × PUnit) × PUnit) (H : Nat → Option Obj) ↦ Br (!p_1.fst.fst) (Br (decide (n_7 ≥ (0 : Int))) (((0 : Int) ≤ n_7 ∧ n_7 < (↑n_2 : Int)) ∧ PtrK a_2 fun (A : Addr) ↦ PtrK (some (Addr.add A (Int.toNat n_7 * (4 : Nat)))) fun (a_11 : Addr) ↦ ∃ (n_9 : Int), ∃ (n_10 : Int), ∃ (n_11 : Int), ∃ (s : ByteArray), Heap.has H a_11 [Value.int IntKind.i64 n_9, Value.int IntKind.u32 n_10, Value.int IntKind.u32 n_11, Value.string s] ∧ List.length (List.append p_5.fst.fst [[Value.int IntKind.i64 n_9, Value.int IntKind.u32 n_10, Value.int IntKind.u32 n_11, Value.string s]]) * (32 : Nat) ≤ (140737488355328 : Nat) ∧ a = a ∧ n = n ∧ c = c ∧ a' = a' ∧ n' = n' ∧ c' = c' ∧ a2 = a2 ∧ n2 = n2 ∧ c2 = c2 ∧ false = false ∧ a_1 = a_1 ∧ n_1 = n_1 ∧ c_1 = c_1 ∧ a_2 = a_2 ∧ n_2 = n_2 ∧ c_2 = c_2 ∧ a_3 = a_3 ∧ n_3 = n_3 ∧ c_3 = c_3 ∧ a_8 = a_8 ∧ n_4 = n_4 ∧ c_4 = c_4 ∧ K ((IntKind.wrap IntKind.i64 (p.fst.fst + (1 : Int)), List.append p_5.fst.fst [[Value.int IntKind.i64 n_9, Value.int IntKind.u32 n_10, Value.int IntKind.u32 n_11, Value.string s]], p_5.fst.snd.fst, PUnit.unit), PUnit.unit) H) (a = a ∧ n = n ∧ c = c ∧ a' = a' ∧ n' = n' ∧ c' = c' ∧ a2 = a2 ∧ n2 = n2 ∧ c2 = c2 ∧ false = false ∧ a_1 = a_1 ∧ n_1 = n_1 ∧ c_1 = c_1 ∧ a_2 = a_2 ∧ n_2 = n_2 ∧ c_2 = c_2 ∧ a_3 = a_3 ∧ n_3 = n_3 ∧ c_3 = c_3 ∧ a_8 = a_8 ∧ n_4 = n_4 ∧ c_4 = c_4 ∧ K ((IntKind.wrap IntKind.i64 (p.fst.fst + (1 : Int)), p_5.fst.fst, p_5.fst.snd.fst, PUnit.unit), PUnit.unit) H)) (a = a ∧ n = n ∧ c = c ∧ a' = a' ∧ n' = n' ∧ c' = c' ∧ a2 = a2 ∧ n2 = n2 ∧ c2 = c2 ∧ false = false ∧ a_1 = a_1 ∧ n_1 = n_1 ∧ c_1 = c_1 ∧ a_2 = a_2 ∧ n_2 = n_2 ∧ c_2 = c_2 ∧ a_3 = a_3 ∧ n_3 = n_3 ∧ c_3 = c_3 ∧ a_8 = a_8 ∧ n_4 = n_4 ∧ c_4 = c_4 ∧ K ((IntKind.wrap IntKind.i64 (p.fst.fst + (1 : Int)), p_5.fst.fst, p_5.fst.snd.fst, PUnit.unit), PUnit.unit) H)) (Meets prog (55 : Nat) [Value.slice a n c, Value.slice a' n' c', Value.slice a2 n2 c2] H fun (e : Ending) (H' : Nat → Option Obj) ↦ ∃ (a : Option Addr), ∃ (n : Nat), ∃ (c : Nat), ∃ (a_9 : Option Addr), ∃ (n_5 : Nat), ∃ (c_5 : Nat), e = Ending.returned (Value.tuple { toList := [Value.slice a n c, Value.slice a_9 n_5 c_5] }) ∧ ∀ (v : Value) (H'_2 : Nat → Option Obj), H' ≤ H'_2 → (∀ (b : Nat), blockOf v = some b → H' b = none) → (∀ (b : Nat) (o : Obj), H'_2 b = some o → H' b = some o ∨ blockOf v = some b) → RowAt H'_2 v (36 : Nat) (4 : Nat) p.fst.snd.fst → Meets prog (39 : Nat) [Value.slice a n c, v] H'_2 fun (e : Ending) (H' : Nat → Option Obj) ↦ ∃ (b : Bool), e = Ending.returned (Value.bool b) ∧ ∃ (es : List (List Value)), RowAt H' v (36 : Nat) (4 : Nat) es ∧ Br b (∀ (v_1 : Value) (H'_3 : Nat → Option Obj), Heap.delO H' (blockOf v) ≤ H'_3 → (∀ (b : Nat), blockOf v_1 = some b → Heap.delO H' (blockOf v) b = none) → (∀ (b : Nat) (o : Obj), H'_3 b = some o → Heap.delO H' (blockOf v) b = some o ∨ blockOf v_1 = some b) → RowAt H'_3 v_1 (3 : Nat) (1 : Nat) p.fst.snd.snd.fst → Meets prog (45 : Nat) [Value.slice a_9 n_5 c_5, v_1] H'_3 fun (e : Ending) (H' : Nat → Option Obj) ↦ ∃ (b : Bool), e = Ending.returned (Value.bool b) ∧ ∃ (es : List (List Value)), RowAt H' v_1 (3 : Nat) (1 : Nat) es ∧ R (Ending.returned (Value.bool b)) (Heap.delO H' (blockOf v_1))) (R (Ending.returned (Value.bool false)) (Heap.delO H' (blockOf v))))) (((0 : Int), [], [], PUnit.unit), PUnit.unit) (Heap.delO H' (blockOf v))))))
theorem vc_lmer (a : Option Addr) (n : Nat) (c : Nat) (a' : Option Addr) (n' : Nat) (c' : Nat) (a2 : Option Addr) (n2 : Nat) (c2 : Nat) (R : Ending → Heap → Prop) (H : Heap) : vcFun prog h_lmer f17 [SV.c (SC.v (Value.slice a n c)), SV.c (SC.v (Value.slice a' n' c')), SV.c (SC.v (Value.slice a2 n2 c2))] R H = nf_lmer a n c a' n' c' a2 n2 c2 R H := by kernel_rfl

end Cr

set_option linter.unusedVariables false
set_option linter.unusedSimpArgs false
namespace Cr
open Go Sx Stb
open Go.Sort (SWO)
open Go.Proofs.Try
set_option maxRecDepth 100000
/-- Where an Id is, or -1. -/
inductive Fnd (S : List Pt) (id : Int) : Int → Option Pt → Prop
  | yes (i : Nat) (p : Pt) (h : S[i]? = some p) (hl : look S id = some p) : Fnd S id (i : Int) (some p)
  | no (h : look S id = none) : Fnd S id (-1) none
theorem inc_eq : ∀ {I J : List Int}, I.Pairwise (· < ·) → J.Pairwise (· < ·) → (∀ x, x ∈ I ↔ x ∈ J) → I = J
  | [], [], _, _, _ => rfl
  | [], y :: J, _, _, h => by have := (h y).2 List.mem_cons_self; cases this
  | x :: I, [], _, _, h => by have := (h x).1 List.mem_cons_self; cases this
  | x :: I, y :: J, hI, hJ, h => by
    obtain ⟨i1, i2⟩ := List.pairwise_cons.1 hI
    obtain ⟨j1, j2⟩ := List.pairwise_cons.1 hJ
    have e : x = y := by
      rcases List.mem_cons.1 ((h x).1 List.mem_cons_self) with e | mx
      · exact e
      · rcases List.mem_cons.1 ((h y).2 List.mem_cons_self) with e | my
        · exact e.symm
        · have := j1 x mx; have := i1 y my; omega
    subst e
    rw [inc_eq i2 j2 fun z => ?_]
    constructor
    · intro hz
      rcases List.mem_cons.1 ((h z).1 (List.mem_cons_of_mem _ hz)) with e | hz2
      · have := i1 z hz; omega
      · exact hz2
    · intro hz
      rcases List.mem_cons.1 ((h z).2 (List.mem_cons_of_mem _ hz)) with e | hz2
      · have := j1 z hz; omega
      · exact hz2
theorem pt_eqb (p q : Pt) : andO (some (andO (some (andO (some (andO none (p.id == q.id))) (p.x == q.x))) (p.y == q.y))) (p.data == q.data) = decide (p = q) := by
  by_cases h : p = q
  · subst h; simp [andO, ba_beq]
  · rw [decide_eq_false h]
    cases e : andO (some (andO (some (andO (some (andO none (p.id == q.id))) (p.x == q.x))) (p.y == q.y))) (p.data == q.data) with
    | false => rfl
    | true =>
      simp [andO, ba_beq] at e
      exact (h (pt_eta e.1.1.1 e.1.1.2 e.1.2 e.2)).elim
section
variable {H : Heap} {R : Ending → Heap → Prop}
theorem cut_eq {a7 a6 : Option Addr} {n7 c7 n6 c6 : Nat} {S7 S6 : List Pt} (h7 : SliceAt H (.slice a7 n7 c7) 4 (pts S7)) (h6 : SliceAt H (.slice a6 n6 c6) 4 (pts S6)) {id f7 f6 : Int} {o7 o6 : Option Pt} (F7 : Fnd S7 id f7 o7) (F6 : Fnd S6 id f6 o6) {I : Bool → Prop} (k : I (decide (o7 = o6))) :
    Br (decide (f7 < 0)) (Br (decide (f6 < 0)) (I true) (Br (decide (f7 ≥ 0)) (Br (decide (f6 ≥ 0)) ((0 ≤ f7 ∧ f7 < (n7 : Int)) ∧ PtrK a7 fun A => PtrK (some (A.add (f7.toNat * 4))) fun A7 => ∃ (m1 m2 m3 : Int) (s : ByteArray), H.has A7 [vi m1, .int .u32 m2, .int .u32 m3, .string s] ∧ (0 ≤ f6 ∧ f6 < (n6 : Int)) ∧ PtrK a6 fun A => PtrK (some (A.add (f6.toNat * 4))) fun A6 => ∃ (m4 m5 m6 : Int) (s1 : ByteArray), H.has A6 [vi m4, .int .u32 m5, .int .u32 m6, .string s1] ∧ I (andO (some (andO (some (andO (some (andO none (m1 == m4))) (m2 == m5))) (m3 == m6))) (s == s1))) (I false)) (I false)))
      (Br (decide (f7 ≥ 0)) (Br (decide (f6 ≥ 0)) ((0 ≤ f7 ∧ f7 < (n7 : Int)) ∧ PtrK a7 fun A => PtrK (some (A.add (f7.toNat * 4))) fun A7 => ∃ (m1 m2 m3 : Int) (s : ByteArray), H.has A7 [vi m1, .int .u32 m2, .int .u32 m3, .string s] ∧ (0 ≤ f6 ∧ f6 < (n6 : Int)) ∧ PtrK a6 fun A => PtrK (some (A.add (f6.toNat * 4))) fun A6 => ∃ (m4 m5 m6 : Int) (s1 : ByteArray), H.has A6 [vi m4, .int .u32 m5, .int .u32 m6, .string s1] ∧ I (andO (some (andO (some (andO (some (andO none (m1 == m4))) (m2 == m5))) (m3 == m6))) (s == s1))) (I false)) (I false)) := by
  have l7 : S7.length = n7 := by have := (slice_len h7).1; simpa using this
  have l6 : S6.length = n6 := by have := (slice_len h6).1; simpa using this
  cases F7 with
  | no h =>
    cases F6 with
    | no h' => exact br (fun _ => br (fun _ => by simpa using k) fun q => by simp at q) fun q => by simp at q
    | yes i p h1 h2 =>
      have k : I false := by simpa using k
      exact br (fun _ => br (fun q => by simp at q <;> omega) fun _ => br (fun q => by simp at q) fun _ => k) fun q => by simp at q
  | yes i p h1 h2 =>
    have hi := (List.getElem?_eq_some_iff.1 h1).1
    cases F6 with
    | no h' =>
      have k : I false := by simpa using k
      exact br (fun q => by simp at q <;> omega) fun _ => br (fun _ => br (fun q => by simp at q) fun _ => k) fun _ => k
    | yes j q h3 h4 =>
      have hj := (List.getElem?_eq_some_iff.1 h3).1
      obtain ⟨A7, e, g7⟩ := pr_get h7 h1
      subst e
      obtain ⟨A6, e, g6⟩ := pr_get h6 h3
      subst e
      refine br (fun q => by simp at q <;> omega) fun _ => br (fun _ => br (fun _ => ⟨⟨by omega, by omega⟩, ptr rfl (ptr rfl ⟨_, _, _, _, g7, ⟨by omega, by omega⟩, ptr rfl (ptr rfl ⟨_, _, _, _, g6, ?_⟩)⟩)⟩) fun q => by simp at q <;> omega) fun q => by simp at q <;> omega
      rw [pt_eqb]
      have : decide (some p = some q) = decide (p = q) := by simp
      rw [this] at k
      exact k
theorem s_lfind' {v : Value} {l : List Pt} {id : Int} (h : SliceAt H v 4 (pts l)) (hl : l.length ≤ 1000000) (k : ∀ n, Fnd l id n (look l id) → R (.returned (vi n)) H) : Meets prog 54 [v, vi id] H R := by
  refine s_lfind h hl (fun i hi => k _ ?_) fun hi => k _ ?_
  · obtain ⟨p, h1, h2, _⟩ := idx_some hi
    rw [h1]; exact .yes i p h2 h1
  · have := idx_none hi
    rw [this]; exact .no this
theorem s_lmer {v v' v2 : Value} {l l' l2 : List Pt} (h : SliceAt H v 4 (pts l)) (h' : SliceAt H v' 4 (pts l')) (h2 : SliceAt H v2 4 (pts l2)) (k : ∀ H', H ≤ H' → R (.returned (.bool true)) H') :
    Meets prog 17 [v, v', v2] H R := by
  obtain ⟨a, n, c, e, hn⟩ := h
  subst e
  have h : SliceAt H (.slice a n c) 4 (pts l) := ⟨a, n, c, rfl, hn⟩
  have hl : l.length = n := by simpa using hn.1
  obtain ⟨a', n', c', e, hn'⟩ := h'
  subst e
  have h' : SliceAt H (.slice a' n' c') 4 (pts l') := ⟨a', n', c', rfl, hn'⟩
  have hl' : l'.length = n' := by simpa using hn'.1
  obtain ⟨a2, n2, c2, e, hn2⟩ := h2
  subst e
  have h2 : SliceAt H (.slice a2 n2 c2) 4 (pts l2) := ⟨a2, n2, c2, rfl, hn2⟩
  have hl2 : l2.length = n2 := by simpa using hn2.1
  refine spec_of func17 (by kernel_rfl) (fun t h => by
    have := memN_one h
    subst this
    exact eqOK_of (by kernel_rfl) (by kernel_rfl) (by kernel_rfl)) ?_ (vc_lmer a n c a' n' c' a2 n2 c2 R H) ?_
  · simp [argsR, SV.rep, SC.rep, Sx.one]
  unfold nf_lmer
  refine s_alive40 fun H0 hle0 => ⟨true, rfl, br (fun q => by cases q) fun _ => br (fun _ => k _ hle0) fun q1 => br (fun _ => k _ hle0) fun q2 => br (fun _ => k _ hle0) fun q3 => ?_⟩
  have b1 : l.length ≤ 20 := by simp at q1; omega
  have b2 : l'.length ≤ 20 := by simp at q2; omega
  have b3 : l2.length ≤ 20 := by simp at q3; omega
  have h := slice_le h hle0
  have h' := slice_le h' hle0
  have h2 := slice_le h2 hle0
  refine s_lfix h (by omega) fun v1 H1 hle1 hf1 hrow1 => ?_
  have hX1 := row_slice hrow1
  obtain ⟨x1, c1, rfl⟩ := row_val hrow1
  refine ⟨x1, _, c1, rfl, s_lfix (slice_le h' hle1) (by omega) fun v2 H2 hle2 hf2 hrow2 => ?_⟩
  have hY2 := row_slice hrow2
  obtain ⟨x2, d2, rfl⟩ := row_val hrow2
  refine ⟨x2, _, d2, rfl, s_lfix (slice_le h2 (heap_trans hle1 hle2)) (by omega) fun v3 H3 hle3 hf3 hrow3 => ?_⟩
  have hZ3 := row_slice hrow3
  obtain ⟨x3, d3, rfl⟩ := row_val hrow3
  have hX3 := slice_le hX1 (heap_trans hle2 hle3)
  have hY3 := slice_le hY2 hle3
  have f1 := fixP_len l
  have f2 := fixP_len l'
  have f3 := fixP_len l2
  have gX : fixP l = fixP l := rfl
  generalize hX : fixP l = X at *
  generalize hY : fixP l' = Y at *
  generalize hZ : fixP l2 = Z at *
  have eap : List.append (List.append (pts X) (pts Y)) (pts Z) = pts (X ++ Y ++ Z) := by simp [pts]
  have eap1 : List.append (pts X) (pts Y) = pts (X ++ Y) := by simp [pts]
  refine ⟨x3, _, d3, rfl, _, hX3, by simp [pts]; omega, _, hY3, by rw [eap1]; simp [pts]; omega, _, hZ3, by rw [eap]; simp [pts]; omega, fun v4 H4 hle4 hf4 hb4 hrow4 => ?_⟩
  rw [eap] at hrow4
  refine s_lfix (row_slice hrow4) (by simp; omega) fun v5 H5 hle5 hf5 hrow5 => ?_
  have hr5 := row_delO hrow5 (o := blockOf v4) fun b hb e => rowat_known hrow4 e (hf5 b hb)
  have hA := row_slice hr5
  obtain ⟨x5, d5, rfl⟩ := row_val hrow5
  have hle35 : H3 ≤ Heap.delO H5 (blockOf v4) := le_delO (heap_trans hle4 hle5) hf4
  have hX5 := slice_le hX3 hle35
  have hY5 := slice_le hY3 hle35
  have hZ5 := slice_le hZ3 hle35
  have hH0 : H0 ≤ Heap.delO H5 (blockOf v4) := heap_trans hle1 (heap_trans hle2 (heap_trans hle3 hle35))
  have hAsid := fixP_sid (X ++ Y ++ Z)
  have hAlk := look_fixP (X ++ Y ++ Z)
  have hAl := fixP_len (X ++ Y ++ Z)
  generalize hAA : fixP (X ++ Y ++ Z) = A at *
  have hAl2 : A.length ≤ 60 := by simp at hAl; omega
  have pl : ∀ S : List Pt, (pts S).length = S.length := fun S => by simp [pts]
  simp only [true_and]
  refine ⟨x5, _, d5, rfl, _, row_le hrow4 (fun b o _ => hle5 b o), fun p H' => ∃ t : Nat, p.1.1 = (t : Int) ∧ t ≤ A.length ∧ p.1.2.1 = pts (((A.take t).map Pt.id).filterMap (mOut X Y Z)) ∧ p.1.2.2.1 = cells (((A.take t).map Pt.id).filter (mBoth X Y Z)) ∧ H' = Heap.delO H5 (blockOf v4), fun p _ => (A.length - p.1.1).toNat, ⟨0, rfl, by omega, rfl, rfl, rfl⟩, ?_⟩
  rintro ⟨⟨i, rows, bths, _⟩, _⟩ H6 ⟨t, hi, ht, hrows, hbths, rfl⟩
  simp only at hi hrows hbths ⊢
  subst hi hrows hbths
  rw [pl A] at hA ⊢
  refine br (fun q4 => ?_) fun q4 => ?_
  · simp only [decide_eq_true_eq] at q4
    obtain ⟨u, _, htk, hu⟩ := drop_cons (l := A) (k := t) (by omega)
    obtain ⟨Ad, e, g⟩ := pr_get hA (i := t) hu
    subst e
    rw [wi64 (by omega)]
    generalize hid : u.id = id at *
    have g0 : Heap.has (Heap.delO H5 (blockOf v4)) ((Ad.add (t * 4)).add 0) [vi id] := by rw [← hid]; exact has_first g
    have hfl : (((A.take t).map Pt.id).filterMap (mOut X Y Z)).length ≤ 60 := Nat.le_trans (List.length_filterMap_le _ _) (by simp; omega)
    have hbl : (((A.take t).map Pt.id).filter (mBoth X Y Z)).length ≤ 60 := Nat.le_trans (List.length_filter_le _ _) (by simp; omega)
    have go : ((A.take (t + 1)).map Pt.id).filterMap (mOut X Y Z) = ((A.take t).map Pt.id).filterMap (mOut X Y Z) ++ (mOut X Y Z id).toList := by
      rw [htk, List.map_append, List.filterMap_append]
      exact congrArg _ (by rw [List.map_cons, List.filterMap_cons, hid]; cases mOut X Y Z id <;> rfl)
    have gb : ((A.take (t + 1)).map Pt.id).filter (mBoth X Y Z) = ((A.take t).map Pt.id).filter (mBoth X Y Z) ++ if mBoth X Y Z id then [id] else [] := by
      rw [htk, List.map_append, List.filter_append]
      exact congrArg _ (by rw [List.map_cons, List.filter_cons, hid]; split <;> rfl)
    generalize hO : ((A.take t).map Pt.id).filterMap (mOut X Y Z) = O at *
    generalize hBt : ((A.take t).map Pt.id).filter (mBoth X Y Z) = Bt at *
    have ap : ∀ (O : List Pt) (p : Pt), List.append (pts O) [ptC p] = pts (O ++ [p]) := fun O p => by simp [pts]
    have ab : List.append (cells Bt) [[vi id]] = cells (Bt ++ [id]) := by simp [cells]
    refine ⟨⟨by omega, by omega⟩, ptr rfl (ptr rfl (ptr rfl ⟨_, g0, ?_⟩))⟩
    refine s_lfind' hX5 (by omega) fun m1 F1 => ⟨_, rfl, s_lfind' hY5 (by omega) fun m2 F2 => ⟨_, rfl, s_lfind' hZ5 (by omega) fun m3 F3 => ⟨_, rfl, ?_⟩⟩⟩
    refine ⟨fun p H' => p.1.1 = decide (look Y id = look X id) ∧ p.1.2.1 = pts O ∧ p.1.2.2.1 = cells Bt ∧ H' = Heap.delO H5 (blockOf v4), cut_eq (I := fun b => b = decide (look Y id = look X id) ∧ pts O = pts O ∧ cells Bt = cells Bt ∧ Heap.delO H5 (blockOf v4) = Heap.delO H5 (blockOf v4)) hY5 hX5 F2 F1 ⟨rfl, rfl, rfl, rfl⟩, ?_⟩
    rintro ⟨⟨e1, r1, r2, _⟩, _⟩ H7 ⟨he1, hr1, hr2, rfl⟩
    simp only at he1 hr1 hr2 ⊢
    subst he1 hr1 hr2
    refine ⟨fun p H' => p.1.1 = decide (look Z id = look X id) ∧ p.1.2.1 = pts O ∧ p.1.2.2.1 = cells Bt ∧ H' = Heap.delO H5 (blockOf v4), cut_eq (I := fun b => b = decide (look Z id = look X id) ∧ pts O = pts O ∧ cells Bt = cells Bt ∧ Heap.delO H5 (blockOf v4) = Heap.delO H5 (blockOf v4)) hZ5 hX5 F3 F1 ⟨rfl, rfl, rfl, rfl⟩, ?_⟩
    rintro ⟨⟨e1, r1, r2, _⟩, _⟩ H7 ⟨he1, hr1, hr2, rfl⟩
    simp only at he1 hr1 hr2 ⊢
    subst he1 hr1 hr2
    refine ⟨fun p H' => p.1.1 = decide (look Y id = look Z id) ∧ p.1.2.1 = pts O ∧ p.1.2.2.1 = cells Bt ∧ H' = Heap.delO H5 (blockOf v4), cut_eq (I := fun b => b = decide (look Y id = look Z id) ∧ pts O = pts O ∧ cells Bt = cells Bt ∧ Heap.delO H5 (blockOf v4) = Heap.delO H5 (blockOf v4)) hY5 hZ5 F2 F3 ⟨rfl, rfl, rfl, rfl⟩, ?_⟩
    rintro ⟨⟨e1, r1, r2, _⟩, _⟩ H7 ⟨he1, hr1, hr2, rfl⟩
    simp only at he1 hr1 hr2 ⊢
    subst he1 hr1 hr2
    -- both
    refine ⟨fun p H' => p.1.1 = pts O ∧ p.1.2.1 = cells (Bt ++ if mBoth X Y Z id then [id] else []) ∧ H' = Heap.delO H5 (blockOf v4), ?_, ?_⟩
    · have no : mBoth X Y Z id = false → pts O = pts O ∧ cells Bt = cells (Bt ++ if mBoth X Y Z id then [id] else []) ∧ Heap.delO H5 (blockOf v4) = Heap.delO H5 (blockOf v4) := fun e => by rw [e]; simp
      refine br (fun q5 => br (fun q6 => br (fun q7 => ?_) fun q7 => no ?_) fun q6 => no ?_) fun q5 => no ?_
      · have e : mBoth X Y Z id = true := by unfold mBoth; rw [q5, q6, q7]; rfl
        refine ⟨?_, rfl, ?_, rfl⟩
        · rw [ab, cells_len]; simp; omega
        · show List.append (cells Bt) [[vi id]] = _
          rw [e, ab]; rfl
      · unfold mBoth; rw [q7]; simp
      · unfold mBoth; rw [q6]; simp
      · unfold mBoth; rw [q5]; simp
    rintro ⟨⟨r1, r2, _⟩, _⟩ H7 ⟨hr1, hr2, rfl⟩
    simp only at hr1 hr2 ⊢
    subst hr1 hr2
    -- first, and the second's
    refine ⟨fun p H' => p.1.1 = pts (if look Y id = look X id then O ++ (look Z id).toList else O) ∧ p.1.2.1 = cells (Bt ++ if mBoth X Y Z id then [id] else []) ∧ H' = Heap.delO H5 (blockOf v4), ?_, ?_⟩
    · refine br (fun q5 => ?_) fun q5 => ?_
      · have e1 : look Y id = look X id := of_decide_eq_true q5
        rw [if_pos e1]
        cases hz : look Z id with
        | none =>
          rw [hz] at F3
          cases F3 with
          | no h =>
            refine br (fun q => by simp at q) fun _ => ⟨?_, rfl, rfl⟩
            simp
        | some p =>
          rw [hz] at F3
          cases F3 with
          | yes i _ h1 h2 =>
            have hi := (List.getElem?_eq_some_iff.1 h1).1
            obtain ⟨A3, e, g3⟩ := pr_get hZ5 h1
            subst e
            refine br (fun _ => ⟨⟨by omega, by rw [pl]; omega⟩, ptr rfl (ptr rfl ⟨_, _, _, _, g3, ?_⟩)⟩) fun q => by simp at q <;> omega
            show (List.append (pts O) [ptC p]).length * 32 ≤ _ ∧ List.append (pts O) [ptC p] = _ ∧ _ ∧ _
            rw [ap]
            exact ⟨by simp [pts]; omega, rfl, rfl, rfl⟩
      · rw [if_neg (of_decide_eq_false q5)]
        exact ⟨rfl, rfl, rfl⟩
    rintro ⟨⟨r1, r2, _⟩, _⟩ H7 ⟨hr1, hr2, rfl⟩
    simp only at hr1 hr2 ⊢
    subst hr1 hr2
    have fin : ∀ (o : List Pt), o = ((A.take (t + 1)).map Pt.id).filterMap (mOut X Y Z) → (∃ t' : Nat, ((t : Int) + 1) = (t' : Int) ∧ t' ≤ A.length ∧ pts o = pts (((A.take t').map Pt.id).filterMap (mOut X Y Z)) ∧ cells (Bt ++ if mBoth X Y Z id then [id] else []) = cells (((A.take t').map Pt.id).filter (mBoth X Y Z)) ∧ Heap.delO H5 (blockOf v4) = Heap.delO H5 (blockOf v4)) ∧ ((A.length : Int) - ((t : Int) + 1)).toNat < ((A.length : Int) - (t : Int)).toNat := fun o ho => by
      subst ho
      exact ⟨⟨t + 1, by simp, by omega, rfl, by rw [gb], rfl⟩, by omega⟩
    refine br (fun q5 => ?_) fun q5 => ?_
    · have e1 : look Y id ≠ look X id := of_decide_eq_false (by simpa using q5)
      have eo : mOut X Y Z id = look Y id := by unfold mOut; rw [if_neg e1]
      rw [if_neg e1]
      rw [eo] at go
      cases hy : look Y id with
      | none =>
        rw [hy] at go F2
        cases F2 with
        | no h => exact br (fun q => by simp at q) fun _ => by have := fin O (by rw [go]; simp); simpa using this
      | some p =>
        rw [hy] at go F2
        cases F2 with
        | yes i _ h1 h2 =>
          have hi := (List.getElem?_eq_some_iff.1 h1).1
          obtain ⟨A3, e, g3⟩ := pr_get hY5 h1
          subst e
          refine br (fun _ => ⟨⟨by omega, by rw [pl]; omega⟩, ptr rfl (ptr rfl ⟨_, _, _, _, g3, ?_⟩)⟩) fun q => by simp at q <;> omega
          show (List.append (pts O) [ptC p]).length * 32 ≤ _ ∧ (∃ t' : Nat, _ ∧ _ ∧ List.append (pts O) [ptC p] = _ ∧ _) ∧ _
          rw [ap]
          exact ⟨by simp [pts]; omega, by have := fin (O ++ [p]) (by rw [go]; rfl); simpa using this⟩
    · have e1 : look Y id = look X id := of_decide_eq_true (by simpa using q5)
      have eo : mOut X Y Z id = look Z id := by unfold mOut; rw [if_pos e1]
      rw [if_pos e1]
      have := fin _ (by rw [go, eo])
      simpa using this
  · simp only [decide_eq_false_iff_not] at q4
    rw [List.take_of_length_le (by omega)]
    refine s_dmer (slice_le h hH0) (slice_le h' hH0) (slice_le h2 hH0) (by omega) (by omega) (by omega) fun I w w' H7 hI hle7 hrw hrw' => ?_
    rw [hX, hY, hZ] at hI hrw hrw'
    have hIA : A.map Pt.id = I := by
      refine inc_eq ?_ hI.up fun x => ?_
      · rw [List.pairwise_map]; exact hAsid
      · rw [hI.mem]
        simp only [List.mem_map]
        constructor
        · rintro ⟨p, hp, rfl⟩
          have := sid_look hAsid hp
          rw [hAlk] at this
          obtain ⟨hm, _⟩ := look_some this
          simp only [List.mem_append] at hm
          rcases hm with (hm | hm) | hm
          · exact ⟨X, by simp, p, hm, rfl⟩
          · exact ⟨Y, by simp, p, hm, rfl⟩
          · exact ⟨Z, by simp, p, hm, rfl⟩
        · rintro ⟨S, hS, p, hp, rfl⟩
          have hm : p ∈ X ++ Y ++ Z := by
            simp at hS
            rcases hS with rfl | rfl | rfl <;> simp [hp]
          cases e : look A p.id with
          | none =>
            rw [hAlk] at e
            exact (look_none.1 e p hm rfl).elim
          | some z =>
            obtain ⟨z1, z2⟩ := look_some e
            exact ⟨z, z1, z2⟩
    rw [hIA]
    have hs1 := row_slice hrw
    have hs2 := row_slice hrw'
    obtain ⟨y1, e1, rfl⟩ := row_val hrw
    obtain ⟨y2, e2, rfl⟩ := row_val hrw'
    have hIl : I.length ≤ 60 := by rw [← hIA, List.length_map]; exact hAl2
    have hol : (I.filterMap (mOut X Y Z)).length ≤ 60 := Nat.le_trans (List.length_filterMap_le _ _) hIl
    have hbl : (I.filter (mBoth X Y Z)).length ≤ 60 := Nat.le_trans (List.length_filter_le _ _) hIl
    refine ⟨y1, _, e1, y2, _, e2, rfl, fun v8 H8 hle8 hf8 hb8 hrow8 => ?_⟩
    refine s_points (slice_le hs1 hle8) (row_slice hrow8) (by omega) ⟨_, rfl, _, hrow8, ?_⟩
    rw [decide_eq_true rfl, lend_off hle8 hf8 hb8]
    refine br (fun _ v9 H9 hle9 hf9 hb9 hrow9 => ?_) fun q => by cases q
    refine s_ints (slice_le hs2 hle9) (row_slice hrow9) (by omega) ⟨_, rfl, _, hrow9, ?_⟩
    rw [decide_eq_true rfl, lend_off hle9 hf9 hb9]
    exact k _ (heap_trans hle0 (heap_trans hH0 hle7))
end
end Cr

set_option linter.unusedVariables false
set_option linter.unusedSimpArgs false
namespace Sx
open Go
section
variable {P : Program} {H : Type} {enc : TypeId × Value → H} {W : World}
theorem open_sl {E : Type} [Inhabited E] {tS tE sz by_ : Nat} {cell : E → List Value} {Q : E → Prop} (hS : P.underlying tS = some (.slice tE)) (hc : P.cellsOf tE = sz) (hby : P.bytesOf tE = by_) (hsz : 0 < sz) (hcl : ∀ e, (cell e).length = sz)
    (hon : ∀ e, ∀ x ∈ cell e, one x = true)
    (op : ∀ (fuel : Nat) (cs : List Value) (y : DataW H × List MemPlace), DataW.trod enc P W 0 (fun _ => true) true fuel tE cs = some y → ∃ e, cs = cell e ∧ Q e)
    {v : Value} {d : DataW H} {ps : List MemPlace} {base : Nat} (hv : Value.okWide P W .any base tS v) (h : DataW.Trod enc P W 0 (fun _ => true) true tS v d ps) :
    ∃ l : List E, SliceAt (full W) v sz (l.map cell) ∧ (∀ e ∈ l, Q e) ∧ ((d.weights P tS).all (· ≤ reachBytes) = true → l.length * by_ ≤ reachBytes) := by
  obtain ⟨a, len, cap, rfl⟩ := Go.WideShapes.okWide_slice hS hv
  obtain ⟨fuel, hf⟩ := h
  rcases Go.Deep.open_slice hS hf with ⟨e, e2⟩ | ⟨A, ln, cp, m, n, D, Pl, e, hb, hl, hm, hmm, e2, hx⟩
  · cases e
    exact ⟨[], ⟨none, 0, 0, rfl, rfl, Nat.le_refl _, by simp, by simp, by simp⟩, by simp, by simp⟩
  · cases e
    obtain ⟨rfl, -⟩ := Prod.mk.inj e2
    simp only [if_true] at hmm
    subst hmm
    have a0 : A.add (0 * sz) = A := by rw [Nat.zero_mul]; rfl
    have a1 : ∀ B : Addr, B.add 0 = B := fun B => rfl
    have pick : ∀ i, ∃ p : E, i < len → Q p ∧ (full W).has (A.add (i * sz)) (cell p) ∧ A.spot = none := fun i => by
      by_cases hi : i < len
      · obtain ⟨cs', h1, h2⟩ := hx i (by omega)
        rw [hc] at h1
        obtain ⟨p, rfl, hp⟩ := op _ _ _ h2
        obtain ⟨_, h3, h4⟩ := World.cells?_some h1
        refine ⟨p, fun _ => ⟨hp, ?_, ?_⟩⟩
        · intro j x hj
          have hj4 : j < sz := by have := (List.getElem?_eq_some_iff.1 hj).1; rw [hcl] at this; exact this
          have := h4 j hj4
          rw [hj] at this
          exact this
        · obtain ⟨cs0, k1, k2⟩ := hx 0 (by omega)
          rw [hc] at k1
          obtain ⟨k5, k3, k4⟩ := World.cells?_some k1
          have := k4 0 hsz
          rw [a0, a1, List.getElem?_eq_getElem (by omega)] at this
          unfold World.cell? at this
          split at this
          · split at this
            · cases this
            · rename_i hs
              simpa using hs
          · cases this
      · exact ⟨default, fun h => absurd h hi⟩
    obtain ⟨f, hf⟩ := Classical.axiomOfChoice pick
    refine ⟨(List.range len).map f, ⟨some A, len, _, rfl, by simp, hl, ?_, ?_, fun i e he => ?_⟩, ?_, fun hw => ?_⟩
    · intro e he
      obtain ⟨p, _, rfl⟩ := List.mem_map.1 he
      exact hcl p
    · intro e he
      obtain ⟨p, _, rfl⟩ := List.mem_map.1 he
      exact hon p
    · simp only [List.getElem?_map] at he
      obtain ⟨p, hp, rfl⟩ := Option.map_eq_some_iff.1 he
      obtain ⟨i', hi', rfl⟩ := Option.map_eq_some_iff.1 hp
      have hlt := (List.getElem?_eq_some_iff.1 hi').1
      have hii : i' = i := by have := (List.getElem?_eq_some_iff.1 hi').2; simp at this; omega
      subst hii
      obtain ⟨_, g1, g2⟩ := hf i' (by simpa using hlt)
      exact ⟨A, rfl, g2, g1⟩
    · intro p hp
      obtain ⟨i, hi, rfl⟩ := List.mem_map.1 hp
      exact (hf i (List.mem_range.1 hi)).1
    · simp only [DataW.weights, hS, List.all_cons, Bool.and_eq_true, decide_eq_true_eq, List.length_map, List.length_range, hby] at hw
      simp only [List.length_map, List.length_range]
      have h0 := hw.1
      exact Nat.le_trans (Nat.mul_le_mul_right _ (Nat.le_add_right _ _)) h0
end
end Sx

set_option linter.unusedVariables false
set_option linter.unusedSimpArgs false
namespace Cr
open Go Sx
open Go.Proofs.Try
set_option maxRecDepth 100000
theorem own : ownKnob Go.Proofs.Try.prog.godebug = none := by kernel_rfl
theorem laidOut : laidOutB Go.Proofs.Try.prog = true := by kernel_rfl
section
variable {H : Type} {enc : TypeId × Value → H} {W : World}
theorem u32_wf {b : Int} (w : (Lit.int .u32 b).wf = true) : U32 b := by simp [Lit.wf, IntKind.min, IntKind.max, IntKind.bits, IntKind.signed] at w; omega
theorem i64_wf {b : Int} (w : (Lit.int .i64 b).wf = true) : -9223372036854775808 ≤ b ∧ b ≤ 9223372036854775807 := by simp [Lit.wf, IntKind.min, IntKind.max, IntKind.bits, IntKind.signed] at w; omega
abbrev I64 (x : Int) : Prop := -9223372036854775808 ≤ x ∧ x ≤ 9223372036854775807
theorem openPt {fuel : Nat} {cs : List Value} {y : DataW H × List MemPlace} (h : DataW.trod enc prog W 0 (fun _ => true) true fuel 36 cs = some y) : ∃ p : Pt, cs = ptC p ∧ (U32 p.x ∧ U32 p.y) ∧ I64 p.id := by
  obtain ⟨y0, y1, y2, y3, n, _, hl, h0, h1, h2, h3⟩ := Go.Joins.trod_struct4 Go.Proofs.Try.underlying36 h
  obtain ⟨a, e0, _, w0⟩ := DataW.trod_int Go.Proofs.Try.underlying3 h0
  obtain ⟨b, e1, _, w1⟩ := DataW.trod_int Go.Proofs.Try.underlying34 h1
  obtain ⟨c, e2, _, w2⟩ := DataW.trod_int Go.Proofs.Try.underlying34 h2
  obtain ⟨s, e3, _, _⟩ := DataW.trod_string Go.Proofs.Try.underlying9 h3
  have c4 : prog.cellsOf 36 = 4 := by kernel_rfl
  have c1 : prog.cellsOf 3 = 1 := by kernel_rfl
  have c2 : prog.cellsOf 34 = 1 := by kernel_rfl
  have c3 : prog.cellsOf 9 = 1 := by kernel_rfl
  rw [c4] at hl
  match cs, hl with
  | [q0, q1, q2, q3], _ =>
    simp only [c1, c2, c3, List.drop_zero, List.drop_succ_cons, List.take_succ_cons, List.take_zero] at e0 e1 e2 e3
    cases e0; cases e1; cases e2; cases e3
    exact ⟨⟨a, b, c, s⟩, rfl, ⟨u32_wf w1, u32_wf w2⟩, i64_wf w0⟩
theorem openPts {v : Value} {d : DataW H} {ps : List MemPlace} {base : Nat} (hv : Value.okWide prog W .any base 22 v) (h : DataW.Trod enc prog W 0 (fun _ => true) true 22 v d ps) :
    ∃ l : List Pt, SliceAt (full W) v 4 (pts l) ∧ (∀ p ∈ l, (U32 p.x ∧ U32 p.y) ∧ I64 p.id) ∧ ((d.weights prog 22).all (· ≤ reachBytes) = true → l.length ≤ 10000000000000) := by
  obtain ⟨l, h1, h2, h3⟩ := open_sl (P := prog) (cell := ptC) (Q := fun p => (U32 p.x ∧ U32 p.y) ∧ I64 p.id) (sz := 4) (by_ := 32) Go.Proofs.Try.underlying22 (by kernel_rfl) (by kernel_rfl) (by omega) (fun _ => rfl) ptC_one (fun _ _ _ h => openPt h) hv h
  refine ⟨l, h1, h2, fun hw => ?_⟩
  have := h3 hw
  unfold reachBytes at this
  omega
end
end Cr
