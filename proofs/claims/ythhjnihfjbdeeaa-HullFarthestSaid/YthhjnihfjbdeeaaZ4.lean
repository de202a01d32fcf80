/- Own texts, one behind the other: SxY, SxQ, SxRng, SxL, SxR, SxS, SxT, SxW, P1, K1. -/
import Derived.Conc.LoneSelect
import Derived.RangeFuncRecord
import Derived.Scope
import Derived.OpenShut
import Derived.SizedLaws
import Derived.Carry
import Derived.Lib.SmallJoins
import Derived.WalkKit
import Derived.ShutString
import Derived.ChangeOld
import Derived.ChangeKeysEq
import Derived.Laws.StructEq
import Derived.IntWalk
import Derived.Sort.Statements
import Derived.Test.YthhjnihfjbdeeaaProg
import Derived.Test.YthhjnihfjbdeeaaZ3
set_option linter.unusedVariables false
set_option linter.unusedSimpArgs false
namespace Sx
open Go
set_option linter.unusedSectionVars false
variable [Dr]
/-! ### A state, and one that is ahead of it by some rows -/
structure PdE where
  k : Nat
  d : Nat
  ob : Option AObj
  sv : SV
structure PdOK (p : PdE) : Prop where
  ob : ∀ o, p.ob = some o → ∀ x, o.refs x = false
  sv : ∀ x, x ≠ p.d → p.sv.refs x = false
  nb : p.sv ≠ .c .bad
def obSet (l : List (Nat × AObj)) (d : Nat) : Option AObj → List (Nat × AObj)
  | none => l
  | some o => objSet l d o
def rowSt (s : St) (p : PdE) : St := St.set ⟨s.env, obSet s.objs p.d p.ob, s.dfr⟩ p.d p.sv
theorem look_obSet {l : List (Nat × AObj)} {d : Nat} {o : Option AObj} {x : Nat} (h : look l d = none) : look (obSet l d o) x = if d = x then o else look l x := by
  cases o with
  | none =>
    show look l x = _
    split
    · rename_i e; subst e; exact h
    · rfl
  | some o => exact look_objSet ..
def OFree (l : List (Nat × AObj)) (x : Nat) : Prop := ∀ e ∈ l, e.1 ≠ x ∧ e.2.refs x = false
theorem free_iff {s : St} {x : Nat} : s.free x = true ↔ (∀ v ∈ s.env, v.refs x = false) ∧ OFree s.objs x ∧ ∀ q ∈ s.dfr, ∀ k ∈ q.sites, k ≠ x := by
  simp only [St.free, Bool.and_eq_true, Bool.not_eq_true', List.any_eq_false, Bool.or_eq_true, not_or, Bool.not_eq_true, OFree]
  constructor
  · rintro ⟨h1, h2, h3⟩
    exact ⟨h1, fun e he => ⟨fun h => by have := (h2 e he).1; rw [h] at this; simp at this, (h2 e he).2⟩, fun q hq k hk h => by have := h3 q hq k hk; rw [h] at this; simp at this⟩
  · rintro ⟨h1, h2, h3⟩
    exact ⟨h1, fun e he => ⟨nbf (h2 e he).1, (h2 e he).2⟩, fun q hq k hk => nbf (h3 q hq k hk)⟩
theorem nth_setNth2 {α : Type} (l : List α) (d x : Nat) (v : α) : nth (setNth l d v) x = if d = x ∧ d < l.length then some v else nth l x := by
  rw [setNth_eq, nth_eq, nth_eq, List.getElem?_set]
  by_cases h : d = x
  · subst h
    by_cases h2 : d < l.length <;> simp [h2]
  · simp [h]
theorem setNth_len {α : Type} (l : List α) (d : Nat) (v : α) : (setNth l d v).length = l.length := by rw [setNth_eq]; simp
structure Ext (Pd : List PdE) (s t : St) : Prop where
  len : t.env.length = s.env.length
  env : ∀ x, (∀ p ∈ Pd, p.d ≠ x) → nth t.env x = nth s.env x
  envB : ∀ p ∈ Pd, nth s.env p.d = some (.c .bad)
  envP : ∀ p ∈ Pd, nth t.env p.d = some p.sv
  dfr : t.dfr = s.dfr
  look : ∀ d, (∀ p ∈ Pd, p.d ≠ d) → look t.objs d = look s.objs d
  lookP : ∀ p ∈ Pd, Sx.look t.objs p.d = p.ob
  objs : ∀ e ∈ s.objs, e ∈ t.objs
  freeP : ∀ p ∈ Pd, s.free p.d = true
  ok : ∀ p ∈ Pd, PdOK p
theorem Ext.refl (s : St) : Ext [] s s := ⟨rfl, fun _ _ => rfl, by simp, by simp, rfl, fun _ _ => rfl, by simp, fun _ h => h, by simp, by simp⟩
section
variable {Pd : List PdE} {s t : St}
theorem Ext.free (h : Ext Pd s t) {x : Nat} (hx : t.free x = true) : s.free x = true := by
  rw [free_iff] at hx ⊢
  refine ⟨fun v hv => ?_, fun e he => hx.2.1 e (h.objs e he), by rw [← h.dfr]; exact hx.2.2⟩
  obtain ⟨i, hi⟩ := List.mem_iff_getElem?.1 hv
  rw [← nth_eq] at hi
  by_cases hp : ∃ p ∈ Pd, p.d = i
  · obtain ⟨p, hp, rfl⟩ := hp
    rw [h.envB p hp] at hi
    cases hi; rfl
  · have := h.env i fun p hp' e => hp ⟨p, hp', e⟩
    rw [hi, nth_eq] at this
    exact hx.1 v (List.mem_of_getElem? this)
theorem Ext.ev (h : Ext Pd s t) {x : Operand} (hx : ∀ p ∈ Pd, x ≠ .tmp p.d) : ev t x = ev s x := by
  cases x with
  | tmp u =>
    simp only [Sx.ev, St.get]
    rw [h.env u fun p hp e => hx p hp (by rw [e])]
  | _ => rfl
theorem Ext.off (h : Ext Pd s t) {d : Nat} (hd : ∀ p ∈ Pd, d ≠ p.d) {x : Nat} (hx : (∃ p ∈ Pd, p.d = x)) : d ≠ x := by
  obtain ⟨p, hp, rfl⟩ := hx
  exact hd p hp
theorem Ext.set (h : Ext Pd s t) {v : SV} (hv : ∀ p ∈ Pd, v.refs p.d = false) {d : Nat} (hd : ∀ p ∈ Pd, d ≠ p.d) : Ext Pd (s.set d v) (t.set d v) where
  len := by simp only [St.set, setNth_len]; exact h.len
  env x hx := by simp only [St.set, nth_setNth2, h.len, h.env x hx]
  envB p hp := by simp only [St.set, nth_setNth2, hd p hp, false_and, if_false]; exact h.envB p hp
  envP p hp := by simp only [St.set, nth_setNth2, hd p hp, false_and, if_false]; exact h.envP p hp
  dfr := h.dfr
  look := h.look
  lookP := h.lookP
  objs := h.objs
  freeP p hp := by
    have := free_iff.1 (h.freeP p hp)
    rw [free_iff]
    refine ⟨fun u hu => ?_, this.2⟩
    simp only [St.set, setNth_eq] at hu
    rcases List.mem_or_eq_of_mem_set hu with hu | rfl
    · exact this.1 u hu
    · exact hv p hp
  ok := h.ok
theorem Ext.put (h : Ext Pd s t) {v : SV} (hv : ∀ p ∈ Pd, v.refs p.d = false) {d : Option Nat} (hd : ∀ p ∈ Pd, d ≠ some p.d) : Ext Pd (s.put d v) (t.put d v) := by
  cases d with
  | none => exact h
  | some d => exact h.set hv fun p hp e => hd p hp (by rw [e])
theorem mem_objDel {l : List (Nat × AObj)} {r : Nat} {e : Nat × AObj} : e ∈ objDel l r ↔ e ∈ l ∧ e.1 ≠ r := by
  induction l with
  | nil => simp [objDel]
  | cons x l ih =>
    obtain ⟨k, o⟩ := x
    simp only [objDel]
    split
    · rename_i hb
      have := nbt hb; subst this
      rw [ih]
      constructor
      · rintro ⟨h1, h2⟩; exact ⟨List.mem_cons_of_mem _ h1, h2⟩
      · rintro ⟨h1, h2⟩
        rcases List.mem_cons.1 h1 with rfl | h1
        · exact absurd rfl h2
        · exact ⟨h1, h2⟩
    · rename_i hb
      have hne : k ≠ r := by rintro rfl; simp at hb
      rw [List.mem_cons, ih, List.mem_cons]
      constructor
      · rintro (rfl | h)
        · exact ⟨.inl rfl, hne⟩
        · exact ⟨.inr h.1, h.2⟩
      · rintro ⟨rfl | h1, h2⟩
        · exact .inl rfl
        · exact .inr ⟨h1, h2⟩
theorem mem_delO {l : List (Nat × AObj)} {r : Option Nat} {e : Nat × AObj} : e ∈ delO l r ↔ e ∈ l ∧ r ≠ some e.1 := by
  cases r with
  | none => simp [delO]
  | some r =>
    simp only [delO, mem_objDel, ne_eq, Option.some.injEq]
    constructor <;> rintro ⟨h1, h2⟩ <;> exact ⟨h1, fun e => h2 e.symm⟩
theorem objSet_new {l : List (Nat × AObj)} {d : Nat} {o : AObj} (h : ∀ e ∈ l, e.1 ≠ d) : objSet l d o = l ++ [(d, o)] := by
  induction l with
  | nil => rfl
  | cons x l ih =>
    obtain ⟨k, u⟩ := x
    simp only [objSet]
    rw [nbf (h _ (List.mem_cons_self ..))]
    simp only [List.cons_append]
    rw [ih fun e he => h e (List.mem_cons_of_mem _ he)]
theorem look_delO {l : List (Nat × AObj)} {r : Option Nat} {d : Nat} : look (delO l r) d = if r = some d then none else look l d := by
  cases r with
  | none => simp [delO]
  | some r => simp only [delO, look_objDel, Option.some.injEq]
/-- A row is made in both. -/
theorem Ext.row (h : Ext Pd s t) {d ty sz : Nat} {es : List (List Value)} {base : Option Nat} (hf : t.free d = true) (hd : ∀ p ∈ Pd, d ≠ p.d) (hb : ∀ p ∈ Pd, base ≠ some p.d) :
    Ext Pd (St.set ⟨s.env, objSet (delO s.objs base) d (.row ty sz es), s.dfr⟩ d (.c (.row d))) (St.set ⟨t.env, objSet (delO t.objs base) d (.row ty sz es), t.dfr⟩ d (.c (.row d))) := by
  have ht := (free_iff.1 hf).2.1
  have hs := (free_iff.1 (h.free hf)).2.1
  have key : Ext Pd ⟨s.env, objSet (delO s.objs base) d (.row ty sz es), s.dfr⟩ ⟨t.env, objSet (delO t.objs base) d (.row ty sz es), t.dfr⟩ := by
    refine ⟨h.len, h.env, h.envB, h.envP, h.dfr, fun x hx => ?_, fun p hp => ?_, fun e he => ?_, fun p hp => ?_, h.ok⟩
    · simp only [look_objSet, look_delO, h.look x hx]
    · simp only [look_objSet, look_delO]
      rw [if_neg (hd p hp), if_neg (hb p hp)]
      exact h.lookP p hp
    · rw [objSet_new fun e he => (ht e (mem_delO.1 he).1).1]
      simp only at he
      rw [objSet_new fun e he => (hs e (mem_delO.1 he).1).1] at he
      rcases List.mem_append.1 he with he | he
      · exact List.mem_append_left _ (mem_delO.2 ⟨h.objs e (mem_delO.1 he).1, (mem_delO.1 he).2⟩)
      · exact List.mem_append_right _ he
    · have := free_iff.1 (h.freeP p hp)
      rw [free_iff]
      refine ⟨this.1, fun e he => ?_, this.2.2⟩
      simp only at he
      rw [objSet_new fun e he => (hs e (mem_delO.1 he).1).1] at he
      rcases List.mem_append.1 he with he | he
      · exact this.2.1 e (mem_delO.1 he).1
      · simp only [List.mem_singleton] at he
        subst he
        exact ⟨hd p hp, rfl⟩
  exact key.set (v := .c (.row d)) (fun p hp => nbf (hd p hp)) hd
theorem obSet_mem {l : List (Nat × AObj)} {d : Nat} {o : Option AObj} (h : ∀ e ∈ l, e.1 ≠ d) {e : Nat × AObj} : e ∈ obSet l d o ↔ e ∈ l ∨ o = some e.2 ∧ e.1 = d := by
  cases o with
  | none => simp [obSet]
  | some o =>
    simp only [obSet, objSet_new h, List.mem_append, List.mem_singleton, Option.some.injEq]
    constructor
    · rintro (h | rfl)
      · exact .inl h
      · exact .inr ⟨rfl, rfl⟩
    · rintro (h | ⟨h1, h2⟩)
      · exact .inl h
      · right; cases e; simp_all
theorem free_look' {s : St} {d : Nat} (h : s.free d = true) : Sx.look s.objs d = none := by
  have := (free_iff.1 h).2.1
  cases hl : Sx.look s.objs d with
  | none => rfl
  | some o =>
    have look_mem : ∀ (l : List (Nat × AObj)) d o, Sx.look l d = some o → (d, o) ∈ l := by
      intro l d o
      induction l with
      | nil => intro h; cases h
      | cons x l ih =>
        obtain ⟨k, u⟩ := x
        intro h
        simp only [Sx.look] at h
        split at h
        · rename_i hb; have := nbt hb; subst this; cases h; exact List.mem_cons_self ..
        · exact List.mem_cons_of_mem _ (ih h)
    exact absurd rfl (this _ (look_mem _ _ _ hl)).1
/-- It is made in both. -/
theorem Ext.mk2 (h : Ext Pd s t) {p : PdE} (hf : t.free p.d = true) (hd : ∀ q ∈ Pd, p.d ≠ q.d) (hok : PdOK p) : Ext Pd (rowSt s p) (rowSt t p) := by
  have ht := (free_iff.1 hf).2.1
  have hs := (free_iff.1 (h.free hf)).2.1
  have key : Ext Pd ⟨s.env, obSet s.objs p.d p.ob, s.dfr⟩ ⟨t.env, obSet t.objs p.d p.ob, t.dfr⟩ := by
    refine ⟨h.len, h.env, h.envB, h.envP, h.dfr, fun x hx => ?_, fun q hq => ?_, fun e he => ?_, fun q hq => ?_, h.ok⟩
    · simp only [look_obSet (free_look' hf), look_obSet (free_look' (h.free hf)), h.look x hx]
    · simp only [look_obSet (free_look' hf)]
      rw [if_neg (hd q hq)]
      exact h.lookP q hq
    · rw [obSet_mem fun e he => (hs e he).1] at he
      rw [obSet_mem fun e he => (ht e he).1]
      exact he.imp (h.objs e) id
    · have := free_iff.1 (h.freeP q hq)
      rw [free_iff]
      refine ⟨this.1, fun e he => ?_, this.2.2⟩
      rw [obSet_mem fun e he => (hs e he).1] at he
      rcases he with he | ⟨h1, h2⟩
      · exact this.2.1 e he
      · exact ⟨by rw [h2]; exact hd q hq, hok.ob _ h1 _⟩
  exact key.set (v := p.sv) (fun q hq => hok.sv q.d (Ne.symm (hd q hq))) hd
/-- It is made in the one that is ahead. -/
theorem Ext.ahead (h : Ext Pd s t) {p : PdE} (hf : t.free p.d = true) (hbad : nth t.env p.d = some (.c .bad)) (hok : PdOK p) : (∀ q ∈ Pd, q.d ≠ p.d) ∧ Ext (p :: Pd) s (rowSt t p) := by
  have ht := free_iff.1 hf
  have hne : ∀ q ∈ Pd, q.d ≠ p.d := fun q hq e => by
    have := h.envP q hq
    rw [e, hbad] at this
    exact (h.ok q hq).nb (Option.some.inj this).symm
  have hdl : p.d < t.env.length := by
    rw [nth_eq] at hbad
    exact (List.getElem?_eq_some_iff.1 hbad).1
  refine ⟨hne, ?_, fun x hx => ?_, fun q hq => ?_, fun q hq => ?_, h.dfr, fun x hx => ?_, fun q hq => ?_, fun e he => ?_, fun q hq => ?_, fun q hq => ?_⟩
  · simp only [rowSt, St.set, setNth_len]; exact h.len
  · have h1 : p.d ≠ x := hx _ (List.mem_cons_self ..)
    simp only [rowSt, St.set, nth_setNth2, h1, false_and, if_false]
    exact h.env x fun q hq => hx q (List.mem_cons_of_mem _ hq)
  · rcases List.mem_cons.1 hq with rfl | hq
    · rw [← h.env q.d hne]; exact hbad
    · exact h.envB q hq
  · rcases List.mem_cons.1 hq with rfl | hq
    · simp only [rowSt, St.set, nth_setNth2, true_and, hdl, if_true]
    · simp only [rowSt, St.set, nth_setNth2, Ne.symm (hne q hq), false_and, if_false]; exact h.envP q hq
  · have h1 : p.d ≠ x := hx _ (List.mem_cons_self ..)
    simp only [rowSt, St.set, look_obSet (free_look' hf), if_neg h1]
    exact h.look x fun q hq => hx q (List.mem_cons_of_mem _ hq)
  · rcases List.mem_cons.1 hq with rfl | hq
    · simp only [rowSt, St.set, look_obSet (free_look' hf), if_true]
    · simp only [rowSt, St.set, look_obSet (free_look' hf), if_neg (Ne.symm (hne q hq))]; exact h.lookP q hq
  · simp only [rowSt, St.set]
    rw [obSet_mem fun e he => (ht.2.1 e he).1]
    exact .inl (h.objs e he)
  · rcases List.mem_cons.1 hq with rfl | hq
    · exact h.free hf
    · exact h.freeP q hq
  · rcases List.mem_cons.1 hq with rfl | hq
    · exact hok
    · exact h.ok q hq
/-- What was ahead is made. -/
theorem Ext.made {A B : List PdE} {p : PdE} (h : Ext (A ++ p :: B) s t) (hd : ∀ q ∈ A ++ B, q.d ≠ p.d) : Ext (A ++ B) (rowSt s p) t := by
  have hp : p ∈ A ++ p :: B := by simp
  have sub : ∀ q ∈ A ++ B, q ∈ A ++ p :: B := fun q hq => by
    rcases List.mem_append.1 hq with hq | hq
    · exact List.mem_append_left _ hq
    · exact List.mem_append_right _ (List.mem_cons_of_mem _ hq)
  have all : ∀ x, (∀ q ∈ A ++ B, q.d ≠ x) → p.d ≠ x → ∀ q ∈ A ++ p :: B, q.d ≠ x := fun x h1 h2 q hq => by
    rcases List.mem_append.1 hq with hq | hq
    · exact h1 q (List.mem_append_left _ hq)
    · rcases List.mem_cons.1 hq with rfl | hq
      · exact h2
      · exact h1 q (List.mem_append_right _ hq)
  have hfr := free_iff.1 (h.freeP p hp)
  have hfl := free_look' (h.freeP p hp)
  have hdl : p.d < s.env.length := by
    have := h.envB p hp
    rw [nth_eq] at this
    exact (List.getElem?_eq_some_iff.1 this).1
  refine ⟨?_, fun x hx => ?_, fun q hq => ?_, fun q hq => h.envP q (sub q hq), h.dfr, fun x hx => ?_, fun q hq => h.lookP q (sub q hq), fun e he => ?_, fun q hq => ?_, fun q hq => h.ok q (sub q hq)⟩
  · simp only [rowSt, St.set, setNth_len]; exact h.len
  · by_cases hx2 : p.d = x
    · subst hx2
      simp only [rowSt, St.set, nth_setNth2, true_and, hdl, if_true]
      exact h.envP p hp
    · simp only [rowSt, St.set, nth_setNth2, hx2, false_and, if_false]
      exact h.env x (all x hx hx2)
  · simp only [rowSt, St.set, nth_setNth2, Ne.symm (hd q hq), false_and, if_false]
    exact h.envB q (sub q hq)
  · by_cases hx2 : p.d = x
    · subst hx2
      simp only [rowSt, St.set, look_obSet hfl, if_true]
      exact h.lookP p hp
    · simp only [rowSt, St.set, look_obSet hfl, if_neg hx2]
      exact h.look x (all x hx hx2)
  · simp only [rowSt, St.set] at he
    rw [obSet_mem fun e he => (hfr.2.1 e he).1] at he
    rcases he with he | ⟨h1, h2⟩
    · exact h.objs e he
    · have := h.lookP p hp
      rw [h1] at this
      -- what is found stands in the list
      have look_mem : ∀ (l : List (Nat × AObj)) d o, Sx.look l d = some o → (d, o) ∈ l := by
        intro l d o
        induction l with
        | nil => intro h; cases h
        | cons x l ih =>
          obtain ⟨k, u⟩ := x
          intro h
          simp only [Sx.look] at h
          split at h
          · rename_i hb; have := nbt hb; subst this; cases h; exact List.mem_cons_self ..
          · exact List.mem_cons_of_mem _ (ih h)
      have := look_mem _ _ _ this
      rw [← h2] at this
      exact this
  · have hq' := free_iff.1 (h.freeP q (sub q hq))
    rw [free_iff]
    refine ⟨fun v hv => ?_, fun e he => ?_, hq'.2.2⟩
    · simp only [rowSt, St.set, setNth_eq] at hv
      rcases List.mem_or_eq_of_mem_set hv with hv | rfl
      · exact hq'.1 v hv
      · exact (h.ok p hp).sv q.d (hd q hq)
    · simp only [rowSt, St.set] at he
      rw [obSet_mem fun e he => (hfr.2.1 e he).1] at he
      rcases he with he | ⟨h1, h2⟩
      · exact hq'.2.1 e he
      · exact ⟨by rw [h2]; exact Ne.symm (hd q hq), (h.ok p hp).ob _ h1 _⟩
end
/-! ### Operations on both -/
section
variable {P : Program} {Pd : List PdE} {s t : St}
def EnvOff (d : Option Nat) (s s' : St) : Prop := ∀ y, d ≠ some y → nth s'.env y = nth s.env y
theorem envOff_put (s : St) (d : Option Nat) (v : SV) : EnvOff d s (s.put d v) := by
  intro y hy
  cases d with
  | none => rfl
  | some d => simp only [St.put, St.set, nth_setNth2]; rw [if_neg fun e => hy (by rw [e.1])]
theorem site_refs {v : SV} {d : Nat} (h : v.site = some d) : v.refs d = true := by
  unfold SV.site at h
  split at h
  · cases h; simp [SV.refs, SC.refs]
  · cases h; simp [SV.refs, SC.refs]
  · cases h
theorem base_ext (h : Ext Pd s t) {ty sz : Nat} {v : SV} (hv : ∀ p ∈ Pd, v.refs p.d = false) : baseOf t ty sz v = baseOf s ty sz v := by
  unfold baseOf
  split
  · rw [h.look _ fun p hp e => by have := hv p hp; subst e; simp [SV.refs, SC.refs] at this]
  · rw [h.look _ fun p hp e => by have := hv p hp; subst e; simp [SV.refs, SC.refs] at this]
  · rfl
  · rfl
theorem src_ext (h : Ext Pd s t) {sz : Nat} {v : SV} (hv : ∀ p ∈ Pd, v.refs p.d = false) : srcOf t sz v = srcOf s sz v := by
  unfold srcOf
  split
  · rw [h.look _ fun p hp e => by have := hv p hp; subst e; simp [SV.refs, SC.refs] at this]
  · rw [h.look _ fun p hp e => by have := hv p hp; subst e; simp [SV.refs, SC.refs] at this]
  · rw [h.look _ fun p hp e => by have := hv p hp; subst e; simp [SV.refs, SC.refs] at this]
  · rfl
theorem app_ext (h : Ext Pd s t) {o : Oper} (ho : isApp o.op = true) {H : Heap} {K : St → Prop} (hx : ∀ x ∈ o.op.operands, ∀ p ∈ Pd, x ≠ .tmp p.d) (hd : ∀ p ∈ Pd, o.dst ≠ some p.d) (hk : objK P o t H K) :
    objK P o s H fun s' => ∃ t', Ext Pd s' t' ∧ K t' ∧ EnvOff o.dst s s' := by
  obtain ⟨dst, op, type, pos, after, guard⟩ := o
  unfold isApp at ho
  split at ho
  · rename_i args ats heq
    simp only at heq
    subst heq
    cases dst with
    | none => simp only [objK] at hk
    | some d =>
      have hdd : ∀ p ∈ Pd, d ≠ p.d := fun p hp e => hd p hp (by rw [e])
      simp only [objK] at hk ⊢
      split at hk
      · rename_i t1 t2 x y hf h1 h2
        have e1 : args = #[x, y] := by apply Array.ext'; simpa using h2
        subst e1
        have hex : ∀ z, z = x ∨ z = y → ∀ p ∈ Pd, z ≠ .tmp p.d := fun z hz => hx z (by rcases hz with rfl | rfl <;> simp [Op.operands, Call.operands])
        rw [h.ev (hex x (.inl rfl)), h.ev (hex y (.inr rfl))] at hk
        have rx : ∀ p ∈ Pd, (ev s x).refs p.d = false := fun p hp => ev_refs (h.freeP p hp) x
        have ry : ∀ p ∈ Pd, (ev s y).refs p.d = false := fun p hp => ev_refs (h.freeP p hp) y
        have fin : ∀ {e sz by_ : Nat} {base : Option Nat} {es : List (List Value)}, (∀ r, base = some r → (ev s x).site = some r) → rowK t d e sz by_ base es K → rowK s d e sz by_ base es fun s' => ∃ t', Ext Pd s' t' ∧ K t' ∧ EnvOff (some d) s s' := by
          intro e sz by_ base es hb hk
          exact ⟨hk.1, _, h.row hf hdd (fun p hp e => by have := rx p hp; rw [site_refs (hb _ e)] at this; cases this), hk.2, envOff_put ⟨s.env, objSet (delO s.objs base) d (.row e sz es), s.dfr⟩ (some d) (.c (.row d))⟩
        simp only [h.free hf, h1, List.toList_toArray]
        split at hk
        · rename_i e2 e sz hu2 he
          try simp only [hu2, he]
          split at hk
          · rename_i by_ z hby hz
            try simp only [hby, hz]
            split at hk
            · rename_i hzl
              try simp only [hzl]
              split at hk
              · rename_i b off n hi' harr
                have hbl : look t.objs b = look s.objs b := h.look b fun p hp e => by
                  have := rx p hp
                  rw [harr] at this
                  subst e
                  simp [SV.refs, SC.refs] at this
                rw [hbl, src_ext h ry] at hk
                try simp only [harr]
                split at hk
                · rename_i q1 q2 q3 q4
                  try simp only [q1, q2, q3, q4]
                  split at hk
                  · rename_i q5
                    try simp only [q5]
                    split at hk
                    · rename_i q6
                      try simp only [q6]
                      exact fin (by simp) hk
                    · exact hk.elim
                  · exact hk.elim
                · exact hk.elim
              · rename_i hna
                rw [base_ext h rx] at hk
                split at hk
                · rename_i base es hb
                  try simp only [hb]
                  split at hk
                  · rename_i a0 n0 c0 hreal
                    try simp only [hreal]
                    obtain ⟨es2, hs, hk⟩ := hk
                    exact ⟨es2, hs, fin (fun r e => base_site hb e) hk⟩
                  · rename_i hnr
                    rw [src_ext h ry] at hk
                    split at hk
                    · rename_i q1 q2
                      try simp only [q1, q2]
                      exact fin (fun r e => base_site hb e) hk
                    · exact hk.elim
                · exact hk.elim
            · exact hk.elim
          · exact hk.elim
        · exact hk.elim
      · exact hk.elim
  · cases ho
/-! ### Lending in both -/
structure Lsim (D : Nat → Prop) (s0 t0 s t : St) : Prop where
  senv : s.env = s0.env
  tenv : t.env = t0.env
  sdfr : s.dfr = s0.dfr
  lookP : ∀ d, D d → Sx.look t.objs d = Sx.look t0.objs d
  objs : ∀ e ∈ s.objs, e ∈ t.objs
  subs : ∀ e ∈ s.objs, e ∈ s0.objs
  look : ∀ d, ¬ D d → Sx.look t.objs d = Sx.look s.objs d
  refs : ∀ d o, Sx.look s.objs d = some o → ∀ q, D q → o.refs q = false
  dfr : t.dfr = s.dfr
variable {D : Nat → Prop} {s0 t0 : St}
theorem Lsim.del (h : Lsim D s0 t0 s t) (d : Nat) (hd : ¬ D d) : Lsim D s0 t0 (s.del d) (t.del d) where
  senv := h.senv
  tenv := h.tenv
  sdfr := h.sdfr
  lookP x hx := by simp only [St.del, look_objDel]; rw [if_neg (by rintro rfl; exact hd hx)]; exact h.lookP x hx
  objs e he := by have := mem_objDel.1 he; exact mem_objDel.2 ⟨h.objs e this.1, this.2⟩
  subs e he := h.subs e (mem_objDel.1 he).1
  look x hx := by simp only [St.del, look_objDel, h.look x hx]
  refs x o hx := by
    simp only [St.del, look_objDel] at hx
    split at hx
    · cases hx
    · exact h.refs x o hx
  dfr := h.dfr
theorem lendIn_sim : ∀ (l : List Seg) {s t : St} {H : Heap} {K K' : List Value → St → Heap → List Lend → Prop}, Lsim D s0 t0 s t → (∀ q, D q → l.any (Seg.refs q) = false) → lendIn l t H K →
    (∀ vs s' t' H' ls, Lsim D s0 t0 s' t' → K vs t' H' ls → K' vs s' H' ls) → lendIn l s H K'
  | [], s, t, H, K, K', h, hr, hk, f => f _ _ _ _ _ h hk
  | .c x :: r, s, t, H, K, K', h, hr, hk, f => by
    have hr' : ∀ q, D q → Seg.refs q (.c x) = false ∧ r.any (Seg.refs q) = false := fun q hq => by have := hr q hq; simpa [List.any_cons] using this
    cases x with
    | v x => exact lendIn_sim r h (fun q hq => (hr' q hq).2) hk fun vs s' t' H' ls h' hk => f _ _ _ _ _ h' hk
    | row d =>
      have hnd : ¬ D d := fun hq => by have := (hr' d hq).1; simp [Seg.refs, SC.refs] at this
      simp only [lendIn] at hk ⊢
      rw [h.look d hnd] at hk
      split at hk
      · intro v H' h1 h2 h3 h4
        exact lendIn_sim r (h.del d hnd) (fun q hq => (hr' q hq).2) (hk v H' h1 h2 h3 h4) fun vs s' t' H' ls h' hk => f _ _ _ _ _ h' hk
      · exact hk.elim
    | _ => simp only [lendIn] at hk
  | .ints k n xs :: r, s, t, H, K, K', h, hr, hk, f =>
    lendIn_sim r h (fun q hq => by have := hr q hq; simpa [List.any_cons, Seg.refs] using this) hk fun vs s' t' H' ls h' hk => f _ _ _ _ _ h' hk
theorem lendBox_sim {d : Nat} (hd : ¬ D d) {s t : St} {H : Heap} {K K' : Value → St → Heap → List Lend → Prop} (h : Lsim D s0 t0 s t) (hk : lendBox d t H K)
    (f : ∀ v s' t' H' ls, Lsim D s0 t0 s' t' → K v t' H' ls → K' v s' H' ls) : lendBox d s H K' := by
  unfold lendBox at hk ⊢
  rw [h.look d hd] at hk
  split at hk
  · rename_i ty l hl
    exact lendIn_sim l (h.del d hd) (fun q hq => by have := h.refs d _ hl q hq; simpa [AObj.refs] using this) hk fun cs s' t' H' ls h' hk b hb => f _ _ _ _ _ h' (hk b hb)
  · exact hk.elim
def capD (D : Nat → Prop) : Cap → Prop
  | .b d => ¬ D d
  | .v _ => True
theorem lendCaps_sim : ∀ (l : List Cap) {s t : St} {H : Heap} {K K' : List Value → St → Heap → List Lend → Prop}, Lsim D s0 t0 s t → (∀ c ∈ l, capD D c) → lendCaps l t H K →
    (∀ vs s' t' H' ls, Lsim D s0 t0 s' t' → K vs t' H' ls → K' vs s' H' ls) → lendCaps l s H K'
  | [], s, t, H, K, K', h, hr, hk, f => f _ _ _ _ _ h hk
  | .v x :: r, s, t, H, K, K', h, hr, hk, f => lendCaps_sim r h (fun c hc => hr c (List.mem_cons_of_mem _ hc)) hk fun vs s' t' H' ls h' hk => f _ _ _ _ _ h' hk
  | .b d :: r, s, t, H, K, K', h, hr, hk, f => lendBox_sim (hr _ (List.mem_cons_self ..)) h hk fun v s' t' H' ls h' hk =>
      lendCaps_sim r h' (fun c hc => hr c (List.mem_cons_of_mem _ hc)) hk fun vs s' t' H' ls h' hk => f _ _ _ _ _ h' hk
theorem lendC_sim {x : SC} {s t : St} {H : Heap} {K K' : Value → St → Heap → List Lend → Prop} (h : Lsim D s0 t0 s t) (hr : ∀ q, D q → x.refs q = false) (hk : lendC x t H K)
    (f : ∀ v s' t' H' ls, Lsim D s0 t0 s' t' → K v t' H' ls → K' v s' H' ls) : lendC x s H K' := by
  unfold lendC at hk ⊢
  split at hk
  · exact f _ _ _ _ _ h hk
  · rename_i d
    have hnd : ¬ D d := fun hq => by have := hr d hq; simp [SC.refs] at this
    rw [h.look d hnd] at hk
    split at hk
    · intro v H' h1 h2 h3 h4
      exact f _ _ _ _ _ (h.del d hnd) (hk v H' h1 h2 h3 h4)
    · exact hk.elim
  · rename_i d
    exact lendBox_sim (fun hq => by have := hr d hq; simp [SC.refs] at this) h hk f
  · rename_i fn first caps
    refine lendCaps_sim caps h (fun c hc => ?_) hk fun vs s' t' H' ls h' hk => f _ _ _ _ _ h' hk
    cases c with
    | v _ => trivial
    | b d =>
      intro hq
      have := hr d hq
      simp only [SC.refs, List.any_eq_false] at this
      exact this _ hc (by simp)
  · exact hk.elim
theorem lendSegs_sim : ∀ (l : List Seg) {s t : St} {H : Heap} {K K' : List Value → St → Heap → List Lend → Prop}, Lsim D s0 t0 s t → (∀ q, D q → l.any (Seg.refs q) = false) → lendSegs l t H K →
    (∀ vs s' t' H' ls, Lsim D s0 t0 s' t' → K vs t' H' ls → K' vs s' H' ls) → lendSegs l s H K'
  | [], s, t, H, K, K', h, hr, hk, f => f _ _ _ _ _ h hk
  | .c x :: r, s, t, H, K, K', h, hr, hk, f => by
    have hr' : ∀ q, D q → x.refs q = false ∧ r.any (Seg.refs q) = false := fun q hq => by have := hr q hq; simpa [List.any_cons, Seg.refs] using this
    exact lendC_sim h (fun q hq => (hr' q hq).1) hk fun v s' t' H' ls h' hk => lendSegs_sim r h' (fun q hq => (hr' q hq).2) hk fun vs s' t' H' ls h' hk => f _ _ _ _ _ h' hk
  | .ints k n xs :: r, s, t, H, K, K', h, hr, hk, f =>
    lendSegs_sim r h (fun q hq => by have := hr q hq; simpa [List.any_cons, Seg.refs] using this) hk fun vs s' t' H' ls h' hk => f _ _ _ _ _ h' hk
theorem lendV_sim {x : SV} {s t : St} {H : Heap} {K K' : Value → St → Heap → List Lend → Prop} (h : Lsim D s0 t0 s t) (hr : ∀ q, D q → x.refs q = false) (hk : lendV x t H K)
    (f : ∀ v s' t' H' ls, Lsim D s0 t0 s' t' → K v t' H' ls → K' v s' H' ls) : lendV x s H K' := by
  cases x with
  | c x => exact lendC_sim h hr hk f
  | agg l => exact lendSegs_sim l h hr hk fun vs s' t' H' ls h' hk => f _ _ _ _ _ h' hk
  | tup l => exact hk.elim
theorem lendK_sim : ∀ (l : List SV) {s t : St} {H : Heap} {K K' : List Value → St → Heap → List Lend → Prop}, Lsim D s0 t0 s t → (∀ x ∈ l, ∀ q, D q → x.refs q = false) → lendK l t H K →
    (∀ vs s' t' H' ls, Lsim D s0 t0 s' t' → K vs t' H' ls → K' vs s' H' ls) → lendK l s H K'
  | [], s, t, H, K, K', h, hr, hk, f => f _ _ _ _ _ h hk
  | x :: r, s, t, H, K, K', h, hr, hk, f => lendV_sim h (hr x (List.mem_cons_self ..)) hk fun v s' t' H' ls h' hk =>
      lendK_sim r h' (fun y hy => hr y (List.mem_cons_of_mem _ hy)) hk fun vs s' t' H' ls h' hk => f _ _ _ _ _ h' hk
theorem Lsim.ext (h : Lsim (fun q => ∃ p ∈ Pd, p.d = q) s0 t0 s t) (he : Ext Pd s0 t0) : Ext Pd s t where
  len := by rw [h.senv, h.tenv]; exact he.len
  env := by rw [h.senv, h.tenv]; exact he.env
  envB := by rw [h.senv]; exact he.envB
  envP := by rw [h.tenv]; exact he.envP
  dfr := h.dfr
  look d hd := h.look d fun ⟨p, hp, e⟩ => hd p hp e
  lookP p hp := by rw [h.lookP p.d ⟨p, hp, rfl⟩]; exact he.lookP p hp
  ok := he.ok
  objs := h.objs
  freeP p hp := by
    have := free_iff.1 (he.freeP p hp)
    rw [free_iff, h.senv, h.sdfr]
    exact ⟨this.1, fun e hm => this.2.1 e (h.subs e hm), this.2.2⟩
/-! ### What a call hands back leads nowhere -/
theorem ex_mono {k : CK} {F F' : Value → Prop} (h : k.ex F) (hf : ∀ v, F v → F' v) : k.ex F' := by
  cases k <;> simp only [CK.ex] at h ⊢
  case slice => obtain ⟨a, n, c, h⟩ := h; exact ⟨a, n, c, hf _ h⟩
  case func => obtain ⟨f, h1, h⟩ := h; exact ⟨f, h1, hf _ h⟩
  case iface => obtain ⟨f, h1, h⟩ := h; exact ⟨f, h1, hf _ h⟩
  all_goals (obtain ⟨n, h⟩ := h; exact ⟨n, hf _ h⟩)
theorem exSegs_none : ∀ (ks : List SK) {F F' : List Seg → Prop}, exSegs ks F → (∀ l, (∀ q, l.any (Seg.refs q) = false) → F l → F' l) → exSegs ks F'
  | [], F, F', h, hf => hf [] (by simp) h
  | .c k :: r, F, F', h, hf => ex_mono h fun v h => exSegs_none r h fun l hl h => hf _ (fun q => by rw [List.any_cons, hl q]; rfl) h
  | .ints k n :: r, F, F', h, hf => by
    obtain ⟨xs, hn, h⟩ := h
    exact ⟨xs, hn, exSegs_none r h fun l hl h => hf _ (fun q => by rw [List.any_cons, hl q]; rfl) h⟩
theorem exComps_none : ∀ (ks : List (Bool × List SK)) {F F' : List Comp → Prop}, exComps ks F → (∀ l, (∀ q, l.any (Comp.refs q) = false) → F l → F' l) → exComps ks F'
  | [], F, F', h, hf => hf [] (by simp) h
  | (a, ks) :: r, F, F', h, hf => exSegs_none ks h fun l hl h => exComps_none r h fun cs hcs h => hf _ (fun q => by
      simp only [List.any_cons, hcs q, Bool.or_false]
      unfold mkComp
      split
      · exact hl q
      · split
        · have := hl q; simpa [List.any_cons, Seg.refs, Comp.refs] using this
        · rfl) h
theorem retK_none {ty : TypeId} {e : Ending} {K K' : SV → Prop} (h : retK P ty e K) (hf : ∀ x, (∀ q, x.refs q = false) → K x → K' x) : retK P ty e K' := by
  unfold retK at h ⊢
  split at h
  · split at h
    · exact exComps_none _ h fun l hl h => ⟨h.1, hf _ hl h.2⟩
    · exact h.elim
  · split at h
    · refine exSegs_none _ h fun l hl h => ⟨h.1, hf _ (fun q => ?_) h.2⟩
      unfold mkSV
      split
      · exact hl q
      · split
        · have := hl q; simpa [List.any_cons, Seg.refs, SV.refs] using this
        · rfl
    · exact h.elim
theorem call_ext2 (h : Ext Pd s t) {o : Oper} {hs : Hints} {Q : Exit → St → Heap → Prop} (hpk : hs.pk = none) {G H : Heap} {K K' : St → Heap → Prop} (hK : ∀ s' t' H', Ext Pd s' t' → EnvOff o.dst s s' → K t' H' → K' s' H') (hx : ∀ x ∈ o.op.operands, ∀ p ∈ Pd, x ≠ .tmp p.d) (hd : ∀ p ∈ Pd, o.dst ≠ some p.d)
    (hk : keepK P G o t H (panicQ hs Q) K) : keepK P G o s H (panicQ hs Q) K' := by
  have hL : Lsim (fun q => ∃ p ∈ Pd, p.d = q) s t s t := ⟨rfl, rfl, rfl, fun _ _ => rfl, h.objs, fun _ h => h, fun d hd => h.look d fun p hp e => hd ⟨p, hp, e⟩, fun d o ho q ⟨p, hp, e⟩ => by subst e; exact (free_obj (h.freeP p hp) d o ho).2, h.dfr⟩
  have rf : ∀ x : Operand, ∀ q, (∃ p ∈ Pd, p.d = q) → (ev s x).refs q = false := fun x q ⟨p, hp, e⟩ => by subst e; exact ev_refs (h.freeP p hp) x
  have fin : ∀ {e : Ending} {Hl H' : Heap} {s' t' : St} {ls : List Lend}, t'.dfr = s'.dfr → keepR P G H Hl o t t' ls (panicQ hs Q) K e H' → keepR P G H Hl o s s' ls (panicQ hs Q) K' e H' := by
    intro e Hl H' s' t' ls hdf hr
    have good : ∀ {H'' : Heap}, retK P o.type e (fun x => K (t.put o.dst x) H'') → retK P o.type e fun x => K' (s.put o.dst x) H'' := fun hr =>
      retK_none hr fun x hx hk => hK _ _ _ (h.put (fun p _ => hx p.d) hd) (envOff_put s _ _) hk
    unfold keepR at hr ⊢
    split at hr
    · exact ⟨hr.1, good hr.2⟩
    · rename_i kp hkp
      rcases hr with hr | ⟨c, h1, h2⟩
      · exact .inl ⟨hr.1, good hr.2⟩
      · refine .inr ⟨c, h1, ?_⟩
        unfold panicQ at hkp
        split at hkp
        · cases hkp
          simp only [hpk, panSt] at h2 ⊢
          rw [← hdf]; exact h2
        · cases hkp
  unfold keepK at hk ⊢
  split at hk
  · rename_i f args ats ho
    have hxa : ∀ x ∈ args.toList, ∀ p ∈ Pd, x ≠ .tmp p.d := fun x hxm => hx x (by rw [ho]; simp only [Op.operands, Call.operands]; exact Array.mem_append.2 (.inr (by simpa using hxm)))
    have hxf : ∀ p ∈ Pd, f ≠ .tmp p.d := hx f (by rw [ho]; simp only [Op.operands, Call.operands]; exact Array.mem_append.2 (.inl (by simp)))
    have hmap : args.toList.map (ev t) = args.toList.map (ev s) := List.map_congr_left fun x hxm => h.ev (hxa x hxm)
    rw [hmap] at hk
    have hargs : ∀ x ∈ args.toList.map (ev s), ∀ q, (∃ p ∈ Pd, p.d = q) → x.refs q = false := fun x hxm q hq => by
      obtain ⟨y, _, rfl⟩ := List.mem_map.1 hxm
      exact rf y q hq
    split at hk
    · rename_i g
      refine lendK_sim _ hL hargs hk fun vs s' t' H' ls h' hk => ?_
      exact ⟨hk.1, fun w hw => (hk.2 w hw).mono fun e w' ⟨H'', h1, h2⟩ => ⟨H'', h1, fin h'.dfr h2⟩⟩
    · rename_i f' hnf
      rw [h.ev hxf] at hk
      refine lendV_sim hL (rf f) hk fun fv s1 t1 H1 ls1 h1 hk => ?_
      refine lendK_sim _ h1 hargs hk fun vs s' t' H' ls h' hk => ?_
      unfold MeetsV at hk ⊢
      split at hk
      · exact ⟨hk.1, fun w hw => (hk.2 w hw).mono fun e w' ⟨H'', h1, h2⟩ => ⟨H'', h1, fin h'.dfr h2⟩⟩
      · exact fun w hw => let ⟨fn, tm, am, bd, hy, hr⟩ := hk w hw; ⟨fn, tm, am, bd, hy, hr.mono fun e w' ⟨H'', h1, h2⟩ => ⟨H'', h1, fin h'.dfr h2⟩⟩
      · exact hk.elim
  · exact hk.elim
theorem give_ext (h : Ext Pd s t) {o : Oper} {hs : Hints} {Q : Exit → St → Heap → Prop} (hpk : hs.pk = none) {O : List (Nat × AObj)} {G H : Heap} {K : St → Heap → Prop} (hx : ∀ x ∈ o.op.operands, ∀ p ∈ Pd, x ≠ .tmp p.d) (hd : ∀ p ∈ Pd, o.dst ≠ some p.d)
    (hk : giveK P O G o t H (panicQ hs Q) K) : giveK P O G o s H (panicQ hs Q) fun s' H' => ∃ t', Ext Pd s' t' ∧ K t' H' ∧ EnvOff o.dst s s' := by
  have hL : Lsim (fun q => ∃ p ∈ Pd, p.d = q) s t s t := ⟨rfl, rfl, rfl, fun _ _ => rfl, h.objs, fun _ h => h, fun d hd => h.look d fun p hp e => hd ⟨p, hp, e⟩, fun d o ho q ⟨p, hp, e⟩ => by subst e; exact (free_obj (h.freeP p hp) d o ho).2, h.dfr⟩
  have rf : ∀ x : Operand, ∀ q, (∃ p ∈ Pd, p.d = q) → (ev s x).refs q = false := fun x q ⟨p, hp, e⟩ => by subst e; exact ev_refs (h.freeP p hp) x
  unfold giveK at hk ⊢
  split at hk
  · rename_i g args ats ho
    have hxa : ∀ x ∈ args.toList, ∀ p ∈ Pd, x ≠ .tmp p.d := fun x hxm => hx x (by rw [ho]; simp only [Op.operands, Call.operands]; exact Array.mem_append.2 (.inr (by simpa using hxm)))
    have hmap : args.toList.map (ev t) = args.toList.map (ev s) := List.map_congr_left fun x hxm => h.ev (hxa x hxm)
    rw [hmap] at hk
    have hargs : ∀ x ∈ args.toList.map (ev s), ∀ q, (∃ p ∈ Pd, p.d = q) → x.refs q = false := fun x hxm q hq => by
      obtain ⟨y, _, rfl⟩ := List.mem_map.1 hxm
      exact rf y q hq
    refine lendK_sim _ hL hargs hk fun vs s' t' H' ls h' hk => ⟨hk.1, fun w hw => (hk.2 w hw).mono fun e w' ⟨H'', h1, h2⟩ => ⟨H'', h1, ?_⟩⟩
    have hext := h'.ext h
    have good : ∀ {H'' : Heap}, retK P o.type e (fun x => K (t'.put o.dst x) H'') → retK P o.type e fun x => ∃ t'', Ext Pd (s'.put o.dst x) t'' ∧ K t'' H'' ∧ EnvOff o.dst s (s'.put o.dst x) := fun hr =>
      retK_none hr fun x hx hk => ⟨_, hext.put (fun p _ => hx p.d) hd, hk, fun y hy => by
        have := envOff_put s' o.dst x y hy
        rw [this, h'.senv]⟩
    unfold giveR at h2 ⊢
    split at h2
    · split at h2
      · exact ⟨h2.1, good h2.2⟩
      · rename_i kp hkp
        rcases h2 with h2 | ⟨c, h3, h4⟩
        · exact .inl ⟨h2.1, good h2.2⟩
        · refine .inr ⟨c, h3, ?_⟩
          unfold panicQ at hkp
          split at hkp
          · cases hkp
            simp only [hpk, panSt] at h4 ⊢
            rw [← h'.dfr]; exact h4
          · cases hkp
    · exact h2.elim
  · exact hk.elim
theorem adoptA_ext {s' t' : St} {d e sz : Nat} (h : Ext Pd s' t') (hd : ∀ p ∈ Pd, d ≠ p.d) {G H : Heap} {K : St → Heap → Prop} (hk : adoptA t' d e sz G H K) (hs : EnvOff (some d) s s') :
    adoptA s' d e sz G H fun s'' H'' => ∃ t'', Ext Pd s'' t'' ∧ K t'' H'' ∧ EnvOff (some d) s s'' := by
  have hev : t'.get d = s'.get d := h.ev (x := .tmp d) fun p hp q => hd p hp (by cases q; rfl)
  unfold adoptA at hk ⊢
  rw [hev] at hk
  split at hk
  · split at hk
    · rename_i hf
      have h1 := h.set (v := .c .bad) (fun p _ => rfl) (d := d) hd
      rw [h1.free hf]
      obtain ⟨es, hrow, hG, hk⟩ := hk
      refine ⟨es, hrow, hG, _, ?_, hk, ?_⟩
      · have h2 := h1.row (base := none) (ty := e) (sz := sz) (es := es) hf hd (by simp)
        have e1 : ∀ q : St, (St.set ⟨(q.set d (.c .bad)).env, objSet (delO (q.set d (.c .bad)).objs none) d (.row e sz es), (q.set d (.c .bad)).dfr⟩ d (.c (.row d))) = St.set ⟨q.env, objSet q.objs d (.row e sz es), q.dfr⟩ d (.c (.row d)) := fun q => by
          simp only [St.set, setNth_setNth', delO]
        rw [e1, e1] at h2
        exact h2
      · intro y hy
        rw [← hs y hy]
        exact envOff_put ⟨s'.env, objSet s'.objs d (.row e sz es), s'.dfr⟩ (some d) (.c (.row d)) y hy
    · exact hk.elim
  · exact hk.elim
/-! ### Rows that are built -/
theorem elems_ext {sz : Nat} {s s' : St} : ∀ (l : List (Nat × Operand)) (j n : Nat), (∀ q ∈ l, ev s' q.2 = ev s q.2) → elemsOf P sz s' l j n = elemsOf P sz s l j n
  | [], _, 0, _ => rfl
  | _ :: _, _, 0, _ => rfl
  | [], _, _ + 1, _ => rfl
  | (i, x) :: r, j, n + 1, h => by
    simp only [elemsOf]
    rw [h (i, x) (List.mem_cons_self ..), elems_ext r (j + 1) n fun q hq => h q (List.mem_cons_of_mem _ hq)]
theorem buildSegs_ext {t : TypeId} {s s' : St} : ∀ (l : List (Nat × Operand)) (z : List Seg), (∀ q ∈ l, ev s' q.2 = ev s q.2) → buildSegs P t s' l z = buildSegs P t s l z
  | [], _, _ => rfl
  | (i, x) :: r, z, h => by
    have e : ev s' x = ev s x := h (i, x) (List.mem_cons_self ..)
    simp only [buildSegs]
    rw [e]
    split
    · split
      · split
        · exact buildSegs_ext r _ fun q hq => h q (List.mem_cons_of_mem _ hq)
        · rfl
      · rfl
    · rfl
theorem buildInts_ext {s s' : St} {k : IntKind} : ∀ (l : List (Nat × Operand)) (xs : List Int), (∀ q ∈ l, ev s' q.2 = ev s q.2) → buildInts s' k l xs = buildInts s k l xs
  | [], _, _ => rfl
  | (i, x) :: r, xs, h => by
    have e : ev s' x = ev s x := h (i, x) (List.mem_cons_self ..)
    simp only [buildInts]
    rw [e]
    split
    · split
      · exact buildInts_ext r _ fun q hq => h q (List.mem_cons_of_mem _ hq)
      · rfl
    · rfl
/-- What hangs on operands alone. -/
theorem val_env {cfg : Cfg} {op : Op} (hp : isPureOp op = true) {s s' : St} (h0 : s.objs = []) (he : ∀ x ∈ op.operands, ev s' x = ev s x) {K : SV → Prop} (hk : valK P cfg op s K) : valK P cfg op s' K := by
  cases op <;> simp only [isPureOp] at hp <;> try cases hp
  case pick c a b =>
    simp only [valK] at hk ⊢
    rw [he c (by simp [Op.operands]), he a (by simp [Op.operands]), he b (by simp [Op.operands])]
    exact hk
  case binOp o t x y r =>
    simp only [valK] at hk ⊢
    rw [he x (by simp [Op.operands]), he y (by simp [Op.operands])]
    exact hk
  case unOp o t x =>
    cases o <;> simp only [valK] at hk ⊢ <;> try exact hk.elim
    all_goals (rw [he x (by simp [Op.operands])]; exact hk)
  case convert a b x =>
    simp only [valK] at hk ⊢
    rw [he x (by simp [Op.operands])]
    rw [h0] at hk
    split at hk
    · exact hk
    · exact hk
    · exfalso
      split at hk
      · rename_i h4; cases h4
      · exact hk
    · exact hk.elim
  case index t x i =>
    simp only [valK] at hk ⊢
    rw [he x (by simp [Op.operands]), he i (by simp [Op.operands])]
    exact hk
  case field t x f =>
    simp only [valK] at hk ⊢
    rw [he x (by simp [Op.operands])]
    exact hk
  case extract x i =>
    simp only [valK] at hk ⊢
    rw [he x (by simp [Op.operands])]
    exact hk
  case makeInterface t x =>
    simp only [valK] at hk ⊢
    rw [he x (by simp [Op.operands])]
    exact hk
  case build t parts =>
    have hq : ∀ q ∈ parts.toList, ev s' q.2 = ev s q.2 := fun q hq => he q.2 (by simp only [Op.operands, List.mem_toArray]; exact List.mem_map.2 ⟨q, hq, rfl⟩)
    simp only [valK] at hk ⊢
    simp only [buildSegs_ext _ _ hq, buildInts_ext _ _ hq]
    exact hk
/-- What is to be built, in a state. -/
structure Mk (P : Program) (hs : Hints) (s : St) (o : Oper) (p : PdE) : Prop where
  dst : o.dst = some p.d
  ok : PdOK p
  nb : ∀ x ∈ o.op.operands, realOp (ev s x) = true
  how : (isAlloc o.op = true ∧ (∀ s' : St, (∀ x ∈ o.op.operands, ev s' x = ev s x) → boxOK s' o.op = true ∧ (s'.free p.d = true → ∀ (H : Heap) (K : St → Prop), K (rowSt s' p) → objK P o s' H K))) ∨
    (isAlloc o.op = false ∧ isPureOp o.op = true ∧ p.ob = none ∧ realSV p.sv = true ∧ ∀ s' : St, (∀ x ∈ o.op.operands, ev s' x = ev s x) → ∀ K : SV → Prop, K p.sv → valK P ⟨hs.eqs⟩ o.op s' K)
theorem real_refs {x : SV} (h : realSV x = true) : (∀ d, x.refs d = false) ∧ x ≠ .c .bad := by
  unfold realSV at h
  split at h
  · exact ⟨fun _ => rfl, by simp⟩
  · rename_i l
    refine ⟨fun d => ?_, by simp⟩
    have key : ∀ (l : List Seg) (cs : List Value), flat l = some cs → l.any (Seg.refs d) = false := by
      intro l
      induction l with
      | nil => intro _ _; rfl
      | cons x r ih =>
        intro cs e
        cases x with
        | c x =>
          cases x <;> simp only [flat] at e <;> try cases e
          split at e
          · rename_i l h2; cases e
            simp [Seg.refs, SC.refs, ih _ h2]
          · cases e
        | ints k n xs =>
          simp only [flat] at e
          split at e
          · rename_i l h2; cases e
            simp [Seg.refs, ih _ h2]
          · cases e
    obtain ⟨cs, hc⟩ := Option.isSome_iff_exists.1 h
    exact key l cs hc
  · cases h
theorem opsOK_mem {s : St} : ∀ {l : List Operand}, opsOK s l = true → ∀ x ∈ l, realOp (ev s x) = true
  | [], _, x, hx => by cases hx
  | y :: r, h, x, hx => by
    simp only [opsOK, Bool.and_eq_true] at h
    rcases List.mem_cons.1 hx with rfl | hx
    · exact h.1
    · exact opsOK_mem h.2 x hx
theorem opsOK_ext {s s' : St} : ∀ {l : List Operand}, (∀ x ∈ l, ev s' x = ev s x) → opsOK s' l = opsOK s l
  | [], _ => rfl
  | y :: r, h => by
    simp only [opsOK]
    rw [h y (List.mem_cons_self ..), opsOK_ext fun x hx => h x (List.mem_cons_of_mem _ hx)]
theorem boxOK_ext {s s' : St} {op : Op} (h : ∀ x ∈ op.operands, ev s' x = ev s x) : boxOK s' op = boxOK s op := by
  cases op <;> try rfl
  rename_i t x
  simp only [boxOK]
  rw [h x (by simp [Op.operands])]
theorem segs_flat_refs {l : List Seg} {cs : List Value} (h : flat l = some cs) (d : Nat) : l.any (Seg.refs d) = false := (real_refs (x := .agg l) (by simp [realSV, h])).1 d
theorem parse_flat : ∀ {ks : List SK} {z : List Value} {l : List Seg}, parse ks z = some l → ∃ cs, flat l = some cs
  | [], [], l, h => by simp [parse] at h; subst h; exact ⟨[], rfl⟩
  | [], _ :: _, l, h => by simp [parse] at h
  | .c _ :: ks, x :: z, l, h => by
    simp only [parse] at h
    split at h
    · rename_i r hr; cases h
      obtain ⟨cs, hc⟩ := parse_flat hr
      exact ⟨x :: cs, by simp [flat, hc]⟩
    · cases h
  | .c _ :: _, [], l, h => by simp [parse] at h
  | .ints k n :: ks, z, l, h => by
    simp only [parse] at h
    split at h
    · split at h
      · rename_i _ xs l' hx _ r hr; cases h
        obtain ⟨cs, hc⟩ := parse_flat hr
        exact ⟨xs.map (.int k) ++ cs, by simp only [flat, hc]⟩
      · cases h
    · cases h
theorem bs_mk {o : Oper} {hs : Hints} (ho : isBs o.op = true) (k : Nat) {s : St} {H : Heap} {K : St → Prop} (hops : opsOK s o.op.operands.toList = true)
    (hk : match isAlloc o.op with | true => (match boxOK s o.op with | true => objK P o s H K | false => False) | false => (match freeAt s o.dst with | true => (valK P ⟨hs.eqs⟩ o.op ⟨s.env, [], []⟩ fun x => realK x (K (s.put o.dst x))) | false => False)) :
    ∃ p : PdE, p.k = k ∧ Mk P hs s o p ∧ s.free p.d = true ∧ K (rowSt s p) := by
  have hnb : ∀ x ∈ o.op.operands, realOp (ev s x) = true := fun x hx => opsOK_mem hops x (by simpa using hx)
  cases hal : isAlloc o.op with
  | false =>
    rw [hal] at hk
    simp only at hk
    split at hk
    rotate_left
    · exact hk.elim
    rename_i hfa
    obtain ⟨d, hd, hf⟩ : ∃ d, o.dst = some d ∧ s.free d = true := by
      unfold freeAt at hfa
      split at hfa
      · rename_i d hd; exact ⟨d, hd, hfa⟩
      · cases hfa
    obtain ⟨z, hz, hpk⟩ := valK_pick hk
    unfold realK at hz
    split at hz
    · rename_i hr
      have hpu : isPureOp o.op = true := by
        unfold isBs at ho
        split at ho
        · rename_i e; rw [e] at hal; cases hal
        · rename_i e; rw [e] at hal; cases hal
        · rename_i e; rw [e] at hal; cases hal
        · exact ho
      refine ⟨⟨k, d, none, z⟩, rfl, ⟨hd, ⟨(fun o e => by cases e), fun x _ => (real_refs hr).1 x, (real_refs hr).2⟩, hnb, .inr ⟨hal, hpu, rfl, hr, fun s' he K' hK' => val_env hpu (s := ⟨s.env, [], []⟩) rfl he (hpk K' hK')⟩⟩, hf, ?_⟩
      rw [hd] at hz
      exact hz
    · exact hz.elim
  | true =>
    rw [hal] at hk
    simp only at hk
    obtain ⟨dst, op, type, pos, after, guard⟩ := o
    simp only at hal ho hk hnb
    cases dst with
    | none =>
      exfalso
      split at hk
      · cases op <;> simp only [objK] at hk
        all_goals simp [isAlloc] at hal
      · exact hk
    | some d =>
    split at hk
    · rename_i hbx
      cases op <;> try (simp only [isAlloc] at hal; cases hal; done)
      case alloc t =>
        simp only [objK] at hk
        split at hk
        · rename_i z ks hf hz hks
          split at hk
          · rename_i l hl
            obtain ⟨cs, hcs⟩ := parse_flat hl
            refine ⟨⟨k, d, some (.box t l), .c (.box d 0)⟩, rfl, ⟨rfl, ⟨fun o e x => by cases e; exact segs_flat_refs hcs x, fun x hx => nbf (Ne.symm hx), by simp⟩, hnb, .inl ⟨rfl, fun s' he => ⟨rfl, fun hf' H' K' hK' => ?_⟩⟩⟩, hf, hk⟩
            simp only [objK, hf', hz, hks, hl]
            exact hK'
          · exact hk.elim
        · exact hk.elim
      case box t x =>
        simp only [objK] at hk
        split at hk
        · rename_i l hf hl
          have hfl : ∃ cs, flat l = some cs := by
            simp only [boxOK, hl] at hbx
            exact Option.isSome_iff_exists.1 hbx
          obtain ⟨cs, hcs⟩ := hfl
          refine ⟨⟨k, d, some (.box t l), .c (.box d 0)⟩, rfl, ⟨rfl, ⟨fun o e x => by cases e; exact segs_flat_refs hcs x, fun x hx => nbf (Ne.symm hx), by simp⟩, hnb, .inl ⟨rfl, fun s' he => ⟨by rw [boxOK_ext he]; exact hbx, fun hf' H' K' hK' => ?_⟩⟩⟩, hf, hk⟩
          have he' : (ev s' x).segs = some l := by rw [he x (by simp [Op.operands])]; exact hl
          simp only [objK, hf', he']
          exact hK'
        · exact hk.elim
      case buildSlice t n parts =>
        simp only [objK] at hk
        split at hk
        · rename_i e sz hf he
          split at hk
          · rename_i es hes hn
            split at hk
            · rename_i z hz
              refine ⟨⟨k, d, some (.row e sz es), .c (.row d)⟩, rfl, ⟨rfl, ⟨fun o e x => by cases e; rfl, fun x hx => nbf (Ne.symm hx), by simp⟩, hnb, .inl ⟨rfl, fun s' he2 => ⟨rfl, fun hf' H' K' hK' => ?_⟩⟩⟩, hf, hk⟩
              have h4 : elemsOf P sz s' parts.toList 0 n = some es := by
                rw [elems_ext _ _ _ fun q hq => he2 q.2 (by simp only [Op.operands]; simp only [List.mem_toArray]; exact List.mem_map.2 ⟨q, hq, rfl⟩)]
                exact hes
              simp only [objK, hf', he, h4, hn, hz]
              exact hK'
            · exact hk.elim
          · exact hk.elim
        · exact hk.elim
      case makeSlice => simp [isBs, isPureOp] at ho
    · exact hk.elim
theorem Mk.ext {o : Oper} {hs : Hints} {s s' : St} {p : PdE} (h : Mk P hs s o p) (he : ∀ x ∈ o.op.operands, ev s' x = ev s x) : Mk P hs s' o p where
  dst := h.dst
  ok := h.ok
  nb x hx := by rw [he x hx]; exact h.nb x hx
  how := by
    rcases h.how with ⟨h1, h2⟩ | ⟨h1, h2, h3, h4, h5⟩
    · exact .inl ⟨h1, fun u hu => h2 u fun x hx => (hu x hx).trans (he x hx)⟩
    · exact .inr ⟨h1, h2, h3, h4, fun u hu => h5 u fun x hx => (hu x hx).trans (he x hx)⟩
theorem segTake_refs {q : Nat} : ∀ (l : List Seg) (n : Nat) {l' : List Seg}, l.any (Seg.refs q) = false → segTake l n = some l' → l'.any (Seg.refs q) = false
  | l, 0, l', h, e => by simp only [segTake, Option.some.injEq] at e; subst e; rfl
  | .c x :: r, n + 1, l', h, e => by
    simp only [List.any_cons, Bool.or_eq_false_iff] at h
    simp only [segTake] at e
    split at e
    · rename_i l2 h2; cases e
      simp [h.1, segTake_refs r n h.2 h2]
    · cases e
  | .ints k m xs :: r, n + 1, l', h, e => by
    simp only [List.any_cons, Bool.or_eq_false_iff] at h
    simp only [segTake] at e
    split at e
    · split at e
      · rename_i l2 h2; cases e
        simp [h.1, segTake_refs r _ h.2 h2]
      · cases e
    · cases e
  | [], _ + 1, l', h, e => by simp [segTake] at e
theorem segFrom_refs {q : Nat} : ∀ (l : List Seg) (n : Nat) {l' : List Seg}, l.any (Seg.refs q) = false → segFrom l n = some l' → l'.any (Seg.refs q) = false
  | l, 0, l', h, e => by simp only [segFrom, Option.some.injEq] at e; subst e; exact h
  | .c x :: r, n + 1, l', h, e => by
    simp only [List.any_cons, Bool.or_eq_false_iff] at h
    simp only [segFrom] at e
    exact segFrom_refs r n h.2 e
  | .ints k m xs :: r, n + 1, l', h, e => by
    simp only [List.any_cons, Bool.or_eq_false_iff] at h
    simp only [segFrom] at e
    split at e
    · exact segFrom_refs r _ h.2 e
    · cases e
  | [], _ + 1, l', h, e => by simp [segFrom] at e
theorem segPut_refs {q : Nat} {l new l' : List Seg} {o : Nat} (h : l.any (Seg.refs q) = false) (hn : new.any (Seg.refs q) = false) (e : segPut l o new = some l') : l'.any (Seg.refs q) = false := by
  unfold segPut at e
  cases h1 : segTake l o with
  | none => rw [h1] at e; simp [appO] at e
  | some l1 =>
    cases h2 : segFrom l (o + segLen new) with
    | none => rw [h1, h2] at e; simp [appO] at e
    | some l2 =>
      rw [h1, h2] at e
      simp only [appO, Option.some.injEq] at e
      subst e
      rw [List.any_append, List.any_append, segTake_refs _ _ h h1, hn, segFrom_refs _ _ h h2]
      rfl
theorem mem_objSet_del {l : List (Nat × AObj)} {d : Nat} {o : AObj} {e : Nat × AObj} : e ∈ objSet (objDel l d) d o ↔ (e ∈ l ∧ e.1 ≠ d) ∨ e = (d, o) := by
  rw [objSet_new fun e he => (mem_objDel.1 he).2, List.mem_append, mem_objDel, List.mem_singleton]
theorem mem_objSet {l : List (Nat × AObj)} {d : Nat} {o : AObj} {e : Nat × AObj} (hne : e.1 ≠ d) : e ∈ objSet l d o ↔ e ∈ l := by
  induction l with
  | nil => simp only [objSet, List.mem_singleton]; exact ⟨fun h => by subst h; exact absurd rfl hne, fun h => by cases h⟩
  | cons x l ih =>
    obtain ⟨k, u⟩ := x
    simp only [objSet]
    split
    · rename_i hb
      have := nbt hb; subst this
      rw [List.mem_cons, List.mem_cons]
      constructor
      · rintro (rfl | h)
        · exact absurd rfl hne
        · exact .inr h
      · rintro (rfl | h)
        · exact absurd rfl hne
        · exact .inr h
    · rw [List.mem_cons, List.mem_cons, ih]
theorem reput_set (s : St) (d : Nat) (o : AObj) : reput d ⟨s.env, objSet s.objs d o, s.dfr⟩ = ⟨s.env, objSet (objDel (objSet s.objs d o) d) d o, s.dfr⟩ := by
  unfold reput
  simp only [look_objSet, if_pos]
/-- A store into both. -/
theorem Ext.mod (h : Ext Pd s t) {d : Nat} {o : AObj} (hd : ∀ p ∈ Pd, d ≠ p.d) (ho : ∀ p ∈ Pd, o.refs p.d = false) :
    Ext Pd (reput d ⟨s.env, objSet s.objs d o, s.dfr⟩) (reput d ⟨t.env, objSet t.objs d o, t.dfr⟩) := by
  rw [reput_set, reput_set]
  have lk : ∀ (l : List (Nat × AObj)) x, Sx.look (objSet (objDel (objSet l d o) d) d o) x = if d = x then some o else Sx.look l x := fun l x => by
    rw [look_objSet, look_objDel, look_objSet]
    by_cases hx : d = x <;> simp [hx]
  refine ⟨h.len, h.env, h.envB, h.envP, h.dfr, fun x hx => ?_, fun p hp => ?_, fun e he => ?_, fun p hp => ?_, h.ok⟩
  · simp only [lk, h.look x hx]
  · simp only [lk]
    rw [if_neg (hd p hp)]
    exact h.lookP p hp
  · rcases mem_objSet_del.1 he with ⟨h1, h2⟩ | rfl
    · exact mem_objSet_del.2 (.inl ⟨(mem_objSet h2).2 (h.objs e ((mem_objSet h2).1 h1)), h2⟩)
    · exact mem_objSet_del.2 (.inr rfl)
  · have := free_iff.1 (h.freeP p hp)
    rw [free_iff]
    refine ⟨this.1, fun e he => ?_, this.2.2⟩
    rcases mem_objSet_del.1 he with ⟨h1, h2⟩ | rfl
    · exact this.2.1 e ((mem_objSet h2).1 h1)
    · exact ⟨hd p hp, ho p hp⟩
theorem boxes_refs {x : SV} {d q : Nat} (h : storeSite x = some d) (hq : x.refs q = false) : d ≠ q := by
  unfold storeSite at h
  split at h
  all_goals first | (cases h; rintro rfl; simp [SV.refs, SC.refs] at hq; done) | cases h
theorem Ext.offD (h : Ext Pd s t) {x : Operand} {d : Nat} (hs : storeSite (Sx.ev s x) = some d) : ∀ p ∈ Pd, d ≠ p.d := fun p hp => boxes_refs hs (ev_refs (h.freeP p hp) x)
theorem store_ext (h : Ext Pd s t) {P : Program} {o : Oper} {ty : TypeId} {x y : Operand} (ho : o.op = .store ty x y) (hdst : o.dst = none) {d : Nat} (hsite : storeSite (Sx.ev s x) = some d) {H : Heap} {K : St → Prop} (hx : ∀ x ∈ o.op.operands, ∀ p ∈ Pd, x ≠ .tmp p.d)
    (hk : objK P o t H fun t' => K (reput d t')) : objK P o s H fun s' => ∃ t', Ext Pd (reput d s') t' ∧ K t' ∧ EnvOff o.dst s (reput d s') := by
  have e1 : Sx.ev t x = Sx.ev s x := h.ev (hx x (by rw [ho]; simp [Op.operands]))
  have e2 : Sx.ev t y = Sx.ev s y := h.ev (hx y (by rw [ho]; simp [Op.operands]))
  have off := h.offD hsite
  have fin : ∀ {obj : AObj}, (∀ p ∈ Pd, obj.refs p.d = false) → K (reput d ⟨t.env, objSet t.objs d obj, t.dfr⟩) → ∃ t', Ext Pd (reput d ⟨s.env, objSet s.objs d obj, s.dfr⟩) t' ∧ K t' ∧ EnvOff o.dst s (reput d ⟨s.env, objSet s.objs d obj, s.dfr⟩) := fun hob hk =>
    ⟨_, h.mod off hob, hk, fun z hz => by rw [reput_set]⟩
  unfold objK at hk ⊢
  rw [ho, hdst] at hk ⊢
  simp only at hk ⊢
  rw [e1, e2] at hk
  rw [hdst] at fin
  cases hev : Sx.ev s x with
  | agg l => rw [hev] at hk; exact hk.elim
  | tup l => rw [hev] at hk; exact hk.elim
  | c z =>
    rw [hev] at hk hsite
    cases z with
    | box b off' =>
      cases hsite
      simp only at hk ⊢
      rw [h.look d fun p hp q => off p hp q.symm] at hk
      split at hk
      · rename_i ty' l new z hl hn hz
        split at hk
        · rename_i l' hbn hl'
          refine fin (fun p hp => ?_) hk
          exact segPut_refs (free_obj (h.freeP p hp) d _ hl).2 (segs_refs (ev_refs (h.freeP p hp) y) hn) hl'
        · exact hk.elim
      · exact hk.elim
    | boxi b off' n i =>
      cases hsite
      simp only at hk ⊢
      rw [h.look d fun p hp q => off p hp q.symm] at hk
      split at hk
      · rename_i ty' l k v hl hy hz
        split at hk
        · rename_i k' m xs rest hr'
          split at hk
          · rename_i l' hm hkk hl'
            refine fin (fun p hp => ?_) hk
            exact segPut_refs (free_obj (h.freeP p hp) d _ hl).2 rfl hl'
          · exact hk.elim
        · exact hk.elim
      · exact hk.elim
    | cell r sz' i off' =>
      cases hsite
      simp only at hk ⊢
      rw [h.look d fun p hp q => off p hp q.symm] at hk
      split at hk
      · rename_i ty' sz es new z hl hn hz
        split at hk
        · rename_i cs hcs
          split at hk
          · exact ⟨hk.1, fin (fun p hp => rfl) hk.2⟩
          · exact hk.elim
        · exact hk.elim
      · exact hk.elim
    | _ => exact hk.elim
theorem addr_ext (h : Ext Pd s t) {P : Program} {cfg : Cfg} {op : Op} (hop : match op with | .nilCheck _ | .fieldAddr _ _ _ | .indexAddr _ _ _ | .call { callee := .builtin .len, args := _, argTypes := _ } => true | _ => false) {K : SV → Prop} (hx : ∀ x ∈ op.operands, ∀ p ∈ Pd, x ≠ .tmp p.d)
    (hk : valK P cfg op t K) : valK P cfg op s fun v => K v ∧ ∀ p ∈ Pd, v.refs p.d = false := by
  cases op <;> try cases hop
  · rename_i x
    simp only [valK] at hk ⊢
    rw [h.ev (hx x (by simp [Op.operands]))] at hk
    have rf : ∀ p ∈ Pd, (Sx.ev s x).refs p.d = false := fun p hp => ev_refs (h.freeP p hp) x
    split at hk
    · obtain ⟨A, rfl, hk⟩ := ptrK hk
      exact ⟨hk, fun _ _ => rfl⟩
    · rename_i hev; rw [hev] at rf; exact ⟨hk, rf⟩
    · rename_i hev; rw [hev] at rf; exact ⟨hk, rf⟩
    · rename_i hev; rw [hev] at rf; exact ⟨hk, rf⟩
    · exact hk.elim
  · rename_i ty x f
    simp only [valK] at hk ⊢
    rw [h.ev (hx x (by simp [Op.operands]))] at hk
    have rf : ∀ p ∈ Pd, (Sx.ev s x).refs p.d = false := fun p hp => ev_refs (h.freeP p hp) x
    split at hk
    · split at hk
      · split at hk
        · rename_i hev; rw [hev] at rf; exact ⟨hk, rf⟩
        · rename_i hev; rw [hev] at rf; exact ⟨hk, rf⟩
        · obtain ⟨A, rfl, hk⟩ := ptrK hk
          exact ⟨hk, fun _ _ => rfl⟩
        · exact hk.elim
      · exact hk.elim
    · exact hk.elim
  · rename_i ty x i
    simp only [valK] at hk ⊢
    rw [h.ev (hx x (by simp [Op.operands])), h.ev (hx i (by simp [Op.operands]))] at hk
    have rf : ∀ p ∈ Pd, (Sx.ev s x).refs p.d = false := fun p hp => ev_refs (h.freeP p hp) x
    split at hk
    · rename_i n hi
      unfold indexK at hk ⊢
      split at hk
      · split at hk
        · rename_i b o hev
          rw [hev] at rf
          rw [h.look b fun p hp q => by have := rf p hp; rw [q] at this; simp [SV.refs, SC.refs] at this] at hk
          split at hk
          · split at hk
            · split at hk
              · exact ⟨hk.1, hk.2, rf⟩
              · exact hk.elim
            · exact ⟨hk.1, hk.2, rf⟩
          · exact hk.elim
        · rename_i hev; rw [hev] at rf; exact ⟨hk.1, hk.2, rf⟩
        · obtain ⟨h1, hk⟩ := hk
          obtain ⟨A, rfl, hk⟩ := ptrK hk
          exact ⟨h1, hk, fun _ _ => rfl⟩
        · exact hk.elim
      · split at hk
        · obtain ⟨h1, hk⟩ := hk
          obtain ⟨A, rfl, hk⟩ := ptrK hk
          exact ⟨h1, hk, fun _ _ => rfl⟩
        · rename_i r hev
          rw [hev] at rf
          rw [h.look r fun p hp q => by have := rf p hp; rw [q] at this; simp [SV.refs, SC.refs] at this] at hk
          split at hk
          · split at hk
            · exact ⟨hk.1, hk.2, rf⟩
            · exact hk.elim
          · exact hk.elim
        · rename_i hev
          rw [hev] at rf
          split at hk
          · exact ⟨hk.1, hk.2, rf⟩
          · exact hk.elim
        · rename_i hev
          rw [hev] at rf
          split at hk
          · exact ⟨hk.1, hk.2, rf⟩
          · exact hk.elim
        · exact hk.elim
      · exact hk.elim
    · exact hk.elim
  · rename_i c
    obtain ⟨callee, args, ats⟩ := c
    have hc : callee = .builtin .len := by
      cases callee with
      | builtin b => cases b <;> first | rfl | (simp at hop)
      | value f => simp at hop
      | invoke r m => simp at hop
    subst hc
    simp only [valK] at hk ⊢
    split at hk
    · rename_i ty x hat hargs
      have hxm : x ∈ (Op.call { callee := .builtin .len, args := args, argTypes := ats }).operands := by
        simp only [Op.operands, Call.operands]
        exact Array.mem_append.2 (.inr (by rw [← Array.mem_toList_iff, hargs]; exact List.mem_cons_self ..))
      rw [h.ev (hx x hxm)] at hk
      have rf : ∀ p ∈ Pd, (Sx.ev s x).refs p.d = false := fun p hp => ev_refs (h.freeP p hp) x
      unfold lenK at hk ⊢
      split at hk
      · exact ⟨hk, fun _ _ => rfl⟩
      · exact ⟨hk, fun _ _ => rfl⟩
      · rename_i r _ hev
        rw [hev] at rf
        rw [h.look r fun p hp q => by have := rf p hp; rw [q] at this; simp [SV.refs, SC.refs] at this] at hk
        split at hk
        · exact ⟨hk, fun _ _ => rfl⟩
        · exact hk.elim
      all_goals first | exact ⟨hk, fun _ _ => rfl⟩ | exact hk.elim
    · exact hk.elim
theorem pubK_mono {P : Program} {t : TypeId} {x y : SV} {G H : Heap} {K K' : Heap → Prop} (hK : ∀ H, K H → K' H) (h : pubK P t x y G H K) : pubK P t x y G H K' := by
  unfold pubK at *
  split at h
  · split at h
    · split at h
      · obtain ⟨A, rfl, c, ty, h1, h2, h3⟩ := ptrK h
        exact ⟨c, ty, h1, h2, hK _ h3⟩
      · exact h.elim
    · exact h.elim
  · exact h.elim
/-- One operation on the one that is behind. -/
theorem opA0_ext (h : Ext Pd s t) {o : Oper} {hs : Hints} {Q : Exit → St → Heap → Prop} (hpk : hs.pk = none) {O : List (Nat × AObj)} {G H : Heap} {K : St → Heap → Prop} (hx : ∀ x ∈ o.op.operands, ∀ p ∈ Pd, x ≠ .tmp p.d) (hd : ∀ p ∈ Pd, o.dst ≠ some p.d)
    (hk : opA0 P hs Q O G o t H K) : opA0 P hs Q O G o s H fun s' H' => ∃ t', Ext Pd s' t' ∧ K t' H' ∧ EnvOff o.dst s s' := by
  unfold opA0 at hk ⊢
  split at hk
  · split at hk
    · exact give_ext h hpk hx hd hk
    split at hk
    · exact call_ext2 h hpk (fun s' t' H' h1 h2 h3 => ⟨t', h1, h3, h2⟩) hx hd hk
    · rename_i d e sz hoc
      have hdst : o.dst = some d := by
        unfold ownC at hoc
        split at hoc
        · rename_i d' hd'
          split at hoc
          · cases hoc; exact hd'
          · cases hoc
        · cases hoc
      rw [hdst]
      rw [hdst] at hd
      refine call_ext2 h hpk (fun s' t' H' h1 h2 h3 => adoptA_ext h1 (fun p hp q => hd p hp (by rw [q])) h3 (by rw [hdst] at h2; exact h2)) hx (by rw [hdst]; exact hd) hk
  · split at hk
    · rename_i ha
      have hsite : appSite t o = appSite s o := by
        unfold appSite
        split
        · rename_i args ats ho
          split
          · rename_i x r hxr
            rw [h.ev (hx x (by rw [ho]; simp only [Op.operands, Call.operands]; exact Array.mem_append.2 (.inr (by rw [← Array.mem_toList_iff, hxr]; exact List.mem_cons_self ..))))]
          · rfl
        · rfl
      rw [hsite] at hk
      split at hk
      · split at hk
        · exact app_ext h ha hx hd hk
        · exact hk.elim
      · exact app_ext h ha hx hd hk
    · split at hk
      · rename_i hb
        split at hk
        · rename_i hbad
          simp only [Bool.and_eq_true] at hbad
          obtain ⟨hbad, hops⟩ := hbad
          obtain ⟨p, _, hm, hf, hk⟩ := bs_mk (H := H) (K := fun s' => K s' H) hb 0 hops hk
          have hpd := hm.dst
          have hdd : ∀ q ∈ Pd, p.d ≠ q.d := fun q hq e => hd q hq (by rw [hpd, e])
          have hb2 : badAt s o.dst = true := by
            rw [hpd] at hbad ⊢
            simp only [badAt] at hbad ⊢
            rw [h.env p.d fun q hq e => hdd q hq e.symm] at hbad
            exact hbad
          have hev : ∀ x ∈ o.op.operands, ev s x = ev t x := fun x hxm => (h.ev (hx x hxm)).symm
          rw [hb2, opsOK_ext fun x hxm => hev x (by simpa using hxm), hops]
          simp only [Bool.and_self]
          have hK : ∃ t', Ext Pd (rowSt s p) t' ∧ K t' H ∧ EnvOff o.dst s (rowSt s p) := ⟨_, h.mk2 hf hdd hm.ok, hk, by rw [hpd]; exact envOff_put ⟨s.env, obSet s.objs p.d p.ob, s.dfr⟩ (some p.d) p.sv⟩
          rcases hm.how with ⟨h1, h2⟩ | ⟨h1, h2, h3, h4, h5⟩
          · obtain ⟨g1, g2⟩ := h2 s hev
            rw [h1, g1]
            exact g2 (h.free hf) H _ hK
          · rw [h1]
            have hfs : freeAt s o.dst = true := by rw [hpd]; exact h.free hf
            rw [hfs]
            refine h5 ⟨s.env, [], []⟩ hev _ ?_
            unfold realK
            rw [h4, hpd]
            have e1 : rowSt s p = s.put (some p.d) p.sv := by unfold rowSt; rw [h3]; rfl
            rw [← e1, ← hpd]
            exact hK
        · exact hk.elim
      · split at hk
        · rename_i x ho
          rw [h.ev (hx x (by rw [ho]; simp [Op.operands]))] at hk
          exact ⟨_, h.put (fun p hp => ev_refs (h.freeP p hp) x) hd, hk, envOff_put s _ _⟩
        · rename_i x ho
          rw [h.ev (hx x (by rw [ho]; simp [Op.operands]))] at hk
          exact ⟨_, h.put (fun p hp => ev_refs (h.freeP p hp) x) hd, hk, envOff_put s _ _⟩
        · rename_i ho
          exact by obtain ⟨z, hv, hf⟩ := valK_pick (addr_ext h (by rw [ho]) hx hk); exact hf _ ⟨_, h.put hv.2 hd, hv.1, envOff_put s _ _⟩
        · rename_i ho
          exact by obtain ⟨z, hv, hf⟩ := valK_pick (addr_ext h (by rw [ho]) hx hk); exact hf _ ⟨_, h.put hv.2 hd, hv.1, envOff_put s _ _⟩
        · rename_i ho
          exact by obtain ⟨z, hv, hf⟩ := valK_pick (addr_ext h (by rw [ho]) hx hk); exact hf _ ⟨_, h.put hv.2 hd, hv.1, envOff_put s _ _⟩
        · rename_i ho
          exact by obtain ⟨z, hv, hf⟩ := valK_pick (addr_ext h (by rw [ho]) hx hk); exact hf _ ⟨_, h.put hv.2 hd, hv.1, envOff_put s _ _⟩
        · rename_i x y ho
          have e1 : ev t x = ev s x := h.ev (hx x (by rw [ho]; simp [Op.operands]))
          rw [e1] at hk
          split at hk
          · rename_i d hdst hsite
            split at hk
            · exact store_ext h ho hdst hsite hx hk
            · exact hk.elim
          · rename_i hdst hsite
            have e2 : ev t y = ev s y := h.ev (hx y (by rw [ho]; simp [Op.operands]))
            rw [e2] at hk
            exact pubK_mono (fun H' hK => ⟨t, h, hK, fun _ _ => rfl⟩) hk
          · exact hk.elim
        · exact hk.elim
/-- Slots that are as they were, or held what is private. -/
def EnvW (d : Option Nat) (s s' : St) : Prop := ∀ y, d ≠ some y → nth s'.env y = nth s.env y ∨ ∃ x, nth s.env y = some x ∧ realOp x = false
theorem EnvOff.w {d : Option Nat} {s s' : St} (h : EnvOff d s s') : EnvW d s s' := fun y hy => .inl (h y hy)
theorem ev_envW {d : Option Nat} {s s' : St} (h : EnvW d s s') {x : Operand} (hx : ∀ y, d = some y → x ≠ .tmp y) (hr : realOp (ev s x) = true) : ev s' x = ev s x := by
  cases x with
  | tmp u =>
    rcases h u fun e => hx u e rfl with h | ⟨x, h1, h2⟩
    · simp only [ev, St.get]; rw [h]
    · simp only [ev, St.get, h1] at hr
      rw [h2] at hr; cases hr
  | _ => rfl
theorem pubMix_ext (h : Ext Pd s t) {O : List (Nat × AObj)} {d : Nat} (hd : ∀ p ∈ Pd, d ≠ p.d) {H : Heap} {K : St → Heap → Prop} (hnr : ∀ v, s.get d ≠ .c (.v v)) (hk : pubMixK O d t H K) :
    pubMixK O d s H fun s' H' => ∃ t', Ext Pd s' t' ∧ K t' H' ∧ EnvW none s s' := by
  have hL : Lsim (fun q => ∃ p ∈ Pd, p.d = q) s t s t := ⟨rfl, rfl, rfl, fun _ _ => rfl, h.objs, fun _ h => h, fun d hd => h.look d fun p hp e => hd ⟨p, hp, e⟩, fun d o ho q ⟨p, hp, e⟩ => by subst e; exact (free_obj (h.freeP p hp) d o ho).2, h.dfr⟩
  have hev : t.get d = s.get d := h.ev (x := .tmp d) fun p hp q => hd p hp (by cases q; rfl)
  unfold pubMixK at hk ⊢
  rw [hev] at hk
  have hrf : ∀ q, (∃ p ∈ Pd, p.d = q) → (s.get d).refs q = false := fun q ⟨p, hp, e⟩ => by subst e; exact ev_refs (h.freeP p hp) (.tmp d)
  cases hx : s.get d with
  | agg l => rw [hx] at hk; exact hk.elim
  | tup l => rw [hx] at hk; exact hk.elim
  | c x =>
    rw [hx] at hk hrf
    simp only at hk ⊢
    refine lendC_sim hL hrf hk fun v s' t' H' ls h' hk => ?_
    split at hk
    · rename_i ho
      refine ⟨_, (h'.ext h).set (fun p _ => rfl) hd, hk, fun y _ => ?_⟩
      by_cases hy : d = y
      · subst hy
        cases hn : nth s.env d with
        | none =>
          left
          have hlt : ¬ d < s.env.length := fun q => by rw [nth_eq, List.getElem?_eq_getElem q] at hn; cases hn
          simp only [St.set, nth_setNth2, h'.senv, hlt, and_false, if_false]
          exact hn
        | some z =>
          right
          have hz : z = .c x := by unfold St.get at hx; rw [hn] at hx; exact hx
          refine ⟨z, rfl, ?_⟩
          rw [hz]
          cases x <;> first | rfl | exact absurd hx (hnr _)
      · left
        simp only [St.set, nth_setNth2, hy, false_and, if_false]
        rw [h'.senv]
    · exact hk.elim
theorem EnvW.trans {s s' s'' : St} (h : EnvW none s s') (h' : EnvW none s' s'') : EnvW none s s'' := fun y _ => by
  rcases h y (by simp) with h1 | h1
  · rcases h' y (by simp) with h2 | ⟨x, h2, h3⟩
    · exact .inl (h2.trans h1)
    · exact .inr ⟨x, by rw [← h1]; exact h2, h3⟩
  · exact .inr h1
theorem lendIn_mono : ∀ (l : List Seg) {s : St} {H : Heap} {K K' : List Value → St → Heap → List Lend → Prop}, (∀ v s' H' ls, K v s' H' ls → K' v s' H' ls) → lendIn l s H K → lendIn l s H K'
  | [], s, H, K, K', f, hk => f _ _ _ _ hk
  | .c x :: r, s, H, K, K', f, hk => by
    unfold lendIn at hk ⊢
    split at hk
    · exact lendIn_mono r (fun _ _ _ _ h => f _ _ _ _ h) hk
    · rename_i d
      cases hl : look s.objs d with
      | none => rw [hl] at hk; exact hk.elim
      | some ob =>
        rw [hl] at hk
        cases ob with
        | box ty l => exact hk.elim
        | row ty sz es => exact fun v H' h1 h2 h3 h4 => lendIn_mono r (fun _ _ _ _ h => f _ _ _ _ h) (hk v H' h1 h2 h3 h4)
    · exact hk.elim
  | .ints k n xs :: r, s, H, K, K', f, hk => by
    unfold lendIn at hk ⊢
    exact lendIn_mono r (fun _ _ _ _ h => f _ _ _ _ h) hk
theorem lendBox_mono {d : Nat} {s : St} {H : Heap} {K K' : Value → St → Heap → List Lend → Prop} (f : ∀ v s' H' ls, K v s' H' ls → K' v s' H' ls) (hk : lendBox d s H K) : lendBox d s H K' := by
  unfold lendBox at hk ⊢
  cases hl : look s.objs d with
  | none => rw [hl] at hk; exact hk.elim
  | some ob =>
    rw [hl] at hk
    cases ob with
    | box ty l => exact lendIn_mono l (fun cs s' H' ls h b hb => f _ _ _ _ (h b hb)) hk
    | row ty sz es => exact hk.elim
theorem lendCaps_mono : ∀ (l : List Cap) {s : St} {H : Heap} {K K' : List Value → St → Heap → List Lend → Prop}, (∀ v s' H' ls, K v s' H' ls → K' v s' H' ls) → lendCaps l s H K → lendCaps l s H K'
  | [], s, H, K, K', f, hk => f _ _ _ _ hk
  | .v x :: r, s, H, K, K', f, hk => by
    unfold lendCaps at hk ⊢
    exact lendCaps_mono r (fun _ _ _ _ h => f _ _ _ _ h) hk
  | .b d :: r, s, H, K, K', f, hk => by
    unfold lendCaps at hk ⊢
    exact lendBox_mono (fun _ _ _ _ h => lendCaps_mono r (fun _ _ _ _ h => f _ _ _ _ h) h) hk
theorem lendC_mono {x : SC} {s : St} {H : Heap} {K K' : Value → St → Heap → List Lend → Prop} (f : ∀ v s' H' ls, K v s' H' ls → K' v s' H' ls) (hk : lendC x s H K) : lendC x s H K' := by
  unfold lendC at hk ⊢
  split at hk
  · exact f _ _ _ _ hk
  · rename_i d
    cases hl : look s.objs d with
    | none => rw [hl] at hk; exact hk.elim
    | some ob =>
      rw [hl] at hk
      cases ob with
      | box ty l => exact hk.elim
      | row ty sz es => exact fun v H' h1 h2 h3 h4 => f _ _ _ _ (hk v H' h1 h2 h3 h4)
  · exact lendBox_mono f hk
  · exact lendCaps_mono _ (fun _ _ _ _ h => f _ _ _ _ h) hk
  · exact hk.elim
theorem pubMix_mono {O : List (Nat × AObj)} {d : Nat} {s : St} {H : Heap} {K K' : St → Heap → Prop} (f : ∀ s' H', K s' H' → K' s' H') (hk : pubMixK O d s H K) : pubMixK O d s H K' := by
  unfold pubMixK at hk ⊢
  cases hx : s.get d with
  | agg l => rw [hx] at hk; exact hk.elim
  | tup l => rw [hx] at hk; exact hk.elim
  | c x =>
    rw [hx] at hk
    simp only at hk ⊢
    refine lendC_mono (fun v s' H' ls hk => ?_) hk
    split at hk
    · rename_i ho
      exact f _ _ hk
    · exact hk.elim
theorem pubOps_mono {O : List (Nat × AObj)} : ∀ (l : List Operand) {s : St} {H : Heap} {K K' : St → Heap → Prop}, (∀ s' H', K s' H' → K' s' H') → pubOps O l s H K → pubOps O l s H K'
  | [], s, H, K, K', f, hk => f _ _ hk
  | x :: l, s, H, K, K', f, hk => by
    cases x with
    | tmp d =>
      simp only [pubOps] at hk ⊢
      split at hk
      · exact pubOps_mono l f hk
      · exact pubMix_mono (fun s' H' h => pubOps_mono l f h) hk
      · exact hk.elim
    | const v => exact pubOps_mono l f (by simpa only [pubOps] using hk)
    | global g => exact pubOps_mono l f (by simpa only [pubOps] using hk)
    | func x => exact pubOps_mono l f (by simpa only [pubOps] using hk)
theorem pubOps_ext : ∀ (l : List Operand) {s t : St} {O : List (Nat × AObj)} {H : Heap} {K : St → Heap → Prop}, Ext Pd s t → (∀ x ∈ l, ∀ p ∈ Pd, x ≠ .tmp p.d) → pubOps O l t H K →
    pubOps O l s H fun s' H' => ∃ t', Ext Pd s' t' ∧ K t' H' ∧ EnvW none s s'
  | [], s, t, O, H, K, h, hx, hk => ⟨t, h, hk, fun y _ => .inl rfl⟩
  | x :: l, s, t, O, H, K, h, hx, hk => by
    have hx' : ∀ x ∈ l, ∀ p ∈ Pd, x ≠ .tmp p.d := fun y hy => hx y (List.mem_cons_of_mem _ hy)
    cases x with
    | tmp d =>
      have hd : ∀ p ∈ Pd, d ≠ p.d := fun p hp e => hx _ (List.mem_cons_self ..) p hp (by rw [e])
      have hev : t.get d = s.get d := h.ev (x := .tmp d) (hx _ (List.mem_cons_self ..))
      simp only [pubOps] at hk ⊢
      rw [hev] at hk
      split at hk
      · rename_i v hv
        exact pubOps_ext l h hx' hk
      · rename_i x hnr hv
        refine pubMix_mono (fun s' H' ⟨t', h1, h2, h3⟩ => ?_) (pubMix_ext h hd (fun v e => by rw [hv] at e; cases e; exact hnr v rfl) hk)
        refine pubOps_mono l (fun s'' H'' ⟨t'', g1, g2, g3⟩ => ⟨t'', g1, g2, h3.trans g3⟩) (pubOps_ext l h1 hx' h2)
      · exact hk.elim
    | const v => exact pubOps_ext l h hx' (by simpa only [pubOps] using hk)
    | global g => exact pubOps_ext l h hx' (by simpa only [pubOps] using hk)
    | func f => exact pubOps_ext l h hx' (by simpa only [pubOps] using hk)
theorem pubB_op {pb : List Nat} {o : Oper} (h : pubB pb o = true) : isBs o.op = true ∧ isAlloc o.op = true ∧ ∀ s, boxOK s o.op = true := by
  unfold pubB at h
  split at h
  · rename_i ho hd; rw [ho]; exact ⟨rfl, rfl, fun _ => rfl⟩
  · cases h
theorem bld_ext (h : Ext Pd s t) {o : Oper} {hs : Hints} (hb : pubB hs.pub o = true) {O : List (Nat × AObj)} {H : Heap} {K : St → Heap → Prop} (hx : ∀ x ∈ o.op.operands, ∀ p ∈ Pd, x ≠ .tmp p.d) (hd : ∀ p ∈ Pd, o.dst ≠ some p.d)
    (hk : bldK P O o t H K) : bldK P O o s H fun s' H' => ∃ t', Ext Pd s' t' ∧ K t' H' ∧ EnvW o.dst s s' := by
  obtain ⟨hb, hal, hbx⟩ := pubB_op hb
  unfold bldK at hk ⊢
  refine pubOps_mono _ (fun s' H' ⟨t', h1, h2, h3⟩ => ?_) (pubOps_ext _ h (fun x hxm => hx x (by simpa using hxm)) hk)
  have hev : ∀ x ∈ o.op.operands, ev s' x = ev t' x := fun x hxm => (h1.ev (hx x hxm)).symm
  rw [opsOK_ext fun x hxm => hev x (by simpa using hxm)]
  split at h2
  · rename_i hops
    obtain ⟨p, _, hm, hf, hK⟩ := bs_mk (hs := hs) (H := H') (K := fun s'' => K s'' H') hb 0 hops (by
      rw [hal, hbx]
      exact h2)
    have hpd := hm.dst
    have hdd : ∀ q ∈ Pd, p.d ≠ q.d := fun q hq e => hd q hq (by rw [hpd, e])
    rcases hm.how with ⟨g1, g2⟩ | ⟨g1, _⟩
    · refine (g2 s' hev).2 (h1.free hf) H' _ ⟨_, h1.mk2 hf hdd hm.ok, hK, fun y hy => ?_⟩
      have h4 := envOff_put ⟨s'.env, obSet s'.objs p.d p.ob, s'.dfr⟩ (some p.d) p.sv y (by rw [← hpd]; exact hy)
      have h5 : nth (rowSt s' p).env y = nth s'.env y := h4
      rw [h5]
      exact h3 y (by simp)
    · rw [hal] at g1; cases g1
  · exact h2.elim
end
/-! ### What is real -/
section
variable {P : Program} {X : Nat → Prop} {C : Ctx} {we : World} {s0 : St} {Hs G : Heap} {V : Vl} {s : St} {H : Heap} {a : Act} {w : World}
theorem app_free {o : Oper} (ho : isApp o.op = true) {K : St → Prop} (hk : objK P o s H K) : ∃ d, o.dst = some d ∧ s.free d = true := by
  obtain ⟨dst, op, type, pos, after, guard⟩ := o
  unfold isApp at ho
  split at ho
  · rename_i args ats heq
    simp only at heq
    subst heq
    cases dst with
    | none => simp only [objK] at hk
    | some d =>
      simp only [objK] at hk
      split at hk
      · rename_i hf _ _; exact ⟨d, rfl, hf⟩
      · exact hk.elim
  · cases ho
theorem app_reg (r : Reg X C we s0 Hs G V s H a w) {o : Oper} (ho : isApp o.op = true) (hb : ∀ d, appSite s o = some d → look s0.objs d = none) {K : St → Prop} (hk : objK P o s H K) :
    ∃ V' s' y w', K s' ∧ Reg X C we s0 Hs G V' s' H (a.put o.dst y) w' ∧ (execOp a.eval o).run P w = .ok (.value y) w' := by
  obtain ⟨d0, hd0, hf⟩ := app_free ho hk
  obtain ⟨args, ats, hop⟩ : ∃ args ats, o.op = .call { callee := .builtin .append, args := args, argTypes := ats } := by
    unfold isApp at ho
    split at ho
    · rename_i args ats h; exact ⟨args, ats, h⟩
    · cases ho
  obtain ⟨base, ⟨d, hd, V', s', y, w', hK, hrep, hoff, honly, hl1, hl2, hnew, hrun⟩, hbs⟩ := appK_sound r.rep (heap_refl _) o hop hk
  have : d0 = d := Option.some.inj (hd0.symm.trans hd)
  subst this
  have was : ∀ b, Was V s base b → b < we.heap.size → Chg X Hs G we b := by
    rintro b ⟨rr, ob, h1, h2, h3⟩
    exact r.new rr ob b h2 (hb rr (hbs rr h1)) h3
  have off0 : ∀ x ob, look s0.objs x = some ob → x ≠ d0 := fun x ob e e' => by
    have := r.keep x ob e
    subst e'
    rw [free_look hf] at this; cases this
  refine ⟨V', s', y, w', hK, ⟨hrep, ⟨honly.os.trans r.only.os, honly.tape.trans r.only.tape, honly.output.trans r.only.output, Nat.le_trans r.only.size honly.size, fun b hn hlt => ?_⟩, fun x ob e => ?_, fun x ob b e hb' => ?_, fun x ob b e hb' => ?_, r.sub, r.gs, r.le, r.cur, r.base, r.dr, r.oth, r.xs, fun x ob b e e0 hb' => ?_⟩, hrun⟩
  · rw [← r.only.block b hn hlt]
    refine honly.block b (fun hw => ?_) (Nat.lt_of_lt_of_le hlt r.only.size)
    exact hn (was b hw hlt)
  · refine hl2 x ob (r.keep x ob e) (fun eb => ?_) (off0 x ob e)
    have := hb x (hbs x eb)
    rw [e] at this; cases this
  · rw [privB_off hoff (off0 x ob e)] at hb'
    exact r.low x ob b e hb'
  · rw [privB_off hoff (off0 x ob e)] at hb'
    exact r.hs x ob b e hb'
  · by_cases hx : x = d0
    · subst hx
      rcases hnew ob b e hb' with h | h
      · have := Nat.le_trans r.only.size h
        exact fun q => absurd q (by omega)
      · exact was b h
    · rw [privB_off hoff hx] at hb'
      rcases hl1 x ob e with h | h
      · exact absurd h hx
      · exact r.new x ob b h e0 hb'
theorem adoptA_reg (r : Reg X C we s0 Hs G V s H a w) {t ty sz : Nat} {K : St → Heap → Prop} (hk : adoptA s t ty sz G H K) : ∃ V' s' H', K s' H' ∧ Reg X C we s0 Hs G V' s' H' a w := by
  unfold adoptA at hk
  split at hk
  · rename_i v hv
    split at hk
    · rename_i hf
      obtain ⟨es, hrow, hG, hk⟩ := hk
      have h := r.rep
      have hx := h.get t
      rw [hv] at hx
      obtain ⟨hx, hone⟩ := hx
      have h1 : Rep C V (s.set t (.c .bad)) H a w := rep_same' h trivial
      have h2 := rep_off (V' := V.rows t v) h1 hf (rows_off V t v)
      have h3 := rep_row h2 (d := t) (ty := ty) (sz := sz) (es := es) (by simp [Vl.rows]) hrow
      have h4 := rep_same' h3 (g := t) (x := .c (.row t)) (by
        show _ ∧ _
        exact ⟨by rw [hx]; simp [Vl.rows], by simpa [Vl.rows] using hone⟩)
      have e : (St.set ⟨(s.set t (.c .bad)).env, objSet (s.set t (.c .bad)).objs t (.row ty sz es), (s.set t (.c .bad)).dfr⟩ t (.c (.row t))) = St.set ⟨s.env, objSet s.objs t (.row ty sz es), s.dfr⟩ t (.c (.row t)) := by
        simp only [St.set, setNth_setNth']
      rw [e] at h4
      have hnt : look s.objs t = none := free_look (s := s.set t (.c .bad)) hf
      have off0 : ∀ x ob, look s0.objs x = some ob → x ≠ t := fun x ob e e' => by
        have := r.keep x ob e
        subst e'
        rw [hnt] at this; cases this
      have lk : ∀ x, look (objSet s.objs t (.row ty sz es)) x = if t = x then some (.row ty sz es) else look s.objs x := fun x => look_objSet _ _ _ _
      refine ⟨V.rows t v, _, _, hk, h4, r.only, fun x ob e => ?_, fun x ob b e hb => ?_, fun x ob b e hb => ?_, r.sub, r.gs, fun b o e => ?_, fun b hb e hX => ?_, r.base, r.dr, r.oth, r.xs, fun x ob b e e0 hb q => ?_⟩
      · show look (objSet s.objs t (.row ty sz es)) x = some ob
        rw [lk, if_neg (Ne.symm (off0 x ob e))]
        exact r.keep x ob e
      · rw [privB_off (rows_off V t v) (off0 x ob e)] at hb
        exact r.low x ob b e hb
      · rw [privB_off (rows_off V t v) (off0 x ob e)] at hb
        exact r.hs x ob b e hb
      · cases hq : blockOf v with
        | none => exact r.le b o e
        | some b' =>
          show (if b = b' then none else H b) = some o
          rw [if_neg (by rintro rfl; rw [hG b hq] at e; cases e)]
          exact r.le b o e
      · have := r.cur b hb e hX
        cases hq : blockOf v with
        | none => exact this
        | some b' =>
          show (if b = b' then none else H b) = none
          split
          · rfl
          · exact this
      · have e : look (objSet s.objs t (.row ty sz es)) x = some ob := e
        rw [lk] at e
        by_cases hxt : t = x
        · subst hxt
          rw [if_pos rfl] at e
          cases e
          have hb' : blockOf v = some b := by simpa [privB, Vl.rows] using hb
          have hH : H b ≠ none := by
            rcases hrow with ⟨rfl, _⟩ | ⟨b2, o, cap, c, rfl, h1, _⟩
            · simp [blockOf] at hb'
            · simp [blockOf] at hb'
              subst hb'
              rw [h1]; simp
          by_cases hX : X b
          · exact ⟨q, .inr hX⟩
          exact ⟨q, .inl ⟨fun hn => hH (r.cur b q hn hX), hG b hb'⟩⟩
        · rw [if_neg hxt] at e
          rw [privB_off (rows_off V t v) (Ne.symm hxt)] at hb
          exact r.new x ob b e e0 hb q
    · exact hk.elim
  · exact hk.elim
theorem pub_reg (r : Reg X C we s0 Hs G V s H a w) {o : Oper} {t : TypeId} {x y : Operand} (ho : o.op = .store t x y) {K : Heap → Prop} (hk : pubK P t (ev s x) (ev s y) G H K) :
    ∃ H' w', K H' ∧ Reg X C we s0 Hs G V s H' a w' ∧ (execOp a.eval o).run P w = .ok .skip w' := by
  unfold pubK at hk
  split at hk
  · rename_i p l z hp hl hz
    have hx := r.rep.ev x
    rw [hp] at hx
    obtain ⟨hx, -⟩ := hx
    split at hk
    · rename_i cs hcs
      split at hk
      · rename_i hcl
        have hcl := nbt hcl
        have hrep := segs_rep (r.rep.ev y) hl
        have hval := flat_rep hrep hcs
        obtain ⟨A, rfl, c, ty, ⟨hb, hs, hle⟩, hG, hK⟩ := ptrK hk
        obtain ⟨i, hi, rfl⟩ := sizeT_eq hz
        have hvs : (a.eval y).cells.size = i.size := by have := congrArg List.length hval; simp at this; omega
        have hblk := r.rep.sub _ _ hb
        have hA : A = ⟨A.block, A.off, none⟩ := by cases A; simp_all
        have hone := segs_one (flat_noBad hcs) hrep
        have hrun := storeVar_run (P := P) (off := A.off) hi hvs hblk hle hone
        rw [hval] at hrun
        have hrep' := rep_pub r.rep (.inl ⟨_, hb⟩) (setB_only A.block (.cells (writeCells c A.off cs) ty (0, 0))) (setB_at hblk)
        refine ⟨_, _, hK, ⟨hrep', ⟨(setB_only _ _).os.trans r.only.os, (setB_only _ _).tape.trans r.only.tape, (setB_only _ _).output.trans r.only.output, Nat.le_trans r.only.size (setB_only (w := w) A.block (.cells (writeCells c A.off cs) ty (0, 0))).size, fun b hn hlt => ?_⟩, r.keep, r.low, r.hs, r.sub, r.gs, fun b o e => ?_, fun b hlt e hX => ?_, r.base, r.dr, r.oth, r.xs, r.new⟩, ?_⟩
        · rw [← r.only.block b hn hlt]
          refine (setB_only _ _).block b (fun e => hn ?_) (Nat.lt_of_lt_of_le hlt r.only.size)
          subst e
          by_cases hX : X A.block
          · exact ⟨hlt, .inr hX⟩
          exact ⟨hlt, .inl ⟨fun h0 => (by rw [r.cur _ hlt h0 hX] at hb; cases hb), hG⟩⟩
        · show (if b = A.block then _ else H b) = some o
          rw [if_neg (by rintro rfl; rw [hG] at e; cases e)]
          exact r.le b o e
        · show (if b = A.block then _ else H b) = none
          rw [if_neg (by rintro rfl; rw [r.cur _ hlt e hX] at hb; cases hb)]
          exact r.cur b hlt e hX
        · unfold execOp
          rw [ho]
          refine exec_u ?_
          simp only [Instr.storeAt, Sem.run_bind, hx, Instr.sureAddr, Sem.run_pure, Result.andThen_ok]
          rw [hA]; exact hrun
      · exact hk.elim
    · exact hk.elim
  · exact hk.elim
theorem opA0_sound (r : Reg X C we s0 Hs G V s H a w) {hs : Hints} (hE : ∀ t, memN hs.eqs t = true → EqOK P t) {Q : Exit → St → Heap → Prop} {o : Oper} {K : St → Heap → Prop} (hk : opA0 P hs Q s0.objs G o s H K) :
    bigAt P (PanN C hs Q) o a w fun v w' => Kept X Hs G we w' ∧ ∃ V' s' H', K s' H' ∧ Reg X C we s0 Hs G V' s' H' (a.put o.dst v) w' := by
  unfold opA0 at hk
  split at hk
  · split at hk
    · exact bigAt_mono (give_sound r o hk) fun v w' ⟨h1, s', H', h2, h3⟩ => ⟨h1, V, s', H', h2, h3⟩
    split at hk
    · exact bigAt_mono (keep_sound r o hk) fun v w' ⟨h1, s', H', h2, h3⟩ => ⟨h1, V, s', H', h2, h3⟩
    · exact bigAt_mono (keep_sound r o hk) fun v w' ⟨h1, s', H', h2, h3⟩ => ⟨h1, adoptA_reg h3 h2⟩
  · split at hk
    · rename_i ha
      have key : (∀ d, appSite s o = some d → look s0.objs d = none) → objK P o s H (fun s' => K s' H) → bigAt P (PanN C hs Q) o a w fun v w' => Kept X Hs G we w' ∧ ∃ V' s' H', K s' H' ∧ Reg X C we s0 Hs G V' s' H' (a.put o.dst v) w' := by
        intro hb hk
        obtain ⟨V', s', y, w', h1, h2, h3⟩ := app_reg r ha hb hk
        unfold bigAt
        rw [h3]
        exact ⟨h2.only, V', s', H, h1, h2⟩
      split at hk
      · rename_i d hd
        split at hk
        · rename_i hl
          exact key (fun d' e => by rw [hd] at e; cases e; exact hl) hk
        · exact hk.elim
      · rename_i hd
        exact key (fun d' e => by rw [hd] at e; cases e) hk
    · split at hk
      · rename_i hb
        split at hk
        · split at hk
          · rename_i hal
            split at hk
            · obtain ⟨V', s', y, w', h1, h2, h3 | ⟨h3, rfl⟩⟩ := alloc_reg r hal hk
              · unfold bigAt; rw [h3]; exact ⟨h2.only, V', s', H, h1, h2⟩
              · unfold bigAt; rw [h3]; exact ⟨h2.only, V', s', H, h1, h2⟩
            · exact hk.elim
          · rename_i hal
            split at hk
            · have hpu : isPureOp o.op = true := by
                unfold isBs at hb
                split at hb
                · rename_i e; rw [e] at hal; cases hal
                · rename_i e; rw [e] at hal; cases hal
                · rename_i e; rw [e] at hal; cases hal
                · exact hb
              obtain ⟨z, v, h1, h2, h3⟩ := valK_sound r.rep (cfg := ⟨hs.eqs⟩) hE o (val_env (s := ⟨s.env, [], []⟩) (s' := s) hpu rfl (fun _ _ => rfl) hk)
              unfold bigAt
              rw [h3]
              unfold realK at h1
              split at h1
              · exact ⟨r.only, V, _, H, h1, r.put h2 o.dst⟩
              · exact h1.elim
            · exact hk.elim
        · exact hk.elim
      · have key : ∀ x, ev s x = ev s x → valK P ⟨hs.eqs⟩ o.op s (fun v => K (s.put o.dst v) H) → bigAt P (PanN C hs Q) o a w fun v w' => Kept X Hs G we w' ∧ ∃ V' s' H', K s' H' ∧ Reg X C we s0 Hs G V' s' H' (a.put o.dst v) w' := by
          intro x _ hk
          obtain ⟨z, v, h1, h2, h3⟩ := valK_sound r.rep (cfg := ⟨hs.eqs⟩) hE o hk
          unfold bigAt
          rw [h3]
          exact ⟨r.only, V, _, H, h1, r.put h2 o.dst⟩
        split at hk
        · rename_i x ho
          exact key x rfl (by rw [ho]; exact hk)
        · rename_i x ho
          exact key x rfl (by rw [ho]; exact hk)
        · exact key (.tmp 0) rfl hk
        · exact key (.tmp 0) rfl hk
        · exact key (.tmp 0) rfl hk
        · exact key (.tmp 0) rfl hk
        · rename_i ty x y ho
          split at hk
          · rename_i d hdst hsite
            split at hk
            · rename_i hO
              obtain ⟨d', old, obj, b0, w', hl, hp, hp', hs', hK, hrep, honly, hrun⟩ := storeK_sound r.rep o ho hdst hk
              rw [hsite] at hs'
              cases hs'
              have hrep2 : Rep C V (reput d ⟨s.env, objSet s.objs d obj, s.dfr⟩) H a w' := by
                rw [reput_set]
                exact rep_look hrep rfl rfl fun x ob e => by
                  rw [look_objSet, look_objDel] at e
                  by_cases hx : d = x
                  · subst hx; rw [if_pos rfl] at e; rw [look_objSet, if_pos rfl]; exact e
                  · rw [if_neg hx, if_neg hx] at e; exact e
              have lk : ∀ x, look (reput d ⟨s.env, objSet s.objs d obj, s.dfr⟩).objs x = if d = x then some obj else look s.objs x := fun x => by
                rw [reput_set]
                simp only [look_objSet, look_objDel]
                by_cases hx : d = x <;> simp [hx]
              unfold bigAt
              rw [hrun]
              have honly2 : Kept X Hs G we w' := ⟨honly.os.trans r.only.os, honly.tape.trans r.only.tape, honly.output.trans r.only.output, Nat.le_trans r.only.size honly.size, fun b hn hb => by
                rw [← r.only.block b hn hb]
                exact honly.block b (fun e => hn (by subst e; exact r.new d old b hl hO hp hb)) (Nat.lt_of_lt_of_le hb r.only.size)⟩
              refine ⟨honly2, V, _, H, hK, ?_⟩
              have hput : a.put o.dst undef = a := by rw [hdst]; rfl
              rw [hput]
              refine ⟨hrep2, honly2, fun x ob e => ?_, r.low, r.hs, r.sub, r.gs, r.le, r.cur, r.base, r.dr, r.oth, r.xs, fun x ob b e e0 hb q => ?_⟩
              · rw [lk, if_neg (by rintro rfl; rw [hO] at e; cases e)]
                exact r.keep x ob e
              · rw [lk] at e
                by_cases hx : d = x
                · subst hx
                  rw [if_pos rfl] at e
                  cases e
                  rw [hp'] at hb
                  cases hb
                  exact r.new d old b0 hl hO hp q
                · rw [if_neg hx] at e
                  exact r.new x ob b e e0 hb q
            · exact hk.elim
          · rename_i hdst hsite
            obtain ⟨H', w', hK, hreg, hrun⟩ := pub_reg r ho hk
            unfold bigAt
            rw [hrun]
            have hput : a.put o.dst undef = a := by rw [hdst]; rfl
            exact ⟨hreg.only, V, _, H', hK, by rw [hput]; exact hreg⟩
          · exact hk.elim
        · exact hk.elim
/-- What becomes known memory. -/
theorem pubOps_reg : ∀ (l : List Operand) {s : St} {H : Heap} {K : St → Heap → Prop}, Reg X C we s0 Hs G V s H a w → pubOps s0.objs l s H K → ∃ s' H', K s' H' ∧ Reg X C we s0 Hs G V s' H' a w
  | [], s, H, K, r, h => ⟨s, H, h, r⟩
  | x :: l, s, H, K, r, h => by
    cases x with
    | tmp t =>
      simp only [pubOps] at h
      split at h
      · exact pubOps_reg l r h
      · obtain ⟨s', H', h1, h2⟩ := pubRow_reg r h
        exact pubOps_reg l h2 h1
      · exact h.elim
    | const v => exact pubOps_reg l r (by simpa only [pubOps] using h)
    | global g => exact pubOps_reg l r (by simpa only [pubOps] using h)
    | func f => exact pubOps_reg l r (by simpa only [pubOps] using h)
theorem bld_sound (r : Reg X C we s0 Hs G V s H a w) {hs : Hints} {Q : Exit → St → Heap → Prop} {o : Oper} (hal : isAlloc o.op = true) {K : St → Heap → Prop} (hk : bldK P s0.objs o s H K) :
    bigAt P (PanN C hs Q) o a w fun v w' => Kept X Hs G we w' ∧ ∃ V' s' H', K s' H' ∧ Reg X C we s0 Hs G V' s' H' (a.put o.dst v) w' := by
  unfold bldK at hk
  obtain ⟨s1, H1, h1, r1⟩ := pubOps_reg _ r hk
  split at h1
  · obtain ⟨V', s', y, w', h1, h2, h3 | ⟨h3, rfl⟩⟩ := alloc_reg r1 hal h1
    · unfold bigAt; rw [h3]; exact ⟨h2.only, V', s', H1, h1, h2⟩
    · unfold bigAt; rw [h3]; exact ⟨h2.only, V', s', H1, h1, h2⟩
  · exact h1.elim
/-! ### All orders -/
theorem looks_op {ops : Array Oper} {o : Oper} {d : Nat} (h : d ∉ o.looksAt ops) : ∀ x ∈ o.op.operands, x ≠ .tmp d := by
  rintro x hx rfl
  exact h (List.mem_append_left _ (List.mem_filterMap.2 ⟨.tmp d, by simpa using hx, rfl⟩))
/-- What is known of what is ahead. -/
structure PdIn (P : Program) (hs : Hints) (ops : Array Oper) (t : St) (listed listedF : Array Bool) (p : PdE) (B : List PdE) : Prop where
  un : listed.getD p.k true = false
  op : ∃ o, ops[p.k]? = some o ∧ o.guard = none ∧ isBs o.op = true ∧ Mk P hs t o p ∧
    (∀ j oj, ops[j]? = some oj → j ≠ p.k → listedF.getD j true = false → (∀ e ∈ oj.after, Region.binds .any e = true → e.on ≠ p.k) → o.apart ops oj = true) ∧
    (∀ e ∈ o.after, Region.binds .any e = true → listed.getD e.on false = true ∨ ∃ q ∈ B, q.k = e.on) ∧
    (∀ q ∈ B, (∀ e ∈ o.after, Region.binds .any e = true → e.on ≠ q.k) → ∀ x ∈ o.op.operands, x ≠ .tmp q.d) ∧ ∀ x ∈ o.op.operands, x ≠ .tmp p.d
def AllIn (P : Program) (hs : Hints) (ops : Array Oper) (t : St) (listed listedF : Array Bool) : List PdE → Prop
  | [] => True
  | p :: B => PdIn P hs ops t listed listedF p B ∧ (∀ q ∈ B, q.k ≠ p.k ∧ q.d ≠ p.d ∧ ∀ o, ops[q.k]? = some o → ∀ x ∈ o.op.operands, x ≠ .tmp p.d) ∧ AllIn P hs ops t listed listedF B
def FAhead (ops : Array Oper) (listed listedF : Array Bool) (Pd : List PdE) : Prop := ∀ j d, listedF.getD j d = (listed.getD j d || Pd.any fun p => Nat.beq p.k j)
theorem allIn_mem {hs : Hints} {ops : Array Oper} {s : St} {listed listedF : Array Bool} : ∀ {Pd : List PdE}, AllIn P hs ops s listed listedF Pd → ∀ p ∈ Pd, ∃ B, PdIn P hs ops s listed listedF p B
  | [], _, p, hp => by cases hp
  | q :: B, h, p, hp => by
    rcases List.mem_cons.1 hp with rfl | hp
    · exact ⟨B, h.1⟩
    · exact allIn_mem h.2.2 p hp
theorem allIn_last {hs : Hints} {ops : Array Oper} {s : St} {listed listedF : Array Bool} : ∀ {Pd : List PdE}, AllIn P hs ops s listed listedF Pd → Pd ≠ [] → ∃ p ∈ Pd, PdIn P hs ops s listed listedF p []
  | [], _, h => absurd rfl h
  | [p], h, _ => ⟨p, by simp, h.1⟩
  | p :: q :: B, h, _ => by
    obtain ⟨r, hr, h'⟩ := allIn_last h.2.2 (by simp)
    exact ⟨r, List.mem_cons_of_mem _ hr, h'⟩
theorem allIn_split {hs : Hints} {ops : Array Oper} {s : St} {listed listedF : Array Bool} : ∀ {Pd : List PdE}, AllIn P hs ops s listed listedF Pd → ∀ p ∈ Pd, ∃ A B, Pd = A ++ p :: B ∧ PdIn P hs ops s listed listedF p B ∧ (∀ q ∈ A ++ B, q.k ≠ p.k ∧ q.d ≠ p.d) ∧
    (∀ q ∈ A, ∀ o, ops[p.k]? = some o → ∀ x ∈ o.op.operands, x ≠ .tmp q.d) ∧ (∀ q ∈ B, ∀ o, ops[q.k]? = some o → ∀ x ∈ o.op.operands, x ≠ .tmp p.d)
  | [], _, p, hp => by cases hp
  | q :: B, h, p, hp => by
    rcases List.mem_cons.1 hp with rfl | hp2
    · exact ⟨[], B, rfl, h.1, fun q hq => ⟨(h.2.1 q hq).1, (h.2.1 q hq).2.1⟩, by simp, fun q hq => (h.2.1 q hq).2.2⟩
    · obtain ⟨A', B', e, g, h', h2, h3⟩ := allIn_split h.2.2 p hp2
      refine ⟨q :: A', B', by rw [e]; rfl, g, fun x hx => ?_, fun x hx => ?_, h3⟩
      · rcases List.mem_cons.1 hx with rfl | hx
        · have := h.2.1 p hp2
          exact ⟨Ne.symm this.1, Ne.symm this.2.1⟩
        · exact h' x hx
      · rcases List.mem_cons.1 hx with rfl | hx
        · exact (h.2.1 p hp2).2.2
        · exact h2 x hx
/-- In another state, with the same operands. -/
theorem allIn_env {hs : Hints} {ops : Array Oper} {t t' : St} {listed listedF : Array Bool} : ∀ {Pd : List PdE}, AllIn P hs ops t listed listedF Pd → (∀ p ∈ Pd, ∀ o, ops[p.k]? = some o → ∀ x ∈ o.op.operands, ev t' x = ev t x) → AllIn P hs ops t' listed listedF Pd
  | [], _, _ => trivial
  | p :: B, h, hx => by
    obtain ⟨⟨h1, o, h2, h3, h4, h5, h6, h7⟩, h8, h9⟩ := h
    exact ⟨⟨h1, o, h2, h3, h4, h5.ext (hx p (List.mem_cons_self ..) o h2), h6, h7⟩, h8, allIn_env h9 fun q hq => hx q (List.mem_cons_of_mem _ hq)⟩
/-- One more is done: i. -/
theorem allIn_step {hs : Hints} {ops : Array Oper} {s s' : St} {listed listedF listedF' : Array Bool} {i : Nat} {d : Option Nat} (hoff : EnvW d s s') (hF : ∀ j, listedF'.getD j true = false → listedF.getD j true = false) :
    ∀ {Pd : List PdE}, AllIn P hs ops s listed listedF Pd → (∀ p ∈ Pd, p.k ≠ i) → (∀ p ∈ Pd, ∀ o, ops[p.k]? = some o → ∀ x ∈ o.op.operands, ∀ y, d = some y → x ≠ .tmp y) → AllIn P hs ops s' (listed.setIfInBounds i true) listedF' Pd
  | [], _, _, _ => trivial
  | p :: B, h, hk, hx => by
    obtain ⟨⟨h1, o, h2, h3, h4, h5, h6, h7, h7'⟩, h8, h9⟩ := h
    refine ⟨⟨?_, o, h2, h3, h4, h5.ext fun x hxm => ev_envW hoff (hx p (List.mem_cons_self ..) o h2 x hxm) (h5.nb x hxm), fun j oj a b c => h6 j oj a b (hF j c), fun e he hb => ?_, h7'⟩, h8, allIn_step hoff hF h9 (fun q hq => hk q (List.mem_cons_of_mem _ hq)) fun q hq => hx q (List.mem_cons_of_mem _ hq)⟩
    · rw [getD_set_ne true (Ne.symm (hk p (List.mem_cons_self ..)))]; exact h1
    · rcases h7 e he hb with h | h
      · exact .inl (getD_set_true h)
      · exact .inr h
theorem allIn_drop {hs : Hints} {ops : Array Oper} {s : St} {listed listedF : Array Bool} {p : PdE} : ∀ {A B : List PdE}, AllIn P hs ops s listed listedF (A ++ p :: B) → ∀ {listed' : Array Bool}, (∀ j, listed.getD j false = true → listed'.getD j false = true) → listed'.getD p.k false = true → (∀ q ∈ A ++ B, listed'.getD q.k true = false) → AllIn P hs ops s listed' listedF (A ++ B)
  | [], B, h, listed', hm, hp, hu => by
    -- the older ones do not hang on p
    have : ∀ {B : List PdE}, AllIn P hs ops s listed listedF B → (∀ q ∈ B, listed'.getD q.k true = false) → AllIn P hs ops s listed' listedF B := by
      intro B
      induction B with
      | nil => intro _ _; trivial
      | cons q B ih =>
        rintro ⟨⟨h1, o, h2, h3, h4, h5, h6, h7, h7'⟩, h8, h9⟩ hu
        refine ⟨⟨hu q (List.mem_cons_self ..), o, h2, h3, h4, h5, h6, fun e he hb => ?_, h7'⟩, h8, ih h9 fun x hx => hu x (List.mem_cons_of_mem _ hx)⟩
        rcases h7 e he hb with h | h
        · exact .inl (hm _ h)
        · exact .inr h
    exact this h.2.2 hu
  | q :: A, B, h, listed', hm, hp, hu => by
    obtain ⟨⟨h1, o, h2, h3, h4, h5, h6, h7, h7', h7''⟩, h8, h9⟩ := h
    have sub : ∀ x ∈ A ++ B, x ∈ A ++ p :: B := fun x hx => by
      rcases List.mem_append.1 hx with hx | hx
      · exact List.mem_append_left _ hx
      · exact List.mem_append_right _ (List.mem_cons_of_mem _ hx)
    refine ⟨⟨hu q (List.mem_cons_self ..), o, h2, h3, h4, h5, h6, fun e he hb => ?_, fun x hx => h7' x (sub x hx), h7''⟩, fun x hx => h8 x (sub x hx), allIn_drop h9 hm hp fun x hx => hu x (List.mem_cons_of_mem _ hx)⟩
    rcases h7 e he hb with h | ⟨x, hx, hxe⟩
    · exact .inl (hm _ h)
    · rcases List.mem_append.1 hx with hx | hx
      · exact .inr ⟨x, List.mem_append_left _ hx, hxe⟩
      · rcases List.mem_cons.1 hx with rfl | hx
        · exact .inl (by rw [← hxe]; exact hp)
        · exact .inr ⟨x, List.mem_append_right _ hx, hxe⟩
theorem set_getD {l : Array Bool} {i : Nat} (hi : i < l.size) (j : Nat) (d : Bool) : (l.setIfInBounds i true).getD j d = (l.getD j d || Nat.beq i j) := by
  by_cases h : i = j
  · subst h; simp [hi]
  · rw [getD_set_ne d h, nbf h, Bool.or_false]
theorem ready_F {ops : Array Oper} {listed listedF : Array Bool} {Pd : List PdE} (hF : FAhead ops listed listedF Pd) {i : Nat} (hi : i ∈ Region.ready .any ops listed) (hn : ∀ p ∈ Pd, p.k ≠ i) : i ∈ Region.ready .any ops listedF := by
  rw [mem_ready] at *
  obtain ⟨h0, o, ho, hall⟩ := hi
  refine ⟨?_, o, ho, fun e he hb => ?_⟩
  · rw [hF, h0, Bool.false_or, List.any_eq_false]
    intro p hp
    rw [nbf (hn p hp)]; simp
  · rw [hF, hall e he hb]; rfl
theorem runM {hs : Hints} (hE : ∀ t, memN hs.eqs t = true → EqOK P t) (hpk : hs.pk = none) {Q : Exit → St → Heap → Prop} {ops : Array Oper} {big : Nat → Bool} :
    ∀ (f : Nat) {listed listedF : Array Bool} {l : List Nat} {Pd : List PdE} {V : Vl} {s t : St} {H : Heap} {a : Act} {w : World},
      f = l.length + Pd.length → listed.size = ops.size → (∀ k, listed.getD k true = false → big k = true) → FAhead ops listed listedF Pd → lex2 hs.pub ops l listedF = true → (∀ k ∈ l, tail2N ops.toList k = true) → AllIn P hs ops t listed listedF Pd →
      Reg X C we s0 Hs G V s H a w → Ext Pd s t → runA P hs Q s0.objs G (pickO ops.toList l) t H →
      wpM P ops (Kept X Hs G we) (PanN C hs Q) big (fun _ => false) (fun _ => true) ops.size (fun l' a' w' => fin2 ops l' = true ∧ GamQ C Q .normal a' w') f listed a w := by
  intro f
  induction f with
  | zero =>
    intro listed listedF l Pd V s t H a w hf hsz hbig hF hlex htl hin r hext hk
    have hl : l = [] := List.length_eq_zero_iff.1 (by omega)
    have hp : Pd = [] := List.length_eq_zero_iff.1 (by omega)
    subst hl; subst hp
    simp only [lex2] at hlex
    refine ⟨?_, V, t, H, ?_, hk⟩
    · simp only [fin2, List.all_eq_true] at hlex ⊢
      intro j hj
      exact hlex j (ready_F hF hj (by simp))
    · refine rep_weaken r.rep (by rw [hext.len]; exact r.rep.len) (fun x y e => ?_) hext.dfr (fun d o e => ?_)
      · right
        rw [hext.env x (by simp)] at e
        simp only [St.get, e]
      · rw [hext.look d (by simp)] at e; exact e
  | succ f ih =>
    intro listed listedF l Pd V s t H a w hf hsz hbig hF hlex htl hin r hext hk
    refine ⟨?_, fun i hi => ?_⟩
    · -- something is ready
      intro h0
      cases Pd with
      | cons p B =>
        obtain ⟨q, _, hq1, o, hq2, _, _, _, _, hq7⟩ := allIn_last hin (by simp)
        have : q.k ∈ Region.ready .any ops listed := mem_ready.2 ⟨hq1, o, hq2, fun e he hb => by
          rcases hq7.1 e he hb with h | ⟨x, hx, _⟩
          · exact h
          · cases hx⟩
        rw [h0] at this; cases this
      | nil =>
        cases l with
        | nil => simp at hf
        | cons k l =>
          simp only [lex2, Bool.and_eq_true] at hlex
          have h1 : k ∈ Region.ready .any ops listedF := by simpa using hlex.2.1
          rw [mem_ready] at h1
          have hF' : ∀ j d, listedF.getD j d = listed.getD j d := fun j d => by rw [hF]; simp
          have : k ∈ Region.ready .any ops listed := mem_ready.2 ⟨by rw [← hF']; exact h1.1, by
            obtain ⟨o, ho, hall⟩ := h1.2
            exact ⟨o, ho, fun e he hb => by rw [← hF']; exact hall e he hb⟩⟩
          rw [h0] at this; cases this
    obtain ⟨hiun, oi, hoi, hall⟩ := mem_ready.1 hi
    have his : i < ops.size := (Array.getElem?_eq_some_iff.1 hoi).1
    refine ⟨his, ?_⟩
    have hibig : big i = true := hbig i hiun
    have hbig' : ∀ k, (listed.setIfInBounds i true).getD k true = false → big k = true := fun k hk' => hbig k (by
      rw [set_getD (by omega)] at hk'
      simp only [Bool.or_eq_false_iff] at hk'
      exact hk'.1)
    have hsz' : (listed.setIfInBounds i true).size = ops.size := by simp [hsz]
    by_cases hpend : ∃ p ∈ Pd, p.k = i
    · -- what was ahead is made
      obtain ⟨p, hp, rfl⟩ := hpend
      obtain ⟨A, B, rfl, hpi, hdis, hopA, hopB⟩ := allIn_split hin p hp
      obtain ⟨hp1, o, hp2, hp3, hp4, hp5, hp6, hp7, hp8, hp9⟩ := hpi
      have : oi = o := Option.some.inj (hoi.symm.trans hp2)
      subst this
      have hfr := hext.freeP p hp
      have hod : oi.dst = some p.d := hp5.dst
      have hunl : ∀ q ∈ A ++ B, listed.getD q.k true = false := fun q hq => by
        have hq' : q ∈ A ++ p :: B := by
          rcases List.mem_append.1 hq with hq | hq
          · exact List.mem_append_left _ hq
          · exact List.mem_append_right _ (List.mem_cons_of_mem _ hq)
        obtain ⟨_, h⟩ := allIn_mem hin q hq'
        exact h.un
      -- its operands are those of the state behind
      have hev : ∀ x ∈ oi.op.operands, ev s x = ev t x := fun x hxm => (hext.ev fun q hq => by
        rcases List.mem_append.1 hq with hq | hq
        · exact hopA q hq oi hp2 x hxm
        · rcases List.mem_cons.1 hq with rfl | hq
          · exact hp9 x hxm
          · refine hp8 q hq (fun e he hb heq => ?_) x hxm
            have h1 := hall e he hb
            have h2 := hunl q (List.mem_append_right _ hq)
            rw [heq, getD_both h2] at h1
            cases h1).symm
      have hms := hp5.ext hev
      obtain ⟨V', y, w', hreg, hrun⟩ : ∃ V' y w', Reg X C we s0 Hs G V' (rowSt s p) H (a.put oi.dst y) w' ∧ ((execOp a.eval oi).run P w = .ok (.value y) w' ∨ ((execOp a.eval oi).run P w = .ok .skip w' ∧ y = undef)) := by
        rcases hms.how with ⟨h1, h2⟩ | ⟨h1, h2, h3, h4, h5⟩
        · obtain ⟨V', s', y, w', hs', hreg, hrun⟩ := alloc_reg r h1 ((h2 s fun _ _ => rfl).2 hfr H (fun s' => s' = rowSt s p) rfl)
          subst hs'
          exact ⟨V', y, w', hreg, hrun⟩
        · obtain ⟨z, v, g1, g2, g3⟩ := valK_sound r.rep (cfg := ⟨hs.eqs⟩) hE oi (h5 s (fun _ _ => rfl) (fun z => z = p.sv) rfl)
          subst g1
          have e1 : rowSt s p = s.put oi.dst p.sv := by unfold rowSt; rw [h3, hod]; rfl
          rw [e1]
          exact ⟨V, v, w, r.put g2 oi.dst, .inl g3⟩
      have hnext := ih (l := l) (Pd := A ++ B) (listed := listed.setIfInBounds p.k true) (listedF := listedF) (V := V') (s := rowSt s p) (t := t) (H := H) (a := a.put oi.dst y) (w := w') (by simp at hf ⊢; omega) hsz' hbig' (fun j d => ?_) hlex htl ?_ hreg (hext.made fun q hq => (hdis q hq).2) hk
      · unfold mOp
        simp only [hoi]
        rw [if_pos (by simp [Region.wanted, hp3]), hibig, if_pos rfl]
        unfold bigAt
        rcases hrun with h3 | ⟨h3, rfl⟩
        · rw [h3]; exact ⟨fun _ => hreg.only, hnext⟩
        · rw [h3]; exact ⟨fun _ => hreg.only, hnext⟩
      · rw [hF, set_getD (by omega)]
        simp only [List.any_append, List.any_cons]
        cases listed.getD j d <;> cases A.any (fun p => Nat.beq p.k j) <;> cases Nat.beq p.k j <;> simp
      · exact allIn_drop hin (listed' := listed.setIfInBounds p.k true) (fun j hj => getD_set_true hj) (by rw [set_getD (by omega)]; simp) (fun q hq => by
          rw [getD_set_ne true (Ne.symm (hdis q hq).1)]
          exact hunl q hq)
    · -- what comes next, or a row that is built
      have hnp : ∀ p ∈ Pd, p.k ≠ i := fun p hp e => hpend ⟨p, hp, e⟩
      have hiF : i ∈ Region.ready .any ops listedF := ready_F hF hi hnp
      have hup : i ∈ upMain hs.pub ops.toList l := by
        cases l with
        | nil =>
          exfalso
          simp only [lex2, fin2, List.all_eq_true] at hlex
          have := Nat.le_of_ble_eq_true (hlex i hiF)
          omega
        | cons k l =>
          simp only [lex2, Bool.and_eq_true, List.all_eq_true] at hlex
          simpa using hlex.2.2.1 i hiF
      clear hiF
      -- rows that are built ahead of it are put ahead
      have adv : ∀ (l : List Nat) {listedF : Array Bool} {Pd : List PdE} {t : St}, f + 1 = l.length + Pd.length → FAhead ops listed listedF Pd → lex2 hs.pub ops l listedF = true → (∀ k ∈ l, tail2N ops.toList k = true) → AllIn P hs ops t listed listedF Pd → Ext Pd s t →
          runA P hs Q s0.objs G (pickO ops.toList l) t H → (∀ p ∈ Pd, p.k ≠ i) → i ∈ upMain hs.pub ops.toList l →
          mOp P ops (Kept X Hs G we) (PanN C hs Q) big (fun _ => false) (fun _ => true) i (wpM P ops (Kept X Hs G we) (PanN C hs Q) big (fun _ => false) (fun _ => true) ops.size (fun l' a' w' => fin2 ops l' = true ∧ GamQ C Q .normal a' w') f (listed.setIfInBounds i true)) a w := by
        intro l
        induction l with
        | nil => intro listedF Pd t _ _ _ _ _ _ _ _ hup; simp [upMain] at hup
        | cons k l ihl =>
          intro listedF Pd t hf hF hlex htl hin hext hk hnp hup
          simp only [lex2, Bool.and_eq_true] at hlex
          obtain ⟨hks, hkr, hka, hkf, hlex'⟩ := hlex
          have hks : k < ops.size := by simpa [Nat.blt_eq] using hks
          have hkr : k ∈ Region.ready .any ops listedF := by simpa using hkr
          obtain ⟨hkun, ok, hok, hkall⟩ := mem_ready.1 hkr
          have hnth : nth ops.toList k = some ok := by rw [nth_eq]; simpa using hok
          have hpick : pickO ops.toList (k :: l) = ok :: pickO ops.toList l := by simp only [pickO, hnth]
          rw [hpick] at hk
          simp only [runA] at hk
          have htk : tail2 ok = true := by
            have := htl k (List.mem_cons_self ..)
            simpa [tail2N, hnth] using this
          have hgk : ok.guard = none := by
            simp only [tail2, Bool.and_eq_true] at htk
            cases hg : ok.guard with
            | none => rfl
            | some x => rw [hg] at htk; simp at htk
          have hkPd : ∀ p ∈ Pd, p.k ≠ k := fun p hp e => by
            have := hkun
            rw [hF, Bool.or_eq_false_iff, List.any_eq_false] at this
            exact this.2 p hp (by rw [e]; simp)
          have hlsz : listedF.size = listedF.size := rfl
          have hFset : ∀ j d, (listedF.setIfInBounds k true).getD j d = (listedF.getD j d || Nat.beq k j) := by
            have : k < listedF.size := by
              rcases Nat.lt_or_ge k listedF.size with h | h
              · exact h
              · simp [Array.getElem?_eq_none h] at hkun
            exact set_getD this
          by_cases hik : i = k
          · subst hik
            have : oi = ok := Option.some.inj (hoi.symm.trans hok)
            subst this
            -- the rows that are ahead are apart from it
            have apart : ∀ p ∈ Pd, ∃ o, ops[p.k]? = some o ∧ o.dst = some p.d ∧ o.apart ops oi = true := fun p hp => by
              obtain ⟨B, h1, o, h2, h3, h4, h5, h6, h7⟩ := allIn_mem hin p hp
              have hd := h5.dst
              refine ⟨o, h2, hd, h6 i oi hoi (Ne.symm (hnp p hp)) hkun fun e he hb heq => ?_⟩
              have := hall e he hb
              rw [heq, getD_both h1] at this
              cases this
            have hx : ∀ x ∈ oi.op.operands, ∀ p ∈ Pd, x ≠ .tmp p.d := fun x hxm p hp => by
              obtain ⟨o, _, hd, ha⟩ := apart p hp
              exact looks_op ((Oper.apart_spec ha).1 p.d hd) x hxm
            have hd : ∀ p ∈ Pd, oi.dst ≠ some p.d := fun p hp => by
              obtain ⟨o, _, hd, ha⟩ := apart p hp
              exact (Oper.apart_spec ha).2.1 p.d hd
            have h1 : bigAt P (PanN C hs Q) oi a w fun v w' => Kept X Hs G we w' ∧ ∃ V' s' H', (∃ t', Ext Pd s' t' ∧ runA P hs Q s0.objs G (pickO ops.toList l) t' H' ∧ EnvW oi.dst s s') ∧ Reg X C we s0 Hs G V' s' H' (a.put oi.dst v) w' := by
              unfold opA at hk
              split at hk
              · rename_i hpb
                exact bld_sound r (pubB_op hpb).2.1 (bld_ext hext hpb hx hd hk)
              · exact bigAt_mono (opA0_sound r hE (opA0_ext hext hpk hx hd hk)) fun v w' ⟨g0, V', s', H', ⟨t', g1, g2, g3⟩, g4⟩ => ⟨g0, V', s', H', ⟨t', g1, g2, g3.w⟩, g4⟩
            unfold mOp
            simp only [hoi]
            rw [if_pos (by simp [Region.wanted, hgk]), hibig, if_pos rfl]
            refine bigAt_mono h1 fun v w' ⟨hkept, V', s', H', ⟨t', hext', hk', hoff⟩, hreg⟩ => ⟨fun _ => hkept, ?_⟩
            refine ih (l := l) (Pd := Pd) (listedF := listedF.setIfInBounds i true) (by simp at hf; omega) hsz' hbig' (fun j d => ?_) hlex' (fun k hk => htl k (List.mem_cons_of_mem _ hk)) ?_ hreg hext' hk'
            · rw [hFset, hF, set_getD (by omega)]
              cases listed.getD j d <;> cases Nat.beq i j <;> simp
            · have hoff' : EnvW oi.dst t t' := fun y hy => by
                by_cases hp : ∃ p ∈ Pd, p.d = y
                · obtain ⟨p, hp, rfl⟩ := hp
                  rw [hext.envP p hp, hext'.envP p hp]
                  exact .inl rfl
                · rw [hext.env y fun p h1 h2 => hp ⟨p, h1, h2⟩, hext'.env y fun p h1 h2 => hp ⟨p, h1, h2⟩]
                  exact hoff y hy
              refine allIn_step hoff' (fun j hj => ?_) hin hnp fun p hp o ho x hxm y hy => ?_
              · rw [hFset, Bool.or_eq_false_iff] at hj; exact hj.1
              · obtain ⟨o', ho', hd', ha⟩ := apart p hp
                have : o = o' := Option.some.inj (ho.symm.trans ho')
                subst this
                exact looks_op ((Oper.apart_spec ha).2.2 y hy) x hxm
          · have hbk : bsN hs.pub ops.toList k = true := by
              cases hb : bsN hs.pub ops.toList k with
              | true => rfl
              | false =>
                simp only [upMain, hb, List.mem_singleton] at hup
                exact absurd hup hik
            have hbo2 : isBs ok.op = true ∧ pubB hs.pub ok = false := by simpa [bsN, hnth] using hbk
            obtain ⟨hbo, hnpb⟩ := hbo2
            have hup' : i ∈ upMain hs.pub ops.toList l := by
              simp only [upMain, hbk, List.mem_cons] at hup
              exact hup.resolve_left hik
            rw [hbk] at hkf
            have hncall : isCall ok.op = false := by
              obtain ⟨dst, op, ty, pos, af, g⟩ := ok
              cases op <;> simp [isBs, isPureOp] at hbo <;> rfl
            have hnapp : isApp ok.op = false := by
              obtain ⟨dst, op, ty, pos, af, g⟩ := ok
              cases op <;> simp [isBs, isPureOp] at hbo <;> rfl
            unfold opA at hk
            rw [hnpb] at hk
            simp only at hk
            unfold opA0 at hk
            rw [hncall, hnapp, hbo] at hk
            simp only at hk
            split at hk
            · rename_i hbad
              simp only [Bool.and_eq_true] at hbad
              obtain ⟨hbad, hops⟩ := hbad
              obtain ⟨p, hpk', hm, hfr, hk⟩ := bs_mk (H := H) (K := fun s' => runA P hs Q s0.objs G (pickO ops.toList l) s' H) hbo k hops hk
              have hpd := hm.dst
              have hbad' : nth t.env p.d = some (.c .bad) := by
                rw [hpd] at hbad
                simp only [badAt] at hbad
                split at hbad
                · assumption
                · cases hbad
              have hnot : ∀ {o' : Oper} {q : PdE}, Mk P hs t o' q → ∀ x ∈ o'.op.operands, x ≠ .tmp p.d := fun hmk x hxm e => by
                subst e
                have := hmk.nb _ hxm
                simp only [ev, St.get, hbad'] at this
                cases this
              have hevt : ∀ {o' : Oper} {q : PdE}, Mk P hs t o' q → ∀ x ∈ o'.op.operands, ev (rowSt t p) x = ev t x := fun hmk x hxm => by
                cases x with
                | tmp u =>
                  have hu : p.d ≠ u := fun e => hnot hmk _ hxm (by rw [e])
                  simp only [ev, St.get, rowSt, St.set, nth_setNth2, hu, false_and, if_false]
                | _ => rfl
              obtain ⟨hne, hext'⟩ := hext.ahead hfr hbad' hm.ok
              refine ihl (Pd := p :: Pd) (listedF := listedF.setIfInBounds k true) (t := rowSt t p) (by simp at hf ⊢; omega) (fun j d => ?_) hlex' (fun k hk => htl k (List.mem_cons_of_mem _ hk)) ⟨⟨?_, ok, by rw [hpk']; exact hok, hgk, hbo, hm.ext (hevt hm), fun j oj a b c d => ?_, fun e he hb => ?_, fun q hq hno x hxm => ?_, hnot hm⟩, fun q hq => ⟨by rw [hpk']; exact hkPd q hq, hne q hq, fun o ho => ?_⟩, ?_⟩ hext' hk (fun q hq => ?_) hup'
              · rw [hFset, hF, List.any_cons, hpk']
                cases listed.getD j d <;> cases Nat.beq k j <;> simp
              · rw [hpk']
                rw [hF, Bool.or_eq_false_iff] at hkun
                exact hkun.1
              · rw [hFset, Bool.or_eq_false_iff] at c
                exact Region.free_spec hok hkf j oj a (by rw [← hpk']; exact b) c.1 (by rw [← hpk']; exact d)
              · have := hkall e he hb
                rw [hF, Bool.or_eq_true, List.any_eq_true] at this
                rcases this with h | ⟨q, hq, hqe⟩
                · exact .inl h
                · exact .inr ⟨q, hq, nbt hqe⟩
              · -- what is ahead already is apart from it
                obtain ⟨B', g1, o', g2, g3, g4, g5, g6, g7⟩ := allIn_mem hin q hq
                have ha := g6 k ok hok (Ne.symm (hkPd q hq)) hkun hno
                exact looks_op ((Oper.apart_spec ha).1 q.d g5.dst) x hxm
              · obtain ⟨B', g1, o', g2, g3, g4, g5, g6, g7⟩ := allIn_mem hin q hq
                have : o = o' := Option.some.inj (ho.symm.trans g2)
                subst this
                exact hnot g5
              · -- the others, of more that is told
                have conv : ∀ {Pd : List PdE}, AllIn P hs ops t listed listedF Pd → AllIn P hs ops t listed (listedF.setIfInBounds k true) Pd := by
                  intro Pd
                  induction Pd with
                  | nil => intro _; trivial
                  | cons q B ihq =>
                    rintro ⟨⟨h1, o, h2, h3, h4, h5, h6, h7⟩, h8, h9⟩
                    exact ⟨⟨h1, o, h2, h3, h4, h5, fun j oj a b c d => h6 j oj a b (by rw [hFset, Bool.or_eq_false_iff] at c; exact c.1) d, h7⟩, h8, ihq h9⟩
                refine allIn_env (conv hin) fun q hq o ho x hxm => ?_
                obtain ⟨B', g1, o', g2, g3, g4, g5, g6, g7⟩ := allIn_mem hin q hq
                have : o = o' := Option.some.inj (ho.symm.trans g2)
                subst this
                exact hevt g5 x hxm
              · rcases List.mem_cons.1 hq with rfl | hq
                · rw [hpk']; exact fun e => hik e.symm
                · exact hnp q hq
            · exact hk.elim
      exact adv l hf hF hlex htl hin hext hk hnp hup
/-! ### A statement -/
theorem lexB_fin {ops : Array Oper} {n : Nat} {big : Nat → Bool} {fin : Array Bool → Bool} : ∀ (l : List Nat) (listed : Array Bool), lexB ops n big fin l listed = true → fin (l.foldl (fun L k => L.setIfInBounds k true) listed) = true
  | [], _, h => h
  | k :: r, listed, h => by
    simp only [lexB, Bool.and_eq_true] at h
    exact lexB_fin r _ h.2
theorem foldl_size : ∀ (l : List Nat) (listed : Array Bool), (l.foldl (fun L k => L.setIfInBounds k true) listed).size = listed.size
  | [], _ => rfl
  | k :: r, listed => by rw [List.foldl_cons, foldl_size r]; simp
theorem foldl_true : ∀ (l : List Nat) (listed : Array Bool) (k : Nat), (k ∈ l ∨ listed.getD k true = true) → (l.foldl (fun L k => L.setIfInBounds k true) listed).getD k true = true
  | [], listed, k, h => by simpa using h
  | j :: r, listed, k, h => by
    rw [List.foldl_cons]
    refine foldl_true r _ k ?_
    by_cases hj : j = k
    · subst hj
      right
      by_cases hs : j < listed.size
      · simp [hs]
      · simp [Array.setIfInBounds, hs]
    · rcases h with h | h
      · rcases List.mem_cons.1 h with rfl | h
        · exact absurd rfl hj
        · exact .inl h
      · right; rw [getD_set_ne true hj]; exact h
theorem wpM_lexP {ops : Array Oper} {Cw : World → Prop} {PN : List PanicEntry → Act → World → Prop} {big wr rd : Nat → Bool} {fin : Array Bool → Bool} {N : Act → World → Prop} {L : Array Bool → Act → World → Prop} (hL : ∀ l' a w, L l' a w → ∀ j ∈ Region.ready .any ops l', ops.size ≤ j)
    (hsel : Region.noSelect ops = true) (hP : ∀ (j : Nat) (o : Oper), ops[j]? = some o → ∀ c (a : Act) w v, PN c (a.put o.dst v) w → PN c a w) (f' : Nat) :
    ∀ (l : List Nat) (listed : Array Bool) (a : Act) (w : World), lexB ops ops.size (fun _ => false) fin l listed = true → (∀ k ∈ l, big k = false) → mList P ops Cw PN big wr rd N l a w →
      (∀ a' w', N a' w' → wpM P ops Cw PN big wr rd ops.size L f' (l.foldl (fun L k => L.setIfInBounds k true) listed) a' w') → wpM P ops Cw PN big wr rd ops.size L (l.length + f') listed a w
  | [], listed, a, w, _, _, h, hN => by rw [List.length_nil, Nat.zero_add]; exact hN a w h
  | k :: r, listed, a, w, hB, hb, h, hN => by
    simp only [lexB, Bool.and_eq_true] at hB
    obtain ⟨⟨hkn, hk⟩, hB'⟩ := hB
    have hkn : k < ops.size := by simpa [Nat.blt_eq] using hkn
    have hr' : k ∈ Region.ready .any ops listed := by simpa using hk.1
    obtain ⟨_, o, ho, _⟩ := mem_ready.1 hr'
    simp only [mList] at h
    have hbk := hb k (List.mem_cons_self ..)
    obtain ⟨v, hy, hK⟩ := yl_of_mOp ho (.inl hbk) h
    rw [show (k :: r).length + f' = (r.length + f') + 1 by simp; omega]
    exact wpM_quiet hL tailB_all (Region.noSelect_spec hsel) hP ho hkn (r.length + f') listed a w (Region.free_spec ho hk.2) hr' hy (.inl hbk)
      (wpM_lexP hL hsel hP f' r _ _ _ hB' (fun j hj => hb j (List.mem_cons_of_mem _ hj)) hK hN)
theorem late_quiet {lt : List Nat} {o : Oper} (h : isCall o.op = false) : isLate lt o = false := by
  unfold isLate
  split
  · rename_i ho; rw [ho] at h; cases h
  · rfl
theorem mList_conv {ops : Array Oper} {Cw : World → Prop} {PN : List PanicEntry → Act → World → Prop} {big wr rd big' wr' : Nat → Bool} {N : Act → World → Prop} : ∀ (l : List Nat) {a : Act} {w : World}, (∀ k ∈ l, big k = false ∧ big' k = false) →
    mList P ops Cw PN big wr rd N l a w → mList P ops Cw PN big' wr' (fun _ => true) N l a w
  | [], a, w, _, h => h
  | k :: r, a, w, hb, h => by
    simp only [mList] at h ⊢
    have h := mOp_mono h fun a w h => mList_conv (big' := big') (wr' := wr') r (fun j hj => hb j (List.mem_cons_of_mem _ hj)) h
    obtain ⟨h1, h2⟩ := hb k (List.mem_cons_self ..)
    unfold mOp at h ⊢
    split
    · rename_i ho; rw [ho] at h; exact h
    · rename_i o ho
      rw [ho] at h
      simp only at h
      split
      · rename_i hw
        rw [if_pos hw, h1] at h
        rw [h2]
        simp only [Bool.false_eq_true, if_false] at h ⊢
        obtain ⟨v, h3, h4⟩ := h
        exact ⟨v, fun w' hc => h3 w' fun _ => hc trivial, h4⟩
      · rename_i hw
        rw [if_neg hw] at h
        exact h
theorem quiet_small {op : Op} (h : quietOp op = true) : isAlloc op = false ∧ isCall op = false := by
  unfold quietOp at h
  split at h <;> first | exact ⟨rfl, rfl⟩ | cases h
theorem head_rest2 (ops : List Oper) : ∀ l, head2 ops l ++ rest2 ops l = l := by
  intro l
  induction l with
  | nil => rfl
  | cons k r ih =>
    unfold head2 rest2
    split
    · rw [List.cons_append, ih]
    · rfl
theorem head2_qu (ops : List Oper) : ∀ l, ∀ k ∈ head2 ops l, quN ops k = true := by
  intro l
  induction l with
  | nil => intro k hk; cases hk
  | cons j r ih =>
    intro k hk
    unfold head2 at hk
    split at hk
    · rename_i hj
      rcases List.mem_cons.1 hk with rfl | hk
      · exact hj
      · exact ih k hk
    · cases hk
theorem delAll_look : ∀ (ds : List Nat) {l : List (Nat × AObj)} {d : Nat} {o : AObj}, look (delAll l ds) d = some o → look l d = some o
  | [], _, _, _, h => h
  | x :: ds, l, d, o, h => by
    have := delAll_look ds h
    rw [look_objDel] at this
    split at this
    · cases this
    · exact this
theorem mix2_sound {hs : Hints} (hE : ∀ t, memN hs.eqs t = true → EqOK P t) {Q : Exit → St → Heap → Prop} {ops : Array Oper} (h : Rep C V s H a w) (hB : drawOK2 P hs ops = true) {ds : List Nat}
    (hk : drawK2 P hs Q ops (pickO ops.toList (head2 ops.toList (order2 hs.pub ops))) (pickO ops.toList (rest2 ops.toList (order2 hs.pub ops))) (delAll s.objs ds) s H) : RegX P ops true (GamQ C Q) a w := by
  have h' := rep_drawn h
  simp only [drawOK2, Bool.and_eq_true, List.all_eq_true] at hB
  obtain ⟨hsel, hll, htl, hlexF, hpk, hm⟩ := hB
  have hlex := lexF_sound (fin := lex2 hs.pub ops (rest2 ops.toList (order2 hs.pub ops))) (fun m l h hf => lex2F_sound _ m l h hf) _ _ _ (MaskOf.none ops.size) hlexF
  have hll := nbt hll
  have hpk : hs.pk = none := by
    cases hp : hs.pk with
    | none => rfl
    | some x => rw [hp] at hpk; cases hpk
  have hnd : noDst ops.toList hs.pk = true := by rw [hpk]; rfl
  generalize horder : order2 hs.pub ops = order at *
  have happ := head_rest2 ops.toList order
  have hqu := head2_qu ops.toList order
  generalize head2 ops.toList order = hd at *
  generalize rest2 ops.toList order = tl at *
  generalize hO : delAll s.objs ds = O at *
  have hlt : ∀ k ∈ hd, k < ops.size ∧ wrN hs.late ops.toList k = false := fun k hk => by
    refine ⟨lexB_lt _ _ hlex k hk, ?_⟩
    have := hqu k hk
    unfold quN at this
    unfold wrN
    split at this
    · rename_i o ho
      obtain ⟨_, h2⟩ := quiet_small this
      simp [wrL, late_quiet h2, wrO, this]
    · cases this
  have hsmall : ∀ k ∈ hd, bigN ops.toList k = false ∧ (!hd.contains k) = false := fun k hk => by
    refine ⟨?_, by simpa using hk⟩
    have := hqu k hk
    unfold quN at this
    unfold bigN
    split at this
    · rename_i o ho
      obtain ⟨h1, h2⟩ := quiet_small this
      simp [wrO, bigO, this, h1, h2]
    · cases this
  have hsub : ∀ {d : Nat} {o : AObj}, look O d = some o → look s.objs d = some o := fun e => by rw [← hO] at e; exact delAll_look ds e
  have reg : ∀ G : Heap, G ≤ H → Reg (fun b => ∃ d o, look s.objs d = some o ∧ look O d = none ∧ privB V d o = some b) C { w with drawn := w.drawn + 1 } ⟨s.env, O, s.dfr⟩ H G V s H a { w with drawn := w.drawn + 1 } := fun G hG =>
    { rep := h', only := only_refl _, keep := fun _ _ e => hsub e, low := fun d o b e hb => (h'.priv d o b (hsub e) hb).2.2,
      hs := fun d o b e hb => ⟨(h'.priv d o b (hsub e) hb).1, fun ⟨d', o', e1, e2, e3⟩ => by
        have := h'.dist d o d' o' b (hsub e) e1 hb e3
        subst this
        simp only at e
        rw [e] at e2; cases e2⟩
      sub := h'.sub, gs := hG, le := hG, cur := fun _ _ e _ => e, base := h'.size, dr := h'.tape.dr, oth := fun b hb e => (h'.other b hb e).2,
      xs := fun b ⟨d', o', e1, e2, e3⟩ => ⟨(h'.priv d' o' b e1 e3).1, (h'.priv d' o' b e1 e3).2.1⟩, new := fun d o b e e' hb q => ⟨q, .inr ⟨d, o, e, e', hb⟩⟩ }
  have fin : ∀ G : Heap, G ≤ H → mixK P hs Q ⟨s.env, O, s.dfr⟩ G ops.toList (runA P hs Q O G (pickO ops.toList tl)) (pickO ops.toList hd) s H → RegX P ops true (GamQ C Q) a w := by
    intro G hG hk
    have hr := reg G hG
    generalize (fun b => ∃ d o, look s.objs d = some o ∧ look O d = none ∧ privB V d o = some b) = X at hr
    have hlen : hd.length + tl.length = ops.size := by rw [← hll, ← happ, List.length_append]
    have hm1 := mixK_sound hE (N := fun a1 w1 => wpM P ops (Kept X H G { w with drawn := w.drawn + 1 }) (PanN C hs Q) (fun k => !hd.contains k) (fun _ => false) (fun _ => true) ops.size (fun l' a' w' => fin2 ops l' = true ∧ GamQ C Q .normal a' w') tl.length (hd.foldl (fun L k => L.setIfInBounds k true) (Array.replicate ops.size false)) a1 w1)
      (fun V1 s1 H1 a1 w1 r1 hk1 => runM (s0 := ⟨s.env, O, s.dfr⟩) hE hpk tl.length (listedF := hd.foldl (fun L k => L.setIfInBounds k true) (Array.replicate ops.size false)) (l := tl) (Pd := []) (by simp) (by rw [foldl_size]; simp) (fun k hk => by
        have : ¬ k ∈ hd := fun hm => by rw [foldl_true hd _ k (.inl hm)] at hk; cases hk
        simpa using this) (fun j d => by simp) (lexB_fin hd _ hlex) htl trivial r1 (Ext.refl s1) hk1) hd hlt hr hk
    have hm2 := mList_conv (big' := fun k => !hd.contains k) (wr' := fun _ => false) hd hsmall hm1
    have hm3 := wpM_lexP (L := fun l' a' w' => fin2 ops l' = true ∧ GamQ C Q .normal a' w') (fun l' a w h j hj => by rw [fin2_none h.1] at hj; cases hj) hsel (panN_put hnd) tl.length hd (Array.replicate ops.size false) _ _ hlex (fun k hk => (hsmall k hk).2) hm2 fun _ _ h => h
    rw [hlen] at hm3
    refine ⟨hm, ?_⟩
    have h2 := wpAny_of_wpM (g := 0) (Q := GamQ C Q) (fun i k hi => by cases hi) (fun c a w ⟨V, s, H, _, h1, h2⟩ => ⟨V, s, H, h1, h2⟩) (fun listed a' w' hl => ⟨fin2_none hl.1, hl.2⟩) ops.size _ a _ (fun j oj _ hl => (by rw [getD_replicate_false] at hl; cases hl)) (fun _ => only_refl _) hm3
    exact h2
  unfold drawK2 at hk
  split at hk
  · exact fin H (heap_refl H) hk
  · split at hk
    · obtain ⟨G, hG, hk⟩ := hk
      exact fin G hG hk
    · exact fin _ (fun b o e => by cases e) hk
end
end Sx

set_option linter.unusedVariables false
set_option linter.unusedSimpArgs false
namespace Sx
open Go Go.Conc
set_option linter.unusedSectionVars false
variable [Dr]
section
variable {P : Program} {b : Frame} {a : Act} {k : List Item} {cs : List Frame} {w : World}
theorem stepG_comm2 {ops : Array Oper} {i : Nat} {rest : List Nat} {o : Oper} {cases : Array CommCase} {blocking : Bool} {shape : CommShape} {w' : World} (ho : ops[i]? = some o) (hw : Region.wanted o (yielded ops a.tmps) = true)
    (hr : (execOp a.eval o).run P w = .ok (.comm cases blocking shape) w') :
    ∃ es, stepG P true (G (b.at a (.inRegion ops (i :: rest) :: k)) cs) w = .comm (G (b.at a (.inRegion ops (i :: rest) :: k)) cs) cases blocking shape w' es := by
  rw [stepG_oper ho hw]
  simp [stepG.apply, hr, G, Frame.at, GStep.after]
theorem wp_sel_head {id : Nat} {ops : Array Oper} {o : Oper} {r : List Oper} {Q : Exit → Act → World → Prop} {cases : Array CommCase} {v : Value} {w' : World} (hl : ops.toList = o :: r) (hg : o.guard = none)
    (hrun : (execOp a.eval o).run P w = .ok (.comm cases false .select) w)
    (hstep : ∀ fr cs es, stepG P true (G fr cs) w = .comm (G fr cs) cases false .select w es → step P (solo (G fr cs) w) = .next (solo (G (fr.finish v) cs) w'))
    (hk : wpListX P ops Q r (a.put o.dst v) w') : (Code.region id ops false).wp P Q a w := by
  intro b k cs
  have ho : ops[0]? = some o := by rw [← Array.getElem?_toList, hl]; rfl
  have hsz : ops.size = r.length + 1 := by rw [← Array.length_toList, hl]; rfl
  have hw : Region.wanted o (yielded ops a.tmps) = true := by simp [Region.wanted, hg]
  have hops : wpOpsIn Fence.wide 0 P ops Q (List.range' 1 r.length) (a.put o.dst v) w' := by
    rw [wpOpsIn_eq_wpListIn r 1 (fun j => by rw [← Array.getElem?_toList, hl, Nat.add_comm]; rfl)]; exact wpListIn_of_X (ro := none) _ _ _ (.inl rfl) hk
  obtain ⟨e, a', w2, hq, harr⟩ := wp_opsIn _ _ _ hops { b with roundOf := none } k cs rfl trivial (room_wide _)
  have harr := (arrivesIn_iff (b := { b with roundOf := none }) (fun _ _ => stepsIn_wide) rfl).1 harr
  obtain ⟨es, hes⟩ := stepG_comm2 (b := b) (k := k) (cs := cs) (rest := List.range' 1 r.length) ho hw hrun
  refine ⟨e, a', w2, hq, .of_steps ?_ harr⟩
  have h1 : step P (lone (b.at a (.code (.region id ops false) :: k)) cs w) = .next (lone (b.at a (.inRegion ops (0 :: List.range' 1 r.length) :: k)) cs w) := by
    rw [step_region, List.range_eq_range', hsz]; rfl
  refine .head h1 (.one ?_)
  have h2 := hstep _ cs es hes
  rw [Frame.finish_at, ho] at h2
  exact h2
theorem selHead_eq {l : List Oper} {o : Oper} {c : SelectCase} {r : List Oper} (h : selHead l = some (o, c, r)) : l = o :: r ∧ o.guard = none ∧ o.op = .select #[c] false := by
  unfold selHead at h
  split at h
  · split at h
    · rename_i cs ho hg
      split at h
      · rename_i c' hc
        cases h
        exact ⟨rfl, hg, by rw [ho]; congr 1; apply Array.ext'; exact hc⟩
      · cases h
    · cases h
  · cases h
theorem setChan_eq (w : World) (c cap : Nat) (buf : Array Value) (cl : Bool) (s r : Nat) (tm : Bool) : w.setChan c cap buf cl s r tm = setB w c (.chan cap buf cl s r tm) := rfl
theorem run_sel {o : Oper} {c : SelectCase} {z : Value} (ho : o.op = .select #[c] false) (hz : (zeroValue c.elem).run P w = .ok z w) :
    (execOp a.eval o).run P w = .ok (.comm #[{ chan := a.eval c.chan, send := c.send.map a.eval, zero := z }] false .select) w := by
  unfold execOp
  rw [ho]
  simp [Sem.run_bind, hz]
theorem zero_of {t : TypeId} {z : Value} (h : zeroV P t = some z) : (zeroValue t).run P w = .ok z w := by
  unfold zeroV at h
  split at h
  · rename_i i hi; exact run_zero hi h
  · cases h
end
section
variable {P : Program} {C : Ctx} {V : Vl} {s : St} {H : Heap} {a : Act} {w : World}
theorem selK_sound {hs : Hints} (hE : ∀ t, memN hs.eqs t = true → EqOK P t) {Q : Exit → St → Heap → Prop} {ops : Array Oper} {id : Nat} {o : Oper} {c : SelectCase} {r : List Oper} (h : Rep C V s H a w)
    (hh : selHead ops.toList = some (o, c, r)) (hk : selK P o c s H fun s' H' => opsK P hs Q ops.toList r s' H') : (Code.region id ops false).wp P (GamQ C Q) a w := by
  obtain ⟨hl, hg, ho⟩ := selHead_eq hh
  have hc := h.ev c.chan
  unfold selK at hk
  split at hk
  · rename_i hsend
    split at hk
    · rename_i rr k k' z hc1 hu hz
      rw [hc1] at hc
      obtain ⟨hc, -⟩ := hc
      split at hk
      · rename_i hkk
        have e := sameK_eq hkk
        subst e
        obtain ⟨i, ok, v, H', ⟨ch, cap, sd, rc, rfl, hT⟩, hk⟩ := hk
        have hrun := run_sel (P := P) (a := a) ho (zero_of (w := w) hz)
        rw [hc, hsend] at hrun
        rcases hT with ⟨hH, rfl, rfl, rfl, rfl⟩ | ⟨t, hH, rfl, rfl, rfl⟩
        · refine wp_sel_head hl hg hrun (fun fr cs es hs1 => step_lone_select_default hs1 (h.sub _ _ hH)) ?_
          exact opsK_sound hE r (h.put (x := .tup [.c (.v (.int .i64 (-1))), .c (.v (.bool false)), .c (.v (.int k v))]) ⟨_, rfl, _, _, rfl, ⟨rfl, rfl⟩, _, _, rfl, ⟨rfl, rfl⟩, _, _, rfl, ⟨rfl, rfl⟩, rfl⟩ o.dst) hk
        · have hb := h.sub _ _ hH
          refine wp_sel_head hl hg hrun (fun fr cs es hs1 => step_lone_select_recv_buf hs1 hb (by simp)) ?_
          rw [setChan_eq]
          have e1 : ((Value.int k v :: t).toArray.extract 1 (Value.int k v :: t).toArray.size) = t.toArray := by apply Array.ext'; simp
          rw [e1]
          exact opsK_sound hE r ((rep_pub h (.inl ⟨_, hH⟩) (setB_only _ _) (setB_at hb)).put (x := .tup [.c (.v (.int .i64 0)), .c (.v (.bool true)), .c (.v (.int k v))]) ⟨_, rfl, _, _, rfl, ⟨rfl, rfl⟩, _, _, rfl, ⟨rfl, rfl⟩, _, _, rfl, ⟨rfl, rfl⟩, rfl⟩ o.dst) hk
      · exact hk.elim
    · exact hk.elim
  · rename_i x hsend
    have hx := h.ev x
    split at hk
    · rename_i rr k n z hc1 hx1 hz
      rw [hc1] at hc
      obtain ⟨hc, -⟩ := hc
      rw [hx1] at hx
      obtain ⟨hx, -⟩ := hx
      obtain ⟨i, H', ⟨ch, cap, buf, sd, rc, rfl, hH, hT⟩, hk⟩ := hk
      have hrun := run_sel (P := P) (a := a) ho (zero_of (w := w) hz)
      rw [hc, hsend, Option.map_some, hx] at hrun
      have hb := h.sub _ _ hH
      rcases hT with ⟨hlt, rfl, rfl⟩ | ⟨hle, rfl, rfl⟩
      · refine wp_sel_head hl hg hrun (fun fr cs es hs1 => step_lone_select_send_room hs1 hb hlt) ?_
        rw [setChan_eq]
        exact opsK_sound hE r ((rep_pub h (.inl ⟨_, hH⟩) (setB_only _ _) (setB_at hb)).put (x := .tup [.c (.v (.int .i64 0)), .c (.v (.bool false))]) ⟨_, rfl, _, _, rfl, ⟨rfl, rfl⟩, _, _, rfl, ⟨rfl, rfl⟩, rfl⟩ o.dst) hk
      · refine wp_sel_head hl hg hrun (fun fr cs es hs1 => step_lone_select_send_full hs1 hb hle) ?_
        exact opsK_sound hE r (h.put (x := .tup [.c (.v (.int .i64 (-1))), .c (.v (.bool false))]) ⟨_, rfl, _, _, rfl, ⟨rfl, rfl⟩, _, _, rfl, ⟨rfl, rfl⟩, rfl⟩ o.dst) hk
    · exact hk.elim
end
end Sx

set_option linter.unusedVariables false
set_option linter.unusedSimpArgs false
namespace Sx
open Go Go.RowKit
set_option linter.unusedSectionVars false
variable [Dr]
/-- A later context: what nobody may touch stays so. -/
structure CLe (C C' : Ctx) : Prop where
  lo : C'.lo = C.lo
  os : C'.w0.os = C.w0.os
  tape : Tp C'.w0 C.w0
  output : C'.w0.output = C.w0.output
  size : C.w0.heap.size ≤ C'.w0.heap.size
  other : ∀ b, b < C.w0.heap.size → C.H0 b = none → C'.w0.heap[b]? = C.w0.heap[b]? ∧ C'.H0 b = none
theorem CLe.refl (C : Ctx) : CLe C C := ⟨rfl, rfl, Tp.refl _, rfl, Nat.le_refl _, fun b _ h => ⟨rfl, h⟩⟩
theorem CLe.trans {A B C : Ctx} (h : CLe A B) (k : CLe B C) : CLe A C where
  lo := k.lo.trans h.lo
  os := k.os.trans h.os
  tape := k.tape.trans h.tape
  output := k.output.trans h.output
  size := Nat.le_trans h.size k.size
  other := fun b hb e => by
    obtain ⟨e1, e2⟩ := h.other b hb e
    obtain ⟨e3, e4⟩ := k.other b (Nat.lt_of_lt_of_le hb h.size) e2
    exact ⟨e3.trans e1, e4⟩
/-- Real states that an exit's condition speaks of, in a later context. -/
def GamX (m : Bool) (C : Ctx) (Q : Exit → St → Heap → Prop) (e : Exit) (a : Act) (w : World) : Prop := ∃ C' V s H, (CLe C C' ∧ (m = true → C' = C)) ∧ Rep C' V s H a w ∧ Q e s H
section
variable {P : Program} {C : Ctx} {V : Vl} {s : St} {H : Heap} {a : Act} {w : World}
theorem gamQ_X {m : Bool} {Q : Exit → St → Heap → Prop} {e : Exit} (h : GamQ C Q e a w) : GamX m C Q e a w := by
  obtain ⟨V, s, H, h, q⟩ := h
  exact ⟨C, V, s, H, ⟨.refl C, fun _ => rfl⟩, h, q⟩
theorem GamX.up {m : Bool} {C' : Ctx} {Q : Exit → St → Heap → Prop} {e : Exit} (hc : CLe C C' ∧ (m = true → C' = C)) (h : GamX m C' Q e a w) : GamX m C Q e a w := by
  obtain ⟨C2, V, s, H, h1, h2⟩ := h
  exact ⟨C2, V, s, H, ⟨hc.1.trans h1.1, fun q => (h1.2 q).trans (hc.2 q)⟩, h2⟩
theorem gamX_then {m : Bool} {K : St → Heap → Prop} {Q : Exit → St → Heap → Prop} {N : Act → World → Prop} (hn : ∀ C' V s H a w, (CLe C C' ∧ (m = true → C' = C)) → Rep C' V s H a w → K s H → N a w) :
    ∀ e a w, GamX m C (seqQ K Q) e a w → Exit.then N (GamX m C Q) e a w := by
  rintro e a w ⟨C', V, s, H, hc, h, q⟩
  cases e <;> first | exact hn _ _ _ _ _ _ hc h q | exact ⟨C', V, s, H, hc, h, q⟩
theorem gamX_block {m : Bool} {id : Nat} {Q : Exit → St → Heap → Prop} : ∀ e a w, GamX m C (blockQ id Q) e a w → Exit.inBlock id (GamX m C Q) e a w := by
  rintro e a w ⟨C', V, s, H, hc, h, q⟩
  cases e with
  | exit i =>
    simp only [blockQ] at q
    simp only [Exit.inBlock]
    split at q
    · rename_i hb; rw [if_pos (nbt hb)]; exact ⟨C', V, s, H, hc, h, q⟩
    · rename_i hb; rw [if_neg (fun e => by subst e; simp [Nat.beq_refl] at hb)]; exact ⟨C', V, s, H, hc, h, q⟩
  | _ => exact ⟨C', V, s, H, hc, h, q⟩
/-- What a parameter's value is told to be, it is. -/
theorem mk_one {k : FK} (hk : k ≠ .val) (x : k.ty) : one (k.mk x) = true := by
  cases k <;> first | rfl | exact absurd rfl hk
theorem parSegs_rep : ∀ (l : List SegH) (x : PTy (l.map SegH.pk)), segOK l = true → SegsRep V (mkSegs l x) (segVals l x)
  | [], _, _ => rfl
  | .f k :: r, x, h => by
    have hk : k ≠ .val := fun e => by subst e; cases h
    have hr : segOK r = true := by cases k <;> first | exact h | exact absurd rfl hk
    exact ⟨_, _, rfl, ⟨rfl, mk_one hk _⟩, parSegs_rep r x.2 hr⟩
  | .ints _ _ :: _, _, h => by cases h
theorem parSlot_one : ∀ (l : List SlotH) (x : PTy (l.map SlotH.pk)) (t : Nat) (v : Value), (l.all fun x => match x with | .f _ .val => false | .f _ _ => true | _ => false) = true → parSlot l x t = some v → one v = true
  | [], _, _, _, _, e => by cases e
  | .f u k :: r, x, t, v, h, e => by
    simp only [List.all_cons, Bool.and_eq_true] at h
    simp only [parSlot] at e
    split at e
    · cases e
      refine mk_one (fun q => ?_) _
      subst q; cases h.1
    · exact parSlot_one r x.2 t v h.2 e
  | .row _ _ _ :: _, _, _, _, h, _ => by simp at h
  | .own _ _ _ :: _, _, _, _, h, _ => by simp at h
theorem parObj_rep : ∀ (l : List ObjH) (x : PTy2 (l.map ObjH.pks)) (t : Nat) {q : List Seg × Value}, (l.all fun x => match x with | .box _ _ l => segOK l | _ => false) = true → parObj l x t = some q → SV.rep V (.agg q.1) q.2
  | [], _, _, _, _, e => by cases e
  | .keep _ :: _, _, _, _, h, _ => by simp at h
  | .box u _ l :: r, x, t, q, h, e => by
    simp only [List.all_cons, Bool.and_eq_true] at h
    simp only [parObj] at e
    split at e
    · cases e
      exact ⟨_, rfl, parSegs_rep l x.1 h.1⟩
    · exact parObj_rep r x.2 t h.2 e
theorem parV_rep {h : LHint} (hp : parOK h = true) (p : h.Par) (t : Nat) : (parV h p t).1.rep V (parV h p t).2 := by
  simp only [parOK, Bool.and_eq_true] at hp
  unfold parV
  split
  · rename_i v hv; exact ⟨rfl, parSlot_one _ _ _ _ hp.1 hv⟩
  · split
    · rename_i l v hv; exact parObj_rep _ _ _ (q := (l, v)) hp.2 hv
    · trivial
theorem setPars_sound {h : LHint} (hp : parOK h = true) (p : h.Par) : ∀ (l : List Nat) {s : St} {t : Array Value}, Rep C V s H { tmps := t, defers := [] } w →
    Rep C V (setPars h p l s) H { tmps := (l.zip (l.map fun t => (parV h p t).2)).foldl (fun t q => t.setIfInBounds q.1 q.2) t, defers := [] } w
  | [], s, t, hr => hr
  | u :: l, s, t, hr => by
    simp only [setPars, List.map_cons, List.zip_cons_cons, List.foldl_cons]
    exact setPars_sound hp p l (hr.put (parV_rep hp p u) (some u))
theorem zip_fold (ps : Array Tmp) (vs : List Value) (t : Array Value) : (ps.zip vs.toArray).foldl (fun t (q : Tmp × Value) => t.setIfInBounds q.1 q.2) t = (ps.toList.zip vs).foldl (fun t q => t.setIfInBounds q.1 q.2) t := by
  rw [← Array.foldl_toList, Array.toList_zip]
/-- A block that nobody touches turns: in a context in which it is so. -/
theorem rep_turn {L : Nat} {o : Obj} (h : Rep C V s H a w) {rc : Loop} (hrc : C.w0.heap[L]? = some (.loop rc)) (h1 : L < C.w0.heap.size) (h2 : C.H0 L = none) : Rep ⟨C.w0.putObj L o, C.H0, C.lo⟩ V s H a (w.putObj L o) := by
  have hHL := (h.other L h1 h2).2
  have hne : ∀ {b : Nat} {o' : Obj}, H b = some o' → b ≠ L := fun e q => by subst q; rw [hHL] at e; cases e
  have hpr : ∀ d o' b, look s.objs d = some o' → privB V d o' = some b → b ≠ L := fun d o' b e e' q => by
    subst q
    rcases (h.priv d o' b e e').2.1 with q | q
    · omega
    · exact q h2
  refine { env := h.env, len := h.len, dfr := ?_, sub := fun b o' e => ?_, objs := ?_, priv := ?_, dist := h.dist, os := h.os, tape := ⟨h.tape.eq, h.tape.dr⟩, output := h.output, size := ?_, other := ?_ }
  · refine ⟨h.dfr.real, h.dfr.nodup, fun r hr => ?_, by have := h.dfr.lo; simpa using this⟩
    obtain ⟨q1, q2, q3, q4⟩ := h.dfr.mark r hr
    exact ⟨q1, by simpa using q2, q3, by rw [World.putObj_heap_other (fun q => by subst q; rw [hrc] at q4; cases q4)]; exact q4⟩
  · rw [World.putObj_heap_other (hne e)]; exact h.sub b o' e
  · intro d o' e
    have ho := h.objs d o' e
    cases o' with
    | box ty l =>
      obtain ⟨cs, q1, q2⟩ := ho
      exact ⟨cs, q1, by rw [World.putObj_heap_other (hpr d _ _ e rfl)]; exact q2⟩
    | row ty sz es =>
      rcases ho with q | ⟨b, o1, cap, c, q1, q2, q3⟩
      · exact .inl q
      · refine .inr ⟨b, o1, cap, c, q1, ?_, q3⟩
        rw [World.putObj_heap_other (hpr d _ b e (by unfold privB; rw [q1]; rfl))]; exact q2
  · intro d o' b e e'
    obtain ⟨q1, q2, q3⟩ := h.priv d o' b e e'
    exact ⟨q1, by simpa using q2, by simpa using q3⟩
  · simpa using h.size
  · intro b hb e
    have hb' : b < C.w0.heap.size := by simpa using hb
    obtain ⟨q1, q2⟩ := h.other b hb' e
    refine ⟨?_, q2⟩
    by_cases q : b = L
    · subst q
      rw [World.putObj_heap_same (Nat.lt_of_lt_of_le hb' h.size), World.putObj_heap_same hb']
    · rw [World.putObj_heap_other q, World.putObj_heap_other q]; exact q1
/-- What lies between two rounds, as the iterator's caller has it. -/
structure Btw (C : Ctx) (D L : Nat) (lp : Loop) (X : Heap → Prop) (Hw : Heap) : Prop where
  dfr : Hw D = some (.deferred (some []))
  rcd : Hw L = some (.loop lp)
  old : ∀ b, b < C.w0.heap.size → C.H0 b = none → Hw b = C.w0.heap[b]?
  inv : ∃ H, H ≤ Hw ∧ H D = none ∧ H L = none ∧ (∀ b, b < C.w0.heap.size → C.H0 b = none → H b = none) ∧ X H
/-- The blocks that a round may not touch. -/
def Off0 (C : Ctx) (D L : Nat) (Hw : Heap) (b : Nat) : Prop := Hw b = none ∨ b = D ∨ b = L ∨ (b < C.w0.heap.size ∧ C.H0 b = none)
open Classical in
noncomputable def ctxOff (X : Nat → Prop) (w : World) : Ctx := ⟨w, fun b => if X b then none else w.heap[b]?, 0⟩
theorem ctxOff_none {X : Nat → Prop} {w : World} {b : Nat} (h : X b) : (ctxOff X w).H0 b = none := by simp [ctxOff, h]
theorem ctxOff_eq {X : Nat → Prop} {w : World} {b : Nat} (hb : b < w.heap.size) (h : (ctxOff X w).H0 b = none) : X b := by
  by_cases q : X b
  · exact q
  · simp only [ctxOff, if_neg q] at h
    rw [Array.getElem?_eq_getElem hb] at h
    cases h
/-- A round of a range over a function. -/
theorem round_sound {hs : Hints} {ps : Array Tmp} {assign body : Code} {h : LHint} {s1 : St} {t : Array Value} {fn : FuncId} {D L : Nat} {lp : LoopState → Option Code → Loop}
    (hlp : lp = fun st pe => { state := st, pending := pe, fn, tmps := t, params := ps, assign, body, defers := D }) (hDL : D ≠ L) (hLC : C.w0.heap.size ≤ L) (hp : parOK h = true) (hs1 : s1 = ⟨s1.env, [], []⟩)
    (henv : ∀ u x, nth s1.env u = some x → x.rep V (t.getD u undef)) (hlen : s1.env.length ≤ t.size)
    (hA : ∀ (l : Nat) {Q : Exit → St → Heap → Prop} {C : Ctx} {V : Vl} {s : St} {H : Heap} {a : Act} {w : World}, Rep C V s H a w → vc P hs assign Q s H → assign.wpIn (FX (some l)) 0 P (GamX false C Q) a w)
    (hB : ∀ (l : Nat) {Q : Exit → St → Heap → Prop} {C : Ctx} {V : Vl} {s : St} {H : Heap} {a : Act} {w : World}, Rep C V s H a w → vc P hs body Q s H → body.wpIn (FX (some l)) 0 P (GamX false C Q) a w)
    {Q : Exit → Heap → Prop} {X Y : Heap → Prop} {p : h.Par} {Hw : Heap} (hj : Btw C D L (lp .ready none) X Hw)
    (hT : ∀ H', X H' → vc P hs assign (seqQ (fun s' H'' => vc P hs body (rndQ Y Q) s' H'') fun _ _ _ => False) (setPars h p ps.toList s1) H') :
    MeetsY P L (ps.toList.map fun t => (parV h p t).2) Hw fun e H'' => (e = .returned (.bool true) ∧ Btw C D L (lp .ready none) Y H'') ∨
      (e = .returned (.bool false) ∧ ∃ c, Btw C D L (lp .done (some c)) (fun H' => (c = .ret ∧ Q .ret H') ∨ ∃ i, c = .exit i ∧ Q (.exit i) H') H'') := by
  intro w hsub
  obtain ⟨jD, jL, jC, H', hle, hHD, hHL, hHC, hX⟩ := hj
  have wL := hsub _ _ jL
  have wD := hsub _ _ jD
  have lL : L < w.heap.size := (Array.getElem?_eq_some_iff.1 wL).1
  have lD : D < w.heap.size := (Array.getElem?_eq_some_iff.1 wD).1
  have hy := run_yield (P := P) (args := (ps.toList.map fun t => (parV h p t).2).toArray) wL (by rw [hlp]; simp)
  rw [hlp] at hy
  refine ⟨fn, _, assign, body, hy, roundIn_of_wpIn trivial ?_⟩
  rw [zip_fold]
  generalize hCr : ctxOff (Off0 C D L Hw) w = Cr
  have hCw : Cr.w0 = w := by rw [← hCr]; rfl
  have hCn : ∀ b, Off0 C D L Hw b → Cr.H0 b = none := fun b hb => by rw [← hCr]; exact ctxOff_none hb
  have hCe : ∀ b, b < w.heap.size → Cr.H0 b = none → Off0 C D L Hw b := fun b hb e => by rw [← hCr] at e; exact ctxOff_eq hb e
  have hCl : Cr.lo = 0 := by rw [← hCr]; rfl
  have hHn : ∀ b, Off0 C D L Hw b → H' b = none := fun b hb => by
    rcases hb with q | rfl | rfl | ⟨q1, q2⟩
    · cases e : H' b with
      | none => rfl
      | some o => have := hle b o e; rw [q] at this; cases this
    · exact hHD
    · exact hHL
    · exact hHC b q1 q2
  have r0 : Rep Cr V s1 H' { tmps := t, defers := [] } w := by
    rw [hs1]
    refine { env := henv, len := hlen, dfr := .nil (by rw [hCl]; exact Nat.zero_le _), sub := fun b o e => hsub b o (hle b o e), objs := by simp [look], priv := by simp [look], dist := by simp [look], os := by rw [hCw], tape := by rw [hCw]; exact Tp.refl _, output := by rw [hCw], size := by rw [hCw]; exact Nat.le_refl _, other := fun b hb e => ?_ }
    rw [hCw] at hb ⊢
    exact ⟨rfl, hHn b (hCe b hb e)⟩
  have r1 := setPars_sound hp p ps.toList r0
  refine wpIn_mono (hA L r1 (hT H' hX)) ?_
  rintro e a1 w1 ⟨C1, V1, s2, H1, ⟨hc1, -⟩, hr1, hq⟩
  have LC1 := hc1.other L (by rw [hCw]; exact lL) (hCn L (.inr (.inr (.inl rfl))))
  have l1 : L < C1.w0.heap.size := Nat.lt_of_lt_of_le (by rw [hCw]; exact lL) hc1.size
  have e1 : C1.w0.heap[L]? = some (.loop (lp .ready none)) := by rw [LC1.1, hCw]; exact wL
  cases e with
  | normal =>
    have wL1 : w1.heap[L]? = some (.loop (lp .ready none)) := by rw [(hr1.other L l1 LC1.2).1]; exact e1
    have hbr := run_beginRound (P := P) wL1 (by rw [hlp])
    refine ⟨_, hbr, ?_⟩
    have r2 := rep_turn (o := .loop { lp .ready none with state := .busy }) hr1 e1 l1 LC1.2
    refine wpIn_mono (hB L r2 hq) ?_
    rintro e a3 w3 ⟨C3, V3, s3, H3, ⟨hc3, -⟩, hr3, hq⟩
    have key : ∀ b, b < w.heap.size → Off0 C D L Hw b → (b ≠ L → w3.heap[b]? = w.heap[b]?) ∧ H3 b = none := by
      intro b hb ho
      obtain ⟨q1, q2⟩ := hc1.other b (by rw [hCw]; exact hb) (hCn b ho)
      have hb1 : b < C1.w0.heap.size := Nat.lt_of_lt_of_le (by rw [hCw]; exact hb) hc1.size
      obtain ⟨q3, q4⟩ := hc3.other b (by simpa using hb1) q2
      obtain ⟨q5, q6⟩ := hr3.other b (Nat.lt_of_lt_of_le (by simpa using hb1) hc3.size) q4
      refine ⟨fun hne => ?_, q6⟩
      rw [q5, q3]
      simp only
      rw [World.putObj_heap_other hne, q1, hCw]
    have wL3 : w3.heap[L]? = some (.loop { lp .ready none with state := .busy }) := by
      obtain ⟨q3, q4⟩ := hc3.other L (by simpa using l1) LC1.2
      rw [(hr3.other L (Nat.lt_of_lt_of_le (by simpa using l1) hc3.size) q4).1, q3]
      exact World.putObj_heap_same l1
    have size3 : w.heap.size ≤ w3.heap.size := by
      have q1 := hc1.size; have q2 := hc3.size; have q3 := hr3.size
      rw [hCw] at q1
      simp only [World.putObj_size] at q2
      omega
    have hL3 : H3 L = none := (key L lL (.inr (.inr (.inl rfl)))).2
    have fin : ∀ (jump : Option Code) (Z : Heap → Prop), Z H3 → ∃ v w', (Instr.endRound L jump).run P w3 = .ok v w' ∧ v = .bool jump.isNone ∧ ∃ H'', Step Hw w H'' w' ∧ Btw C D L (lp (if jump.isNone then .ready else .done) jump) Z H'' := by
      intro jump Z hZ
      have hend := run_endRound (P := P) jump wL3
      refine ⟨_, _, hend, rfl, ?_⟩
      have hlp3 : ({ ({ lp .ready none with state := .busy } : Loop) with state := if jump.isNone then .ready else .done, pending := jump } : Loop) = lp (if jump.isNone then .ready else .done) jump := by rw [hlp]
      rw [hlp3]
      generalize lp (if jump.isNone then .ready else .done) jump = lpe
      have lL3 : L < w3.heap.size := Nat.lt_of_lt_of_le lL size3
      generalize hHX : (ctxOff (fun b => b < w.heap.size ∧ Hw b = none) (w3.putObj L (.loop lpe))).H0 = HX
      have hX1 : ∀ b, b < w.heap.size → Hw b = none → HX b = none := fun b h1 h2 => by rw [← hHX]; exact ctxOff_none (X := fun b => b < w.heap.size ∧ Hw b = none) ⟨h1, h2⟩
      have hX2 : ∀ b, ¬ (b < w.heap.size ∧ Hw b = none) → HX b = (w3.putObj L (.loop lpe)).heap[b]? := fun b hb => by rw [← hHX]; simp only [ctxOff, if_neg hb]
      have nDL : ¬ (D < w.heap.size ∧ Hw D = none) := fun q => by rw [jD] at q; cases q.2
      have nLL : ¬ (L < w.heap.size ∧ Hw L = none) := fun q => by rw [jL] at q; cases q.2
      refine ⟨HX, ⟨fun b o e => ?_, ?_, ?_, ?_, ?_, fun b hb e => ?_, fun b hb e => hX1 b hb e⟩, ⟨?_, ?_, fun b hb e => ?_, H3, fun b o e => ?_, ?_, hL3, fun b hb e => ?_, hZ⟩⟩
      · by_cases q : b < w.heap.size ∧ Hw b = none
        · rw [hX1 b q.1 q.2] at e; cases e
        · rw [hX2 b q] at e; exact e
      · have q1 := hr3.os; have q2 := hc3.os; have q3 := hc1.os
        rw [hCw] at q3
        exact q1.trans (q2.trans q3)
      · have q1 := hr3.tape; have q2 := hc3.tape; have q3 := hc1.tape
        rw [hCw] at q3
        have q4 : Tp C3.w0 C1.w0 := ⟨q2.eq, q2.dr⟩
        have q5 := (q1.trans q4).trans q3
        exact ⟨q5.eq, q5.dr⟩
      · have q1 := hr3.output; have q2 := hc3.output; have q3 := hc1.output
        rw [hCw] at q3
        exact q1.trans (q2.trans q3)
      · simpa using size3
      · have hne : b ≠ L := fun q => by subst q; rw [jL] at e; cases e
        rw [World.putObj_heap_other hne]
        exact (key b hb (.inl e)).1 hne
      · rw [hX2 D nDL, World.putObj_heap_other hDL, (key D lD (.inr (.inl rfl))).1 hDL]; exact wD
      · rw [hX2 L nLL]; exact World.putObj_heap_same lL3
      · have h1 := jC b hb e
        have hsome : ∃ o, Hw b = some o := by
          rw [h1, Array.getElem?_eq_getElem hb]; exact ⟨_, rfl⟩
        obtain ⟨o, ho⟩ := hsome
        have hbw : b < w.heap.size := (Array.getElem?_eq_some_iff.1 (hsub b o ho)).1
        have hne : b ≠ L := fun q => by omega
        rw [hX2 b (fun q => by rw [ho] at q; cases q.2), World.putObj_heap_other hne, (key b hbw (.inr (.inr (.inr ⟨hb, e⟩)))).1 hne, hsub b o ho, ← h1]
        exact ho.symm
      · have hne : b ≠ L := fun q => by subst q; rw [hL3] at e; cases e
        have hn : ¬ (b < w.heap.size ∧ Hw b = none) := fun q => by
          have := (key b q.1 (.inl q.2)).2
          rw [this] at e; cases e
        rw [hX2 b hn, World.putObj_heap_other hne]
        exact hr3.sub b o e
      · exact (key D lD (.inr (.inl rfl))).2
      · have h1 := jC b hb e
        have hsome : ∃ o, Hw b = some o := by
          rw [h1, Array.getElem?_eq_getElem hb]; exact ⟨_, rfl⟩
        obtain ⟨o, ho⟩ := hsome
        exact (key b (Array.getElem?_eq_some_iff.1 (hsub b o ho)).1 (.inr (.inr (.inr ⟨hb, e⟩)))).2
    cases e with
    | normal =>
      obtain ⟨v, w', h1, rfl, H'', h2, h3⟩ := fin none Y hq
      exact ⟨_, w', h1, H'', h2, .inl ⟨rfl, h3⟩⟩
    | ret =>
      obtain ⟨v, w', h1, rfl, H'', h2, h3⟩ := fin (some .ret) (fun H' => ((Code.ret : Code) = .ret ∧ Q .ret H') ∨ ∃ i, (Code.ret : Code) = .exit i ∧ Q (.exit i) H') (.inl ⟨rfl, hq⟩)
      exact ⟨_, w', h1, H'', h2, .inr ⟨rfl, .ret, h3⟩⟩
    | exit i =>
      obtain ⟨v, w', h1, rfl, H'', h2, h3⟩ := fin (some (.exit i)) (fun H' => ((Code.exit i : Code) = .ret ∧ Q .ret H') ∨ ∃ j, (Code.exit i : Code) = .exit j ∧ Q (.exit j) H') (.inr ⟨i, rfl, hq⟩)
      exact ⟨_, w', h1, H'', h2, .inr ⟨rfl, .exit i, h3⟩⟩
    | goto _ => exact hq.elim
    | panic _ => exact hq.elim
    | outgrown => exact hq.elim
  | _ => exact hq.elim
/-- The statement 'for .. := range f { .. }'. -/
theorem range_sound {hs : Hints} {n : Nat} {g : Operand} {ps : Array Tmp} {assign body : Code} {h : LHint} {fv : Value} {Q : Exit → St → Heap → Prop}
    (hr : Rep C V s H a w) (hd : s.dfr = []) (hg : ev s g = .c (.v fv)) (hp : parOK h = true)
    (hA : ∀ (l : Nat) {Q : Exit → St → Heap → Prop} {C : Ctx} {V : Vl} {s : St} {H : Heap} {a : Act} {w : World}, Rep C V s H a w → vc P hs assign Q s H → assign.wpIn (FX (some l)) 0 P (GamX false C Q) a w)
    (hB : ∀ (l : Nat) {Q : Exit → St → Heap → Prop} {C : Ctx} {V : Vl} {s : St} {H : Heap} {a : Act} {w : World}, Rep C V s H a w → vc P hs body Q s H → body.wpIn (FX (some l)) 0 P (GamX false C Q) a w)
    (hk : RangeP P fv (fun p => ps.toList.map fun t => (parV h p t).2)
          (fun p K H' => vc P hs assign (seqQ (fun s' H'' => vc P hs body (rndQ K fun e H3 => Q e ⟨restrictEnv h.fix s.env 0, [], []⟩ H3) s' H'') fun _ _ _ => False)
            (setPars h p ps.toList ⟨restrictEnv h.fix s.env 0, [], []⟩) H')
          (fun H' => Q .normal ⟨restrictEnv h.fix s.env 0, [], []⟩ H') H) : (Code.rangeFunc g ps assign body).wpIn (FX none) n P (GamX false C Q) a w := by
  obtain ⟨xs, Kp, I, hup, hit, hI, h0, hT, hD⟩ := hk
  have hev := hr.ev g
  rw [hg] at hev
  obtain ⟨hev, -⟩ := hev
  unfold Iter at hit
  split at hit
  · rename_i gf first lb
    obtain ⟨hfirst, hit⟩ := hit
    subst hfirst
    have henv : ∀ u x, nth (restrictEnv h.fix s.env 0) u = some x → x.rep V (a.tmps.getD u undef) := (rep_restrict hr h.fix).env
    have hlen : (restrictEnv h.fix s.env 0).length ≤ a.tmps.size := (rep_restrict hr h.fix).len
    generalize restrictEnv h.fix s.env 0 = env1 at *
    refine wpIn_rangeFunc ?_
    intro fn _
    generalize hlp : (fun (st : LoopState) (pe : Option Code) => ({ state := st, pending := pe, fn, tmps := a.tmps, params := ps, assign, body, defers := w.heap.size } : Loop)) = lp
    have hlp' : lp = fun st pe => { state := st, pending := pe, fn, tmps := a.tmps, params := ps, assign, body, defers := w.heap.size } := hlp.symm
    generalize hW1 : (w.alloc (.deferred (some []))).alloc (.loop (lp .ready none)) = W1
    have hsz1 : W1.heap.size = w.heap.size + 2 := by rw [← hW1]; simp
    have hL1 : W1.heap[w.heap.size + 1]? = some (.loop (lp .ready none)) := by
      rw [← hW1]; have := World.alloc_heap_new (w.alloc (.deferred (some []))) (.loop (lp .ready none)); rwa [World.size_alloc] at this
    have hD1 : W1.heap[w.heap.size]? = some (.deferred (some [])) := by
      rw [← hW1]; exact (Below.heap_alloc _ _ _ (by simp)).trans (World.alloc_heap_new w _)
    have ho1 : ∀ b, b < w.heap.size → W1.heap[b]? = w.heap[b]? := fun b hb => by
      rw [← hW1]; exact (Below.heap_alloc _ _ _ (by simp; omega)).trans (Below.heap_alloc _ _ _ hb)
    have hos1 : W1.os = w.os ∧ W1.output = w.output ∧ W1.tape = w.tape ∧ W1.drawn = w.drawn := by rw [← hW1]; exact ⟨rfl, rfl, rfl, rfl⟩
    have hsz0 := hr.size
    have hcl := hr.dfr.lo
    obtain ⟨hlow, holdW, holdH⟩ : (∀ b o, H b = some o → b < w.heap.size) ∧ (∀ b, b < C.w0.heap.size → C.H0 b = none → W1.heap[b]? = C.w0.heap[b]?) ∧ (∀ b, b < C.w0.heap.size → C.H0 b = none → H b = none) :=
      ⟨fun b o e => (Array.getElem?_eq_some_iff.1 (hr.sub b o e)).1, fun b hb e => by rw [ho1 b (by omega)]; exact (hr.other b hb e).1, fun b hb e => (hr.other b hb e).2⟩
    have hM := hit (w.heap.size + 1) (fun i => Btw C w.heap.size (w.heap.size + 1) (lp .ready none) (I i))
      (fun i Hw => ∃ c, Btw C w.heap.size (w.heap.size + 1) (lp .done (some c)) (fun H' => (c = .ret ∧ Q .ret ⟨env1, [], []⟩ H') ∨ ∃ j, c = .exit j ∧ Q (.exit j) ⟨env1, [], []⟩ H') Hw) (fun b => W1.heap[b]?)
      (fun i H' hj => by obtain ⟨H2, h1, _, _, _, h2⟩ := hj.inv; exact hup _ _ h1 (hI i H2 h2))
      ⟨hD1, hL1, holdW, H, fun b o e => by show W1.heap[b]? = some o; rw [ho1 b (hlow b o e)]; exact hr.sub b o e,
        by cases e : H w.heap.size with | none => rfl | some o => have := hlow _ _ e; omega,
        by cases e : H (w.heap.size + 1) with | none => rfl | some o => have := hlow _ _ e; omega, holdH, h0⟩
      (fun i x H' hx hj => by
        rw [List.getElem?_map] at hx
        cases hp1 : xs[i]? with
        | none => rw [hp1] at hx; cases hx
        | some p =>
          rw [hp1, Option.map_some] at hx
          cases hx
          have hm := round_sound (s1 := ⟨env1, [], []⟩) (Q := fun e H3 => Q e ⟨env1, [], []⟩ H3) (Y := I (i + 1)) hlp' (by omega) (by omega) hp rfl henv hlen hA hB hj (fun H' hX => hT i p H' hp1 hX)
          intro w2 hw2
          obtain ⟨f2, t2, as2, b2, q1, q2⟩ := hm w2 hw2
          refine ⟨f2, t2, as2, b2, q1, q2.mono ?_⟩
          rintro e w3 ⟨H3, q3, q4 | ⟨q4, q5⟩⟩
          · exact ⟨H3, q3, .inl q4⟩
          · exact ⟨H3, q3, .inr ⟨q4, q5⟩⟩)
    refine ⟨w.heap.size + 1, [{ target := .collected w.heap.size, args := #[] }], W1, { target := .fn (.func gf) lb, args := #[.func (.yield (w.heap.size + 1)) #[] #[]] }, W1, gf,
      #[.func (.yield (w.heap.size + 1)) #[] #[]] ++ lb, W1, ?_, ?_, fun _ _ => trivial, ?_, by simp [FX, Fence.wide], ?_⟩
    · rw [← hW1, ← hlp]; exact run_enterLoop_outer _ _ _ _ _
    · simp only [resolve, hev]
      simp [go_sem]
    · simp only [invoke]
      exact callable_run hM.1 _
    · have hc := hM.2 W1 fun b o e => e
      have earg : (Value.func (.yield (w.heap.size + 1)) #[] #[] :: lb.toList).toArray = #[.func (.yield (w.heap.size + 1)) #[] #[]] ++ lb := by apply Array.ext'; simp
      rw [earg] at hc
      refine callsIn_of (ro := none) (hc.mono ?_)
      rintro e W2 ⟨H2, hst, ⟨v, rfl⟩, hj⟩
      have hsz2 := hst.size
      -- what is left: the record is shut
      have fin : ∀ (st : LoopState) (pe : Option Code) (X : Heap → Prop), Btw C w.heap.size (w.heap.size + 1) (lp st pe) X H2 → st ≠ .busy → ∃ w4, (Instr.endLoop (w.heap.size + 1)).run P W2 = .ok pe w4 ∧
          ∃ C' H', CLe C C' ∧ X H' ∧ Rep C' V ⟨env1, [], []⟩ H' { a with defers := { target := .collected w.heap.size, args := #[] } :: a.defers } w4 := by
        intro st pe X hb hst0
        obtain ⟨bD, bL, bC, H', hle, hHD, hHL, hHC, hX⟩ := hb
        have wL := hst.sub _ _ bL
        have wD := hst.sub _ _ bD
        have lL := (Array.getElem?_eq_some_iff.1 wL).1
        have lD := (Array.getElem?_eq_some_iff.1 wD).1
        have hend := run_endLoop (P := P) wL (by rw [← hlp]; exact hst0)
        have hpe : (lp st pe).pending = pe := by rw [← hlp]
        rw [hpe] at hend
        have hend : ∃ lx : Loop, (Instr.endLoop (w.heap.size + 1)).run P W2 = .ok pe (W2.putObj (w.heap.size + 1) (.loop lx)) := ⟨_, hend⟩
        obtain ⟨lx, hend⟩ := hend
        generalize hw4 : W2.putObj (w.heap.size + 1) (.loop lx) = w4 at hend
        refine ⟨w4, hend, ?_⟩
        have hs4 : w4.heap.size = W2.heap.size := by rw [← hw4]; simp
        have ho4 : ∀ b, b ≠ w.heap.size + 1 → w4.heap[b]? = W2.heap[b]? := fun b hb => by rw [← hw4]; exact World.putObj_heap_other hb
        let X0 : Nat → Prop := fun b => b = w.heap.size ∨ b = w.heap.size + 1 ∨ (b < C.w0.heap.size ∧ C.H0 b = none)
        generalize hC' : (⟨w4, (ctxOff X0 w4).H0, C.lo⟩ : Ctx) = C'
        have hCw : C'.w0 = w4 := by rw [← hC']
        have hClo : C'.lo = C.lo := by rw [← hC']
        have hCn : ∀ b, X0 b → C'.H0 b = none := fun b hb => by rw [← hC']; exact ctxOff_none hb
        have hCe : ∀ b, b < w4.heap.size → C'.H0 b = none → X0 b := fun b hb e => by rw [← hC'] at e; exact ctxOff_eq hb e
        have old4 : ∀ b, b < C.w0.heap.size → C.H0 b = none → w4.heap[b]? = C.w0.heap[b]? := fun b hb e => by
          have h1 := bC b hb e
          rw [ho4 b (by omega), ← h1]
          have hsome : ∃ o, H2 b = some o := by rw [h1, Array.getElem?_eq_getElem hb]; exact ⟨_, rfl⟩
          obtain ⟨o, ho⟩ := hsome
          rw [ho]; exact hst.sub b o ho
        have hos4 : w4.os = C.w0.os ∧ w4.output = C.w0.output := by
          rw [← hw4]
          exact ⟨hst.os.trans (hos1.1.trans hr.os), hst.output.trans (hos1.2.1.trans hr.output)⟩
        have ht4 : Tp w4 C.w0 := by
          have q1 : Tp W1 w := ⟨hos1.2.2.1, fun _ => by rw [hos1.2.2.2]; exact Nat.le_refl _⟩
          have q2 := (hst.tape.trans q1).trans hr.tape
          rw [← hw4]
          exact ⟨q2.eq, q2.dr⟩
        refine ⟨C', H', ⟨hClo, by rw [hCw]; exact hos4.1, by rw [hCw]; exact ht4, by rw [hCw]; exact hos4.2, by rw [hCw, hs4]; omega, fun b hb e => ⟨by rw [hCw]; exact old4 b hb e, hCn b (.inr (.inr ⟨hb, e⟩))⟩⟩, hX, ?_⟩
        refine { env := henv, len := hlen, dfr := ?_, sub := fun b o e => ?_, objs := by simp [look], priv := by simp [look], dist := by simp [look], os := by rw [hCw], tape := by rw [hCw]; exact Tp.refl _, output := by rw [hCw], size := by rw [hCw]; exact Nat.le_refl _, other := fun b hb e => ?_ }
        · have hd0 := hr.dfr
          rw [hd] at hd0
          have hm : markOf { target := .collected w.heap.size, args := #[] } = some w.heap.size := rfl
          refine ⟨?_, ?_, ?_, by rw [hCw, hClo, hs4]; omega⟩
          · rw [List.filter_cons, hm]
            simpa using hd0.real
          · rw [List.filterMap_cons, hm]
            refine List.nodup_cons.2 ⟨fun hmem => ?_, hd0.nodup⟩
            have := (hd0.mark _ hmem).2.1
            omega
          · rw [List.filterMap_cons, hm]
            intro r hr'
            rcases List.mem_cons.1 hr' with rfl | hr'
            · exact ⟨by rw [hClo]; omega, by rw [hCw, hs4]; exact lD, hCn _ (.inl rfl), by rw [hCw, ho4 _ (by omega)]; exact wD⟩
            · obtain ⟨q1, q2, q3, q4⟩ := hd0.mark r hr'
              exact ⟨by rw [hClo]; exact q1, by rw [hCw, hs4]; omega, hCn r (.inr (.inr ⟨q2, q3⟩)), by rw [hCw, old4 r q2 q3]; exact q4⟩
        · rw [ho4 b (fun q => by subst q; rw [hHL] at e; cases e)]
          exact hst.sub b o (hle b o e)
        · rw [hCw] at hb ⊢
          refine ⟨rfl, ?_⟩
          rcases hCe b hb e with rfl | rfl | ⟨q1, q2⟩
          · exact hHD
          · exact hHL
          · exact hHC b q1 q2
      rcases hj with hj | ⟨i, c, hj⟩
      · obtain ⟨w4, h1, C', H', hc, hX, hrep⟩ := fin _ _ _ hj (by simp)
        refine ⟨none, w4, h1, C', V, _, H', ⟨hc, by simp⟩, hrep, hD H' ?_⟩
        rw [List.length_map] at hX; exact hX
      · obtain ⟨w4, h1, C', H', hc, hX, hrep⟩ := fin _ _ _ hj (by simp)
        refine ⟨some c, w4, h1, ?_⟩
        rcases hX with ⟨rfl, hq⟩ | ⟨j, rfl, hq⟩
        · exact wpIn_ret ⟨C', V, _, H', ⟨hc, by simp⟩, hrep, hq⟩
        · exact wpIn_exit ⟨C', V, _, H', ⟨hc, by simp⟩, hrep, hq⟩
  · exact hit.elim
end
end Sx

set_option linter.unusedVariables false
set_option linter.unusedSimpArgs false
namespace Sx
open Go
set_option linter.unusedSectionVars false
variable [Dr]
section
variable {P : Program} {C : Ctx} {V : Vl} {s : St} {H : Heap} {a : Act} {w : World}

theorem least {p : Nat → Prop} (h : ∃ n, p n) : ∃ n, p n ∧ ∀ m, p m → n ≤ m := by
  obtain ⟨n, hn⟩ := h
  induction n using Nat.strongRecOn with
  | _ n ih =>
    by_cases hm : ∃ m, m < n ∧ p m
    · obtain ⟨m, h1, h2⟩ := hm
      exact ih m h1 h2
    · exact ⟨n, hn, fun m hp => Nat.not_lt.1 fun hlt => hm ⟨m, hlt, hp⟩⟩
theorem loopP_wp {α : Type} {F : Fence} {n : Nat} {c : Code} {Q : Exit → Act → World → Prop} {T : (α → Heap → Prop) → α → Heap → Prop} (R : α → Heap → Act → World → Prop)
    (hT : ∀ (K : α → Heap → Prop) p H a w, T K p H → R p H a w → c.wpIn F n P (Exit.then (fun a' w' => ∃ p' H', R p' H' a' w' ∧ K p' H') Q) a w)
    {p : α} {H : Heap} (h : LoopP T p H) {a : Act} {w : World} (hr : R p H a w) : (Code.loop c).wpIn F n P Q a w := by
  obtain ⟨I, μ, h0, hs⟩ := h
  have key : ∀ (a : Act) (w : World), ∃ n, (∃ p H, R p H a w ∧ I p H) → (∃ p H, R p H a w ∧ I p H ∧ μ p H = n) ∧ ∀ p H, R p H a w → I p H → n ≤ μ p H := by
    intro a w
    by_cases h : ∃ p H, R p H a w ∧ I p H
    · obtain ⟨p, H, h1, h2⟩ := h
      obtain ⟨n, hn, hl⟩ := least (p := fun n => ∃ p H, R p H a w ∧ I p H ∧ μ p H = n) ⟨_, p, H, h1, h2, rfl⟩
      exact ⟨n, fun _ => ⟨hn, fun p H h1 h2 => hl _ ⟨p, H, h1, h2, rfl⟩⟩⟩
    · exact ⟨0, fun h' => absurd h' h⟩
  have hM : ∃ M : Act → World → Nat, ∀ a w, (∃ p H, R p H a w ∧ I p H) → (∃ p H, R p H a w ∧ I p H ∧ μ p H = M a w) ∧ ∀ p H, R p H a w → I p H → M a w ≤ μ p H :=
    ⟨fun a w => (key a w).choose, fun a w => (key a w).choose_spec⟩
  obtain ⟨M, hM⟩ := hM
  refine wpIn_loop (fun a w => ∃ p H, R p H a w ∧ I p H) M ⟨p, H, hr, h0⟩ ?_
  intro a w h
  obtain ⟨⟨p, H, h1, h2, h3⟩, -⟩ := hM a w h
  refine wpIn_mono (hT _ p H a w (hs p H h2) h1) ?_
  intro e a' w' he
  cases e with
  | normal =>
    obtain ⟨p', H', h4, h5, h6⟩ := he
    exact ⟨⟨p', H', h4, h5⟩, by have := (hM a' w' ⟨p', H', h4, h5⟩).2 p' H' h4 h5; omega⟩
  | _ => exact he
/-- What is enough for a piece of code is enough. -/
theorem vc_sound {hs : Hints} (hE : ∀ t, memN hs.eqs t = true → EqOK P t) {n : Nat} {ro : Option Nat} {m : Bool} : ∀ (c : Code) {Q : Exit → St → Heap → Prop} {C : Ctx} {V : Vl} {s : St} {H : Heap} {a : Act} {w : World},
    ((m = false ∧ ro = none) ∨ inOK c = true) → Rep C V s H a w → vc P hs c Q s H → c.wpIn (FX ro) n P (GamX m C Q) a w
  | .skip, Q, C, V, s, H, a, w, hi, h, hk => wpIn_skip ⟨C, V, s, H, ⟨.refl C, fun _ => rfl⟩, h, hk⟩
  | .label _, Q, C, V, s, H, a, w, hi, h, hk => wpIn_label ⟨C, V, s, H, ⟨.refl C, fun _ => rfl⟩, h, hk⟩
  | .ret, Q, C, V, s, H, a, w, hi, h, hk => wpIn_ret ⟨C, V, s, H, ⟨.refl C, fun _ => rfl⟩, h, hk⟩
  | .exit i, Q, C, V, s, H, a, w, hi, h, hk => wpIn_exit ⟨C, V, s, H, ⟨.refl C, fun _ => rfl⟩, h, hk⟩
  | .region id ops draw, Q, C, V, s, H, a, w, hi, h, hk => by
    have hdf : ro = none ∨ ∀ o ∈ ops.toList, noDf o = true := hi.imp And.right fun q => by
      simp only [inOK, Bool.and_eq_true, List.all_eq_true] at q
      exact q.1
    simp only [vc] at hk
    split at hk
    · split at hk
      · exact wpIn_mono (regIn hdf (opsK_sound hE _ h hk : RegX P ops false (GamQ C Q) a w)) fun e a w => gamQ_X
      · rename_i o c r hs
        rcases hi with ⟨rfl, rfl⟩ | hi
        · exact wpIn_mono (wpIn_wide.2 (selK_sound hE h hs hk)) fun e a w => gamQ_X
        · simp [inOK, hs] at hi
    · split at hk
      · rename_i hB
        exact wpIn_mono (regIn hdf (mix_sound hE h hB hk)) fun e a w => gamQ_X
      · split at hk
        · rename_i hB
          exact wpIn_mono (regIn hdf (mix2_sound hE h hB hk)) fun e a w => gamQ_X
        · exact hk.elim
  | .cond c x y, Q, C, V, s, H, a, w, hi, h, hk => by
    have hi' : ((m = false ∧ ro = none) ∨ inOK x = true) ∧ ((m = false ∧ ro = none) ∨ inOK y = true) := by
      rcases hi with hi | hi
      · exact ⟨.inl hi, .inl hi⟩
      · simp only [inOK, Bool.and_eq_true] at hi; exact ⟨.inr hi.1, .inr hi.2⟩
    simp only [vc] at hk
    split at hk
    · rename_i p hp
      have hc := h.ev c
      rw [hp] at hc
      obtain ⟨hc, -⟩ := hc
      cases p with
      | true => exact wpIn_cond hc (vc_sound hE x hi'.1 h hk)
      | false => exact wpIn_cond hc (vc_sound hE y hi'.2 h hk)
    · exact hk.elim
  | .block id c, Q, C, V, s, H, a, w, hi, h, hk => by
    simp only [vc] at hk
    exact wpIn_block (wpIn_mono (vc_sound hE c (hi.imp_right fun q => by simpa only [inOK] using q) h hk) gamX_block)
  | .seq x y, Q, C, V, s, H, a, w, hi, h, hk => by
    have hi' : ((m = false ∧ ro = none) ∨ inOK x = true) ∧ ((m = false ∧ ro = none) ∨ inOK y = true) := by
      rcases hi with hi | hi
      · exact ⟨.inl hi, .inl hi⟩
      · simp only [inOK, Bool.and_eq_true] at hi; exact ⟨.inr hi.1, .inr hi.2⟩
    simp only [vc] at hk
    split at hk
    · refine wpIn_seq (wpIn_mono (vc_sound hE x hi'.1 h hk) (gamX_then ?_))
      intro C' V s H a w hc h hk
      exact wpIn_mono (vc_sound hE y hi'.2 h hk) fun e a w q => q.up hc
    · rename_i hh _
      obtain ⟨I, h1, h2⟩ := hk
      refine wpIn_seq (wpIn_mono (vc_sound hE x hi'.1 h h1) (gamX_then ?_))
      intro C' V' s' H' a' w' hc h' hk'
      obtain ⟨V'', p, H'', hI, h''⟩ := toHead_sound h' hk'
      exact wpIn_mono (vc_sound hE y hi'.2 h'' (h2 p H'' hI)) fun e a w q => q.up hc
  | .loop c, Q, C, V, s, H, a, w, hi, h, hk => by
    simp only [vc] at hk
    split at hk
    · exact hk.elim
    · rename_i hh _
      obtain ⟨V0, p0, H0, hl, h0⟩ := toHead_sound h hk
      refine loopP_wp (fun p H a w => ∃ C' V, (CLe C C' ∧ (m = true → C' = C)) ∧ Rep C' V (rebuild hh s p) H a w) ?_ hl ⟨C, V0, ⟨.refl C, fun _ => rfl⟩, h0⟩
      rintro K p H a w ht ⟨C1, V, hc1, hr⟩
      refine wpIn_mono (vc_sound hE c (hi.imp_right fun q => by simpa only [inOK] using q) hr ht) fun e a w q => ?_
      refine gamX_then ?_ e a w (q.up hc1)
      intro C2 V' s' H' a' w' hc2 h' hk'
      obtain ⟨V'', p', H'', hK, h''⟩ := toHead_sound h' hk'
      exact ⟨p', H'', ⟨C2, V'', hc2, h''⟩, hK⟩
  | .goto _, _, _, _, _, _, _, _, _, _, hk => by simp [vc] at hk
  | .scope c, Q, C, V, s, H, a, w, hi, h, hk => by
    simp only [vc] at hk
    rcases hi with ⟨rfl, rfl⟩ | hi
    · refine wpIn_wide.2 (wp_scope_straight (wp_mono (wpIn_wide.1 (vc_sound (n := n) (ro := none) (m := false) hE c (.inl ⟨rfl, rfl⟩) h hk)) ?_))
      rintro e a w ⟨C', V, s, H, hc, h, q⟩
      cases e with
      | goto l => exact q.elim
      | _ => exact ⟨C', V, s, H, hc, h, q⟩
    · simp [inOK] at hi
  | .refuse _, _, _, _, _, _, _, _, _, _, hk => by simp [vc] at hk
  | .rangeFunc g ps assign body, Q, C, V, s, H, a, w, hi, h, hk => by
    rcases hi with ⟨rfl, rfl⟩ | hi
    · simp only [vc] at hk
      split at hk
      · exact hk.elim
      · split at hk
        · rename_i hd hg hp
          simp only [Bool.and_eq_true] at hp
          exact range_sound h hd hg hp.1 (fun l {Q C V s H a w} hr hk => vc_sound hE assign (.inr hp.2.1) hr hk) (fun l {Q C V s H a w} hr hk => vc_sound hE body (.inr hp.2.2) hr hk) hk
        · exact hk.elim
    · simp [inOK] at hi

def resF (tmps : Array Value) : ResultVar → Sem Value
  | .tmp t => pure (tmps.getD t undef)
  | .cell a t => do loadVar t (← asAddr (tmps.getD a undef))
theorem resK_sound (h : Rep C V s H a w) : ∀ (l : List ResultVar) {K : List SV → Prop}, resK P s H l K →
    ∃ xs ys, K xs ∧ xs.length = ys.length ∧ (∀ (i : Nat) (x : SV) (y : Value), xs[i]? = some x → ys[i]? = some y → x.rep V y) ∧ (l.mapM (resF a.tmps)).run P w = .ok ys w
  | [], K, hk => ⟨[], [], hk, rfl, by simp, by simp [Sem.run]⟩
  | .tmp t :: r, K, hk => by
    obtain ⟨xs, ys, h1, h2, h3, h4⟩ := resK_sound h r hk
    refine ⟨_, a.tmps.getD t undef :: ys, h1, by simp [h2], ?_, ?_⟩
    · intro i x y hx hy
      cases i with
      | zero => simp only [List.getElem?_cons_zero, Option.some.injEq] at hx hy; subst hx hy; exact h.get t
      | succ i => exact h3 i x y (by simpa using hx) (by simpa using hy)
    · rw [List.mapM_cons]
      simp only [Sem.run_bind, resF, Sem.run_pure, Result.andThen_ok, h4]
  | .cell t ty :: r, K, hk => by
    have fin : ∀ {x : SV} {v : Value}, x.rep V v → (resF a.tmps (.cell t ty)).run P w = .ok v w → (resK P s H r fun l => K (x :: l)) →
        ∃ xs ys, K xs ∧ xs.length = ys.length ∧ (∀ (i : Nat) (x : SV) (y : Value), xs[i]? = some x → ys[i]? = some y → x.rep V y) ∧ ((ResultVar.cell t ty :: r).mapM (resF a.tmps)).run P w = .ok ys w := by
      intro x v hx hv' hk
      obtain ⟨xs, ys, h1, h2, h3, h4⟩ := resK_sound h r hk
      refine ⟨_, v :: ys, h1, by simp [h2], ?_, ?_⟩
      · intro i x' y hx' hy
        cases i with
        | zero => simp only [List.getElem?_cons_zero, Option.some.injEq] at hx' hy; subst hx' hy; exact hx
        | succ i => exact h3 i x' y (by simpa using hx') (by simpa using hy)
      · rw [List.mapM_cons]
        simp only [Sem.run_bind, Sem.run_pure, Result.andThen_ok, hv', h4]
    simp only [resK] at hk
    split at hk
    · rename_i v0 hv0
      have hx0 := h.ev (.tmp t)
      unfold readK at hk
      simp only at hk
      split at hk
      · rename_i p ks z hp hks hz
        rw [hp] at hx0
        obtain ⟨hx0, -⟩ := hx0
        split at hk
        · rename_i hb
          have hsk := nbt hb
          obtain ⟨i, hi, rfl⟩ := sizeT_eq hz
          obtain ⟨A, rfl, hK⟩ := ptrK hk
          obtain ⟨l, ⟨h1, h2⟩, hf⟩ := exSegs_fits hK
          obtain ⟨v, h3, h4, _⟩ := loadVar_fits (V := V) hks hi hf (fun _ => by rw [fits_len hf, hsk]) (has_cell h.sub h1)
          refine fin h3 ?_ h2
          have e : a.tmps.getD t undef = .pointer (some A) := hx0
          unfold resF
          simp only [e, asAddr]
          simp only [Sem.run_bind, Sem.run_pure, Result.andThen_ok, h4]
        · exact hk.elim
      · exact hk.elim
    · obtain ⟨x, v, hk, hx, hv⟩ := loadK_sound (P := P) h ty (.tmp t) hk
      refine fin hx ?_ hk
      have e : a.eval (.tmp t) = a.tmps.getD t undef := rfl
      rw [e] at hv
      unfold resF
      simp only
      generalize a.tmps.getD t undef = u at hv
      unfold Instr.loadAt Instr.sureAddr at hv
      unfold asAddr
      cases u <;> try (simp [stuck, Sem.run_bind, Sem.run] at hv; done)
      rename_i o
      cases o with
      | none => simp [stuck, Sem.run_bind, Sem.run] at hv
      | some A => exact hv
theorem results_run {fn : Func} {tmps : Array Value} {w : World} {ys : List Value} (h : (fn.results.toList.mapM (resF tmps)).run P w = .ok ys w) :
    (results fn tmps).run P w = .ok (tupV ys) w := by
  have e : results fn tmps = (do let vs ← fn.results.mapM (resF tmps); pure (if h : vs.size = 1 then vs[0] else .tuple vs)) := rfl
  rw [e, Array.mapM_eq_mapM_toList]
  simp only [Sem.run_bind, Sem.run_map, h, Result.andThen_ok, Sem.run_pure]
  cases ys with
  | nil => rfl
  | cons y ys => cases ys with
    | nil => rfl
    | cons z ys => simp [tupV]
theorem lend_dfr (h : Rep C V s H a w) {f : FuncId} {sites : List Nat} (hd : s.dfr = [⟨f, sites⟩]) {d : Deferred} {r : List Deferred} (ha : a.defers = d :: r) (hm : markOf d = none) :
    Rep C V ⟨s.env, s.objs, []⟩ H { a with defers := r } w ∧ d = { target := .fn (.func f) #[], args := ((sites.map Cap.b).map (Cap.real V)).toArray } := by
  have h0 := h.dfr
  rw [hd, ha] at h0
  obtain ⟨q1, q2, q3, q4⟩ := h0
  rw [List.filter_cons, hm, Option.isNone_none, if_pos rfl, List.map_cons, List.map_nil] at q1
  rw [List.filterMap_cons, hm] at q2 q3
  obtain ⟨e1, e2⟩ := List.cons.inj q1
  refine ⟨{ env := h.env, len := h.len, dfr := ⟨e2, q2, q3, q4⟩, sub := h.sub, objs := h.objs, priv := h.priv, dist := h.dist, os := h.os, tape := h.tape, output := h.output, size := h.size, other := h.other }, ?_⟩
  rw [e1]
  simp only [ADef.real, List.map_map]
  rfl
/-- The base of a function's contract. -/
def Base (C0 C : Ctx) : Prop := CLe C0 C ∧ C0.lo = C0.w0.heap.size
theorem base_ends {C0 : Ctx} (hb : Base C0 C) (h : Rep C V s H a w) : Step C0.H0 C0.w0 H w := by
  obtain ⟨hc, hl⟩ := hb
  refine ⟨h.sub, h.os.trans hc.os, h.tape.trans hc.tape, h.output.trans hc.output, Nat.le_trans hc.size h.size, fun b hb e => ?_, fun b hb e => ?_⟩
  · obtain ⟨q1, q2⟩ := hc.other b hb e
    rw [(h.other b (Nat.lt_of_lt_of_le hb hc.size) q2).1, q1]
  · obtain ⟨q1, q2⟩ := hc.other b hb e
    exact (h.other b (Nat.lt_of_lt_of_le hb hc.size) q2).2
/-- A mark goes. -/
theorem rep_mark {C0 : Ctx} (hb : Base C0 C) (h : Rep C V s H a w) {d : Deferred} {ds : List Deferred} {r : Nat} (ha : a.defers = d :: ds) (hm : markOf d = some r) :
    (Instr.takeDeferred r).run P w = .ok [] (w.putObj r (.deferred none)) ∧ ∃ C', Base C0 C' ∧ Rep C' V s H { a with defers := ds } (w.putObj r (.deferred none)) := by
  have h0 := h.dfr
  rw [ha] at h0
  obtain ⟨q1, q2, q3, q4⟩ := h0
  rw [List.filter_cons, hm] at q1
  rw [List.filterMap_cons, hm] at q2 q3
  simp only [Option.isNone_some, Bool.false_eq_true, if_false] at q1
  obtain ⟨m1, m2, m3, m4⟩ := q3 r (List.mem_cons_self ..)
  obtain ⟨hnd, hnd'⟩ := List.nodup_cons.1 q2
  have hw : w.heap[r]? = some (.deferred (some [])) := by rw [(h.other r m2 m3).1]; exact m4
  refine ⟨run_takeDeferred hw, ⟨C.w0.putObj r (.deferred none), C.H0, C.lo⟩, ?_, ?_⟩
  · obtain ⟨hc, hl⟩ := hb
    refine ⟨⟨hc.lo, hc.os, ⟨hc.tape.eq, hc.tape.dr⟩, hc.output, by simpa using hc.size, fun b hb e => ?_⟩, hl⟩
    obtain ⟨k1, k2⟩ := hc.other b hb e
    refine ⟨?_, k2⟩
    simp only
    rw [World.putObj_heap_other (fun q => by subst q; rw [hc.lo] at m1; omega)]
    exact k1
  · have hHL := (h.other r m2 m3).2
    have hne : ∀ {b : Nat} {o' : Obj}, H b = some o' → b ≠ r := fun e q => by subst q; rw [hHL] at e; cases e
    have hpr : ∀ d o' b, look s.objs d = some o' → privB V d o' = some b → b ≠ r := fun d o' b e e' q => by
      subst q
      rcases (h.priv d o' b e e').2.1 with q | q
      · omega
      · exact q m3
    refine { env := h.env, len := h.len, dfr := ?_, sub := fun b o' e => ?_, objs := ?_, priv := ?_, dist := h.dist, os := h.os, tape := ⟨h.tape.eq, h.tape.dr⟩, output := h.output, size := ?_, other := ?_ }
    · refine ⟨q1, hnd', fun r' hr' => ?_, by simpa using q4⟩
      obtain ⟨k1, k2, k3, k4⟩ := q3 r' (List.mem_cons_of_mem _ hr')
      exact ⟨k1, by simpa using k2, k3, by rw [World.putObj_heap_other (fun q => by subst q; exact hnd hr')]; exact k4⟩
    · rw [World.putObj_heap_other (hne e)]; exact h.sub b o' e
    · intro d o' e
      have ho := h.objs d o' e
      cases o' with
      | box ty l =>
        obtain ⟨cs, k1, k2⟩ := ho
        exact ⟨cs, k1, by rw [World.putObj_heap_other (hpr d _ _ e rfl)]; exact k2⟩
      | row ty sz es =>
        rcases ho with k | ⟨b, o1, cap, c, k1, k2, k3⟩
        · exact .inl k
        · refine .inr ⟨b, o1, cap, c, k1, ?_, k3⟩
          rw [World.putObj_heap_other (hpr d _ b e (by unfold privB; rw [k1]; rfl))]; exact k2
    · intro d o' b e e'
      obtain ⟨k1, k2, k3⟩ := h.priv d o' b e e'
      exact ⟨k1, by simpa using k2, by simpa using k3⟩
    · simpa using h.size
    · intro b hb' e
      have hb2 : b < C.w0.heap.size := by simpa using hb'
      obtain ⟨k1, k2⟩ := h.other b hb2 e
      refine ⟨?_, k2⟩
      by_cases q : b = r
      · subst q
        rw [World.putObj_heap_same (Nat.lt_of_lt_of_le hb2 h.size), World.putObj_heap_same hb2]
      · rw [World.putObj_heap_other q, World.putObj_heap_other q]; exact k1
/-- Marks go, up to a deferred call. -/
theorem leave_marks {C0 : Ctx} {n : Nat} {fn : Func} {R : Ending → World → Prop} {u : FrameMode} (hu : u ≠ .run) : ∀ (ds : List Deferred) {C : Ctx} {a : Act} {w : World}, a.defers = ds → Base C0 C → Rep C V s H a w →
    (∀ C' a' w', Base C0 C' → Rep C' V s H a' w' → a'.tmps = a.tmps → (a'.defers = [] ∨ ∃ d r, a'.defers = d :: r ∧ markOf d = none) → LeavesInM (FX none) n P fn a.tmps R a'.defers u w') →
    LeavesInM (FX none) n P fn a.tmps R ds u w
  | [], C, a, w, ha, hb, h, hK => by
    have := hK C a w hb h rfl (.inl ha)
    rw [ha] at this; exact this
  | d :: ds, C, a, w, ha, hb, h, hK => by
    cases hm : markOf d with
    | none =>
      have := hK C a w hb h rfl (.inr ⟨d, ds, ha, hm⟩)
      rw [ha] at this; exact this
    | some r =>
      obtain ⟨h1, C', hb', h2⟩ := rep_mark (P := P) hb h ha hm
      refine ⟨hu, .inl ⟨r, _, ?_, h1, ?_⟩⟩
      · unfold markOf at hm
        split at hm
        · cases hm; assumption
        · cases hm
      · exact leave_marks hu ds (a := { a with defers := ds }) rfl hb' h2 hK
theorem backK_dfr : ∀ (ls : List Lend) {s : St} {H : Heap} {K : St → Heap → Prop}, backK P ls s H K → backK P ls s H fun s' H' => s'.dfr = s.dfr ∧ K s' H'
  | [], s, H, K, h => ⟨rfl, h⟩
  | ⟨d, v, k⟩ :: r, s, H, K, h => by
    cases k with
    | row ty sz =>
      simp only [backK] at h ⊢
      obtain ⟨es, h1, h2⟩ := h
      exact ⟨es, h1, backK_dfr r h2⟩
    | box ty =>
      simp only [backK] at h ⊢
      split at h
      · exact exSegs_none _ h fun l _ ⟨h1, h2⟩ => ⟨h1, backK_dfr r h2⟩
      · exact h.elim
    | gone => simp only [backK] at h ⊢; exact backK_dfr r h
theorem leave0 {C0 : Ctx} {n : Nat} {fn : Func} {R : Ending → Heap → Prop} (hb : Base C0 C) (h : Rep C V s H a w) (hd : s.dfr = []) (hk : leaveR P fn R s H) :
    LeavesInM (FX none) n P fn a.tmps (fun e w' => ∃ H', Step C0.H0 C0.w0 H' w' ∧ R e H') a.defers .returning w := by
  refine leave_marks (by simp) _ rfl hb h fun C' a' w' hb' h' ht hcase => ?_
  have hnil : a'.defers = [] := by
    rcases hcase with q | ⟨d, r, q, hm⟩
    · exact q
    · have := h'.dfr.real
      rw [hd, q, List.filter_cons, hm, Option.isNone_none, if_pos rfl] at this
      cases this
  rw [hnil]
  unfold leaveR at hk
  obtain ⟨xs, ys, h1, h2, h3, h4⟩ := resK_sound h' _ hk
  obtain ⟨s1, Hl, ls, h5, h6, -⟩ := lendK_sound xs ys s H h' h2 h3 h1
  rw [ht] at h4
  exact ⟨_, results_run h4, Hl, base_ends hb' h6, h5⟩
theorem leaveP {C0 : Ctx} {n : Nat} {fn : Func} {R : Ending → Heap → Prop} {ch : List PanicEntry} (hb : Base C0 C) (h : Rep C V s H a w) (hd : s.dfr = []) (hk : R (.panicked ch) H) :
    LeavesInM (FX none) n P fn a.tmps (fun e w' => ∃ H', Step C0.H0 C0.w0 H' w' ∧ R e H') a.defers (.panicking ch) w := by
  refine leave_marks (by simp) _ rfl hb h fun C' a' w' hb' h' ht hcase => ?_
  have hnil : a'.defers = [] := by
    rcases hcase with q | ⟨d, r, q, hm⟩
    · exact q
    · have := h'.dfr.real
      rw [hd, q, List.filter_cons, hm, Option.isNone_none, if_pos rfl] at this
      cases this
  rw [hnil]
  exact ⟨H, base_ends hb' h', hk⟩
theorem leaveK_sound {C0 : Ctx} {n : Nat} (hb : Base C0 C) (h : Rep C V s H a w) {fn : Func} {R : Ending → Heap → Prop} (hk : leaveK P fn R s H) :
    LeavesInM (FX none) n P fn a.tmps (fun e w' => ∃ H', Step C0.H0 C0.w0 H' w' ∧ R e H') a.defers .returning w := by
  unfold leaveK at hk
  split at hk
  · rename_i hd
    exact leave0 hb h hd hk
  · rename_i f sites hd
    refine leave_marks (by simp) _ rfl hb h fun C' a' w' hb' h' ht hcase => ?_
    rcases hcase with q | ⟨d, r, q, hm⟩
    · have := h'.dfr.real
      rw [hd, q] at this; cases this
    · obtain ⟨h1, rfl⟩ := lend_dfr h' hd q hm
      rw [q]
      obtain ⟨s1, Hl, ls, hk, h3, hL⟩ := lendCaps_sound _ _ _ h1 hk
      obtain ⟨hc, hk⟩ := hk
      refine ⟨by simp, .inr ⟨by simp [FX, Fence.wide], _, _, f, ((sites.map Cap.b).map (Cap.real V)).toArray, rfl, ?_, fun _ _ => trivial, ?_⟩⟩
      · simp only [invoke]
        have e1 : ((sites.map Cap.b).map (Cap.real V)).toArray ++ (#[] : Array Value) = ((sites.map Cap.b).map (Cap.real V)).toArray := by apply Array.ext'; simp
        rw [e1]
        exact callable_run hc _
      · refine ⟨trivial, fun c cs hcm _ => ?_⟩
        obtain ⟨e, u', w2, fr, ⟨H', st, ⟨v, rfl⟩, hset, hbk⟩, g2⟩ := (hk w' h3.sub).2 c cs hcm (room_wide _)
        refine ⟨_, u', w2, fr, ?_, g2⟩
        obtain ⟨s'', H'', ⟨hd2, hk⟩, h5⟩ := backK_sound ls s1 H' (rep_step h3 st) hL.ok (backK_dfr ls hbk)
        show LeavesInM (FX none) n P fn a.tmps _ r (settle u') w2
        rw [hset, ← ht]
        exact leave0 (a := { a' with defers := r }) hb' h5 (by rw [hd2, hL.dfr]) hk
  · exact hk.elim
theorem panK_sound {C0 : Ctx} {n : Nat} (hb : Base C0 C) (h : Rep C V s H a w) {fn : Func} {R : Ending → Heap → Prop} {ch : List PanicEntry} (hk : panK P fn R ch s H) :
    LeavesInM (FX none) n P fn a.tmps (fun e w' => ∃ H', Step C0.H0 C0.w0 H' w' ∧ R e H') a.defers (.panicking ch) w := by
  unfold panK at hk
  split at hk
  · rename_i hd
    exact leaveP hb h hd hk
  · rename_i f sites hd
    refine leave_marks (by simp) _ rfl hb h fun C' a' w' hb' h' ht hcase => ?_
    rcases hcase with q | ⟨d, r, q, hm⟩
    · have := h'.dfr.real
      rw [hd, q] at this; cases this
    · obtain ⟨h1, rfl⟩ := lend_dfr h' hd q hm
      rw [q]
      obtain ⟨s1, Hl, ls, hk, h3, hL⟩ := lendCaps_sound _ _ _ h1 hk
      obtain ⟨hc, hk⟩ := hk
      refine ⟨by simp, .inr ⟨by simp [FX, Fence.wide], _, _, f, ((sites.map Cap.b).map (Cap.real V)).toArray, rfl, ?_, fun _ _ => trivial, ?_⟩⟩
      · simp only [invoke]
        have e1 : ((sites.map Cap.b).map (Cap.real V)).toArray ++ (#[] : Array Value) = ((sites.map Cap.b).map (Cap.real V)).toArray := by apply Array.ext'; simp
        rw [e1]
        exact callable_run hc _
      · refine ⟨trivial, fun c cs hcm _ => ?_⟩
        obtain ⟨e, u', w2, fr, ⟨H', st, ⟨v, rfl⟩, hbk⟩, g2⟩ := (hk w' h3.sub).2 c cs hcm (room_wide _)
        refine ⟨_, u', w2, fr, ?_, g2⟩
        show LeavesInM (FX none) n P fn a.tmps _ r (settle u') w2
        rcases hbk with ⟨hset, hbk⟩ | ⟨c', hset, hbk⟩
        · obtain ⟨s'', H'', ⟨hd2, hk⟩, h5⟩ := backK_sound ls s1 H' (rep_step h3 st) hL.ok (backK_dfr ls hbk)
          rw [hset, ← ht]
          exact leave0 (a := { a' with defers := r }) hb' h5 (by rw [hd2, hL.dfr]) hk
        · rw [hset, ← ht]
          exact leaveP (a := { a' with defers := r }) hb' (rep_step h3 st) (by rw [hL.dfr]) hbk
  · exact hk.elim
/-- The arguments as the function finds them. -/
def argsR : List SV → List Value → Prop
  | [], [] => True
  | x :: r, y :: l => (∀ V, x.rep V y) ∧ argsR r l
  | _, _ => False
theorem argsR_get : ∀ {l : List SV} {r : List Value}, argsR l r → l.length = r.length ∧ ∀ (V : Vl) (i : Nat) (x : SV) (y : Value), l[i]? = some x → r[i]? = some y → x.rep V y
  | [], [], _ => ⟨rfl, by simp⟩
  | x :: l, y :: r, h => by
    obtain ⟨h1, h2⟩ := argsR_get h.2
    refine ⟨by simp [h1], fun V i x' y' hx hy => ?_⟩
    cases i with
    | zero => simp at hx hy; subst hx hy; exact h.1 V
    | succ i => exact h2 V i x' y' (by simpa using hx) (by simpa using hy)
  | [], _ :: _, h => h.elim
  | _ :: _, [], h => h.elim
theorem badN_len : ∀ n, (badN n).length = n
  | 0 => rfl
  | n + 1 => by simp [badN, badN_len n]
theorem badN_get : ∀ (n i : Nat) (x : SV), (badN n)[i]? = some x → x = SV.c SC.bad
  | 0, i, x, h => by simp [badN] at h
  | n + 1, 0, x, h => by simp [badN] at h; exact h.symm
  | n + 1, i + 1, x, h => badN_get n i x (by simpa [badN] using h)
/-- A function's contract from what its body asks. -/
theorem spec_of_vc {f : FuncId} {fn : Func} {hs : Hints} {args : List SV} {vs : List Value} {H : Heap} {R : Ending → Heap → Prop} (hf : P.funcs[f]? = some fn) (hc : callable P f = true)
    (hE : ∀ t, memN hs.eqs t = true → EqOK P t) (ha : argsR args vs) (h : vcFun P hs fn args R H) : Meets P f vs H R := by
  refine ⟨hc, ?_⟩
  intro w hH
  unfold vcFun at h
  split at h
  · rename_i c hb
    obtain ⟨hlen, hargs⟩ := argsR_get ha
    refine (callsIn_wide (n := 0)).1 (callsIn_of_wp_marks hf hb trivial ?_)
    let C : Ctx := ⟨w, H, w.heap.size⟩
    have hrep : Rep C ⟨fun _ => 0, fun _ => undef⟩ ⟨args ++ badN (fn.ntmps - args.length), [], []⟩ H { tmps := vs.toArray ++ Array.replicate (fn.ntmps - vs.toArray.size) undef, defers := [] } w := by
      refine { env := ?_, len := ?_, dfr := .nil (Nat.le_refl _), sub := hH, objs := by simp [look], priv := by simp [look], dist := by simp [look], os := rfl, tape := Tp.refl _, output := rfl, size := Nat.le_refl _, other := fun b _ e => ⟨rfl, e⟩ }
      · intro t x hx
        rw [nth_eq] at hx
        by_cases ht : t < args.length
        · rw [List.getElem?_append_left ht] at hx
          have ht' : t < vs.length := by omega
          refine hargs _ t x _ hx ?_
          rw [Array.getD_eq_getD_getElem?, Array.getElem?_append_left (by simpa using ht')]
          simp [ht']
        · rw [List.getElem?_append_right (by omega)] at hx
          have := badN_get _ _ _ hx
          subst this
          trivial
      · simp [badN_len]; omega
    refine wpIn_mono (vc_sound (ro := none) (m := false) hE c (.inl ⟨rfl, rfl⟩) hrep h) ?_
    rintro e a w' ⟨C', V, s, H', ⟨hc, -⟩, hr, hq⟩
    have hb0 : Base C C' := ⟨hc, rfl⟩
    cases e with
    | ret => exact leaveK_sound hb0 hr hq
    | normal => exact leaveK_sound hb0 hr hq
    | panic ch => exact panK_sound hb0 hr hq
    | exit i => exact hq.elim
    | goto i => exact hq.elim
    | outgrown => exact hq.elim
  · exact h.elim
end
end Sx

set_option linter.unusedVariables false
set_option linter.unusedSimpArgs false
namespace Sx
open Go Go.ChangeShapes Go.WideShapes Go.RowKit
set_option linter.unusedSectionVars false
variable [Dr]

/-- All of a world's memory as what is known. -/
def full (w : World) : Heap := fun b => w.heap[b]?
def Told (W : World) (e : Ending) (H' : Heap) : Prop := e = .returned (.bool true) ∧ full W ≤ H'
theorem calls_of_spec {P : Program} {f : FuncId} {vs : List Value} {W : World} (h : Meets P f vs (full W) (Told W)) :
    Calls P f vs.toArray W fun e W' => e = .returned (.bool true) ∧ Below W.heap.size W W' := by
  refine (h.2 W fun b o e => e).mono ?_
  rintro e W' ⟨H', st, rfl, hle⟩
  refine ⟨rfl, st.os, st.tape.eq, st.output, st.size, fun k hk => ?_⟩
  have : W.heap[k]? = some W.heap[k] := Array.getElem?_eq_getElem hk
  rw [this]
  exact st.sub k _ (hle k _ this)
def rowedB (P : Program) (ts : List TypeId) : Bool := ts.all fun t => P.readableRec t && decide (t < P.types.size)
theorem trodAll_stays {H : Type} {enc : TypeId × Value → H} {P : Program} (hl : laidOutB P = true) {W W' : World} (hb : Below W.heap.size W W') : ∀ {ts : List TypeId} {vs : List Value} {ds : List (DataW H)} {ps : List MemPlace},
    rowedB P ts = true → DataW.TrodAll enc P W 0 (fun _ => true) true ts vs ds ps → DataW.TrodAll enc P W' 0 (fun b => decide (b < W.heap.size)) true ts vs ds ps
  | [], [], [], ps, _, h => h
  | t :: ts, v :: vs, d :: ds, ps, hr, h => by
    obtain ⟨p, q, h1, h2, rfl⟩ := h
    simp only [rowedB, List.all_cons, Bool.and_eq_true, decide_eq_true_eq] at hr
    obtain ⟨n, hn⟩ := h1
    exact ⟨p, q, Below.trod hl hr.1.1 hr.1.2 ⟨n, hn⟩ hb (DataW.trod_lt n _ _ _ hn), trodAll_stays hl hb hr.2 h2, rfl⟩
  | [], _ :: _, _, _, _, h => h.elim
  | [], [], _ :: _, _, _, h => h.elim
  | _ :: _, [], _, _, _, h => h.elim
  | _ :: _, _ :: _, [], _, _, h => h.elim
theorem trodAll_len {H : Type} {enc : TypeId × Value → H} {P : Program} {w : World} {base : Nat} {spare : Nat → Bool} {held : Bool} : ∀ {ts : List TypeId} {vs : List Value} {ds : List (DataW H)} {ps : List MemPlace},
    DataW.TrodAll enc P w base spare held ts vs ds ps → vs.length = ts.length ∧ ds.length = ts.length
  | [], [], [], ps, h => ⟨rfl, rfl⟩
  | t :: ts, v :: vs, d :: ds, ps, h => by
    obtain ⟨p, q, h1, h2, rfl⟩ := h
    obtain ⟨a, b⟩ := trodAll_len h2
    simp [a, b]
  | [], _ :: _, _, _, h => h.elim
  | [], [], _ :: _, _, h => h.elim
  | _ :: _, [], _, _, h => h.elim
  | _ :: _, _ :: _, [], _, h => h.elim

/-- The row of a law that returns true and leaves its arguments as they were, from its contract. -/
theorem lifted_of {H : Type} {enc : TypeId × Value → H} {C : Checked} {os : Os} {f : FuncId} {fn : Func} {s : ChangeSpec} {conds : List PathCond} {b : TypeId}
    (own : ownKnob C.prog.godebug = none) (started : os.Started) (noInit : C.prog.inits.idxOf? f = none) (hfn : C.prog.funcs[f]? = some fn)
    (witness : ∃ (w : World) (tape : Tape) (i : Input), w.os = os ∧ (w.forCall tape i).Shaped C.prog ∧ i.vars = [] ∧ Input.okWide C.prog (w.forCall tape i) .any w.heap.size f i ∧
      s.pre6 enc C.prog fn conds false (w.forCall tape i).memory i.args ∧ ({} : Assume).holds C.prog (lone (Frame.enter C.prog f i.args .normal) [] (w.forCall tape i)))
    (hl : laidOutB C.prog = true) (hok : rowedB C.prog fn.params.toList = true) (hres : fn.resultTypes = #[b]) (hb : C.prog.underlying b = some .bool)
    (hvars : s.vars = []) (hs : ∀ ds : List (DataW H), ds.length = fn.params.size → s.fn H ds = { results := [.lit (.bool true)], args := ds })
    (law : ∀ (W : World) (base : Nat) (args : Array Value) (ds : List (DataW H)) (p : List MemPlace), (∀ (j : Nat) t v, fn.params[j]? = some t → args[j]? = some v → Value.okWide C.prog W .any base t v) →
      DataW.TrodAll enc C.prog W 0 (fun _ => true) true fn.params.toList args.toList ds p →
      conds.all (PathCond.test C.prog ⟨fn.params.toList, ds, s.plain.varTypes C.prog, []⟩) = true →
      (DataW.weightsEach C.prog (fn.params.toList ++ s.plain.varTypes C.prog) (ds ++ [])).all (· ≤ reachBytes) = true →
      Meets C.prog f args.toList (full W) (Told W)) :
    ReturnsInHanded {} C os f .any (s.pre6 enc C.prog fn conds false) (s.post enc C.prog fn false true false false) := by
  refine returnsInHanded_of_change_sized own started noInit hfn witness ?_
  intro W base args ds gs before hval hW hcnd hsz _
  have hW' := hW
  obtain ⟨p, q, hA, hV, rfl, hfz, hnd⟩ := hW
  rw [hvars] at hV
  obtain rfl : gs = [] := by
    cases gs with
    | nil => rfl
    | cons x y => exact hV.elim
  have hp := calls_of_spec (law W base args ds p hval hA hcnd hsz)
  simp only [Array.toArray_toList] at hp
  refine hp.mono ?_
  rintro e W' ⟨rfl, bel⟩
  have hlen := (trodAll_len hA).2
  have e1 : s.fn H (ds ++ []) = { results := [.lit (.bool true)], args := ds } := by
    rw [List.append_nil]
    exact hs ds (by simpa using hlen)
  refine ⟨_, rfl, ds, [], _, [], p, [], hW', ?_, ?_, ?_, bel.frame _, fun h => by cases h⟩
  · rw [e1, hres]
    exact trodAll_mk1 (shut_bool hb _)
  · rw [e1]
    exact trodAll_stays hl bel hok hA
  · rw [e1, hvars]
    rfl
theorem br {p : Bool} {A B : Prop} (h1 : p = true → A) (h2 : p = false → B) : Br p A B := by cases p <;> simp_all [Br]
@[simp] theorem br_true {A B : Prop} : Br true A B = A := rfl
@[simp] theorem br_false {A B : Prop} : Br false A B = B := rfl
theorem spec_of {P : Program} {f : FuncId} {fn : Func} {hs : Hints} {args : List SV} {vs : List Value} {H : Heap} {R : Ending → Heap → Prop} {X : Prop} (hf : P.funcs[f]? = some fn) (hc : callable P f = true)
    (hE : ∀ t, memN hs.eqs t = true → EqOK P t) (ha : argsR args vs) (e : vcFun P hs fn args R H = X) (h : X) : Meets P f vs H R := spec_of_vc hf hc hE ha (e ▸ h)
end Sx

set_option linter.unusedVariables false
set_option linter.unusedSimpArgs false
namespace Sx
open Go
set_option linter.unusedSectionVars false
variable [Dr]
section
variable {P : Program}
theorem items_run (w : World) (d : Nat) {e : TypeId} {k : IntKind} (he : P.underlying e = some (.int k)) (hc : P.cellsOf e = 1) (xs ys : List Int) :
    ∀ (m j : Nat), j + m = xs.length → xs.length = ys.length → (Op.eqItems (d + 1) e (P.cellsOf e) (xs.map (Value.int k)).toArray (ys.map (Value.int k)).toArray (List.range' j m)).run P w = .ok (xs.drop j == ys.drop j) w
  | 0, j, h, hl => by
    rw [List.drop_of_length_le (by omega), List.drop_of_length_le (by omega)]
    simp [Op.eqItems]
  | m + 1, j, h, hl => by
    have hp : P.plainKey e = true := by simp [Program.plainKey, he]
    have hx : ((xs.map (Value.int k)).toArray)[j]? = some (Value.int k xs[j]) := by simp [show j < xs.length by omega]
    have hy : ((ys.map (Value.int k)).toArray)[j]? = some (Value.int k ys[j]) := by simp [show j < ys.length by omega]
    have ih := items_run w d he hc xs ys m (j + 1) (by omega) hl
    have e1 : xs.drop j = xs[j] :: xs.drop (j + 1) := List.drop_eq_getElem_cons (by omega)
    have e2 : ys.drop j = ys[j] :: ys.drop (j + 1) := List.drop_eq_getElem_cons (by omega)
    rw [List.range'_succ, e1, e2]
    rw [hc] at ih
    have p1 := run_part_plain w hp hx
    have p2 := run_part_plain w hp hy
    have p3 := run_equalIn_int w d e k k xs[j] ys[j] he
    simp only [Op.eqItems, Sem.run_bind, hc, Nat.mul_one, p1, p2, Result.andThen_ok, p3]
    have e3 : (xs[j] :: xs.drop (j + 1) == ys[j] :: ys.drop (j + 1)) = ((xs[j] == ys[j]) && (xs.drop (j + 1) == ys.drop (j + 1))) := rfl
    rw [e3]
    by_cases hq : xs[j] = ys[j]
    · rw [show (xs[j] == ys[j]) = true by simpa using hq]
      simp [ih]
    · rw [show (xs[j] == ys[j]) = false by simpa using hq]
      simp
/-! ### Slices that are known -/
theorem row_slice {H : Heap} {v : Value} {ty sz : Nat} {es : List (List Value)} (h : RowAt H v ty sz es) : SliceAt H v sz es := by
  rcases h with ⟨rfl, rfl⟩ | ⟨b, o, cap, c, rfl, h1, h2, h3, h4, h5, h6⟩
  · exact ⟨none, 0, 0, rfl, rfl, Nat.le_refl _, by simp, by simp, by simp⟩
  · refine ⟨_, _, _, rfl, rfl, h2, h4, h6, fun i e he => ⟨_, rfl, rfl, fun j x hx => ?_⟩⟩
    have hi : i < es.length := (List.getElem?_eq_some_iff.1 he).1
    have hle := h4 e (List.mem_of_getElem? he)
    have hj : j < sz := by have := (List.getElem?_eq_some_iff.1 hx).1; omega
    have hm : (i + 1) * sz ≤ es.length * sz := Nat.mul_le_mul_right _ hi
    rw [Nat.add_mul, Nat.one_mul] at hm
    have hf := flatten_get h4 he hj
    rw [← h5, List.getElem?_take_of_lt (by omega), List.getElem?_drop, hx] at hf
    rw [add_spot (by rw [add_spot rfl]), add_spot rfl]
    unfold Heap.cell?
    simp only [h1]
    have : o + i * sz + j = o + (i * sz + j) := by omega
    rw [this]
    simpa using hf
theorem slice_le {H H' : Heap} {v : Value} {sz : Nat} {es : List (List Value)} (h : SliceAt H v sz es) (hle : H ≤ H') : SliceAt H' v sz es := by
  obtain ⟨a, n, c, h1, h2, h3, h4, h5, h6⟩ := h
  refine ⟨a, n, c, h1, h2, h3, h4, h5, fun i e he => ?_⟩
  obtain ⟨A, g1, g2, g3⟩ := h6 i e he
  refine ⟨A, g1, g2, fun j x hx => ?_⟩
  have := g3 j x hx
  unfold Heap.cell? at *
  split at this
  · rename_i q1 q2 q3 q4
    rw [hle _ _ q4]
    exact this
  · cases this
/-! ### Opening an array of numbers -/
end
end Sx

set_option linter.unusedVariables false
set_option linter.unusedSimpArgs false
namespace Sx
open Go
set_option linter.unusedSectionVars false
variable [Dr]
section
variable {P : Program}
def eqB (P : Program) : Nat → TypeId → Bool
  | 0, _ => false
  | n + 1, t => match P.underlying t with
    | some (.int _) | some .bool | some .string => true
    | some (.array m e) => match P.underlying e, P.info? e with
      | some (.int _), some _ => Nat.beq (P.cellsOf e) 1
      | _, _ => false
    | some (.struct fs) => !P.stoodInHeld t && (fs.toList.foldr (fun f (r : Nat → Bool) off => f.name != "_" && Nat.beq f.offset off && eqB P n f.type && (match P.info? f.type, kindsOf P n f.type with
        | some i, some ks => Nat.beq i.size (skLen ks) && r (off + i.size)
        | _, _ => false)) (fun _ => true)) 0
    | _ => false
def eqC : Seg → Seg → Option Bool
  | .c (.v (.int k a)), .c (.v (.int k' b)) => match sameK k k' with | true => some (a == b) | false => none
  | .c (.v (.bool a)), .c (.v (.bool b)) => some (a == b)
  | .c (.v (.string a)), .c (.v (.string b)) => some (a == b)
  | .ints k _ a, .ints k' _ b => match sameK k k' with | true => some (a == b) | false => none
  | _, _ => none
theorem eqR_cons (x y : Seg) (l l' : List Seg) (acc : Option Bool) : eqR (x :: l) (y :: l') acc = match eqC x y with | some q => eqR l l' (some (andO acc q)) | none => none := by
  fun_cases eqC x y
  all_goals first
    | (simp_all [eqR, eqC]; done)
    | skip
  all_goals
    rename_i h1 h2 h3 h4
    have hn : eqC x y = none := by
      unfold eqC; split
      · exact (h1 _ _ _ _ rfl rfl).elim
      · exact (h2 _ _ rfl rfl).elim
      · exact (h3 _ _ rfl rfl).elim
      · exact (h4 _ _ _ _ _ _ rfl rfl).elim
      · rfl
    show eqR (x :: l) (y :: l') acc = none
    unfold eqR
    split
    · rename_i e1 e2; cases e1
    · rename_i e1 e2; cases e1; cases e2; exact (h1 _ _ _ _ rfl rfl).elim
    · rename_i e1 e2; cases e1; cases e2; exact (h2 _ _ rfl rfl).elim
    · rename_i e1 e2; cases e1; cases e2; exact (h3 _ _ rfl rfl).elim
    · rename_i e1 e2; cases e1; cases e2; exact (h4 _ _ _ _ _ _ rfl rfl).elim
    · rfl
def shapeC : SK → Seg → Bool
  | .c (.int k), .c (.v (.int k' _)) => sameK k k'
  | .c .bool, .c (.v (.bool _)) => true
  | .c .str, .c (.v (.string _)) => true
  | .ints k n, .ints k' m _ => sameK k k' && Nat.beq n m
  | _, _ => false
theorem shape_cons (k : SK) (x : Seg) (ks : List SK) (l : List Seg) : shapeOK (k :: ks) (x :: l) = (shapeC k x && shapeOK ks l) := by
  unfold shapeC
  split
  · rename_i k k' a; simp only [shapeOK]; cases sameK k k' <;> rfl
  · rfl
  · rfl
  · rename_i k n k' m a; simp only [shapeOK]; cases sameK k k' <;> cases Nat.beq n m <;> rfl
  · rename_i h1 h2 h3 h4
    unfold shapeOK
    split
    · rename_i e1 e2; cases e1
    · rename_i e1 e2; cases e1; cases e2; exact (h1 _ _ _ rfl rfl).elim
    · rename_i e1 e2; cases e1; cases e2; exact (h2 _ rfl rfl).elim
    · rename_i e1 e2; cases e1; cases e2; exact (h3 _ rfl rfl).elim
    · rename_i e1 e2; cases e1; cases e2; exact (h4 _ _ _ _ _ rfl rfl).elim
    · rfl
theorem shape_one {k : SK} {l : List Seg} (h : shapeOK [k] l = true) : ∃ x, l = [x] ∧ shapeC k x = true := by
  cases l with
  | nil => cases k with
    | c k => cases k <;> simp [shapeOK] at h
    | ints _ _ => simp [shapeOK] at h
  | cons x l =>
    rw [shape_cons, Bool.and_eq_true] at h
    cases l with
    | nil => exact ⟨x, rfl, h.1⟩
    | cons y l => simp [shapeOK] at h
theorem sc_int {k : IntKind} {x : Seg} (h : shapeC (.c (.int k)) x = true) : ∃ a, x = .c (.v (.int k a)) := by
  unfold shapeC at h
  split at h
  · rename_i k1 k2 a e1
    have := sameK_eq h; subst this
    cases e1
    exact ⟨a, rfl⟩
  all_goals first | (rename_i e1; cases e1; done) | exact absurd h Bool.false_ne_true
theorem sc_bool {x : Seg} (h : shapeC (.c .bool) x = true) : ∃ a, x = .c (.v (.bool a)) := by
  unfold shapeC at h
  split at h
  all_goals first | exact ⟨_, rfl⟩ | (rename_i e1; cases e1; done) | exact absurd h Bool.false_ne_true
theorem sc_str {x : Seg} (h : shapeC (.c .str) x = true) : ∃ a, x = .c (.v (.string a)) := by
  unfold shapeC at h
  split at h
  all_goals first | exact ⟨_, rfl⟩ | (rename_i e1; cases e1; done) | exact absurd h Bool.false_ne_true
theorem sc_ints {k : IntKind} {n : Nat} {x : Seg} (h : shapeC (.ints k n) x = true) : ∃ a, x = .ints k n a := by
  unfold shapeC at h
  split at h
  all_goals first | (rename_i e1; cases e1; done) | exact absurd h Bool.false_ne_true | skip
  rename_i k1 n1 k2 m2 a e1
  cases e1
  simp only [Bool.and_eq_true] at h
  have := sameK_eq h.1; subst this
  have := nbt h.2; subst this
  exact ⟨a, rfl⟩
theorem sameK_refl (k : IntKind) : sameK k k = true := by cases k <;> rfl
theorem kinds_one1 {n : Nat} {t : TypeId} {ks : List SK} (h : kindsOf P n t = some ks) (ha : isAggT P t = false) : ∃ k, ks = [.c k] := by
  cases n with
  | zero => simp [kindsOf] at h
  | succ n =>
    simp only [kindsOf] at h
    unfold isAggT at ha
    split at h
    all_goals first
      | (simp only [Option.some.injEq] at h; exact ⟨_, h.symm⟩)
      | (rename_i q; rw [q] at ha; cases ha)
      | cases h
theorem shape_nil {ks : List SK} (h : shapeOK ks [] = true) : ks = [] := by
  cases ks with
  | nil => rfl
  | cons k ks => cases k with
    | c k => cases k <;> simp [shapeOK] at h
    | ints _ _ => simp [shapeOK] at h
theorem shape_nil' {l : List Seg} (h : shapeOK [] l = true) : l = [] := by
  cases l with
  | nil => rfl
  | cons x l => simp [shapeOK] at h
theorem eqR_acc : ∀ (l l' : List Seg) (a : Bool), eqR l l' (some a) = (eqR l l' none).map (a && ·)
  | [], [], a => by simp [eqR]
  | x :: l, y :: l', a => by
    rw [eqR_cons, eqR_cons]
    cases eqC x y with
    | none => rfl
    | some q => simp only [andO]; rw [eqR_acc l l' (a && q), eqR_acc l l' q]; cases eqR l l' none <;> simp [Bool.and_assoc]
  | [], _ :: _, a => by simp [eqR]
  | x :: l, [], a => by simp [eqR]
theorem shape_split : ∀ (ks : List SK) {ks' : List SK} {l : List Seg}, shapeOK (ks ++ ks') l = true → ∃ l1 l2, l = l1 ++ l2 ∧ shapeOK ks l1 = true ∧ shapeOK ks' l2 = true
  | [], ks', l, h => ⟨[], l, rfl, rfl, h⟩
  | k :: ks, ks', [], h => by have := shape_nil h; simp at this
  | k :: ks, ks', x :: l, h => by
    rw [List.cons_append, shape_cons, Bool.and_eq_true] at h
    obtain ⟨l1, l2, rfl, h1, h2⟩ := shape_split ks h.2
    exact ⟨x :: l1, l2, rfl, by rw [shape_cons, h.1, h1]; rfl, h2⟩
theorem flat_append : ∀ (l l' : List Seg), flat (l ++ l') = match flat l, flat l' with | some a, some b => some (a ++ b) | _, _ => none
  | [], l' => by simp only [List.nil_append, flat]; cases flat l' <;> rfl
  | .c x :: l, l' => by
    cases x <;> simp only [List.cons_append, flat, flat_append l l'] <;> cases flat l <;> cases flat l' <;> rfl
  | .ints k n xs :: l, l' => by
    simp only [List.cons_append, flat, flat_append l l']
    cases flat l <;> cases flat l' <;> simp
theorem intLens_append : ∀ (l l' : List Seg), intLens (l ++ l') ↔ intLens l ∧ intLens l'
  | [], l' => by simp [intLens]
  | .c x :: l, l' => by simp only [List.cons_append, intLens]; exact intLens_append l l'
  | .ints k n xs :: l, l' => by simp only [List.cons_append, intLens, intLens_append l l', and_assoc]
theorem shape_flat : ∀ (ks : List SK) {l : List Seg}, shapeOK ks l = true → intLens l → ∃ cs, flat l = some cs ∧ cs.length = skLen ks
  | [], l, h, hl => by have := shape_nil' h; subst this; exact ⟨[], rfl, rfl⟩
  | k :: ks, [], h, hl => by have := shape_nil h; cases this
  | k :: ks, x :: l, h, hl => by
    rw [shape_cons, Bool.and_eq_true] at h
    obtain ⟨h0, h⟩ := h
    unfold shapeC at h0
    split at h0
    · obtain ⟨cs, h1, h2⟩ := shape_flat ks h hl; exact ⟨_, by simp only [flat, h1]; rfl, by simp [skLen, h2]⟩
    · obtain ⟨cs, h1, h2⟩ := shape_flat ks h hl; exact ⟨_, by simp only [flat, h1]; rfl, by simp [skLen, h2]⟩
    · obtain ⟨cs, h1, h2⟩ := shape_flat ks h hl; exact ⟨_, by simp only [flat, h1]; rfl, by simp [skLen, h2]⟩
    · rename_i k1 n1 k2 m2 xs
      simp only [Bool.and_eq_true] at h0
      have := nbt h0.2; subst this
      obtain ⟨cs, h1, h2⟩ := shape_flat ks h hl.2; exact ⟨_, by simp only [flat, h1]; rfl, by simp [skLen, h2, hl.1]⟩
    · cases h0
theorem eqC_some {k : SK} {x y : Seg} (h : shapeC k x = true) (h' : shapeC k y = true) : ∃ q, eqC x y = some q := by
  unfold shapeC at h h'
  split at h <;> split at h' <;> rename_i e <;> try (cases e)
  all_goals first
    | (have e1 := sameK_eq h; have e2 := sameK_eq h'; subst e1; subst e2; exact ⟨_, by simp only [eqC, h]; rfl⟩)
    | exact ⟨_, rfl⟩
    | (simp only [Bool.and_eq_true] at h h'; have e1 := sameK_eq h.1; have e2 := sameK_eq h'.1; subst e1; subst e2; exact ⟨_, by simp only [eqC, h.1]; rfl⟩)
    | exact absurd h Bool.false_ne_true
    | exact absurd h' Bool.false_ne_true
theorem eqR_append : ∀ (ks : List SK) {l l' m m' : List Seg} {b : Bool}, shapeOK ks l = true → shapeOK ks l' = true → eqR (l ++ m) (l' ++ m') none = some b → ∃ x y, eqR l l' none = some x ∧ eqR m m' none = some y ∧ b = (x && y)
  | [], l, l', m, m', b, h, h', e => by
    have := shape_nil' h; subst this
    have := shape_nil' h'; subst this
    exact ⟨true, b, rfl, e, by simp⟩
  | k :: ks, [], l', m, m', b, h, h', e => by have := shape_nil h; cases this
  | k :: ks, x :: l, [], m, m', b, h, h', e => by have := shape_nil h'; cases this
  | k :: ks, x :: l, y :: l', m, m', b, h, h', e => by
    rw [shape_cons, Bool.and_eq_true] at h h'
    obtain ⟨q, hq⟩ := eqC_some h.1 h'.1
    rw [List.cons_append, List.cons_append, eqR_cons, hq] at e
    simp only [andO] at e
    rw [eqR_acc] at e
    cases hr : eqR (l ++ m) (l' ++ m') none with
    | none => rw [hr] at e; cases e
    | some r =>
      rw [hr] at e
      obtain ⟨x1, y1, g1, g2, rfl⟩ := eqR_append ks h.2 h'.2 hr
      refine ⟨q && x1, y1, ?_, g2, ?_⟩
      · rw [eqR_cons, hq]; simp only [andO]; rw [eqR_acc, g1]; rfl
      · simp at e; rw [← e]; simp [Bool.and_assoc]
theorem foldr_kinds {n : Nat} : ∀ (fs : List Field) {ks : List SK}, fs.foldr (fun f r => appK (kindsOf P n f.type) r) (some []) = some ks → match fs with
    | [] => ks = []
    | f :: r => ∃ k1 k2, kindsOf P n f.type = some k1 ∧ r.foldr (fun f r => appK (kindsOf P n f.type) r) (some []) = some k2 ∧ ks = k1 ++ k2
  | [], ks, h => by simpa using h.symm
  | f :: r, ks, h => by
    simp only [List.foldr_cons] at h
    cases h1 : kindsOf P n f.type with
    | none => rw [h1] at h; simp [appK] at h
    | some k1 =>
      cases h2 : r.foldr (fun f r => appK (kindsOf P n f.type) r) (some []) with
      | none => rw [h1, h2] at h; simp [appK] at h
      | some k2 =>
        rw [h1, h2] at h
        simp only [appK, Option.some.injEq] at h
        exact ⟨k1, k2, by first | rfl | exact h1, by first | rfl | exact h2, h.symm⟩
def fieldsB (P : Program) (n : Nat) (fs : List Field) : Nat → Bool := fs.foldr (fun f (r : Nat → Bool) off => f.name != "_" && Nat.beq f.offset off && eqB P n f.type && (match P.info? f.type, kindsOf P n f.type with
        | some i, some ks => Nat.beq i.size (skLen ks) && r (off + i.size)
        | _, _ => false)) (fun _ => true)
def EqRun (P : Program) (n : Nat) : Prop := ∀ (t : TypeId), eqB P n t = true → ∀ (d : Nat) {ks : List SK}, kindsOf P n t = some ks → ∀ {l l' : List Seg} {cs cs' : List Value} {b : Bool} (w : World), shapeOK ks l = true → shapeOK ks l' = true → intLens l → intLens l' →
    flat l = some cs → flat l' = some cs' → eqR l l' none = some b → (Op.equalIn (d + n + 1) t (mkVal (isAggT P t) cs) (mkVal (isAggT P t) cs')).run P w = .ok b w
theorem fields_run {n : Nat} (ih : EqRun P n) (d : Nat) (xs ys : Array Value) : ∀ (fs : List Field) (off : Nat) {ks : List SK}, fieldsB P n fs off = true → fs.foldr (fun f r => appK (kindsOf P n f.type) r) (some []) = some ks →
    ∀ {l l' : List Seg} {cs cs' : List Value} {b : Bool} (w : World), shapeOK ks l = true → shapeOK ks l' = true → intLens l → intLens l' → flat l = some cs → flat l' = some cs' → xs.toList.drop off = cs → ys.toList.drop off = cs' →
    eqR l l' none = some b → (Op.eqFields (d + n + 1) xs ys fs).run P w = .ok b w
  | [], off, ks, hB, hk, l, l', cs, cs', b, w, hl, hl', _, _, _, _, _, _, e => by
    have := foldr_kinds _ hk
    simp only at this
    subst this
    have := shape_nil' hl; subst this
    have := shape_nil' hl'; subst this
    simp only [eqR, Option.some.injEq] at e
    subst e
    rfl
  | f :: fs, off, ks, hB, hk, l, l', cs, cs', b, w, hl, hl', hn, hn', hf, hf', hx, hy, e => by
    obtain ⟨k1, k2, hk1, hk2, rfl⟩ := foldr_kinds _ hk
    simp only [fieldsB, List.foldr_cons, Bool.and_eq_true, bne_iff_ne, ne_eq] at hB
    obtain ⟨⟨⟨hname, hoff⟩, hB1⟩, hB⟩ := hB
    have hoff := nbt hoff
    rw [hk1] at hB
    split at hB
    · rename_i i ks1 hi hks1
      cases hks1
      simp only [Bool.and_eq_true] at hB
      obtain ⟨hsz, hB2⟩ := hB
      have hsz := nbt hsz
      obtain ⟨l1, l2, rfl, s1, s2⟩ := shape_split k1 hl
      obtain ⟨l1', l2', rfl, s1', s2'⟩ := shape_split k1 hl'
      rw [intLens_append] at hn hn'
      obtain ⟨c1, f1, g1⟩ := shape_flat k1 s1 hn.1
      obtain ⟨c1', f1', g1'⟩ := shape_flat k1 s1' hn'.1
      obtain ⟨c2, f2, g2⟩ := shape_flat k2 s2 hn.2
      obtain ⟨c2', f2', g2'⟩ := shape_flat k2 s2' hn'.2
      rw [flat_append, f1, f2] at hf
      rw [flat_append, f1', f2'] at hf'
      cases hf; cases hf'
      obtain ⟨x, y, e1, e2, rfl⟩ := eqR_append k1 s1 s1' e
      have r1 := ih f.type hB1 d hk1 w s1 s1' hn.1 hn'.1 f1 f1' e1
      have part : ∀ (zs : Array Value) (c d' : List Value), c.length = i.size → zs.toList.drop off = c ++ d' → ∀ w, (part f.type zs f.offset).run P w = .ok (mkVal (isAggT P f.type) c) w := by
        intro zs c d' hc hz w
        unfold Go.part
        have hagg : ∀ w, (isAgg f.type).run P w = .ok (isAggT P f.type) w := by
          intro w
          unfold isAgg isAggT
          cases hu : P.underlying f.type with
          | none =>
            exfalso
            have : eqB P n f.type = true := hB1
            cases n with
            | zero => simp [eqB] at this
            | succ n => simp [eqB, hu] at this
          | some d => cases d <;> simp [run_underlying hu]
        simp only [Sem.run_bind, hagg, Result.andThen_ok]
        cases ha : isAggT P f.type with
        | true =>
          simp only [if_true, Sem.run_bind, run_sizeT hi, Result.andThen_ok, Sem.run_pure, mkVal]
          congr 2
          apply Array.ext'
          rw [Array.toList_extract, hoff, List.extract_eq_take_drop, hz, List.take_append_of_le_length (by omega), List.take_of_length_le (by omega)]
        | false =>
          obtain ⟨k0, rfl⟩ := kinds_one1 hk1 ha
          simp only [Bool.false_eq_true, if_false]
          have hc1 : c.length = 1 := by rw [hc, hsz]; cases k0 <;> simp [skLen] <;> rfl
          obtain ⟨v, rfl⟩ := List.length_eq_one_iff.1 hc1
          have : zs[f.offset]? = some v := by
            have := congrArg (·[0]?) hz
            rw [hoff]
            simpa using this
          rw [this]
          rfl
      have p1 := part xs c1 c2 (by rw [g1, hsz]) hx
      have p2 := part ys c1' c2' (by rw [g1', hsz]) hy
      simp only [Op.eqFields]
      rw [if_pos hname]
      simp only [Sem.run_bind, p1, p2, Result.andThen_ok, r1]
      cases x with
      | false => simp
      | true =>
        simp only [Bool.not_true, Bool.false_eq_true, if_false, Bool.true_and]
        refine fields_run ih d xs ys fs (off + i.size) hB2 hk2 w s2 s2' hn.2 hn'.2 f2 f2' ?_ ?_ e2
        · rw [← List.drop_drop, hx, List.drop_append_of_le_length (by omega), List.drop_of_length_le (by omega)]; rfl
        · rw [← List.drop_drop, hy, List.drop_append_of_le_length (by omega), List.drop_of_length_le (by omega)]; rfl
    · cases hB
theorem eqB_run : ∀ n, EqRun P n
  | 0 => by intro t h; simp [eqB] at h
  | n + 1 => by
    have ih := eqB_run n
    intro t hB d ks hk l l' cs cs' b w hl hl' hn hn' hf hf' e
    simp only [eqB] at hB
    simp only [kindsOf] at hk
    split at hB
    · rename_i k hu
      have ha : isAggT P t = false := by simp [isAggT, hu]
      simp only [hu, Option.some.injEq] at hk
      subst hk
      obtain ⟨x, rfl, hx⟩ := shape_one hl
      obtain ⟨y, rfl, hy⟩ := shape_one hl'
      obtain ⟨a, rfl⟩ := sc_int hx
      obtain ⟨c, rfl⟩ := sc_int hy
      simp only [flat, Option.some.injEq] at hf hf'
      subst hf; subst hf'
      simp only [eqR, sameK_refl, andO, Option.some.injEq] at e
      subst e
      rw [ha]
      exact run_equalIn_int w (d + (n + 1)) t _ _ a c hu
    · rename_i hu
      have ha : isAggT P t = false := by simp [isAggT, hu]
      simp only [hu, Option.some.injEq] at hk
      subst hk
      obtain ⟨x, rfl, hx⟩ := shape_one hl
      obtain ⟨y, rfl, hy⟩ := shape_one hl'
      obtain ⟨a, rfl⟩ := sc_bool hx
      obtain ⟨c, rfl⟩ := sc_bool hy
      simp only [flat, Option.some.injEq] at hf hf'
      subst hf; subst hf'
      simp only [eqR, andO, Option.some.injEq] at e
      subst e
      rw [ha]
      exact run_equalIn_bool w (d + (n + 1)) t a c hu
    · rename_i hu
      have ha : isAggT P t = false := by simp [isAggT, hu]
      simp only [hu, Option.some.injEq] at hk
      subst hk
      obtain ⟨x, rfl, hx⟩ := shape_one hl
      obtain ⟨y, rfl, hy⟩ := shape_one hl'
      obtain ⟨a, rfl⟩ := sc_str hx
      obtain ⟨c, rfl⟩ := sc_str hy
      simp only [flat, Option.some.injEq] at hf hf'
      subst hf; subst hf'
      simp only [eqR, andO, Option.some.injEq] at e
      subst e
      rw [ha]
      have := run_equalIn_string w (d + (n + 1)) t a c hu
      rw [← beq_toListBytes] at this
      exact this
    · rename_i m el hu
      have ha : isAggT P t = true := by simp [isAggT, hu]
      split at hB
      · rename_i k i he hi
        have hc := nbt hB
        simp only [hu, he, Option.some.injEq] at hk
        subst hk
        obtain ⟨x, rfl, hx⟩ := shape_one hl
        obtain ⟨y, rfl, hy⟩ := shape_one hl'
        obtain ⟨xs, rfl⟩ := sc_ints hx
        obtain ⟨ys, rfl⟩ := sc_ints hy
        simp only [flat, Option.some.injEq, List.append_nil] at hf hf'
        subst hf; subst hf'
        simp only [eqR, sameK_refl, andO, Option.some.injEq] at e
        subst e
        have hxl : xs.length = m := hn.1
        have hyl : ys.length = m := hn'.1
        rw [ha]
        simp only [mkVal]
        rw [show d + (n + 1) + 1 = (d + n + 1) + 1 from rfl, run_equalIn_array w _ _ _ hu hi, List.range_eq_range', items_run w (d + n) he hc xs ys m 0 (by omega) (by omega)]
        simp
      · cases hB
    · rename_i fs hu
      have ha : isAggT P t = true := by simp [isAggT, hu]
      simp only [hu] at hk
      simp only [Bool.and_eq_true, Bool.not_eq_true'] at hB
      have hfs : fs = P.fieldsOf t := by simp [Program.fieldsOf, hu]
      rw [ha]
      simp only [mkVal]
      rw [show d + (n + 1) + 1 = (d + n + 1) + 1 from rfl, run_equalIn_struct w _ t _ _ (by rw [← hfs]; exact hu) hB.1, ← hfs]
      exact fields_run ih d _ _ fs.toList 0 hB.2 hk w hl hl' hn hn' hf hf' (by simp) (by simp) e
    · cases hB
/-- A type of that kind may be held against itself. -/
theorem eqOK_of {t : TypeId} (hg : P.eqGuardType P.depth t = false) (hb : eqB P 40 t = true) (ha : isAggT P t = true) : EqOK P t where
  guard := hg
  run := by
    intro ks hks l l' cs cs' b w hl hl' hn hn' hf hf' hr
    have := eqB_run (P := P) 40 t hb 9959 hks w hl hl' hn hn' hf hf' hr
    rw [ha] at this
    exact this
end
end Sx

set_option linter.unusedVariables false
set_option linter.unusedSimpArgs false
namespace Sx
open Go
set_option linter.unusedSectionVars false
variable [Dr]
theorem ptr {p : Option Addr} {A : Addr} {K : Addr → Prop} (e : p = some A) (h : K A) : PtrK p K := by subst e; exact h
theorem Meets.mono {P : Program} {f : FuncId} {args : List Value} {H : Heap} {R R' : Ending → Heap → Prop} (h : Meets P f args H R) (hR : ∀ e H', R e H' → R' e H') : Meets P f args H R' :=
  ⟨h.1, fun w hw => (h.2 w hw).mono fun e w' ⟨H', st, r⟩ => ⟨H', st, hR _ _ r⟩⟩
theorem has_le {H H' : Heap} {a : Addr} {l : List Value} (h : H.has a l) (hle : H ≤ H') : H'.has a l := by
  intro j x hx
  have := h j x hx
  unfold Heap.cell? at *
  split at this
  · rename_i c ty q e
    rw [hle _ _ e]
    exact this
  · cases this
theorem slice_len {H : Heap} {a : Option Addr} {n c sz : Nat} {es : List (List Value)} (h : SliceAt H (.slice a n c) sz es) : es.length = n ∧ n ≤ c := by
  obtain ⟨a', n', c', e, h1, h2, _⟩ := h
  cases e
  exact ⟨h1, h2⟩
theorem slice_get {H : Heap} {a : Option Addr} {n c sz : Nat} {es : List (List Value)} (h : SliceAt H (.slice a n c) sz es) {i : Nat} {e : List Value} (he : es[i]? = some e) : ∃ A, a = some A ∧ A.spot = none ∧ H.has (A.add (i * sz)) e := by
  obtain ⟨a', n', c', e1, h1, h2, h3, h4, h5⟩ := h
  cases e1
  exact h5 i e he
theorem slice_val {H : Heap} {v : Value} {sz : Nat} {es : List (List Value)} (h : SliceAt H v sz es) : ∃ a c, v = .slice a es.length c := by
  obtain ⟨a', n', c', rfl, rfl, _⟩ := h
  exact ⟨_, _, rfl⟩
theorem row_val {H : Heap} {v : Value} {ty sz : Nat} {es : List (List Value)} (h : RowAt H v ty sz es) : ∃ a c, v = .slice a es.length c := slice_val (row_slice h)
theorem row_len {H : Heap} {a : Option Addr} {n c ty sz : Nat} {es : List (List Value)} (h : RowAt H (.slice a n c) ty sz es) : es.length = n ∧ n ≤ c := slice_len (row_slice h)
/-- All else is as it was. -/
def Mod (v : Value) (H H' : Heap) : Prop := ∀ b, blockOf v ≠ some b → H' b = H b
theorem Mod.refl (v : Value) (H : Heap) : Mod v H H := fun _ _ => rfl
theorem Mod.trans {v : Value} {A B D : Heap} (h : Mod v A B) (h' : Mod v B D) : Mod v A D := fun b hb => (h' b hb).trans (h b hb)
theorem row_store {H : Heap} {a : Option Addr} {n c ty sz : Nat} {es : List (List Value)} (h : RowAt H (.slice a n c) ty sz es) {i : Nat} (hi : i < n) {cs : List Value} (hc : cs.length = sz) (h1 : ∀ x ∈ cs, one x = true) :
    ∃ A, a = some A ∧ ∃ cl, (H (A.add (i * sz)).block = some (.cells cl ty (0, 0)) ∧ (A.add (i * sz)).spot = none ∧ (A.add (i * sz)).off + sz ≤ cl.size) ∧
      RowAt (H.upd (A.add (i * sz)).block (.cells (writeCells cl (A.add (i * sz)).off cs) ty (0, 0))) (.slice a n c) ty sz (es.set i cs) ∧
      Mod (.slice a n c) H (H.upd (A.add (i * sz)).block (.cells (writeCells cl (A.add (i * sz)).off cs) ty (0, 0))) := by
  rcases h with ⟨e, rfl⟩ | ⟨b, o, cap, cl, e, hb, hcap, hsz, hes, hfl, hon⟩
  · cases e; omega
  · cases e
    refine ⟨⟨b, o, none⟩, rfl, cl, ?_⟩
    rw [add_spot rfl]
    have hm : (i + 1) * sz ≤ es.length * sz := Nat.mul_le_mul_right _ hi
    have hm2 : es.length * sz ≤ c * sz := Nat.mul_le_mul_right _ hcap
    rw [Nat.add_mul, Nat.one_mul] at hm
    refine ⟨⟨hb, rfl, by simp only; omega⟩, .inr ⟨b, o, c, writeCells cl (o + i * sz) cs, by simp, upd_same _ _ _, by simpa using hcap, ?_, ?_, ?_, ?_⟩, ?_⟩
    · rw [writeCells_size _ _ _ (by omega)]; exact hsz
    · intro x hx
      rcases List.mem_or_eq_of_mem_set hx with hx | rfl
      · exact hes x hx
      · exact hc
    · obtain ⟨e, he⟩ : ∃ e, es[i]? = some e := ⟨es[i], by simp⟩
      have hel := hes e (List.mem_of_getElem? he)
      have hsplit := flatten_split hes he
      rw [write_lw _ _ _ (by omega)]
      have hl : (cl.toList.drop o).length = cl.size - o := by simp
      have e1 : (lw cl.toList (o + i * sz) cs).drop o = lw (cl.toList.drop o) (i * sz) cs := by
        have e0 : cl.toList = cl.toList.take o ++ cl.toList.drop o := by simp
        have hlo : (cl.toList.take o).length = o := by simp; omega
        conv => lhs; rw [e0]
        have := lw_right (cl.toList.take o) (cl.toList.drop o) (i * sz) cs
        rw [hlo] at this
        rw [this, List.drop_append_of_le_length (by omega), List.drop_of_length_le (by omega), List.nil_append]
      rw [e1]
      have e2 : cl.toList.drop o = (cl.toList.drop o).take (es.length * sz) ++ (cl.toList.drop o).drop (es.length * sz) := (List.take_append_drop _ _).symm
      rw [e2, lw_left _ _ _ _ (by simp; omega)]
      have hlen1 : (lw ((cl.toList.drop o).take (es.length * sz)) (i * sz) cs).length = es.length * sz := by
        rw [lw_len _ _ _ (by simp; omega)]; simp; omega
      rw [List.length_set, List.take_append_of_le_length (by omega), List.take_of_length_le (by omega)]
      rw [hfl]
      have e3 := row_put hes he (off := 0) (cs := cs) (by omega)
      have e4 : lw e 0 cs = cs := by
        unfold lw
        rw [List.drop_of_length_le (by omega)]
        simp
      rw [Nat.add_zero, e4] at e3
      exact e3
    · intro x hx y hy
      rcases List.mem_or_eq_of_mem_set hx with hx | rfl
      · exact hon x hx y hy
      · exact h1 y hy
    · intro b' hb'
      simp [blockOf] at hb'
      exact upd_ne _ _ (fun e => hb' e.symm)
end Sx

set_option linter.unusedVariables false
set_option linter.unusedSimpArgs false
namespace Stb
open Go.Sort (SWO)
variable {α : Type} {lt : α → α → Bool}

def eqv (lt : α → α → Bool) (x y : α) : Bool := !lt x y && !lt y x
/-- Alike elements stand in the same order. -/
def Stab (lt : α → α → Bool) (l l' : List α) : Prop := ∀ x, l'.filter (eqv lt x) = l.filter (eqv lt x)
def Srtd (lt : α → α → Bool) (l : List α) : Prop := l.Pairwise fun x y => lt y x = false
theorem Stab.refl (l : List α) : Stab lt l l := fun _ => rfl
theorem Stab.trans {a b c : List α} (h : Stab lt a b) (h' : Stab lt b c) : Stab lt a c := fun x => (h' x).trans (h x)
theorem Stab.len {l l' : List α} (h : Stab lt l l') (hs : SWO lt) : l.length = l'.length := by
  -- by induction on the length of l, taking one class off
  suffices H : ∀ n (l l' : List α), l.length ≤ n → Stab lt l l' → l.length = l'.length from H _ l l' (Nat.le_refl _) h
  intro n
  induction n with
  | zero =>
    intro l l' hl h
    have : l = [] := List.length_eq_zero_iff.1 (by omega)
    subst this
    cases l' with
    | nil => rfl
    | cons y l' =>
      have := h y
      rw [List.filter_cons_of_pos (by simp [eqv, hs.irrefl])] at this
      simp at this
  | succ n ih =>
    intro l l' hl h
    cases l with
    | nil => cases l' with
      | nil => rfl
      | cons y l' =>
        have := h y
        rw [List.filter_cons_of_pos (by simp [eqv, hs.irrefl])] at this
        simp at this
    | cons x l =>
      have hx := h x
      have e1 : ((x :: l).filter (eqv lt x)).length + ((x :: l).filter (fun y => !eqv lt x y)).length = (x :: l).length := by
        have := List.length_eq_countP_add_countP (p := eqv lt x) (l := x :: l)
        rw [List.countP_eq_length_filter, List.countP_eq_length_filter] at this
        simp only [this]
        congr 2
        apply List.filter_congr
        intro y _
        simp
      have e2 : (l'.filter (eqv lt x)).length + (l'.filter (fun y => !eqv lt x y)).length = l'.length := by
        have := List.length_eq_countP_add_countP (p := eqv lt x) (l := l')
        rw [List.countP_eq_length_filter, List.countP_eq_length_filter] at this
        simp only [this]
        congr 2
        apply List.filter_congr
        intro y _
        simp
      have e3 : Stab lt ((x :: l).filter (fun y => !eqv lt x y)) (l'.filter (fun y => !eqv lt x y)) := by
        intro z
        rw [List.filter_filter, List.filter_filter]
        have hc : ∀ m : List α, m.filter (fun y => eqv lt z y && !eqv lt x y) = (m.filter (eqv lt z)).filter (fun y => !eqv lt x y) := by
          intro m
          rw [List.filter_filter]
          apply List.filter_congr
          intro y _
          rw [Bool.and_comm]
        rw [hc, hc, h z]
      have e4 : ((x :: l).filter (fun y => !eqv lt x y)).length ≤ n := by
        have : 1 ≤ ((x :: l).filter (eqv lt x)).length := by
          rw [List.filter_cons_of_pos (by simp [eqv, hs.irrefl])]; simp
        simp only [List.length_cons] at e1 hl
        omega
      have := ih _ _ e4 e3
      rw [← e1, ← e2, hx, this]
/-! ### The insertion sort of a list -/
/-! ### Places in lists -/
end Stb

set_option linter.unusedVariables false
set_option linter.unusedSimpArgs false
namespace Cr
open Go Sx Stb
open Go.Proofs.Try
set_option linter.unusedSectionVars false
variable [Dr]
@[simp] theorem delLs_nil (H : Heap) : delLs H [] = H := rfl
structure Pt where
  id : Int
  x : Int
  y : Int
  data : ByteArray
  deriving Inhabited, DecidableEq
@[reducible] def ptC (p : Pt) : List Value := [.int .i64 p.id, .int .u32 p.x, .int .u32 p.y, .string p.data]
abbrev ptV (p : Pt) : Value := .agg { toList := [.int .i64 p.id, .int .u32 p.x, .int .u32 p.y, .string p.data] }
abbrev tPt : Nat := 28
abbrev pts (l : List Pt) : List (List Value) := l.map ptC
abbrev vi (n : Int) : Value := .int .i64 n
theorem ptC_one (p : Pt) : ∀ x ∈ ptC p, one x = true := by intro x hx; simp at hx; rcases hx with rfl | rfl | rfl | rfl <;> rfl
theorem pr_get {H : Heap} {a : Option Addr} {n c : Nat} {l : List Pt} (h : SliceAt H (.slice a n c) 4 (pts l)) {i : Nat} {p : Pt} (he : l[i]? = some p) : ∃ A, a = some A ∧ H.has (A.add (i * 4)) (ptC p) := by
  obtain ⟨A, h1, _, h2⟩ := slice_get h (i := i) (e := ptC p) (by simp [pts, he])
  exact ⟨A, h1, h2⟩
theorem pr_put {H : Heap} {A : Addr} {n c ty : Nat} {l : List Pt} (h : RowAt H (.slice (some A) n c) ty 4 (pts l)) {i : Nat} (hi : i < n) (p : Pt) :
    ∃ cl, (H (A.add (i * 4)).block = some (.cells cl ty (0, 0)) ∧ (A.add (i * 4)).spot = none ∧ (A.add (i * 4)).off + 4 ≤ cl.size) ∧
      RowAt (H.upd (A.add (i * 4)).block (.cells (writeCells cl (A.add (i * 4)).off (ptC p)) ty (0, 0))) (.slice (some A) n c) ty 4 (pts (l.set i p)) ∧
      Mod (.slice (some A) n c) H (H.upd (A.add (i * 4)).block (.cells (writeCells cl (A.add (i * 4)).off (ptC p)) ty (0, 0))) := by
  obtain ⟨A', e, cl, h1, h2, h3⟩ := row_store h hi (cs := ptC p) rfl (ptC_one p)
  cases e
  refine ⟨cl, h1, ?_, h3⟩
  rw [pts, List.map_set]
  exact h2
theorem keep_same (G H Hl : Heap) : Keep G H Hl Hl := fun _ _ h _ => h
end Cr
