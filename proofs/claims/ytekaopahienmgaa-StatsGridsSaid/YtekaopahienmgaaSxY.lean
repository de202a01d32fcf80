/- Statements whose order is drawn: rows that are built may come up at any time. -/
import Derived.Test.YtekaopahienmgaaSxP
set_option linter.unusedVariables false
set_option linter.unusedSimpArgs false
namespace Sx
open Go
/-! ### A state, and one that is ahead of it by some rows -/
structure PdE where
  k : Nat
  d : Nat
  e : Nat
  sz : Nat
  es : List (List Value)
def OFree (l : List (Nat × AObj)) (x : Nat) : Prop := ∀ e ∈ l, e.1 ≠ x ∧ e.2.refs x = false
theorem free_iff {s : St} {x : Nat} : s.free x = true ↔ (∀ v ∈ s.env, v.refs x = false) ∧ OFree s.objs x ∧ ∀ q ∈ s.dfr, ∀ k ∈ q.sites, k ≠ x := by
  simp only [St.free, Bool.and_eq_true, Bool.not_eq_true', List.any_eq_false, Bool.or_eq_true, not_or, Bool.not_eq_true, OFree]
  constructor
  · rintro ⟨h1, h2, h3⟩
    exact ⟨h1, fun e he => ⟨fun h => by have := (h2 e he).1; rw [h] at this; simp at this, (h2 e he).2⟩, fun q hq k hk h => by have := h3 q hq k hk; rw [h] at this; simp at this⟩
  · rintro ⟨h1, h2, h3⟩
    exact ⟨h1, fun e he => ⟨nbf (h2 e he).1, (h2 e he).2⟩, fun q hq k hk => nbf (h3 q hq k hk)⟩
theorem nth_setNth2 {α : Type} (l : List α) (d x : Nat) (v : α) : nth (setNth l d v) x = if d = x ∧ d < l.length then some v else nth l x := by
  rw [setNth_eq, nth_eq, nth_eq, List.getElem?_set]
  by_cases h : d = x
  · subst h
    by_cases h2 : d < l.length <;> simp [h2]
  · simp [h]
theorem setNth_len {α : Type} (l : List α) (d : Nat) (v : α) : (setNth l d v).length = l.length := by rw [setNth_eq]; simp
structure Ext (Pd : List PdE) (s t : St) : Prop where
  len : t.env.length = s.env.length
  env : ∀ x, (∀ p ∈ Pd, p.d ≠ x) → nth t.env x = nth s.env x
  envB : ∀ p ∈ Pd, nth s.env p.d = some (.c .bad)
  envP : ∀ p ∈ Pd, nth t.env p.d = some (.c (.row p.d))
  dfr : t.dfr = s.dfr
  look : ∀ d, (∀ p ∈ Pd, p.d ≠ d) → look t.objs d = look s.objs d
  lookP : ∀ p ∈ Pd, Sx.look t.objs p.d = some (.row p.e p.sz p.es)
  objs : ∀ e ∈ s.objs, e ∈ t.objs
  freeP : ∀ p ∈ Pd, s.free p.d = true
theorem Ext.refl (s : St) : Ext [] s s := ⟨rfl, fun _ _ => rfl, by simp, by simp, rfl, fun _ _ => rfl, by simp, fun _ h => h, by simp⟩
section
variable {Pd : List PdE} {s t : St}
theorem Ext.free (h : Ext Pd s t) {x : Nat} (hx : t.free x = true) : s.free x = true := by
  rw [free_iff] at hx ⊢
  refine ⟨fun v hv => ?_, fun e he => hx.2.1 e (h.objs e he), by rw [← h.dfr]; exact hx.2.2⟩
  obtain ⟨i, hi⟩ := List.mem_iff_getElem?.1 hv
  rw [← nth_eq] at hi
  by_cases hp : ∃ p ∈ Pd, p.d = i
  · obtain ⟨p, hp, rfl⟩ := hp
    rw [h.envB p hp] at hi
    cases hi; rfl
  · have := h.env i fun p hp' e => hp ⟨p, hp', e⟩
    rw [hi, nth_eq] at this
    exact hx.1 v (List.mem_of_getElem? this)
theorem Ext.ev (h : Ext Pd s t) {x : Operand} (hx : ∀ p ∈ Pd, x ≠ .tmp p.d) : ev t x = ev s x := by
  cases x with
  | tmp u =>
    simp only [Sx.ev, St.get]
    rw [h.env u fun p hp e => hx p hp (by rw [e])]
  | _ => rfl
theorem Ext.off (h : Ext Pd s t) {d : Nat} (hd : ∀ p ∈ Pd, d ≠ p.d) {x : Nat} (hx : (∃ p ∈ Pd, p.d = x)) : d ≠ x := by
  obtain ⟨p, hp, rfl⟩ := hx
  exact hd p hp
theorem Ext.set (h : Ext Pd s t) {v : SV} (hv : ∀ p ∈ Pd, v.refs p.d = false) {d : Nat} (hd : ∀ p ∈ Pd, d ≠ p.d) : Ext Pd (s.set d v) (t.set d v) where
  len := by simp only [St.set, setNth_len]; exact h.len
  env x hx := by simp only [St.set, nth_setNth2, h.len, h.env x hx]
  envB p hp := by simp only [St.set, nth_setNth2, hd p hp, false_and, if_false]; exact h.envB p hp
  envP p hp := by simp only [St.set, nth_setNth2, hd p hp, false_and, if_false]; exact h.envP p hp
  dfr := h.dfr
  look := h.look
  lookP := h.lookP
  objs := h.objs
  freeP p hp := by
    have := free_iff.1 (h.freeP p hp)
    rw [free_iff]
    refine ⟨fun u hu => ?_, this.2⟩
    simp only [St.set, setNth_eq] at hu
    rcases List.mem_or_eq_of_mem_set hu with hu | rfl
    · exact this.1 u hu
    · exact hv p hp
theorem Ext.put (h : Ext Pd s t) {v : SV} (hv : ∀ p ∈ Pd, v.refs p.d = false) {d : Option Nat} (hd : ∀ p ∈ Pd, d ≠ some p.d) : Ext Pd (s.put d v) (t.put d v) := by
  cases d with
  | none => exact h
  | some d => exact h.set hv fun p hp e => hd p hp (by rw [e])
theorem mem_objDel {l : List (Nat × AObj)} {r : Nat} {e : Nat × AObj} : e ∈ objDel l r ↔ e ∈ l ∧ e.1 ≠ r := by
  induction l with
  | nil => simp [objDel]
  | cons x l ih =>
    obtain ⟨k, o⟩ := x
    simp only [objDel]
    split
    · rename_i hb
      have := nbt hb; subst this
      rw [ih]
      constructor
      · rintro ⟨h1, h2⟩; exact ⟨List.mem_cons_of_mem _ h1, h2⟩
      · rintro ⟨h1, h2⟩
        rcases List.mem_cons.1 h1 with rfl | h1
        · exact absurd rfl h2
        · exact ⟨h1, h2⟩
    · rename_i hb
      have hne : k ≠ r := by rintro rfl; simp at hb
      rw [List.mem_cons, ih, List.mem_cons]
      constructor
      · rintro (rfl | h)
        · exact ⟨.inl rfl, hne⟩
        · exact ⟨.inr h.1, h.2⟩
      · rintro ⟨rfl | h1, h2⟩
        · exact .inl rfl
        · exact .inr ⟨h1, h2⟩
theorem mem_delO {l : List (Nat × AObj)} {r : Option Nat} {e : Nat × AObj} : e ∈ delO l r ↔ e ∈ l ∧ r ≠ some e.1 := by
  cases r with
  | none => simp [delO]
  | some r =>
    simp only [delO, mem_objDel, ne_eq, Option.some.injEq]
    constructor <;> rintro ⟨h1, h2⟩ <;> exact ⟨h1, fun e => h2 e.symm⟩
theorem objSet_new {l : List (Nat × AObj)} {d : Nat} {o : AObj} (h : ∀ e ∈ l, e.1 ≠ d) : objSet l d o = l ++ [(d, o)] := by
  induction l with
  | nil => rfl
  | cons x l ih =>
    obtain ⟨k, u⟩ := x
    simp only [objSet]
    rw [nbf (h _ (List.mem_cons_self ..))]
    simp only [List.cons_append]
    rw [ih fun e he => h e (List.mem_cons_of_mem _ he)]
theorem look_delO {l : List (Nat × AObj)} {r : Option Nat} {d : Nat} : look (delO l r) d = if r = some d then none else look l d := by
  cases r with
  | none => simp [delO]
  | some r => simp only [delO, look_objDel, Option.some.injEq]
/-- A row is made in both. -/
theorem Ext.row (h : Ext Pd s t) {d ty sz : Nat} {es : List (List Value)} {base : Option Nat} (hf : t.free d = true) (hd : ∀ p ∈ Pd, d ≠ p.d) (hb : ∀ p ∈ Pd, base ≠ some p.d) :
    Ext Pd (St.set ⟨s.env, objSet (delO s.objs base) d (.row ty sz es), s.dfr⟩ d (.c (.row d))) (St.set ⟨t.env, objSet (delO t.objs base) d (.row ty sz es), t.dfr⟩ d (.c (.row d))) := by
  have ht := (free_iff.1 hf).2.1
  have hs := (free_iff.1 (h.free hf)).2.1
  have key : Ext Pd ⟨s.env, objSet (delO s.objs base) d (.row ty sz es), s.dfr⟩ ⟨t.env, objSet (delO t.objs base) d (.row ty sz es), t.dfr⟩ := by
    refine ⟨h.len, h.env, h.envB, h.envP, h.dfr, fun x hx => ?_, fun p hp => ?_, fun e he => ?_, fun p hp => ?_⟩
    · simp only [look_objSet, look_delO, h.look x hx]
    · simp only [look_objSet, look_delO]
      rw [if_neg (hd p hp), if_neg (hb p hp)]
      exact h.lookP p hp
    · rw [objSet_new fun e he => (ht e (mem_delO.1 he).1).1]
      simp only at he
      rw [objSet_new fun e he => (hs e (mem_delO.1 he).1).1] at he
      rcases List.mem_append.1 he with he | he
      · exact List.mem_append_left _ (mem_delO.2 ⟨h.objs e (mem_delO.1 he).1, (mem_delO.1 he).2⟩)
      · exact List.mem_append_right _ he
    · have := free_iff.1 (h.freeP p hp)
      rw [free_iff]
      refine ⟨this.1, fun e he => ?_, this.2.2⟩
      simp only at he
      rw [objSet_new fun e he => (hs e (mem_delO.1 he).1).1] at he
      rcases List.mem_append.1 he with he | he
      · exact this.2.1 e (mem_delO.1 he).1
      · simp only [List.mem_singleton] at he
        subst he
        exact ⟨hd p hp, rfl⟩
  exact key.set (v := .c (.row d)) (fun p hp => nbf (hd p hp)) hd
/-- A row is made in the one that is ahead. -/
theorem Ext.ahead (h : Ext Pd s t) {k d e sz : Nat} {es : List (List Value)} (hf : t.free d = true) (hbad : nth t.env d = some (.c .bad)) : (∀ p ∈ Pd, p.d ≠ d) ∧
    Ext (⟨k, d, e, sz, es⟩ :: Pd) s (St.set ⟨t.env, objSet t.objs d (.row e sz es), t.dfr⟩ d (.c (.row d))) := by
  have ht := free_iff.1 hf
  have hne : ∀ p ∈ Pd, p.d ≠ d := fun p hp e => by
    have := h.envP p hp
    rw [e, hbad] at this; cases this
  have hdl : d < t.env.length := by
    rw [nth_eq] at hbad
    exact (List.getElem?_eq_some_iff.1 hbad).1
  refine ⟨hne, ?_, fun x hx => ?_, fun p hp => ?_, fun p hp => ?_, h.dfr, fun x hx => ?_, fun p hp => ?_, fun e he => ?_, fun p hp => ?_⟩
  · simp only [St.set, setNth_len]; exact h.len
  · have h1 : d ≠ x := hx _ (List.mem_cons_self ..)
    simp only [St.set, nth_setNth2, h1, false_and, if_false]
    exact h.env x fun p hp => hx p (List.mem_cons_of_mem _ hp)
  · rcases List.mem_cons.1 hp with rfl | hp
    · show nth s.env d = _
      rw [← h.env d hne]; exact hbad
    · exact h.envB p hp
  · rcases List.mem_cons.1 hp with rfl | hp
    · simp only [St.set, nth_setNth2, true_and, hdl, if_true]
    · simp only [St.set, nth_setNth2, Ne.symm (hne p hp), false_and, if_false]; exact h.envP p hp
  · have h1 : d ≠ x := hx _ (List.mem_cons_self ..)
    simp only [St.set, look_objSet, if_neg h1]
    exact h.look x fun p hp => hx p (List.mem_cons_of_mem _ hp)
  · rcases List.mem_cons.1 hp with rfl | hp
    · simp only [St.set, look_objSet, if_true]
    · simp only [St.set, look_objSet, if_neg (Ne.symm (hne p hp))]; exact h.lookP p hp
  · simp only [St.set]
    rw [objSet_new fun e he => (ht.2.1 e he).1]
    exact List.mem_append_left _ (h.objs e he)
  · rcases List.mem_cons.1 hp with rfl | hp
    · exact h.free hf
    · exact h.freeP p hp
/-- A row that was ahead is made. -/
theorem Ext.made {A B : List PdE} {p : PdE} (h : Ext (A ++ p :: B) s t) (hd : ∀ q ∈ A ++ B, q.d ≠ p.d) : Ext (A ++ B) (St.set ⟨s.env, objSet s.objs p.d (.row p.e p.sz p.es), s.dfr⟩ p.d (.c (.row p.d))) t := by
  have hp : p ∈ A ++ p :: B := by simp
  have sub : ∀ q ∈ A ++ B, q ∈ A ++ p :: B := fun q hq => by
    rcases List.mem_append.1 hq with hq | hq
    · exact List.mem_append_left _ hq
    · exact List.mem_append_right _ (List.mem_cons_of_mem _ hq)
  have all : ∀ x, (∀ q ∈ A ++ B, q.d ≠ x) → p.d ≠ x → ∀ q ∈ A ++ p :: B, q.d ≠ x := fun x h1 h2 q hq => by
    rcases List.mem_append.1 hq with hq | hq
    · exact h1 q (List.mem_append_left _ hq)
    · rcases List.mem_cons.1 hq with rfl | hq
      · exact h2
      · exact h1 q (List.mem_append_right _ hq)
  have hfr := free_iff.1 (h.freeP p hp)
  have hdl : p.d < s.env.length := by
    have := h.envB p hp
    rw [nth_eq] at this
    exact (List.getElem?_eq_some_iff.1 this).1
  refine ⟨?_, fun x hx => ?_, fun q hq => ?_, fun q hq => h.envP q (sub q hq), h.dfr, fun x hx => ?_, fun q hq => h.lookP q (sub q hq), fun e he => ?_, fun q hq => ?_⟩
  · simp only [St.set, setNth_len]; exact h.len
  · by_cases hx2 : p.d = x
    · subst hx2
      simp only [St.set, nth_setNth2, true_and, hdl, if_true]
      exact h.envP p hp
    · simp only [St.set, nth_setNth2, hx2, false_and, if_false]
      exact h.env x (all x hx hx2)
  · simp only [St.set, nth_setNth2, Ne.symm (hd q hq), false_and, if_false]
    exact h.envB q (sub q hq)
  · by_cases hx2 : p.d = x
    · subst hx2
      simp only [St.set, look_objSet, if_true]
      exact h.lookP p hp
    · simp only [St.set, look_objSet, if_neg hx2]
      exact h.look x (all x hx hx2)
  · simp only [St.set] at he
    rw [objSet_new fun e he => (hfr.2.1 e he).1] at he
    rcases List.mem_append.1 he with he | he
    · exact h.objs e he
    · simp only [List.mem_singleton] at he
      subst he
      have := h.lookP p hp
      -- what is found stands in the list
      have look_mem : ∀ (l : List (Nat × AObj)) d o, Sx.look l d = some o → (d, o) ∈ l := by
        intro l d o
        induction l with
        | nil => intro h; cases h
        | cons x l ih =>
          obtain ⟨k, u⟩ := x
          intro h
          simp only [Sx.look] at h
          split at h
          · rename_i hb; have := nbt hb; subst this; cases h; exact List.mem_cons_self ..
          · exact List.mem_cons_of_mem _ (ih h)
      exact look_mem _ _ _ this
  · have hq' := free_iff.1 (h.freeP q (sub q hq))
    rw [free_iff]
    refine ⟨fun v hv => ?_, fun e he => ?_, hq'.2.2⟩
    · simp only [St.set, setNth_eq] at hv
      rcases List.mem_or_eq_of_mem_set hv with hv | rfl
      · exact hq'.1 v hv
      · exact nbf (Ne.symm (hd q hq))
    · simp only [St.set] at he
      rw [objSet_new fun e he => (hfr.2.1 e he).1] at he
      rcases List.mem_append.1 he with he | he
      · exact hq'.2.1 e he
      · simp only [List.mem_singleton] at he
        subst he
        exact ⟨Ne.symm (hd q hq), rfl⟩
end
/-! ### Operations on both -/
section
variable {P : Program} {Pd : List PdE} {s t : St}
def EnvOff (d : Option Nat) (s s' : St) : Prop := ∀ y, d ≠ some y → nth s'.env y = nth s.env y
theorem envOff_put (s : St) (d : Option Nat) (v : SV) : EnvOff d s (s.put d v) := by
  intro y hy
  cases d with
  | none => rfl
  | some d => simp only [St.put, St.set, nth_setNth2]; rw [if_neg fun e => hy (by rw [e.1])]
theorem site_refs {v : SV} {d : Nat} (h : v.site = some d) : v.refs d = true := by
  unfold SV.site at h
  split at h
  · cases h; simp [SV.refs, SC.refs]
  · cases h; simp [SV.refs, SC.refs]
  · cases h
theorem base_ext (h : Ext Pd s t) {ty sz : Nat} {v : SV} (hv : ∀ p ∈ Pd, v.refs p.d = false) : baseOf t ty sz v = baseOf s ty sz v := by
  unfold baseOf
  split
  · rw [h.look _ fun p hp e => by have := hv p hp; subst e; simp [SV.refs, SC.refs] at this]
  · rw [h.look _ fun p hp e => by have := hv p hp; subst e; simp [SV.refs, SC.refs] at this]
  · rfl
  · rfl
theorem src_ext (h : Ext Pd s t) {sz : Nat} {v : SV} (hv : ∀ p ∈ Pd, v.refs p.d = false) : srcOf t sz v = srcOf s sz v := by
  unfold srcOf
  split
  · rw [h.look _ fun p hp e => by have := hv p hp; subst e; simp [SV.refs, SC.refs] at this]
  · rw [h.look _ fun p hp e => by have := hv p hp; subst e; simp [SV.refs, SC.refs] at this]
  · rfl
theorem app_ext (h : Ext Pd s t) {o : Oper} (ho : isApp o.op = true) {H : Heap} {K : St → Prop} (hx : ∀ x ∈ o.op.operands, ∀ p ∈ Pd, x ≠ .tmp p.d) (hd : ∀ p ∈ Pd, o.dst ≠ some p.d) (hk : objK P o t H K) :
    objK P o s H fun s' => ∃ t', Ext Pd s' t' ∧ K t' ∧ EnvOff o.dst s s' := by
  obtain ⟨dst, op, type, pos, after, guard⟩ := o
  unfold isApp at ho
  split at ho
  · rename_i args ats heq
    simp only at heq
    subst heq
    cases dst with
    | none => simp only [objK] at hk
    | some d =>
      have hdd : ∀ p ∈ Pd, d ≠ p.d := fun p hp e => hd p hp (by rw [e])
      simp only [objK] at hk ⊢
      split at hk
      · rename_i t1 t2 x y hf h1 h2
        have e1 : args = #[x, y] := by apply Array.ext'; simpa using h2
        subst e1
        have hex : ∀ z, z = x ∨ z = y → ∀ p ∈ Pd, z ≠ .tmp p.d := fun z hz => hx z (by rcases hz with rfl | rfl <;> simp [Op.operands, Call.operands])
        rw [h.ev (hex x (.inl rfl)), h.ev (hex y (.inr rfl))] at hk
        have rx : ∀ p ∈ Pd, (ev s x).refs p.d = false := fun p hp => ev_refs (h.freeP p hp) x
        have ry : ∀ p ∈ Pd, (ev s y).refs p.d = false := fun p hp => ev_refs (h.freeP p hp) y
        have fin : ∀ {e sz by_ : Nat} {base : Option Nat} {es : List (List Value)}, (∀ r, base = some r → (ev s x).site = some r) → rowK t d e sz by_ base es K → rowK s d e sz by_ base es fun s' => ∃ t', Ext Pd s' t' ∧ K t' ∧ EnvOff (some d) s s' := by
          intro e sz by_ base es hb hk
          exact ⟨hk.1, _, h.row hf hdd (fun p hp e => by have := rx p hp; rw [site_refs (hb _ e)] at this; cases this), hk.2, envOff_put ⟨s.env, objSet (delO s.objs base) d (.row e sz es), s.dfr⟩ (some d) (.c (.row d))⟩
        simp only [h.free hf, h1, List.toList_toArray]
        split at hk
        · rename_i e2 e sz hu2 he
          try simp only [hu2, he]
          split at hk
          · rename_i by_ z hby hz
            try simp only [hby, hz]
            split at hk
            · rename_i hzl
              try simp only [hzl]
              split at hk
              · rename_i b off n hi' harr
                have hbl : look t.objs b = look s.objs b := h.look b fun p hp e => by
                  have := rx p hp
                  rw [harr] at this
                  subst e
                  simp [SV.refs, SC.refs] at this
                rw [hbl, src_ext h ry] at hk
                try simp only [harr]
                split at hk
                · rename_i q1 q2 q3 q4
                  try simp only [q1, q2, q3, q4]
                  split at hk
                  · rename_i q5
                    try simp only [q5]
                    split at hk
                    · rename_i q6
                      try simp only [q6]
                      exact fin (by simp) hk
                    · exact hk.elim
                  · exact hk.elim
                · exact hk.elim
              · rename_i hna
                rw [base_ext h rx] at hk
                split at hk
                · rename_i base es hb
                  try simp only [hb]
                  split at hk
                  · rename_i a0 n0 c0 hreal
                    try simp only [hreal]
                    obtain ⟨es2, hs, hk⟩ := hk
                    exact ⟨es2, hs, fin (fun r e => base_site hb e) hk⟩
                  · rename_i hnr
                    rw [src_ext h ry] at hk
                    split at hk
                    · rename_i q1 q2
                      try simp only [q1, q2]
                      exact fin (fun r e => base_site hb e) hk
                    · exact hk.elim
                · exact hk.elim
            · exact hk.elim
          · exact hk.elim
        · exact hk.elim
      · exact hk.elim
  · cases ho
/-! ### Lending in both -/
structure Lsim (D : Nat → Prop) (s0 t0 s t : St) : Prop where
  senv : s.env = s0.env
  tenv : t.env = t0.env
  sdfr : s.dfr = s0.dfr
  lookP : ∀ d, D d → Sx.look t.objs d = Sx.look t0.objs d
  objs : ∀ e ∈ s.objs, e ∈ t.objs
  subs : ∀ e ∈ s.objs, e ∈ s0.objs
  look : ∀ d, ¬ D d → Sx.look t.objs d = Sx.look s.objs d
  refs : ∀ d o, Sx.look s.objs d = some o → ∀ q, D q → o.refs q = false
  dfr : t.dfr = s.dfr
variable {D : Nat → Prop} {s0 t0 : St}
theorem Lsim.del (h : Lsim D s0 t0 s t) (d : Nat) (hd : ¬ D d) : Lsim D s0 t0 (s.del d) (t.del d) where
  senv := h.senv
  tenv := h.tenv
  sdfr := h.sdfr
  lookP x hx := by simp only [St.del, look_objDel]; rw [if_neg (by rintro rfl; exact hd hx)]; exact h.lookP x hx
  objs e he := by have := mem_objDel.1 he; exact mem_objDel.2 ⟨h.objs e this.1, this.2⟩
  subs e he := h.subs e (mem_objDel.1 he).1
  look x hx := by simp only [St.del, look_objDel, h.look x hx]
  refs x o hx := by
    simp only [St.del, look_objDel] at hx
    split at hx
    · cases hx
    · exact h.refs x o hx
  dfr := h.dfr
theorem lendIn_sim : ∀ (l : List Seg) {s t : St} {H : Heap} {K K' : List Value → St → Heap → List Lend → Prop}, Lsim D s0 t0 s t → (∀ q, D q → l.any (Seg.refs q) = false) → lendIn l t H K →
    (∀ vs s' t' H' ls, Lsim D s0 t0 s' t' → K vs t' H' ls → K' vs s' H' ls) → lendIn l s H K'
  | [], s, t, H, K, K', h, hr, hk, f => f _ _ _ _ _ h hk
  | .c x :: r, s, t, H, K, K', h, hr, hk, f => by
    have hr' : ∀ q, D q → Seg.refs q (.c x) = false ∧ r.any (Seg.refs q) = false := fun q hq => by have := hr q hq; simpa [List.any_cons] using this
    cases x with
    | v x => exact lendIn_sim r h (fun q hq => (hr' q hq).2) hk fun vs s' t' H' ls h' hk => f _ _ _ _ _ h' hk
    | row d =>
      have hnd : ¬ D d := fun hq => by have := (hr' d hq).1; simp [Seg.refs, SC.refs] at this
      simp only [lendIn] at hk ⊢
      rw [h.look d hnd] at hk
      split at hk
      · intro v H' h1 h2 h3 h4
        exact lendIn_sim r (h.del d hnd) (fun q hq => (hr' q hq).2) (hk v H' h1 h2 h3 h4) fun vs s' t' H' ls h' hk => f _ _ _ _ _ h' hk
      · exact hk.elim
    | _ => simp only [lendIn] at hk
  | .ints k n xs :: r, s, t, H, K, K', h, hr, hk, f =>
    lendIn_sim r h (fun q hq => by have := hr q hq; simpa [List.any_cons, Seg.refs] using this) hk fun vs s' t' H' ls h' hk => f _ _ _ _ _ h' hk
theorem lendBox_sim {d : Nat} (hd : ¬ D d) {s t : St} {H : Heap} {K K' : Value → St → Heap → List Lend → Prop} (h : Lsim D s0 t0 s t) (hk : lendBox d t H K)
    (f : ∀ v s' t' H' ls, Lsim D s0 t0 s' t' → K v t' H' ls → K' v s' H' ls) : lendBox d s H K' := by
  unfold lendBox at hk ⊢
  rw [h.look d hd] at hk
  split at hk
  · rename_i ty l hl
    exact lendIn_sim l (h.del d hd) (fun q hq => by have := h.refs d _ hl q hq; simpa [AObj.refs] using this) hk fun cs s' t' H' ls h' hk b hb => f _ _ _ _ _ h' (hk b hb)
  · exact hk.elim
def capD (D : Nat → Prop) : Cap → Prop
  | .b d => ¬ D d
  | .v _ => True
theorem lendCaps_sim : ∀ (l : List Cap) {s t : St} {H : Heap} {K K' : List Value → St → Heap → List Lend → Prop}, Lsim D s0 t0 s t → (∀ c ∈ l, capD D c) → lendCaps l t H K →
    (∀ vs s' t' H' ls, Lsim D s0 t0 s' t' → K vs t' H' ls → K' vs s' H' ls) → lendCaps l s H K'
  | [], s, t, H, K, K', h, hr, hk, f => f _ _ _ _ _ h hk
  | .v x :: r, s, t, H, K, K', h, hr, hk, f => lendCaps_sim r h (fun c hc => hr c (List.mem_cons_of_mem _ hc)) hk fun vs s' t' H' ls h' hk => f _ _ _ _ _ h' hk
  | .b d :: r, s, t, H, K, K', h, hr, hk, f => lendBox_sim (hr _ (List.mem_cons_self ..)) h hk fun v s' t' H' ls h' hk =>
      lendCaps_sim r h' (fun c hc => hr c (List.mem_cons_of_mem _ hc)) hk fun vs s' t' H' ls h' hk => f _ _ _ _ _ h' hk
theorem lendC_sim {x : SC} {s t : St} {H : Heap} {K K' : Value → St → Heap → List Lend → Prop} (h : Lsim D s0 t0 s t) (hr : ∀ q, D q → x.refs q = false) (hk : lendC x t H K)
    (f : ∀ v s' t' H' ls, Lsim D s0 t0 s' t' → K v t' H' ls → K' v s' H' ls) : lendC x s H K' := by
  unfold lendC at hk ⊢
  split at hk
  · exact f _ _ _ _ _ h hk
  · rename_i d
    have hnd : ¬ D d := fun hq => by have := hr d hq; simp [SC.refs] at this
    rw [h.look d hnd] at hk
    split at hk
    · intro v H' h1 h2 h3 h4
      exact f _ _ _ _ _ (h.del d hnd) (hk v H' h1 h2 h3 h4)
    · exact hk.elim
  · rename_i d
    exact lendBox_sim (fun hq => by have := hr d hq; simp [SC.refs] at this) h hk f
  · rename_i fn first caps
    refine lendCaps_sim caps h (fun c hc => ?_) hk fun vs s' t' H' ls h' hk => f _ _ _ _ _ h' hk
    cases c with
    | v _ => trivial
    | b d =>
      intro hq
      have := hr d hq
      simp only [SC.refs, List.any_eq_false] at this
      exact this _ hc (by simp)
  · exact hk.elim
theorem lendSegs_sim : ∀ (l : List Seg) {s t : St} {H : Heap} {K K' : List Value → St → Heap → List Lend → Prop}, Lsim D s0 t0 s t → (∀ q, D q → l.any (Seg.refs q) = false) → lendSegs l t H K →
    (∀ vs s' t' H' ls, Lsim D s0 t0 s' t' → K vs t' H' ls → K' vs s' H' ls) → lendSegs l s H K'
  | [], s, t, H, K, K', h, hr, hk, f => f _ _ _ _ _ h hk
  | .c x :: r, s, t, H, K, K', h, hr, hk, f => by
    have hr' : ∀ q, D q → x.refs q = false ∧ r.any (Seg.refs q) = false := fun q hq => by have := hr q hq; simpa [List.any_cons, Seg.refs] using this
    exact lendC_sim h (fun q hq => (hr' q hq).1) hk fun v s' t' H' ls h' hk => lendSegs_sim r h' (fun q hq => (hr' q hq).2) hk fun vs s' t' H' ls h' hk => f _ _ _ _ _ h' hk
  | .ints k n xs :: r, s, t, H, K, K', h, hr, hk, f =>
    lendSegs_sim r h (fun q hq => by have := hr q hq; simpa [List.any_cons, Seg.refs] using this) hk fun vs s' t' H' ls h' hk => f _ _ _ _ _ h' hk
theorem lendV_sim {x : SV} {s t : St} {H : Heap} {K K' : Value → St → Heap → List Lend → Prop} (h : Lsim D s0 t0 s t) (hr : ∀ q, D q → x.refs q = false) (hk : lendV x t H K)
    (f : ∀ v s' t' H' ls, Lsim D s0 t0 s' t' → K v t' H' ls → K' v s' H' ls) : lendV x s H K' := by
  cases x with
  | c x => exact lendC_sim h hr hk f
  | agg l => exact lendSegs_sim l h hr hk fun vs s' t' H' ls h' hk => f _ _ _ _ _ h' hk
  | tup l => exact hk.elim
theorem lendK_sim : ∀ (l : List SV) {s t : St} {H : Heap} {K K' : List Value → St → Heap → List Lend → Prop}, Lsim D s0 t0 s t → (∀ x ∈ l, ∀ q, D q → x.refs q = false) → lendK l t H K →
    (∀ vs s' t' H' ls, Lsim D s0 t0 s' t' → K vs t' H' ls → K' vs s' H' ls) → lendK l s H K'
  | [], s, t, H, K, K', h, hr, hk, f => f _ _ _ _ _ h hk
  | x :: r, s, t, H, K, K', h, hr, hk, f => lendV_sim h (hr x (List.mem_cons_self ..)) hk fun v s' t' H' ls h' hk =>
      lendK_sim r h' (fun y hy => hr y (List.mem_cons_of_mem _ hy)) hk fun vs s' t' H' ls h' hk => f _ _ _ _ _ h' hk
theorem Lsim.ext (h : Lsim (fun q => ∃ p ∈ Pd, p.d = q) s0 t0 s t) (he : Ext Pd s0 t0) : Ext Pd s t where
  len := by rw [h.senv, h.tenv]; exact he.len
  env := by rw [h.senv, h.tenv]; exact he.env
  envB := by rw [h.senv]; exact he.envB
  envP := by rw [h.tenv]; exact he.envP
  dfr := h.dfr
  look d hd := h.look d fun ⟨p, hp, e⟩ => hd p hp e
  lookP p hp := by rw [h.lookP p.d ⟨p, hp, rfl⟩]; exact he.lookP p hp
  objs := h.objs
  freeP p hp := by
    have := free_iff.1 (he.freeP p hp)
    rw [free_iff, h.senv, h.sdfr]
    exact ⟨this.1, fun e hm => this.2.1 e (h.subs e hm), this.2.2⟩
/-! ### What a call hands back leads nowhere -/
theorem ex_mono {k : CK} {F F' : Value → Prop} (h : k.ex F) (hf : ∀ v, F v → F' v) : k.ex F' := by
  cases k <;> simp only [CK.ex] at h ⊢
  case slice => obtain ⟨a, n, c, h⟩ := h; exact ⟨a, n, c, hf _ h⟩
  case func => obtain ⟨f, h1, h⟩ := h; exact ⟨f, h1, hf _ h⟩
  case iface => obtain ⟨f, h1, h⟩ := h; exact ⟨f, h1, hf _ h⟩
  all_goals (obtain ⟨n, h⟩ := h; exact ⟨n, hf _ h⟩)
theorem exSegs_none : ∀ (ks : List SK) {F F' : List Seg → Prop}, exSegs ks F → (∀ l, (∀ q, l.any (Seg.refs q) = false) → F l → F' l) → exSegs ks F'
  | [], F, F', h, hf => hf [] (by simp) h
  | .c k :: r, F, F', h, hf => ex_mono h fun v h => exSegs_none r h fun l hl h => hf _ (fun q => by rw [List.any_cons, hl q]; rfl) h
  | .ints k n :: r, F, F', h, hf => by
    obtain ⟨xs, hn, h⟩ := h
    exact ⟨xs, hn, exSegs_none r h fun l hl h => hf _ (fun q => by rw [List.any_cons, hl q]; rfl) h⟩
theorem exComps_none : ∀ (ks : List (Bool × List SK)) {F F' : List Comp → Prop}, exComps ks F → (∀ l, (∀ q, l.any (Comp.refs q) = false) → F l → F' l) → exComps ks F'
  | [], F, F', h, hf => hf [] (by simp) h
  | (a, ks) :: r, F, F', h, hf => exSegs_none ks h fun l hl h => exComps_none r h fun cs hcs h => hf _ (fun q => by
      simp only [List.any_cons, hcs q, Bool.or_false]
      unfold mkComp
      split
      · exact hl q
      · split
        · have := hl q; simpa [List.any_cons, Seg.refs, Comp.refs] using this
        · rfl) h
theorem retK_none {ty : TypeId} {e : Ending} {K K' : SV → Prop} (h : retK P ty e K) (hf : ∀ x, (∀ q, x.refs q = false) → K x → K' x) : retK P ty e K' := by
  unfold retK at h ⊢
  split at h
  · split at h
    · exact exComps_none _ h fun l hl h => ⟨h.1, hf _ hl h.2⟩
    · exact h.elim
  · split at h
    · refine exSegs_none _ h fun l hl h => ⟨h.1, hf _ (fun q => ?_) h.2⟩
      unfold mkSV
      split
      · exact hl q
      · split
        · have := hl q; simpa [List.any_cons, Seg.refs, SV.refs] using this
        · rfl
    · exact h.elim
theorem call_ext2 (h : Ext Pd s t) {o : Oper} {hs : Hints} {Q : Exit → St → Heap → Prop} (hpk : hs.pk = none) {G H : Heap} {K K' : St → Heap → Prop} (hK : ∀ s' t' H', Ext Pd s' t' → EnvOff o.dst s s' → K t' H' → K' s' H') (hx : ∀ x ∈ o.op.operands, ∀ p ∈ Pd, x ≠ .tmp p.d) (hd : ∀ p ∈ Pd, o.dst ≠ some p.d)
    (hk : keepK P G o t H (panicQ hs Q) K) : keepK P G o s H (panicQ hs Q) K' := by
  have hL : Lsim (fun q => ∃ p ∈ Pd, p.d = q) s t s t := ⟨rfl, rfl, rfl, fun _ _ => rfl, h.objs, fun _ h => h, fun d hd => h.look d fun p hp e => hd ⟨p, hp, e⟩, fun d o ho q ⟨p, hp, e⟩ => by subst e; exact (free_obj (h.freeP p hp) d o ho).2, h.dfr⟩
  have rf : ∀ x : Operand, ∀ q, (∃ p ∈ Pd, p.d = q) → (ev s x).refs q = false := fun x q ⟨p, hp, e⟩ => by subst e; exact ev_refs (h.freeP p hp) x
  have fin : ∀ {e : Ending} {Hl H' : Heap} {s' t' : St} {ls : List Lend}, t'.dfr = s'.dfr → keepR P G H Hl o t t' ls (panicQ hs Q) K e H' → keepR P G H Hl o s s' ls (panicQ hs Q) K' e H' := by
    intro e Hl H' s' t' ls hdf hr
    have good : ∀ {H'' : Heap}, retK P o.type e (fun x => K (t.put o.dst x) H'') → retK P o.type e fun x => K' (s.put o.dst x) H'' := fun hr =>
      retK_none hr fun x hx hk => hK _ _ _ (h.put (fun p _ => hx p.d) hd) (envOff_put s _ _) hk
    unfold keepR at hr ⊢
    split at hr
    · exact ⟨hr.1, good hr.2⟩
    · rename_i kp hkp
      rcases hr with hr | ⟨c, h1, h2⟩
      · exact .inl ⟨hr.1, good hr.2⟩
      · refine .inr ⟨c, h1, ?_⟩
        unfold panicQ at hkp
        split at hkp
        · cases hkp
          simp only [hpk, panSt] at h2 ⊢
          rw [← hdf]; exact h2
        · cases hkp
  unfold keepK at hk ⊢
  split at hk
  · rename_i f args ats ho
    have hxa : ∀ x ∈ args.toList, ∀ p ∈ Pd, x ≠ .tmp p.d := fun x hxm => hx x (by rw [ho]; simp only [Op.operands, Call.operands]; exact Array.mem_append.2 (.inr (by simpa using hxm)))
    have hxf : ∀ p ∈ Pd, f ≠ .tmp p.d := hx f (by rw [ho]; simp only [Op.operands, Call.operands]; exact Array.mem_append.2 (.inl (by simp)))
    have hmap : args.toList.map (ev t) = args.toList.map (ev s) := List.map_congr_left fun x hxm => h.ev (hxa x hxm)
    rw [hmap] at hk
    have hargs : ∀ x ∈ args.toList.map (ev s), ∀ q, (∃ p ∈ Pd, p.d = q) → x.refs q = false := fun x hxm q hq => by
      obtain ⟨y, _, rfl⟩ := List.mem_map.1 hxm
      exact rf y q hq
    split at hk
    · rename_i g
      refine lendK_sim _ hL hargs hk fun vs s' t' H' ls h' hk => ?_
      exact ⟨hk.1, fun w hw => (hk.2 w hw).mono fun e w' ⟨H'', h1, h2⟩ => ⟨H'', h1, fin h'.dfr h2⟩⟩
    · rename_i f' hnf
      rw [h.ev hxf] at hk
      refine lendV_sim hL (rf f) hk fun fv s1 t1 H1 ls1 h1 hk => ?_
      refine lendK_sim _ h1 hargs hk fun vs s' t' H' ls h' hk => ?_
      unfold MeetsV at hk ⊢
      split at hk
      · exact ⟨hk.1, fun w hw => (hk.2 w hw).mono fun e w' ⟨H'', h1, h2⟩ => ⟨H'', h1, fin h'.dfr h2⟩⟩
      · exact hk.elim
  · exact hk.elim
theorem give_ext (h : Ext Pd s t) {o : Oper} {hs : Hints} {Q : Exit → St → Heap → Prop} (hpk : hs.pk = none) {O : List (Nat × AObj)} {G H : Heap} {K : St → Heap → Prop} (hx : ∀ x ∈ o.op.operands, ∀ p ∈ Pd, x ≠ .tmp p.d) (hd : ∀ p ∈ Pd, o.dst ≠ some p.d)
    (hk : giveK P O G o t H (panicQ hs Q) K) : giveK P O G o s H (panicQ hs Q) fun s' H' => ∃ t', Ext Pd s' t' ∧ K t' H' ∧ EnvOff o.dst s s' := by
  have hL : Lsim (fun q => ∃ p ∈ Pd, p.d = q) s t s t := ⟨rfl, rfl, rfl, fun _ _ => rfl, h.objs, fun _ h => h, fun d hd => h.look d fun p hp e => hd ⟨p, hp, e⟩, fun d o ho q ⟨p, hp, e⟩ => by subst e; exact (free_obj (h.freeP p hp) d o ho).2, h.dfr⟩
  have rf : ∀ x : Operand, ∀ q, (∃ p ∈ Pd, p.d = q) → (ev s x).refs q = false := fun x q ⟨p, hp, e⟩ => by subst e; exact ev_refs (h.freeP p hp) x
  unfold giveK at hk ⊢
  split at hk
  · rename_i g args ats ho
    have hxa : ∀ x ∈ args.toList, ∀ p ∈ Pd, x ≠ .tmp p.d := fun x hxm => hx x (by rw [ho]; simp only [Op.operands, Call.operands]; exact Array.mem_append.2 (.inr (by simpa using hxm)))
    have hmap : args.toList.map (ev t) = args.toList.map (ev s) := List.map_congr_left fun x hxm => h.ev (hxa x hxm)
    rw [hmap] at hk
    have hargs : ∀ x ∈ args.toList.map (ev s), ∀ q, (∃ p ∈ Pd, p.d = q) → x.refs q = false := fun x hxm q hq => by
      obtain ⟨y, _, rfl⟩ := List.mem_map.1 hxm
      exact rf y q hq
    refine lendK_sim _ hL hargs hk fun vs s' t' H' ls h' hk => ⟨hk.1, fun w hw => (hk.2 w hw).mono fun e w' ⟨H'', h1, h2⟩ => ⟨H'', h1, ?_⟩⟩
    have hext := h'.ext h
    have good : ∀ {H'' : Heap}, retK P o.type e (fun x => K (t'.put o.dst x) H'') → retK P o.type e fun x => ∃ t'', Ext Pd (s'.put o.dst x) t'' ∧ K t'' H'' ∧ EnvOff o.dst s (s'.put o.dst x) := fun hr =>
      retK_none hr fun x hx hk => ⟨_, hext.put (fun p _ => hx p.d) hd, hk, fun y hy => by
        have := envOff_put s' o.dst x y hy
        rw [this, h'.senv]⟩
    unfold giveR at h2 ⊢
    split at h2
    · split at h2
      · exact ⟨h2.1, good h2.2⟩
      · rename_i kp hkp
        rcases h2 with h2 | ⟨c, h3, h4⟩
        · exact .inl ⟨h2.1, good h2.2⟩
        · refine .inr ⟨c, h3, ?_⟩
          unfold panicQ at hkp
          split at hkp
          · cases hkp
            simp only [hpk, panSt] at h4 ⊢
            rw [← h'.dfr]; exact h4
          · cases hkp
    · exact h2.elim
  · exact hk.elim
theorem adoptA_ext {s' t' : St} {d e sz : Nat} (h : Ext Pd s' t') (hd : ∀ p ∈ Pd, d ≠ p.d) {G H : Heap} {K : St → Heap → Prop} (hk : adoptA t' d e sz G H K) (hs : EnvOff (some d) s s') :
    adoptA s' d e sz G H fun s'' H'' => ∃ t'', Ext Pd s'' t'' ∧ K t'' H'' ∧ EnvOff (some d) s s'' := by
  have hev : t'.get d = s'.get d := h.ev (x := .tmp d) fun p hp q => hd p hp (by cases q; rfl)
  unfold adoptA at hk ⊢
  rw [hev] at hk
  split at hk
  · split at hk
    · rename_i hf
      have h1 := h.set (v := .c .bad) (fun p _ => rfl) (d := d) hd
      rw [h1.free hf]
      obtain ⟨es, hrow, hG, hk⟩ := hk
      refine ⟨es, hrow, hG, _, ?_, hk, ?_⟩
      · have h2 := h1.row (base := none) (ty := e) (sz := sz) (es := es) hf hd (by simp)
        have e1 : ∀ q : St, (St.set ⟨(q.set d (.c .bad)).env, objSet (delO (q.set d (.c .bad)).objs none) d (.row e sz es), (q.set d (.c .bad)).dfr⟩ d (.c (.row d))) = St.set ⟨q.env, objSet q.objs d (.row e sz es), q.dfr⟩ d (.c (.row d)) := fun q => by
          simp only [St.set, setNth_setNth', delO]
        rw [e1, e1] at h2
        exact h2
      · intro y hy
        rw [← hs y hy]
        exact envOff_put ⟨s'.env, objSet s'.objs d (.row e sz es), s'.dfr⟩ (some d) (.c (.row d)) y hy
    · exact hk.elim
  · exact hk.elim
/-! ### Rows that are built -/
theorem elems_ext {sz : Nat} {s s' : St} : ∀ (l : List (Nat × Operand)) (j n : Nat), (∀ q ∈ l, ev s' q.2 = ev s q.2) → elemsOf P sz s' l j n = elemsOf P sz s l j n
  | [], _, 0, _ => rfl
  | _ :: _, _, 0, _ => rfl
  | [], _, _ + 1, _ => rfl
  | (i, x) :: r, j, n + 1, h => by
    simp only [elemsOf]
    rw [h (i, x) (List.mem_cons_self ..), elems_ext r (j + 1) n fun q hq => h q (List.mem_cons_of_mem _ hq)]
/-- What is to be built, in a state. -/
def Mk (P : Program) (s : St) (o : Oper) (p : PdE) : Prop := ∃ t n parts, o.op = .buildSlice t n parts ∧ o.dst = some p.d ∧ sliceElem P t = some (p.e, p.sz) ∧ elemsOf P p.sz s parts.toList 0 n = some p.es ∧ Nat.ble (n * p.sz) 16777216 = true ∧ ∃ z, zeroT P p.e = some z
def rowSt (s : St) (p : PdE) : St := St.set ⟨s.env, objSet s.objs p.d (.row p.e p.sz p.es), s.dfr⟩ p.d (.c (.row p.d))
theorem bs_mk {o : Oper} (ho : isBs o.op = true) (k : Nat) {s : St} {H : Heap} {K : St → Prop} (hk : objK P o s H K) : ∃ p : PdE, p.k = k ∧ Mk P s o p ∧ s.free p.d = true ∧ K (rowSt s p) := by
  obtain ⟨dst, op, type, pos, after, guard⟩ := o
  unfold isBs at ho
  split at ho
  · rename_i t n parts heq
    simp only at heq
    subst heq
    cases dst with
    | none => simp only [objK] at hk
    | some d =>
      simp only [objK] at hk
      split at hk
      · rename_i e sz hf he
        split at hk
        · rename_i es hes hn
          split at hk
          · rename_i z hz
            exact ⟨⟨k, d, e, sz, es⟩, rfl, ⟨t, n, parts, rfl, rfl, he, hes, hn, z, hz⟩, hf, hk⟩
          · exact hk.elim
        · exact hk.elim
      · exact hk.elim
  · cases ho
theorem Mk.objK {o : Oper} {s : St} {p : PdE} (h : Mk P s o p) (hf : s.free p.d = true) {H : Heap} {K : St → Prop} (hk : K (rowSt s p)) : Sx.objK P o s H K := by
  obtain ⟨t, n, parts, h1, h2, h3, h4, h5, z, h6⟩ := h
  unfold Sx.objK
  rw [h1, h2]
  simp only [hf, h3, h4, h5, h6]
  exact hk
theorem Mk.ext {o : Oper} {s s' : St} {p : PdE} (h : Mk P s o p) (he : ∀ x ∈ o.op.operands, ev s' x = ev s x) : Mk P s' o p := by
  obtain ⟨t, n, parts, h1, h2, h3, h4, h5, h6⟩ := h
  refine ⟨t, n, parts, h1, h2, h3, ?_, h5, h6⟩
  rw [elems_ext _ _ _ fun q hq => he q.2 (by rw [h1]; simp only [Op.operands]; simp only [List.mem_toArray]; exact List.mem_map.2 ⟨q, hq, rfl⟩)]
  exact h4
theorem ev_envOff {d : Option Nat} {s s' : St} (h : EnvOff d s s') {x : Operand} (hx : ∀ y, d = some y → x ≠ .tmp y) : ev s' x = ev s x := by
  cases x with
  | tmp u =>
    simp only [ev, St.get]
    rw [h u fun e => hx u e rfl]
  | _ => rfl
theorem segTake_refs {q : Nat} : ∀ (l : List Seg) (n : Nat) {l' : List Seg}, l.any (Seg.refs q) = false → segTake l n = some l' → l'.any (Seg.refs q) = false
  | l, 0, l', h, e => by simp only [segTake, Option.some.injEq] at e; subst e; rfl
  | .c x :: r, n + 1, l', h, e => by
    simp only [List.any_cons, Bool.or_eq_false_iff] at h
    simp only [segTake] at e
    split at e
    · rename_i l2 h2; cases e
      simp [h.1, segTake_refs r n h.2 h2]
    · cases e
  | .ints k m xs :: r, n + 1, l', h, e => by
    simp only [List.any_cons, Bool.or_eq_false_iff] at h
    simp only [segTake] at e
    split at e
    · split at e
      · rename_i l2 h2; cases e
        simp [h.1, segTake_refs r _ h.2 h2]
      · cases e
    · cases e
  | [], _ + 1, l', h, e => by simp [segTake] at e
theorem segFrom_refs {q : Nat} : ∀ (l : List Seg) (n : Nat) {l' : List Seg}, l.any (Seg.refs q) = false → segFrom l n = some l' → l'.any (Seg.refs q) = false
  | l, 0, l', h, e => by simp only [segFrom, Option.some.injEq] at e; subst e; exact h
  | .c x :: r, n + 1, l', h, e => by
    simp only [List.any_cons, Bool.or_eq_false_iff] at h
    simp only [segFrom] at e
    exact segFrom_refs r n h.2 e
  | .ints k m xs :: r, n + 1, l', h, e => by
    simp only [List.any_cons, Bool.or_eq_false_iff] at h
    simp only [segFrom] at e
    split at e
    · exact segFrom_refs r _ h.2 e
    · cases e
  | [], _ + 1, l', h, e => by simp [segFrom] at e
theorem segPut_refs {q : Nat} {l new l' : List Seg} {o : Nat} (h : l.any (Seg.refs q) = false) (hn : new.any (Seg.refs q) = false) (e : segPut l o new = some l') : l'.any (Seg.refs q) = false := by
  unfold segPut at e
  cases h1 : segTake l o with
  | none => rw [h1] at e; simp [appO] at e
  | some l1 =>
    cases h2 : segFrom l (o + segLen new) with
    | none => rw [h1, h2] at e; simp [appO] at e
    | some l2 =>
      rw [h1, h2] at e
      simp only [appO, Option.some.injEq] at e
      subst e
      rw [List.any_append, List.any_append, segTake_refs _ _ h h1, hn, segFrom_refs _ _ h h2]
      rfl
theorem mem_objSet_del {l : List (Nat × AObj)} {d : Nat} {o : AObj} {e : Nat × AObj} : e ∈ objSet (objDel l d) d o ↔ (e ∈ l ∧ e.1 ≠ d) ∨ e = (d, o) := by
  rw [objSet_new fun e he => (mem_objDel.1 he).2, List.mem_append, mem_objDel, List.mem_singleton]
theorem mem_objSet {l : List (Nat × AObj)} {d : Nat} {o : AObj} {e : Nat × AObj} (hne : e.1 ≠ d) : e ∈ objSet l d o ↔ e ∈ l := by
  induction l with
  | nil => simp only [objSet, List.mem_singleton]; exact ⟨fun h => by subst h; exact absurd rfl hne, fun h => by cases h⟩
  | cons x l ih =>
    obtain ⟨k, u⟩ := x
    simp only [objSet]
    split
    · rename_i hb
      have := nbt hb; subst this
      rw [List.mem_cons, List.mem_cons]
      constructor
      · rintro (rfl | h)
        · exact absurd rfl hne
        · exact .inr h
      · rintro (rfl | h)
        · exact absurd rfl hne
        · exact .inr h
    · rw [List.mem_cons, List.mem_cons, ih]
theorem reput_set (s : St) (d : Nat) (o : AObj) : reput d ⟨s.env, objSet s.objs d o, s.dfr⟩ = ⟨s.env, objSet (objDel (objSet s.objs d o) d) d o, s.dfr⟩ := by
  unfold reput
  simp only [look_objSet, if_pos]
/-- A store into both. -/
theorem Ext.mod (h : Ext Pd s t) {d : Nat} {o : AObj} (hd : ∀ p ∈ Pd, d ≠ p.d) (ho : ∀ p ∈ Pd, o.refs p.d = false) :
    Ext Pd (reput d ⟨s.env, objSet s.objs d o, s.dfr⟩) (reput d ⟨t.env, objSet t.objs d o, t.dfr⟩) := by
  rw [reput_set, reput_set]
  have lk : ∀ (l : List (Nat × AObj)) x, Sx.look (objSet (objDel (objSet l d o) d) d o) x = if d = x then some o else Sx.look l x := fun l x => by
    rw [look_objSet, look_objDel, look_objSet]
    by_cases hx : d = x <;> simp [hx]
  refine ⟨h.len, h.env, h.envB, h.envP, h.dfr, fun x hx => ?_, fun p hp => ?_, fun e he => ?_, fun p hp => ?_⟩
  · simp only [lk, h.look x hx]
  · simp only [lk]
    rw [if_neg (hd p hp)]
    exact h.lookP p hp
  · rcases mem_objSet_del.1 he with ⟨h1, h2⟩ | rfl
    · exact mem_objSet_del.2 (.inl ⟨(mem_objSet h2).2 (h.objs e ((mem_objSet h2).1 h1)), h2⟩)
    · exact mem_objSet_del.2 (.inr rfl)
  · have := free_iff.1 (h.freeP p hp)
    rw [free_iff]
    refine ⟨this.1, fun e he => ?_, this.2.2⟩
    rcases mem_objSet_del.1 he with ⟨h1, h2⟩ | rfl
    · exact this.2.1 e ((mem_objSet h2).1 h1)
    · exact ⟨hd p hp, ho p hp⟩
theorem boxes_refs {x : SV} {d q : Nat} (h : storeSite x = some d) (hq : x.refs q = false) : d ≠ q := by
  unfold storeSite at h
  split at h
  all_goals first | (cases h; rintro rfl; simp [SV.refs, SC.refs] at hq; done) | cases h
theorem Ext.offD (h : Ext Pd s t) {x : Operand} {d : Nat} (hs : storeSite (Sx.ev s x) = some d) : ∀ p ∈ Pd, d ≠ p.d := fun p hp => boxes_refs hs (ev_refs (h.freeP p hp) x)
theorem store_ext (h : Ext Pd s t) {P : Program} {o : Oper} {ty : TypeId} {x y : Operand} (ho : o.op = .store ty x y) (hdst : o.dst = none) {d : Nat} (hsite : storeSite (Sx.ev s x) = some d) {H : Heap} {K : St → Prop} (hx : ∀ x ∈ o.op.operands, ∀ p ∈ Pd, x ≠ .tmp p.d)
    (hk : objK P o t H fun t' => K (reput d t')) : objK P o s H fun s' => ∃ t', Ext Pd (reput d s') t' ∧ K t' ∧ EnvOff o.dst s (reput d s') := by
  have e1 : Sx.ev t x = Sx.ev s x := h.ev (hx x (by rw [ho]; simp [Op.operands]))
  have e2 : Sx.ev t y = Sx.ev s y := h.ev (hx y (by rw [ho]; simp [Op.operands]))
  have off := h.offD hsite
  have fin : ∀ {obj : AObj}, (∀ p ∈ Pd, obj.refs p.d = false) → K (reput d ⟨t.env, objSet t.objs d obj, t.dfr⟩) → ∃ t', Ext Pd (reput d ⟨s.env, objSet s.objs d obj, s.dfr⟩) t' ∧ K t' ∧ EnvOff o.dst s (reput d ⟨s.env, objSet s.objs d obj, s.dfr⟩) := fun hob hk =>
    ⟨_, h.mod off hob, hk, fun z hz => by rw [reput_set]⟩
  unfold objK at hk ⊢
  rw [ho, hdst] at hk ⊢
  simp only at hk ⊢
  rw [e1, e2] at hk
  rw [hdst] at fin
  cases hev : Sx.ev s x with
  | agg l => rw [hev] at hk; exact hk.elim
  | tup l => rw [hev] at hk; exact hk.elim
  | c z =>
    rw [hev] at hk hsite
    cases z with
    | box b off' =>
      cases hsite
      simp only at hk ⊢
      rw [h.look d fun p hp q => off p hp q.symm] at hk
      split at hk
      · rename_i ty' l new z hl hn hz
        split at hk
        · rename_i l' hbn hl'
          refine fin (fun p hp => ?_) hk
          exact segPut_refs (free_obj (h.freeP p hp) d _ hl).2 (segs_refs (ev_refs (h.freeP p hp) y) hn) hl'
        · exact hk.elim
      · exact hk.elim
    | boxi b off' n i =>
      cases hsite
      simp only at hk ⊢
      rw [h.look d fun p hp q => off p hp q.symm] at hk
      split at hk
      · rename_i ty' l k v hl hy hz
        split at hk
        · rename_i k' m xs rest hr'
          split at hk
          · rename_i l' hm hkk hl'
            refine fin (fun p hp => ?_) hk
            exact segPut_refs (free_obj (h.freeP p hp) d _ hl).2 rfl hl'
          · exact hk.elim
        · exact hk.elim
      · exact hk.elim
    | cell r sz' i off' =>
      cases hsite
      simp only at hk ⊢
      rw [h.look d fun p hp q => off p hp q.symm] at hk
      split at hk
      · rename_i ty' sz es new z hl hn hz
        split at hk
        · rename_i cs hcs
          split at hk
          · exact ⟨hk.1, fin (fun p hp => rfl) hk.2⟩
          · exact hk.elim
        · exact hk.elim
      · exact hk.elim
    | _ => exact hk.elim
theorem refs_ptr {a : Addr} {q : Nat} : SV.refs q (.c (.v (.pointer (some a)))) = false := rfl
theorem addr_ext (h : Ext Pd s t) {P : Program} {cfg : Cfg} {op : Op} (hop : match op with | .nilCheck _ | .fieldAddr _ _ _ | .indexAddr _ _ _ | .call { callee := .builtin .len, args := _, argTypes := _ } => true | _ => false) {K : SV → Prop} (hx : ∀ x ∈ op.operands, ∀ p ∈ Pd, x ≠ .tmp p.d)
    (hk : valK P cfg op t K) : valK P cfg op s fun v => K v ∧ ∀ p ∈ Pd, v.refs p.d = false := by
  cases op <;> try cases hop
  · rename_i x
    simp only [valK] at hk ⊢
    rw [h.ev (hx x (by simp [Op.operands]))] at hk
    have rf : ∀ p ∈ Pd, (Sx.ev s x).refs p.d = false := fun p hp => ev_refs (h.freeP p hp) x
    split at hk
    · obtain ⟨A, rfl, hk⟩ := ptrK hk
      exact ⟨hk, fun _ _ => rfl⟩
    · rename_i hev; rw [hev] at rf; exact ⟨hk, rf⟩
    · rename_i hev; rw [hev] at rf; exact ⟨hk, rf⟩
    · rename_i hev; rw [hev] at rf; exact ⟨hk, rf⟩
    · exact hk.elim
  · rename_i ty x f
    simp only [valK] at hk ⊢
    rw [h.ev (hx x (by simp [Op.operands]))] at hk
    have rf : ∀ p ∈ Pd, (Sx.ev s x).refs p.d = false := fun p hp => ev_refs (h.freeP p hp) x
    split at hk
    · split at hk
      · split at hk
        · rename_i hev; rw [hev] at rf; exact ⟨hk, rf⟩
        · rename_i hev; rw [hev] at rf; exact ⟨hk, rf⟩
        · obtain ⟨A, rfl, hk⟩ := ptrK hk
          exact ⟨hk, fun _ _ => rfl⟩
        · exact hk.elim
      · exact hk.elim
    · exact hk.elim
  · rename_i ty x i
    simp only [valK] at hk ⊢
    rw [h.ev (hx x (by simp [Op.operands])), h.ev (hx i (by simp [Op.operands]))] at hk
    have rf : ∀ p ∈ Pd, (Sx.ev s x).refs p.d = false := fun p hp => ev_refs (h.freeP p hp) x
    split at hk
    · rename_i n hi
      unfold indexK at hk ⊢
      split at hk
      · split at hk
        · rename_i b o hev
          rw [hev] at rf
          rw [h.look b fun p hp q => by have := rf p hp; rw [q] at this; simp [SV.refs, SC.refs] at this] at hk
          split at hk
          · split at hk
            · split at hk
              · exact ⟨hk.1, hk.2, rf⟩
              · exact hk.elim
            · exact ⟨hk.1, hk.2, rf⟩
          · exact hk.elim
        · rename_i hev; rw [hev] at rf; exact ⟨hk.1, hk.2, rf⟩
        · obtain ⟨h1, hk⟩ := hk
          obtain ⟨A, rfl, hk⟩ := ptrK hk
          exact ⟨h1, hk, fun _ _ => rfl⟩
        · exact hk.elim
      · split at hk
        · obtain ⟨h1, hk⟩ := hk
          obtain ⟨A, rfl, hk⟩ := ptrK hk
          exact ⟨h1, hk, fun _ _ => rfl⟩
        · rename_i r hev
          rw [hev] at rf
          rw [h.look r fun p hp q => by have := rf p hp; rw [q] at this; simp [SV.refs, SC.refs] at this] at hk
          split at hk
          · split at hk
            · exact ⟨hk.1, hk.2, rf⟩
            · exact hk.elim
          · exact hk.elim
        · rename_i hev
          rw [hev] at rf
          split at hk
          · exact ⟨hk.1, hk.2, rf⟩
          · exact hk.elim
        · rename_i hev
          rw [hev] at rf
          split at hk
          · exact ⟨hk.1, hk.2, rf⟩
          · exact hk.elim
        · exact hk.elim
      · exact hk.elim
    · exact hk.elim
  · rename_i c
    obtain ⟨callee, args, ats⟩ := c
    have hc : callee = .builtin .len := by
      cases callee with
      | builtin b => cases b <;> first | rfl | (simp at hop)
      | value f => simp at hop
      | invoke r m => simp at hop
    subst hc
    simp only [valK] at hk ⊢
    split at hk
    · rename_i ty x hat hargs
      have hxm : x ∈ (Op.call { callee := .builtin .len, args := args, argTypes := ats }).operands := by
        simp only [Op.operands, Call.operands]
        exact Array.mem_append.2 (.inr (by rw [← Array.mem_toList_iff, hargs]; exact List.mem_cons_self ..))
      rw [h.ev (hx x hxm)] at hk
      have rf : ∀ p ∈ Pd, (Sx.ev s x).refs p.d = false := fun p hp => ev_refs (h.freeP p hp) x
      unfold lenK at hk ⊢
      split at hk
      · exact ⟨hk, fun _ _ => rfl⟩
      · exact ⟨hk, fun _ _ => rfl⟩
      · rename_i r _ hev
        rw [hev] at rf
        rw [h.look r fun p hp q => by have := rf p hp; rw [q] at this; simp [SV.refs, SC.refs] at this] at hk
        split at hk
        · exact ⟨hk, fun _ _ => rfl⟩
        · exact hk.elim
      all_goals first | exact ⟨hk, fun _ _ => rfl⟩ | exact hk.elim
    · exact hk.elim
theorem pubK_mono {P : Program} {t : TypeId} {x y : SV} {G H : Heap} {K K' : Heap → Prop} (hK : ∀ H, K H → K' H) (h : pubK P t x y G H K) : pubK P t x y G H K' := by
  unfold pubK at *
  split at h
  · split at h
    · split at h
      · obtain ⟨A, rfl, c, ty, h1, h2, h3⟩ := ptrK h
        exact ⟨c, ty, h1, h2, hK _ h3⟩
      · exact h.elim
    · exact h.elim
  · exact h.elim
/-- One operation on the one that is behind. -/
theorem opA_ext (h : Ext Pd s t) {o : Oper} {hs : Hints} {Q : Exit → St → Heap → Prop} (hpk : hs.pk = none) {O : List (Nat × AObj)} {G H : Heap} {K : St → Heap → Prop} (hx : ∀ x ∈ o.op.operands, ∀ p ∈ Pd, x ≠ .tmp p.d) (hd : ∀ p ∈ Pd, o.dst ≠ some p.d)
    (hk : opA P hs Q O G o t H K) : opA P hs Q O G o s H fun s' H' => ∃ t', Ext Pd s' t' ∧ K t' H' ∧ EnvOff o.dst s s' := by
  unfold opA at hk ⊢
  split at hk
  · split at hk
    · exact give_ext h hpk hx hd hk
    split at hk
    · exact call_ext2 h hpk (fun s' t' H' h1 h2 h3 => ⟨t', h1, h3, h2⟩) hx hd hk
    · rename_i d e sz hoc
      have hdst : o.dst = some d := by
        unfold ownC at hoc
        split at hoc
        · rename_i d' hd'
          split at hoc
          · cases hoc; exact hd'
          · cases hoc
        · cases hoc
      rw [hdst]
      rw [hdst] at hd
      refine call_ext2 h hpk (fun s' t' H' h1 h2 h3 => adoptA_ext h1 (fun p hp q => hd p hp (by rw [q])) h3 (by rw [hdst] at h2; exact h2)) hx (by rw [hdst]; exact hd) hk
  · split at hk
    · rename_i ha
      have hsite : appSite t o = appSite s o := by
        unfold appSite
        split
        · rename_i args ats ho
          split
          · rename_i x r hxr
            rw [h.ev (hx x (by rw [ho]; simp only [Op.operands, Call.operands]; exact Array.mem_append.2 (.inr (by rw [← Array.mem_toList_iff, hxr]; exact List.mem_cons_self ..))))]
          · rfl
        · rfl
      rw [hsite] at hk
      split at hk
      · split at hk
        · exact app_ext h ha hx hd hk
        · exact hk.elim
      · exact app_ext h ha hx hd hk
    · split at hk
      · rename_i hb
        split at hk
        · rename_i hbad
          obtain ⟨p, _, hm, hf, hk⟩ := bs_mk hb 0 hk
          obtain ⟨t0, n0, parts0, _, hpd, _⟩ := id hm
          have hdd : ∀ q ∈ Pd, p.d ≠ q.d := fun q hq e => hd q hq (by rw [hpd, e])
          have hb2 : badAt s o.dst = true := by
            rw [hpd] at hbad ⊢
            simp only [badAt] at hbad ⊢
            rw [h.env p.d fun q hq e => hdd q hq e.symm] at hbad
            exact hbad
          rw [hb2]
          simp only
          refine Mk.objK (hm.ext fun x hxm => (h.ev (hx x hxm)).symm) (h.free hf) ⟨_, ?_, hk, ?_⟩
          · have := h.row (base := none) (ty := p.e) (sz := p.sz) (es := p.es) hf hdd (by simp)
            exact this
          · rw [hpd]; exact envOff_put ⟨s.env, objSet s.objs p.d (.row p.e p.sz p.es), s.dfr⟩ (some p.d) (.c (.row p.d))
        · exact hk.elim
      · split at hk
        · rename_i x ho
          rw [h.ev (hx x (by rw [ho]; simp [Op.operands]))] at hk
          exact ⟨_, h.put (fun p hp => ev_refs (h.freeP p hp) x) hd, hk, envOff_put s _ _⟩
        · rename_i x ho
          rw [h.ev (hx x (by rw [ho]; simp [Op.operands]))] at hk
          exact ⟨_, h.put (fun p hp => ev_refs (h.freeP p hp) x) hd, hk, envOff_put s _ _⟩
        · rename_i ho
          exact by obtain ⟨z, hv, hf⟩ := valK_pick (addr_ext h (by rw [ho]) hx hk); exact hf _ ⟨_, h.put hv.2 hd, hv.1, envOff_put s _ _⟩
        · rename_i ho
          exact by obtain ⟨z, hv, hf⟩ := valK_pick (addr_ext h (by rw [ho]) hx hk); exact hf _ ⟨_, h.put hv.2 hd, hv.1, envOff_put s _ _⟩
        · rename_i ho
          exact by obtain ⟨z, hv, hf⟩ := valK_pick (addr_ext h (by rw [ho]) hx hk); exact hf _ ⟨_, h.put hv.2 hd, hv.1, envOff_put s _ _⟩
        · rename_i ho
          exact by obtain ⟨z, hv, hf⟩ := valK_pick (addr_ext h (by rw [ho]) hx hk); exact hf _ ⟨_, h.put hv.2 hd, hv.1, envOff_put s _ _⟩
        · rename_i x y ho
          have e1 : ev t x = ev s x := h.ev (hx x (by rw [ho]; simp [Op.operands]))
          rw [e1] at hk
          split at hk
          · rename_i d hdst hsite
            split at hk
            · exact store_ext h ho hdst hsite hx hk
            · exact hk.elim
          · rename_i hdst hsite
            have e2 : ev t y = ev s y := h.ev (hx y (by rw [ho]; simp [Op.operands]))
            rw [e2] at hk
            exact pubK_mono (fun H' hK => ⟨t, h, hK, fun _ _ => rfl⟩) hk
          · exact hk.elim
        · exact hk.elim
end
/-! ### What is real -/
section
variable {P : Program} {X : Nat → Prop} {C : Ctx} {we : World} {s0 : St} {Hs G : Heap} {V : Vl} {s : St} {H : Heap} {a : Act} {w : World}
theorem app_free {o : Oper} (ho : isApp o.op = true) {K : St → Prop} (hk : objK P o s H K) : ∃ d, o.dst = some d ∧ s.free d = true := by
  obtain ⟨dst, op, type, pos, after, guard⟩ := o
  unfold isApp at ho
  split at ho
  · rename_i args ats heq
    simp only at heq
    subst heq
    cases dst with
    | none => simp only [objK] at hk
    | some d =>
      simp only [objK] at hk
      split at hk
      · rename_i hf _ _; exact ⟨d, rfl, hf⟩
      · exact hk.elim
  · cases ho
theorem app_reg (r : Reg X C we s0 Hs G V s H a w) {o : Oper} (ho : isApp o.op = true) (hb : ∀ d, appSite s o = some d → look s0.objs d = none) {K : St → Prop} (hk : objK P o s H K) :
    ∃ V' s' y w', K s' ∧ Reg X C we s0 Hs G V' s' H (a.put o.dst y) w' ∧ (execOp a.eval o).run P w = .ok (.value y) w' := by
  obtain ⟨d0, hd0, hf⟩ := app_free ho hk
  obtain ⟨args, ats, hop⟩ : ∃ args ats, o.op = .call { callee := .builtin .append, args := args, argTypes := ats } := by
    unfold isApp at ho
    split at ho
    · rename_i args ats h; exact ⟨args, ats, h⟩
    · cases ho
  obtain ⟨base, ⟨d, hd, V', s', y, w', hK, hrep, hoff, honly, hl1, hl2, hnew, hrun⟩, hbs⟩ := appK_sound r.rep (heap_refl _) o hop hk
  have : d0 = d := Option.some.inj (hd0.symm.trans hd)
  subst this
  have was : ∀ b, Was V s base b → b < we.heap.size → Chg X Hs G we b := by
    rintro b ⟨rr, ob, h1, h2, h3⟩
    exact r.new rr ob b h2 (hb rr (hbs rr h1)) h3
  have off0 : ∀ x ob, look s0.objs x = some ob → x ≠ d0 := fun x ob e e' => by
    have := r.keep x ob e
    subst e'
    rw [free_look hf] at this; cases this
  refine ⟨V', s', y, w', hK, ⟨hrep, ⟨honly.os.trans r.only.os, honly.tape.trans r.only.tape, honly.output.trans r.only.output, Nat.le_trans r.only.size honly.size, fun b hn hlt => ?_⟩, fun x ob e => ?_, fun x ob b e hb' => ?_, fun x ob b e hb' => ?_, r.sub, r.gs, r.le, r.cur, r.base, r.oth, r.xs, fun x ob b e e0 hb' => ?_⟩, hrun⟩
  · rw [← r.only.block b hn hlt]
    refine honly.block b (fun hw => ?_) (Nat.lt_of_lt_of_le hlt r.only.size)
    exact hn (was b hw hlt)
  · refine hl2 x ob (r.keep x ob e) (fun eb => ?_) (off0 x ob e)
    have := hb x (hbs x eb)
    rw [e] at this; cases this
  · rw [privB_off hoff (off0 x ob e)] at hb'
    exact r.low x ob b e hb'
  · rw [privB_off hoff (off0 x ob e)] at hb'
    exact r.hs x ob b e hb'
  · by_cases hx : x = d0
    · subst hx
      rcases hnew ob b e hb' with h | h
      · have := Nat.le_trans r.only.size h
        exact fun q => absurd q (by omega)
      · exact was b h
    · rw [privB_off hoff hx] at hb'
      rcases hl1 x ob e with h | h
      · exact absurd h hx
      · exact r.new x ob b h e0 hb'
theorem bs_alloc {op : Op} (h : isBs op = true) : isAlloc op = true := by
  cases op <;> simp [isBs] at h <;> rfl
theorem adoptA_reg (r : Reg X C we s0 Hs G V s H a w) {t ty sz : Nat} {K : St → Heap → Prop} (hk : adoptA s t ty sz G H K) : ∃ V' s' H', K s' H' ∧ Reg X C we s0 Hs G V' s' H' a w := by
  unfold adoptA at hk
  split at hk
  · rename_i v hv
    split at hk
    · rename_i hf
      obtain ⟨es, hrow, hG, hk⟩ := hk
      have h := r.rep
      have hx := h.get t
      rw [hv] at hx
      obtain ⟨hx, hone⟩ := hx
      have h1 : Rep C V (s.set t (.c .bad)) H a w := rep_same' h trivial
      have h2 := rep_off (V' := V.rows t v) h1 hf (rows_off V t v)
      have h3 := rep_row h2 (d := t) (ty := ty) (sz := sz) (es := es) (by simp [Vl.rows]) hrow
      have h4 := rep_same' h3 (g := t) (x := .c (.row t)) (by
        show _ ∧ _
        exact ⟨by rw [hx]; simp [Vl.rows], by simpa [Vl.rows] using hone⟩)
      have e : (St.set ⟨(s.set t (.c .bad)).env, objSet (s.set t (.c .bad)).objs t (.row ty sz es), (s.set t (.c .bad)).dfr⟩ t (.c (.row t))) = St.set ⟨s.env, objSet s.objs t (.row ty sz es), s.dfr⟩ t (.c (.row t)) := by
        simp only [St.set, setNth_setNth']
      rw [e] at h4
      have hnt : look s.objs t = none := free_look (s := s.set t (.c .bad)) hf
      have off0 : ∀ x ob, look s0.objs x = some ob → x ≠ t := fun x ob e e' => by
        have := r.keep x ob e
        subst e'
        rw [hnt] at this; cases this
      have lk : ∀ x, look (objSet s.objs t (.row ty sz es)) x = if t = x then some (.row ty sz es) else look s.objs x := fun x => look_objSet _ _ _ _
      refine ⟨V.rows t v, _, _, hk, h4, r.only, fun x ob e => ?_, fun x ob b e hb => ?_, fun x ob b e hb => ?_, r.sub, r.gs, fun b o e => ?_, fun b hb e hX => ?_, r.base, r.oth, r.xs, fun x ob b e e0 hb q => ?_⟩
      · show look (objSet s.objs t (.row ty sz es)) x = some ob
        rw [lk, if_neg (Ne.symm (off0 x ob e))]
        exact r.keep x ob e
      · rw [privB_off (rows_off V t v) (off0 x ob e)] at hb
        exact r.low x ob b e hb
      · rw [privB_off (rows_off V t v) (off0 x ob e)] at hb
        exact r.hs x ob b e hb
      · cases hq : blockOf v with
        | none => exact r.le b o e
        | some b' =>
          show (if b = b' then none else H b) = some o
          rw [if_neg (by rintro rfl; rw [hG b hq] at e; cases e)]
          exact r.le b o e
      · have := r.cur b hb e hX
        cases hq : blockOf v with
        | none => exact this
        | some b' =>
          show (if b = b' then none else H b) = none
          split
          · rfl
          · exact this
      · have e : look (objSet s.objs t (.row ty sz es)) x = some ob := e
        rw [lk] at e
        by_cases hxt : t = x
        · subst hxt
          rw [if_pos rfl] at e
          cases e
          have hb' : blockOf v = some b := by simpa [privB, Vl.rows] using hb
          have hH : H b ≠ none := by
            rcases hrow with ⟨rfl, _⟩ | ⟨b2, o, cap, c, rfl, h1, _⟩
            · simp [blockOf] at hb'
            · simp [blockOf] at hb'
              subst hb'
              rw [h1]; simp
          by_cases hX : X b
          · exact ⟨q, .inr hX⟩
          exact ⟨q, .inl ⟨fun hn => hH (r.cur b q hn hX), hG b hb'⟩⟩
        · rw [if_neg hxt] at e
          rw [privB_off (rows_off V t v) (Ne.symm hxt)] at hb
          exact r.new x ob b e e0 hb q
    · exact hk.elim
  · exact hk.elim
theorem pub_reg (r : Reg X C we s0 Hs G V s H a w) {o : Oper} {t : TypeId} {x y : Operand} (ho : o.op = .store t x y) {K : Heap → Prop} (hk : pubK P t (ev s x) (ev s y) G H K) :
    ∃ H' w', K H' ∧ Reg X C we s0 Hs G V s H' a w' ∧ (execOp a.eval o).run P w = .ok .skip w' := by
  unfold pubK at hk
  split at hk
  · rename_i p l z hp hl hz
    have hx := r.rep.ev x
    rw [hp] at hx
    obtain ⟨hx, -⟩ := hx
    split at hk
    · rename_i cs hcs
      split at hk
      · rename_i hcl
        have hcl := nbt hcl
        have hrep := segs_rep (r.rep.ev y) hl
        have hval := flat_rep hrep hcs
        obtain ⟨A, rfl, c, ty, ⟨hb, hs, hle⟩, hG, hK⟩ := ptrK hk
        obtain ⟨i, hi, rfl⟩ := sizeT_eq hz
        have hvs : (a.eval y).cells.size = i.size := by have := congrArg List.length hval; simp at this; omega
        have hblk := r.rep.sub _ _ hb
        have hA : A = ⟨A.block, A.off, none⟩ := by cases A; simp_all
        have hone := segs_one (flat_noBad hcs) hrep
        have hrun := storeVar_run (P := P) (off := A.off) hi hvs hblk hle hone
        rw [hval] at hrun
        have hrep' := rep_pub r.rep (.inl ⟨_, hb⟩) (setB_only A.block (.cells (writeCells c A.off cs) ty (0, 0))) (setB_at hblk)
        refine ⟨_, _, hK, ⟨hrep', ⟨(setB_only _ _).os.trans r.only.os, (setB_only _ _).tape.trans r.only.tape, (setB_only _ _).output.trans r.only.output, Nat.le_trans r.only.size (setB_only (w := w) A.block (.cells (writeCells c A.off cs) ty (0, 0))).size, fun b hn hlt => ?_⟩, r.keep, r.low, r.hs, r.sub, r.gs, fun b o e => ?_, fun b hlt e hX => ?_, r.base, r.oth, r.xs, r.new⟩, ?_⟩
        · rw [← r.only.block b hn hlt]
          refine (setB_only _ _).block b (fun e => hn ?_) (Nat.lt_of_lt_of_le hlt r.only.size)
          subst e
          by_cases hX : X A.block
          · exact ⟨hlt, .inr hX⟩
          exact ⟨hlt, .inl ⟨fun h0 => (by rw [r.cur _ hlt h0 hX] at hb; cases hb), hG⟩⟩
        · show (if b = A.block then _ else H b) = some o
          rw [if_neg (by rintro rfl; rw [hG] at e; cases e)]
          exact r.le b o e
        · show (if b = A.block then _ else H b) = none
          rw [if_neg (by rintro rfl; rw [r.cur _ hlt e hX] at hb; cases hb)]
          exact r.cur b hlt e hX
        · unfold execOp
          rw [ho]
          refine exec_u ?_
          simp only [Instr.storeAt, Sem.run_bind, hx, Instr.sureAddr, Sem.run_pure, Result.andThen_ok]
          rw [hA]; exact hrun
      · exact hk.elim
    · exact hk.elim
  · exact hk.elim
theorem opA_sound (r : Reg X C we s0 Hs G V s H a w) {hs : Hints} (hE : ∀ t, memN hs.eqs t = true → EqOK P t) {Q : Exit → St → Heap → Prop} {o : Oper} {K : St → Heap → Prop} (hk : opA P hs Q s0.objs G o s H K) :
    bigAt P (PanN C hs Q) o a w fun v w' => Kept X Hs G we w' ∧ ∃ V' s' H', K s' H' ∧ Reg X C we s0 Hs G V' s' H' (a.put o.dst v) w' := by
  unfold opA at hk
  split at hk
  · split at hk
    · exact bigAt_mono (give_sound r o hk) fun v w' ⟨h1, s', H', h2, h3⟩ => ⟨h1, V, s', H', h2, h3⟩
    split at hk
    · exact bigAt_mono (keep_sound r o hk) fun v w' ⟨h1, s', H', h2, h3⟩ => ⟨h1, V, s', H', h2, h3⟩
    · exact bigAt_mono (keep_sound r o hk) fun v w' ⟨h1, s', H', h2, h3⟩ => ⟨h1, adoptA_reg h3 h2⟩
  · split at hk
    · rename_i ha
      have key : (∀ d, appSite s o = some d → look s0.objs d = none) → objK P o s H (fun s' => K s' H) → bigAt P (PanN C hs Q) o a w fun v w' => Kept X Hs G we w' ∧ ∃ V' s' H', K s' H' ∧ Reg X C we s0 Hs G V' s' H' (a.put o.dst v) w' := by
        intro hb hk
        obtain ⟨V', s', y, w', h1, h2, h3⟩ := app_reg r ha hb hk
        unfold bigAt
        rw [h3]
        exact ⟨h2.only, V', s', H, h1, h2⟩
      split at hk
      · rename_i d hd
        split at hk
        · rename_i hl
          exact key (fun d' e => by rw [hd] at e; cases e; exact hl) hk
        · exact hk.elim
      · rename_i hd
        exact key (fun d' e => by rw [hd] at e; cases e) hk
    · split at hk
      · rename_i hb
        split at hk
        · obtain ⟨V', s', y, w', h1, h2, h3 | ⟨h3, rfl⟩⟩ := alloc_reg r (bs_alloc hb) hk
          · unfold bigAt; rw [h3]; exact ⟨h2.only, V', s', H, h1, h2⟩
          · unfold bigAt; rw [h3]; exact ⟨h2.only, V', s', H, h1, h2⟩
        · exact hk.elim
      · have key : ∀ x, ev s x = ev s x → valK P ⟨hs.eqs⟩ o.op s (fun v => K (s.put o.dst v) H) → bigAt P (PanN C hs Q) o a w fun v w' => Kept X Hs G we w' ∧ ∃ V' s' H', K s' H' ∧ Reg X C we s0 Hs G V' s' H' (a.put o.dst v) w' := by
          intro x _ hk
          obtain ⟨z, v, h1, h2, h3⟩ := valK_sound r.rep (cfg := ⟨hs.eqs⟩) hE o hk
          unfold bigAt
          rw [h3]
          exact ⟨r.only, V, _, H, h1, r.put h2 o.dst⟩
        split at hk
        · rename_i x ho
          exact key x rfl (by rw [ho]; exact hk)
        · rename_i x ho
          exact key x rfl (by rw [ho]; exact hk)
        · exact key (.tmp 0) rfl hk
        · exact key (.tmp 0) rfl hk
        · exact key (.tmp 0) rfl hk
        · exact key (.tmp 0) rfl hk
        · rename_i ty x y ho
          split at hk
          · rename_i d hdst hsite
            split at hk
            · rename_i hO
              obtain ⟨d', old, obj, b0, w', hl, hp, hp', hs', hK, hrep, honly, hrun⟩ := storeK_sound r.rep o ho hdst hk
              rw [hsite] at hs'
              cases hs'
              have hrep2 : Rep C V (reput d ⟨s.env, objSet s.objs d obj, s.dfr⟩) H a w' := by
                rw [reput_set]
                exact rep_look hrep rfl rfl fun x ob e => by
                  rw [look_objSet, look_objDel] at e
                  by_cases hx : d = x
                  · subst hx; rw [if_pos rfl] at e; rw [look_objSet, if_pos rfl]; exact e
                  · rw [if_neg hx, if_neg hx] at e; exact e
              have lk : ∀ x, look (reput d ⟨s.env, objSet s.objs d obj, s.dfr⟩).objs x = if d = x then some obj else look s.objs x := fun x => by
                rw [reput_set]
                simp only [look_objSet, look_objDel]
                by_cases hx : d = x <;> simp [hx]
              unfold bigAt
              rw [hrun]
              have honly2 : Kept X Hs G we w' := ⟨honly.os.trans r.only.os, honly.tape.trans r.only.tape, honly.output.trans r.only.output, Nat.le_trans r.only.size honly.size, fun b hn hb => by
                rw [← r.only.block b hn hb]
                exact honly.block b (fun e => hn (by subst e; exact r.new d old b hl hO hp hb)) (Nat.lt_of_lt_of_le hb r.only.size)⟩
              refine ⟨honly2, V, _, H, hK, ?_⟩
              have hput : a.put o.dst undef = a := by rw [hdst]; rfl
              rw [hput]
              refine ⟨hrep2, honly2, fun x ob e => ?_, r.low, r.hs, r.sub, r.gs, r.le, r.cur, r.base, r.oth, r.xs, fun x ob b e e0 hb q => ?_⟩
              · rw [lk, if_neg (by rintro rfl; rw [hO] at e; cases e)]
                exact r.keep x ob e
              · rw [lk] at e
                by_cases hx : d = x
                · subst hx
                  rw [if_pos rfl] at e
                  cases e
                  rw [hp'] at hb
                  cases hb
                  exact r.new d old b0 hl hO hp q
                · rw [if_neg hx] at e
                  exact r.new x ob b e e0 hb q
            · exact hk.elim
          · rename_i hdst hsite
            obtain ⟨H', w', hK, hreg, hrun⟩ := pub_reg r ho hk
            unfold bigAt
            rw [hrun]
            have hput : a.put o.dst undef = a := by rw [hdst]; rfl
            exact ⟨hreg.only, V, _, H', hK, by rw [hput]; exact hreg⟩
          · exact hk.elim
        · exact hk.elim
/-! ### All orders -/
theorem elems_flat {sz : Nat} {s : St} : ∀ (l : List (Nat × Operand)) (j n : Nat) {es : List (List Value)}, elemsOf P sz s l j n = some es → ∀ q ∈ l, ∀ d, ev s q.2 ≠ .c (.row d) ∧ ev s q.2 ≠ .c .bad
  | [], _, _, _, _, q, hq, _ => by cases hq
  | (i, x) :: r, j, 0, es, h, q, hq, d => by simp [elemsOf] at h
  | (i, x) :: r, j, n + 1, es, h, q, hq, d => by
    simp only [elemsOf] at h
    split at h
    · rename_i l h1 h2
      split at h
      · rename_i cs hf
        split at h
        · rename_i es' h3 h4
          rcases List.mem_cons.1 hq with rfl | hq
          · constructor
            · intro e
              simp only at e
              rw [e] at h2
              simp [SV.segs] at h2
              subst h2
              simp [flat] at hf
            · intro e
              simp only at e
              rw [e] at h2
              simp [SV.segs] at h2
          · exact elems_flat r (j + 1) n h4 q hq d
        · cases h
      · cases h
    · cases h
theorem Mk.flat {o : Oper} {s : St} {p : PdE} (h : Mk P s o p) : ∀ x ∈ o.op.operands, ∀ d, ev s x ≠ .c (.row d) ∧ ev s x ≠ .c .bad := by
  obtain ⟨t, n, parts, h1, h2, h3, h4, h5, h6⟩ := h
  intro x hx d
  rw [h1] at hx
  simp only [Op.operands, List.mem_toArray, List.mem_map] at hx
  obtain ⟨q, hq, rfl⟩ := hx
  exact elems_flat _ _ _ h4 q hq d
theorem looks_op {ops : Array Oper} {o : Oper} {d : Nat} (h : d ∉ o.looksAt ops) : ∀ x ∈ o.op.operands, x ≠ .tmp d := by
  rintro x hx rfl
  exact h (List.mem_append_left _ (List.mem_filterMap.2 ⟨.tmp d, by simpa using hx, rfl⟩))
/-- What is known of a row that is ahead. -/
structure PdIn (P : Program) (ops : Array Oper) (s : St) (listed listedF : Array Bool) (p : PdE) (B : List PdE) : Prop where
  un : listed.getD p.k true = false
  op : ∃ o, ops[p.k]? = some o ∧ o.guard = none ∧ isBs o.op = true ∧ Mk P s o p ∧
    (∀ j oj, ops[j]? = some oj → j ≠ p.k → listedF.getD j true = false → (∀ e ∈ oj.after, Region.binds .any e = true → e.on ≠ p.k) → o.apart ops oj = true) ∧
    ∀ e ∈ o.after, Region.binds .any e = true → listed.getD e.on false = true ∨ ∃ q ∈ B, q.k = e.on
def AllIn (P : Program) (ops : Array Oper) (s : St) (listed listedF : Array Bool) : List PdE → Prop
  | [] => True
  | p :: B => PdIn P ops s listed listedF p B ∧ (∀ q ∈ B, q.k ≠ p.k ∧ q.d ≠ p.d) ∧ AllIn P ops s listed listedF B
def FAhead (ops : Array Oper) (listed listedF : Array Bool) (Pd : List PdE) : Prop := ∀ j d, listedF.getD j d = (listed.getD j d || Pd.any fun p => Nat.beq p.k j)
theorem allIn_mem {ops : Array Oper} {s : St} {listed listedF : Array Bool} : ∀ {Pd : List PdE}, AllIn P ops s listed listedF Pd → ∀ p ∈ Pd, ∃ B, PdIn P ops s listed listedF p B
  | [], _, p, hp => by cases hp
  | q :: B, h, p, hp => by
    rcases List.mem_cons.1 hp with rfl | hp
    · exact ⟨B, h.1⟩
    · exact allIn_mem h.2.2 p hp
theorem allIn_last {ops : Array Oper} {s : St} {listed listedF : Array Bool} : ∀ {Pd : List PdE}, AllIn P ops s listed listedF Pd → Pd ≠ [] → ∃ p ∈ Pd, PdIn P ops s listed listedF p []
  | [], _, h => absurd rfl h
  | [p], h, _ => ⟨p, by simp, h.1⟩
  | p :: q :: B, h, _ => by
    obtain ⟨r, hr, h'⟩ := allIn_last h.2.2 (by simp)
    exact ⟨r, List.mem_cons_of_mem _ hr, h'⟩
theorem allIn_split {ops : Array Oper} {s : St} {listed listedF : Array Bool} : ∀ {Pd : List PdE}, AllIn P ops s listed listedF Pd → ∀ p ∈ Pd, ∃ A B, Pd = A ++ p :: B ∧ ∀ q ∈ A ++ B, q.k ≠ p.k ∧ q.d ≠ p.d
  | [], _, p, hp => by cases hp
  | q :: B, h, p, hp => by
    rcases List.mem_cons.1 hp with rfl | hp2
    · exact ⟨[], B, rfl, h.2.1⟩
    · obtain ⟨A', B', e, h'⟩ := allIn_split h.2.2 p hp2
      refine ⟨q :: A', B', by rw [e]; rfl, fun x hx => ?_⟩
      rcases List.mem_cons.1 hx with rfl | hx
      · have := h.2.1 p hp2
        exact ⟨Ne.symm this.1, Ne.symm this.2⟩
      · exact h' x hx
/-- One more is done: i. -/
theorem allIn_step {ops : Array Oper} {s s' : St} {listed listedF listedF' : Array Bool} {i : Nat} {d : Option Nat} (hoff : EnvOff d s s') (hF : ∀ j, listedF'.getD j true = false → listedF.getD j true = false) :
    ∀ {Pd : List PdE}, AllIn P ops s listed listedF Pd → (∀ p ∈ Pd, p.k ≠ i) → (∀ p ∈ Pd, ∀ o, ops[p.k]? = some o → ∀ x ∈ o.op.operands, ∀ y, d = some y → x ≠ .tmp y) → AllIn P ops s' (listed.setIfInBounds i true) listedF' Pd
  | [], _, _, _ => trivial
  | p :: B, h, hk, hx => by
    obtain ⟨⟨h1, o, h2, h3, h4, h5, h6, h7⟩, h8, h9⟩ := h
    refine ⟨⟨?_, o, h2, h3, h4, h5.ext fun x hxm => ev_envOff hoff (hx p (List.mem_cons_self ..) o h2 x hxm), fun j oj a b c => h6 j oj a b (hF j c), fun e he hb => ?_⟩, h8, allIn_step hoff hF h9 (fun q hq => hk q (List.mem_cons_of_mem _ hq)) fun q hq => hx q (List.mem_cons_of_mem _ hq)⟩
    · rw [getD_set_ne true (Ne.symm (hk p (List.mem_cons_self ..)))]; exact h1
    · rcases h7 e he hb with h | h
      · exact .inl (getD_set_true h)
      · exact .inr h
theorem allIn_drop {ops : Array Oper} {s : St} {listed listedF : Array Bool} {p : PdE} : ∀ {A B : List PdE}, AllIn P ops s listed listedF (A ++ p :: B) → ∀ {listed' : Array Bool}, (∀ j, listed.getD j false = true → listed'.getD j false = true) → listed'.getD p.k false = true → (∀ q ∈ A ++ B, listed'.getD q.k true = false) → AllIn P ops s listed' listedF (A ++ B)
  | [], B, h, listed', hm, hp, hu => by
    -- the older ones do not hang on p
    have : ∀ {B : List PdE}, AllIn P ops s listed listedF B → (∀ q ∈ B, listed'.getD q.k true = false) → AllIn P ops s listed' listedF B := by
      intro B
      induction B with
      | nil => intro _ _; trivial
      | cons q B ih =>
        rintro ⟨⟨h1, o, h2, h3, h4, h5, h6, h7⟩, h8, h9⟩ hu
        refine ⟨⟨hu q (List.mem_cons_self ..), o, h2, h3, h4, h5, h6, fun e he hb => ?_⟩, h8, ih h9 fun x hx => hu x (List.mem_cons_of_mem _ hx)⟩
        rcases h7 e he hb with h | h
        · exact .inl (hm _ h)
        · exact .inr h
    exact this h.2.2 hu
  | q :: A, B, h, listed', hm, hp, hu => by
    obtain ⟨⟨h1, o, h2, h3, h4, h5, h6, h7⟩, h8, h9⟩ := h
    refine ⟨⟨hu q (List.mem_cons_self ..), o, h2, h3, h4, h5, h6, fun e he hb => ?_⟩, fun x hx => h8 x ?_, allIn_drop h9 hm hp fun x hx => hu x (List.mem_cons_of_mem _ hx)⟩
    · rcases h7 e he hb with h | ⟨x, hx, hxe⟩
      · exact .inl (hm _ h)
      · rcases List.mem_append.1 hx with hx | hx
        · exact .inr ⟨x, List.mem_append_left _ hx, hxe⟩
        · rcases List.mem_cons.1 hx with rfl | hx
          · exact .inl (by rw [← hxe]; exact hp)
          · exact .inr ⟨x, List.mem_append_right _ hx, hxe⟩
    · rcases List.mem_append.1 hx with hx | hx
      · exact List.mem_append_left _ hx
      · exact List.mem_append_right _ (List.mem_cons_of_mem _ hx)
theorem set_getD {l : Array Bool} {i : Nat} (hi : i < l.size) (j : Nat) (d : Bool) : (l.setIfInBounds i true).getD j d = (l.getD j d || Nat.beq i j) := by
  by_cases h : i = j
  · subst h; simp [hi]
  · rw [getD_set_ne d h, nbf h, Bool.or_false]
theorem ready_F {ops : Array Oper} {listed listedF : Array Bool} {Pd : List PdE} (hF : FAhead ops listed listedF Pd) {i : Nat} (hi : i ∈ Region.ready .any ops listed) (hn : ∀ p ∈ Pd, p.k ≠ i) : i ∈ Region.ready .any ops listedF := by
  rw [mem_ready] at *
  obtain ⟨h0, o, ho, hall⟩ := hi
  refine ⟨?_, o, ho, fun e he hb => ?_⟩
  · rw [hF, h0, Bool.false_or, List.any_eq_false]
    intro p hp
    rw [nbf (hn p hp)]; simp
  · rw [hF, hall e he hb]; rfl
theorem runM {hs : Hints} (hE : ∀ t, memN hs.eqs t = true → EqOK P t) (hpk : hs.pk = none) {Q : Exit → St → Heap → Prop} {ops : Array Oper} {big : Nat → Bool} :
    ∀ (f : Nat) {listed listedF : Array Bool} {l : List Nat} {Pd : List PdE} {V : Vl} {s t : St} {H : Heap} {a : Act} {w : World},
      f = l.length + Pd.length → listed.size = ops.size → (∀ k, listed.getD k true = false → big k = true) → FAhead ops listed listedF Pd → lex2 ops l listedF = true → (∀ k ∈ l, tail2N ops.toList k = true) → AllIn P ops s listed listedF Pd →
      Reg X C we s0 Hs G V s H a w → Ext Pd s t → runA P hs Q s0.objs G (pickO ops.toList l) t H →
      wpM P ops (Kept X Hs G we) (PanN C hs Q) big (fun _ => false) (fun _ => true) ops.size (fun l' a' w' => fin2 ops l' = true ∧ GamQ C Q .normal a' w') f listed a w := by
  intro f
  induction f with
  | zero =>
    intro listed listedF l Pd V s t H a w hf hsz hbig hF hlex htl hin r hext hk
    have hl : l = [] := List.length_eq_zero_iff.1 (by omega)
    have hp : Pd = [] := List.length_eq_zero_iff.1 (by omega)
    subst hl; subst hp
    simp only [lex2] at hlex
    refine ⟨?_, V, t, H, ?_, hk⟩
    · simp only [fin2, List.all_eq_true] at hlex ⊢
      intro j hj
      exact hlex j (ready_F hF hj (by simp))
    · refine rep_weaken r.rep (by rw [hext.len]; exact r.rep.len) (fun x y e => ?_) hext.dfr (fun d o e => ?_)
      · right
        rw [hext.env x (by simp)] at e
        simp only [St.get, e]
      · rw [hext.look d (by simp)] at e; exact e
  | succ f ih =>
    intro listed listedF l Pd V s t H a w hf hsz hbig hF hlex htl hin r hext hk
    refine ⟨?_, fun i hi => ?_⟩
    · -- something is ready
      intro h0
      cases Pd with
      | cons p B =>
        obtain ⟨q, _, hq1, o, hq2, _, _, _, _, hq7⟩ := allIn_last hin (by simp)
        have : q.k ∈ Region.ready .any ops listed := mem_ready.2 ⟨hq1, o, hq2, fun e he hb => by
          rcases hq7 e he hb with h | ⟨x, hx, _⟩
          · exact h
          · cases hx⟩
        rw [h0] at this; cases this
      | nil =>
        cases l with
        | nil => simp at hf
        | cons k l =>
          simp only [lex2, Bool.and_eq_true] at hlex
          have h1 : k ∈ Region.ready .any ops listedF := by simpa using hlex.2.1
          rw [mem_ready] at h1
          have hF' : ∀ j d, listedF.getD j d = listed.getD j d := fun j d => by rw [hF]; simp
          have : k ∈ Region.ready .any ops listed := mem_ready.2 ⟨by rw [← hF']; exact h1.1, by
            obtain ⟨o, ho, hall⟩ := h1.2
            exact ⟨o, ho, fun e he hb => by rw [← hF']; exact hall e he hb⟩⟩
          rw [h0] at this; cases this
    obtain ⟨hiun, oi, hoi, hall⟩ := mem_ready.1 hi
    have his : i < ops.size := (Array.getElem?_eq_some_iff.1 hoi).1
    refine ⟨his, ?_⟩
    have hibig : big i = true := hbig i hiun
    have hbig' : ∀ k, (listed.setIfInBounds i true).getD k true = false → big k = true := fun k hk' => hbig k (by
      rw [set_getD (by omega)] at hk'
      simp only [Bool.or_eq_false_iff] at hk'
      exact hk'.1)
    have hsz' : (listed.setIfInBounds i true).size = ops.size := by simp [hsz]
    by_cases hpend : ∃ p ∈ Pd, p.k = i
    · -- a row that was ahead is made
      obtain ⟨p, hp, rfl⟩ := hpend
      obtain ⟨A, B, rfl, hdis⟩ := allIn_split hin p hp
      obtain ⟨B', hpi⟩ := allIn_mem hin p hp
      obtain ⟨hp1, o, hp2, hp3, hp4, hp5, hp6, hp7⟩ := hpi
      have : oi = o := Option.some.inj (hoi.symm.trans hp2)
      subst this
      have hfr := hext.freeP p hp
      have hod : oi.dst = some p.d := by obtain ⟨_, _, _, _, h, _⟩ := hp5; exact h
      obtain ⟨V', s', y, w', hs', hreg, hrun⟩ := alloc_reg r (bs_alloc hp4) (hp5.objK (H := H) hfr (K := fun s' => s' = rowSt s p) rfl)
      subst hs'
      have hnext := ih (l := l) (Pd := A ++ B) (listed := listed.setIfInBounds p.k true) (listedF := listedF) (V := V') (s := rowSt s p) (t := t) (H := H) (a := a.put oi.dst y) (w := w') (by simp at hf ⊢; omega) hsz' hbig' (fun j d => ?_) hlex htl ?_ hreg (hext.made fun q hq => (hdis q hq).2) hk
      · unfold mOp
        simp only [hoi]
        rw [if_pos (by simp [Region.wanted, hp3]), hibig, if_pos rfl]
        unfold bigAt
        rcases hrun with h3 | ⟨h3, rfl⟩
        · rw [h3]; exact ⟨fun _ => hreg.only, hnext⟩
        · rw [h3]; exact ⟨fun _ => hreg.only, hnext⟩
      · rw [hF, set_getD (by omega)]
        simp only [List.any_append, List.any_cons]
        cases listed.getD j d <;> cases A.any (fun p => Nat.beq p.k j) <;> cases Nat.beq p.k j <;> simp
      · have h1 := allIn_drop hin (listed' := listed.setIfInBounds p.k true) (fun j hj => getD_set_true hj) (by rw [set_getD (by omega)]; simp) (fun q hq => by
          rw [getD_set_ne true (Ne.symm (hdis q hq).1)]
          have hq' : q ∈ A ++ p :: B := by
            rcases List.mem_append.1 hq with hq | hq
            · exact List.mem_append_left _ hq
            · exact List.mem_append_right _ (List.mem_cons_of_mem _ hq)
          obtain ⟨_, h⟩ := allIn_mem hin q hq'
          exact h.un)
        -- the slots of the others
        have hoff : EnvOff (some p.d) s (rowSt s p) := envOff_put ⟨s.env, objSet s.objs p.d (.row p.e p.sz p.es), s.dfr⟩ (some p.d) (.c (.row p.d))
        have conv : ∀ {Pd : List PdE}, AllIn P ops s (listed.setIfInBounds p.k true) listedF Pd → AllIn P ops (rowSt s p) (listed.setIfInBounds p.k true) listedF Pd := by
          intro Pd
          induction Pd with
          | nil => intro _; trivial
          | cons q B ihq =>
            rintro ⟨⟨h1, o, h2, h3, h4, h5, h6, h7⟩, h8, h9⟩
            refine ⟨⟨h1, o, h2, h3, h4, h5.ext fun x hxm => ev_envOff hoff fun y e => ?_, h6, h7⟩, h8, ihq h9⟩
            cases e
            rintro rfl
            have := (h5.flat _ hxm 0).2
            simp only [ev, St.get, hext.envB p hp] at this
            exact this rfl
        exact conv h1
    · -- what comes next, or a row that is built
      have hnp : ∀ p ∈ Pd, p.k ≠ i := fun p hp e => hpend ⟨p, hp, e⟩
      have hiF : i ∈ Region.ready .any ops listedF := ready_F hF hi hnp
      have hup : i ∈ upMain ops.toList l := by
        cases l with
        | nil =>
          exfalso
          simp only [lex2, fin2, List.all_eq_true] at hlex
          have := Nat.le_of_ble_eq_true (hlex i hiF)
          omega
        | cons k l =>
          simp only [lex2, Bool.and_eq_true, List.all_eq_true] at hlex
          simpa using hlex.2.2.1 i hiF
      clear hiF
      -- rows that are built ahead of it are put ahead
      have adv : ∀ (l : List Nat) {listedF : Array Bool} {Pd : List PdE} {t : St}, f + 1 = l.length + Pd.length → FAhead ops listed listedF Pd → lex2 ops l listedF = true → (∀ k ∈ l, tail2N ops.toList k = true) → AllIn P ops s listed listedF Pd → Ext Pd s t →
          runA P hs Q s0.objs G (pickO ops.toList l) t H → (∀ p ∈ Pd, p.k ≠ i) → i ∈ upMain ops.toList l →
          mOp P ops (Kept X Hs G we) (PanN C hs Q) big (fun _ => false) (fun _ => true) i (wpM P ops (Kept X Hs G we) (PanN C hs Q) big (fun _ => false) (fun _ => true) ops.size (fun l' a' w' => fin2 ops l' = true ∧ GamQ C Q .normal a' w') f (listed.setIfInBounds i true)) a w := by
        intro l
        induction l with
        | nil => intro listedF Pd t _ _ _ _ _ _ _ _ hup; simp [upMain] at hup
        | cons k l ihl =>
          intro listedF Pd t hf hF hlex htl hin hext hk hnp hup
          simp only [lex2, Bool.and_eq_true] at hlex
          obtain ⟨hks, hkr, hka, hkf, hlex'⟩ := hlex
          have hks : k < ops.size := by simpa [Nat.blt_eq] using hks
          have hkr : k ∈ Region.ready .any ops listedF := by simpa using hkr
          obtain ⟨hkun, ok, hok, hkall⟩ := mem_ready.1 hkr
          have hnth : nth ops.toList k = some ok := by rw [nth_eq]; simpa using hok
          have hpick : pickO ops.toList (k :: l) = ok :: pickO ops.toList l := by simp only [pickO, hnth]
          rw [hpick] at hk
          simp only [runA] at hk
          have htk : tail2 ok = true := by
            have := htl k (List.mem_cons_self ..)
            simpa [tail2N, hnth] using this
          have hgk : ok.guard = none := by
            simp only [tail2, Bool.and_eq_true] at htk
            cases hg : ok.guard with
            | none => rfl
            | some x => rw [hg] at htk; simp at htk
          have hkPd : ∀ p ∈ Pd, p.k ≠ k := fun p hp e => by
            have := hkun
            rw [hF, Bool.or_eq_false_iff, List.any_eq_false] at this
            exact this.2 p hp (by rw [e]; simp)
          have hlsz : listedF.size = listedF.size := rfl
          have hFset : ∀ j d, (listedF.setIfInBounds k true).getD j d = (listedF.getD j d || Nat.beq k j) := by
            have : k < listedF.size := by
              rcases Nat.lt_or_ge k listedF.size with h | h
              · exact h
              · simp [Array.getElem?_eq_none h] at hkun
            exact set_getD this
          by_cases hik : i = k
          · subst hik
            have : oi = ok := Option.some.inj (hoi.symm.trans hok)
            subst this
            -- the rows that are ahead are apart from it
            have apart : ∀ p ∈ Pd, ∃ o, ops[p.k]? = some o ∧ o.dst = some p.d ∧ o.apart ops oi = true := fun p hp => by
              obtain ⟨B, h1, o, h2, h3, h4, h5, h6, h7⟩ := allIn_mem hin p hp
              obtain ⟨_, _, _, _, hd, _⟩ := id h5
              refine ⟨o, h2, hd, h6 i oi hoi (Ne.symm (hnp p hp)) hkun fun e he hb heq => ?_⟩
              have := hall e he hb
              rw [heq, getD_both h1] at this
              cases this
            have hx : ∀ x ∈ oi.op.operands, ∀ p ∈ Pd, x ≠ .tmp p.d := fun x hxm p hp => by
              obtain ⟨o, _, hd, ha⟩ := apart p hp
              exact looks_op ((Oper.apart_spec ha).1 p.d hd) x hxm
            have hd : ∀ p ∈ Pd, oi.dst ≠ some p.d := fun p hp => by
              obtain ⟨o, _, hd, ha⟩ := apart p hp
              exact (Oper.apart_spec ha).2.1 p.d hd
            have h1 := opA_sound r hE (opA_ext hext hpk hx hd hk)
            unfold mOp
            simp only [hoi]
            rw [if_pos (by simp [Region.wanted, hgk]), hibig, if_pos rfl]
            refine bigAt_mono h1 fun v w' ⟨hkept, V', s', H', ⟨t', hext', hk', hoff⟩, hreg⟩ => ⟨fun _ => hkept, ?_⟩
            refine ih (l := l) (Pd := Pd) (listedF := listedF.setIfInBounds i true) (by simp at hf; omega) hsz' hbig' (fun j d => ?_) hlex' (fun k hk => htl k (List.mem_cons_of_mem _ hk)) ?_ hreg hext' hk'
            · rw [hFset, hF, set_getD (by omega)]
              cases listed.getD j d <;> cases Nat.beq i j <;> simp
            · refine allIn_step hoff (fun j hj => ?_) hin hnp fun p hp o ho x hxm y hy => ?_
              · rw [hFset, Bool.or_eq_false_iff] at hj; exact hj.1
              · obtain ⟨o', ho', hd', ha⟩ := apart p hp
                have : o = o' := Option.some.inj (ho.symm.trans ho')
                subst this
                exact looks_op ((Oper.apart_spec ha).2.2 y hy) x hxm
          · have hbk : bsN ops.toList k = true := by
              cases hb : bsN ops.toList k with
              | true => rfl
              | false =>
                simp only [upMain, hb, List.mem_singleton] at hup
                exact absurd hup hik
            have hbo : isBs ok.op = true := by simpa [bsN, hnth] using hbk
            have hup' : i ∈ upMain ops.toList l := by
              simp only [upMain, hbk, List.mem_cons] at hup
              exact hup.resolve_left hik
            rw [hbk] at hkf
            have hncall : isCall ok.op = false := by
              obtain ⟨dst, op, ty, pos, af, g⟩ := ok
              cases op <;> simp [isBs] at hbo <;> rfl
            have hnapp : isApp ok.op = false := by
              obtain ⟨dst, op, ty, pos, af, g⟩ := ok
              cases op <;> simp [isBs] at hbo <;> rfl
            unfold opA at hk
            rw [hncall, hnapp, hbo] at hk
            simp only at hk
            split at hk
            · rename_i hbad
              obtain ⟨p, hpk', hm, hfr, hk⟩ := bs_mk hbo k hk
              obtain ⟨_, _, _, _, hpd, _⟩ := id hm
              have hbad' : nth t.env p.d = some (.c .bad) := by
                rw [hpd] at hbad
                simp only [badAt] at hbad
                split at hbad
                · assumption
                · cases hbad
              obtain ⟨hne, hext'⟩ := hext.ahead (k := k) (e := p.e) (sz := p.sz) (es := p.es) hfr hbad'
              have hpe : (⟨k, p.d, p.e, p.sz, p.es⟩ : PdE) = p := by rw [← hpk']
              rw [hpe] at hext'
              have hms : Mk P s ok p := hm.ext fun x hxm => by
                refine (hext.ev fun q hq => ?_).symm
                rintro rfl
                have := (hm.flat _ hxm q.d).1
                simp only [ev, St.get, hext.envP q hq] at this
                exact this rfl
              refine ihl (Pd := p :: Pd) (listedF := listedF.setIfInBounds k true) (t := rowSt t p) (by simp at hf ⊢; omega) (fun j d => ?_) hlex' (fun k hk => htl k (List.mem_cons_of_mem _ hk)) ⟨⟨?_, ok, by rw [hpk']; exact hok, hgk, hbo, hms, fun j oj a b c d => ?_, fun e he hb => ?_⟩, fun q hq => ⟨by rw [hpk']; exact hkPd q hq, hne q hq⟩, ?_⟩ hext' hk (fun q hq => ?_) hup'
              · rw [hFset, hF, List.any_cons, hpk']
                cases listed.getD j d <;> cases Nat.beq k j <;> simp
              · rw [hpk']
                rw [hF, Bool.or_eq_false_iff] at hkun
                exact hkun.1
              · rw [hFset, Bool.or_eq_false_iff] at c
                exact Region.free_spec hok hkf j oj a (by rw [← hpk']; exact b) c.1 (by rw [← hpk']; exact d)
              · have := hkall e he hb
                rw [hF, Bool.or_eq_true, List.any_eq_true] at this
                rcases this with h | ⟨q, hq, hqe⟩
                · exact .inl h
                · exact .inr ⟨q, hq, nbt hqe⟩
              · -- the others, of more that is told
                have conv : ∀ {Pd : List PdE}, AllIn P ops s listed listedF Pd → AllIn P ops s listed (listedF.setIfInBounds k true) Pd := by
                  intro Pd
                  induction Pd with
                  | nil => intro _; trivial
                  | cons q B ihq =>
                    rintro ⟨⟨h1, o, h2, h3, h4, h5, h6, h7⟩, h8, h9⟩
                    exact ⟨⟨h1, o, h2, h3, h4, h5, fun j oj a b c d => h6 j oj a b (by rw [hFset, Bool.or_eq_false_iff] at c; exact c.1) d, h7⟩, h8, ihq h9⟩
                exact conv hin
              · rcases List.mem_cons.1 hq with rfl | hq
                · rw [hpk']; exact fun e => hik e.symm
                · exact hnp q hq
            · exact hk.elim
      exact adv l hf hF hlex htl hin hext hk hnp hup
/-! ### A statement -/
theorem lexB_fin {ops : Array Oper} {n : Nat} {big : Nat → Bool} {fin : Array Bool → Bool} : ∀ (l : List Nat) (listed : Array Bool), lexB ops n big fin l listed = true → fin (l.foldl (fun L k => L.setIfInBounds k true) listed) = true
  | [], _, h => h
  | k :: r, listed, h => by
    simp only [lexB, Bool.and_eq_true] at h
    exact lexB_fin r _ h.2
theorem foldl_size : ∀ (l : List Nat) (listed : Array Bool), (l.foldl (fun L k => L.setIfInBounds k true) listed).size = listed.size
  | [], _ => rfl
  | k :: r, listed => by rw [List.foldl_cons, foldl_size r]; simp
theorem foldl_true : ∀ (l : List Nat) (listed : Array Bool) (k : Nat), (k ∈ l ∨ listed.getD k true = true) → (l.foldl (fun L k => L.setIfInBounds k true) listed).getD k true = true
  | [], listed, k, h => by simpa using h
  | j :: r, listed, k, h => by
    rw [List.foldl_cons]
    refine foldl_true r _ k ?_
    by_cases hj : j = k
    · subst hj
      right
      by_cases hs : j < listed.size
      · simp [hs]
      · simp [Array.setIfInBounds, hs]
    · rcases h with h | h
      · rcases List.mem_cons.1 h with rfl | h
        · exact absurd rfl hj
        · exact .inl h
      · right; rw [getD_set_ne true hj]; exact h
theorem wpM_lexP {ops : Array Oper} {Cw : World → Prop} {PN : List PanicEntry → Act → World → Prop} {big wr rd : Nat → Bool} {fin : Array Bool → Bool} {N : Act → World → Prop} {L : Array Bool → Act → World → Prop} (hL : ∀ l' a w, L l' a w → ∀ j ∈ Region.ready .any ops l', ops.size ≤ j)
    (hsel : Region.noSelect ops = true) (hP : ∀ (j : Nat) (o : Oper), ops[j]? = some o → ∀ c (a : Act) w v, PN c (a.put o.dst v) w → PN c a w) (f' : Nat) :
    ∀ (l : List Nat) (listed : Array Bool) (a : Act) (w : World), lexB ops ops.size (fun _ => false) fin l listed = true → (∀ k ∈ l, big k = false) → mList P ops Cw PN big wr rd N l a w →
      (∀ a' w', N a' w' → wpM P ops Cw PN big wr rd ops.size L f' (l.foldl (fun L k => L.setIfInBounds k true) listed) a' w') → wpM P ops Cw PN big wr rd ops.size L (l.length + f') listed a w
  | [], listed, a, w, _, _, h, hN => by rw [List.length_nil, Nat.zero_add]; exact hN a w h
  | k :: r, listed, a, w, hB, hb, h, hN => by
    simp only [lexB, Bool.and_eq_true] at hB
    obtain ⟨⟨hkn, hk⟩, hB'⟩ := hB
    have hkn : k < ops.size := by simpa [Nat.blt_eq] using hkn
    have hr' : k ∈ Region.ready .any ops listed := by simpa using hk.1
    obtain ⟨_, o, ho, _⟩ := mem_ready.1 hr'
    simp only [mList] at h
    have hbk := hb k (List.mem_cons_self ..)
    obtain ⟨v, hy, hK⟩ := yl_of_mOp ho (.inl hbk) h
    rw [show (k :: r).length + f' = (r.length + f') + 1 by simp; omega]
    exact wpM_quiet hL tailB_all (Region.noSelect_spec hsel) hP ho hkn (r.length + f') listed a w (Region.free_spec ho hk.2) hr' hy (.inl hbk)
      (wpM_lexP hL hsel hP f' r _ _ _ hB' (fun j hj => hb j (List.mem_cons_of_mem _ hj)) hK hN)
theorem mList_conv {ops : Array Oper} {Cw : World → Prop} {PN : List PanicEntry → Act → World → Prop} {big wr rd big' wr' : Nat → Bool} {N : Act → World → Prop} : ∀ (l : List Nat) {a : Act} {w : World}, (∀ k ∈ l, big k = false ∧ big' k = false) →
    mList P ops Cw PN big wr rd N l a w → mList P ops Cw PN big' wr' (fun _ => true) N l a w
  | [], a, w, _, h => h
  | k :: r, a, w, hb, h => by
    simp only [mList] at h ⊢
    have h := mOp_mono h fun a w h => mList_conv (big' := big') (wr' := wr') r (fun j hj => hb j (List.mem_cons_of_mem _ hj)) h
    obtain ⟨h1, h2⟩ := hb k (List.mem_cons_self ..)
    unfold mOp at h ⊢
    split
    · rename_i ho; rw [ho] at h; exact h
    · rename_i o ho
      rw [ho] at h
      simp only at h
      split
      · rename_i hw
        rw [if_pos hw, h1] at h
        rw [h2]
        simp only [Bool.false_eq_true, if_false] at h ⊢
        obtain ⟨v, h3, h4⟩ := h
        exact ⟨v, fun w' hc => h3 w' fun _ => hc trivial, h4⟩
      · rename_i hw
        rw [if_neg hw] at h
        exact h
theorem quiet_small {op : Op} (h : quietOp op = true) : isAlloc op = false ∧ isCall op = false := by
  unfold quietOp at h
  split at h <;> first | exact ⟨rfl, rfl⟩ | cases h
theorem head_rest2 (ops : List Oper) : ∀ l, head2 ops l ++ rest2 ops l = l := by
  intro l
  induction l with
  | nil => rfl
  | cons k r ih =>
    unfold head2 rest2
    split
    · rw [List.cons_append, ih]
    · rfl
theorem head2_qu (ops : List Oper) : ∀ l, ∀ k ∈ head2 ops l, quN ops k = true := by
  intro l
  induction l with
  | nil => intro k hk; cases hk
  | cons j r ih =>
    intro k hk
    unfold head2 at hk
    split at hk
    · rename_i hj
      rcases List.mem_cons.1 hk with rfl | hk
      · exact hj
      · exact ih k hk
    · cases hk
theorem delAll_look : ∀ (ds : List Nat) {l : List (Nat × AObj)} {d : Nat} {o : AObj}, look (delAll l ds) d = some o → look l d = some o
  | [], _, _, _, h => h
  | x :: ds, l, d, o, h => by
    have := delAll_look ds h
    rw [look_objDel] at this
    split at this
    · cases this
    · exact this
theorem mix2_sound {hs : Hints} (hE : ∀ t, memN hs.eqs t = true → EqOK P t) {Q : Exit → St → Heap → Prop} {ops : Array Oper} {id : Nat} (h : Rep C V s H a w) (hB : drawOK2 P hs ops = true) {ds : List Nat}
    (hk : drawK2 P hs Q ops (pickO ops.toList (head2 ops.toList (order2 ops))) (pickO ops.toList (rest2 ops.toList (order2 ops))) (delAll s.objs ds) s H) : (Code.region id ops true).wp P (GamQ C Q) a w := by
  have h' := rep_drawn h
  simp only [drawOK2, Bool.and_eq_true, List.all_eq_true] at hB
  obtain ⟨hsel, hll, htl, hlex, hpk, hm⟩ := hB
  have hll := nbt hll
  have hpk : hs.pk = none := by
    cases hp : hs.pk with
    | none => rfl
    | some x => rw [hp] at hpk; cases hpk
  have hnd : noDst ops.toList hs.pk = true := by rw [hpk]; rfl
  generalize horder : order2 ops = order at *
  have happ := head_rest2 ops.toList order
  have hqu := head2_qu ops.toList order
  generalize head2 ops.toList order = hd at *
  generalize rest2 ops.toList order = tl at *
  generalize hO : delAll s.objs ds = O at *
  have hlt : ∀ k ∈ hd, k < ops.size ∧ wrN ops.toList k = false := fun k hk => by
    refine ⟨lexB_lt _ _ hlex k hk, ?_⟩
    have := hqu k hk
    unfold quN at this
    unfold wrN
    split at this
    · rename_i o ho
      simp [wrO, this]
    · cases this
  have hsmall : ∀ k ∈ hd, bigN ops.toList k = false ∧ (!hd.contains k) = false := fun k hk => by
    refine ⟨?_, by simpa using hk⟩
    have := hqu k hk
    unfold quN at this
    unfold bigN
    split at this
    · rename_i o ho
      obtain ⟨h1, h2⟩ := quiet_small this
      simp [wrO, bigO, this, h1, h2]
    · cases this
  have hsub : ∀ {d : Nat} {o : AObj}, look O d = some o → look s.objs d = some o := fun e => by rw [← hO] at e; exact delAll_look ds e
  have reg : ∀ G : Heap, G ≤ H → Reg (fun b => ∃ d o, look s.objs d = some o ∧ look O d = none ∧ privB V d o = some b) C { w with drawn := w.drawn + 1 } ⟨s.env, O, s.dfr⟩ H G V s H a { w with drawn := w.drawn + 1 } := fun G hG =>
    { rep := h', only := only_refl _, keep := fun _ _ e => hsub e, low := fun d o b e hb => (h'.priv d o b (hsub e) hb).2.2,
      hs := fun d o b e hb => ⟨(h'.priv d o b (hsub e) hb).1, fun ⟨d', o', e1, e2, e3⟩ => by
        have := h'.dist d o d' o' b (hsub e) e1 hb e3
        subst this
        simp only at e
        rw [e] at e2; cases e2⟩
      sub := h'.sub, gs := hG, le := hG, cur := fun _ _ e _ => e, base := h'.size, oth := fun b hb e => (h'.other b hb e).2,
      xs := fun b ⟨d', o', e1, e2, e3⟩ => ⟨(h'.priv d' o' b e1 e3).1, (h'.priv d' o' b e1 e3).2.1⟩, new := fun d o b e e' hb q => ⟨q, .inr ⟨d, o, e, e', hb⟩⟩ }
  have fin : ∀ G : Heap, G ≤ H → mixK P hs Q ⟨s.env, O, s.dfr⟩ G ops.toList (runA P hs Q O G (pickO ops.toList tl)) (pickO ops.toList hd) s H → (Code.region id ops true).wp P (GamQ C Q) a w := by
    intro G hG hk
    have hr := reg G hG
    generalize (fun b => ∃ d o, look s.objs d = some o ∧ look O d = none ∧ privB V d o = some b) = X at hr
    have hlen : hd.length + tl.length = ops.size := by rw [← hll, ← happ, List.length_append]
    have hm1 := mixK_sound hE (N := fun a1 w1 => wpM P ops (Kept X H G { w with drawn := w.drawn + 1 }) (PanN C hs Q) (fun k => !hd.contains k) (fun _ => false) (fun _ => true) ops.size (fun l' a' w' => fin2 ops l' = true ∧ GamQ C Q .normal a' w') tl.length (hd.foldl (fun L k => L.setIfInBounds k true) (Array.replicate ops.size false)) a1 w1)
      (fun V1 s1 H1 a1 w1 r1 hk1 => runM (s0 := ⟨s.env, O, s.dfr⟩) hE hpk tl.length (listedF := hd.foldl (fun L k => L.setIfInBounds k true) (Array.replicate ops.size false)) (l := tl) (Pd := []) (by simp) (by rw [foldl_size]; simp) (fun k hk => by
        have : ¬ k ∈ hd := fun hm => by rw [foldl_true hd _ k (.inl hm)] at hk; cases hk
        simpa using this) (fun j d => by simp) (lexB_fin hd _ hlex) htl trivial r1 (Ext.refl s1) hk1) hd hlt hr hk
    have hm2 := mList_conv (big' := fun k => !hd.contains k) (wr' := fun _ => false) hd hsmall hm1
    have hm3 := wpM_lexP (L := fun l' a' w' => fin2 ops l' = true ∧ GamQ C Q .normal a' w') (fun l' a w h j hj => by rw [fin2_none h.1] at hj; cases hj) hsel (panN_put hnd) tl.length hd (Array.replicate ops.size false) _ _ hlex (fun k hk => (hsmall k hk).2) hm2 fun _ _ h => h
    rw [hlen] at hm3
    refine wp_region_any hm ?_
    have h2 := wpAny_of_wpM (g := 0) (Q := GamQ C Q) (fun i k hi => by cases hi) (fun c a w ⟨V, s, H, _, h1, h2⟩ => ⟨V, s, H, h1, h2⟩) (fun listed a' w' hl => ⟨fin2_none hl.1, hl.2⟩) ops.size _ a _ (fun j oj _ hl => (by rw [getD_replicate_false] at hl; cases hl)) (fun _ => only_refl _) hm3
    exact h2
  unfold drawK2 at hk
  split at hk
  · exact fin H (heap_refl H) hk
  · split at hk
    · obtain ⟨G, hG, hk⟩ := hk
      exact fin G hG hk
    · exact fin _ (fun b o e => by cases e) hk
end
end Sx
