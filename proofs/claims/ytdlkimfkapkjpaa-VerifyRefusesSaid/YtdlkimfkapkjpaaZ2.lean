/- Own texts, one behind the other: SxF, SxG, SxU, SxH, SxI, SxJ, SxM, SxN. -/
import Derived.Test.YtdlkimfkapkjpaaZ1
set_option linter.unusedVariables false
set_option linter.unusedSimpArgs false
namespace Sx
open Go
set_option linter.unusedSectionVars false
variable [Dr]
section
variable {P : Program} {C : Ctx} {V : Vl} {s : St} {H : Heap} {a : Act} {w : World}

/-- Alike but at one name. -/
def Off (d : Nat) (V V' : Vl) : Prop := ∀ s, s ≠ d → V'.blk s = V.blk s ∧ V'.row s = V.row s
theorem sc_off {d : Nat} {V V' : Vl} (hV : Off d V V') {x : SC} {y : Value} (hx : x.refs d = false) (h : x.rep V y) : x.rep V' y := by
  have ne : ∀ {n : Nat}, Nat.beq n d = false → n ≠ d := fun h e => by subst e; simp at h
  cases x with
  | v z => exact h
  | box s off => simp only [SC.refs] at hx; simp only [SC.rep] at h ⊢; rw [(hV s (ne hx)).1]; exact h
  | boxi s off n i => simp only [SC.refs] at hx; simp only [SC.rep] at h ⊢; rw [(hV s (ne hx)).1]; exact h
  | arr s off n lo hi => simp only [SC.refs] at hx; simp only [SC.rep] at h ⊢; rw [(hV s (ne hx)).1]; exact h
  | row s => simp only [SC.refs] at hx; simp only [SC.rep] at h ⊢; rw [(hV s (ne hx)).2]; exact h
  | sub s sz lo hi => simp only [SC.refs] at hx; simp only [SC.rep] at h ⊢; rw [(hV s (ne hx)).2]; exact h
  | cell s sz i off => simp only [SC.refs] at hx; simp only [SC.rep] at h ⊢; rw [(hV s (ne hx)).2]; exact h
  | clo fn first caps =>
    simp only [SC.refs] at hx; simp only [SC.rep] at h ⊢
    rw [h]
    congr 2
    refine List.map_congr_left fun c hc => ?_
    rw [List.any_eq_false] at hx
    have := hx c hc
    cases c with
    | b s => simp only [Bool.not_eq_true] at this; simp only [Cap.real]; rw [(hV s (ne this)).1]
    | v x => rfl
  | bad => trivial
theorem segs_off {d : Nat} {V V' : Vl} (hV : Off d V V') : ∀ {l : List Seg} {cs : List Value}, l.any (Seg.refs d) = false → SegsRep V l cs → SegsRep V' l cs
  | [], cs, _, h => h
  | .c x :: r, cs, hl, h => by
    simp only [List.any_cons, Bool.or_eq_false_iff] at hl
    obtain ⟨y, l', rfl, hx, hr⟩ := h
    exact ⟨y, l', rfl, sc_off hV hl.1 hx, segs_off hV hl.2 hr⟩
  | .ints k n xs :: r, cs, hl, h => by
    simp only [List.any_cons, Bool.or_eq_false_iff] at hl
    obtain ⟨hn, l', rfl, hr⟩ := h
    exact ⟨hn, l', rfl, segs_off hV hl.2 hr⟩
theorem comps_off {d : Nat} {V V' : Vl} (hV : Off d V V') : ∀ {l : List Comp} {cs : List Value}, l.any (Comp.refs d) = false → CompsRep V l cs → CompsRep V' l cs
  | [], cs, _, h => h
  | x :: r, cs, hl, h => by
    simp only [List.any_cons, Bool.or_eq_false_iff] at hl
    obtain ⟨y, l', rfl, hx, hr⟩ := h
    refine ⟨y, l', rfl, ?_, comps_off hV hl.2 hr⟩
    cases x with
    | c x => exact sc_off hV hl.1 hx
    | agg l => obtain ⟨cs, h1, h2⟩ := hx; exact ⟨cs, h1, segs_off hV hl.1 h2⟩
theorem sv_off {d : Nat} {V V' : Vl} (hV : Off d V V') {x : SV} {y : Value} (hx : x.refs d = false) (h : x.rep V y) : x.rep V' y := by
  cases x with
  | c x => exact sc_off hV hx h
  | agg l => obtain ⟨cs, h1, h2⟩ := h; exact ⟨cs, h1, segs_off hV hx h2⟩
  | tup l => obtain ⟨cs, h1, h2⟩ := h; exact ⟨cs, h1, comps_off hV hx h2⟩
theorem look_mem : ∀ {l : List (Nat × AObj)} {d : Nat} {o : AObj}, look l d = some o → (d, o) ∈ l
  | [], d, o, h => by simp [look] at h
  | (k, x) :: r, d, o, h => by
    simp only [look] at h
    split at h
    · rename_i hb; cases h; have := nbt hb; subst this; simp
    · exact List.mem_cons_of_mem _ (look_mem h)
theorem free_env {d : Nat} (h : s.free d = true) : ∀ t x, nth s.env t = some x → x.refs d = false := by
  intro t x hx
  simp only [St.free, Bool.and_eq_true, Bool.not_eq_true'] at h
  rw [nth_eq] at hx
  have := h.1
  rw [List.any_eq_false] at this
  simpa using this x (List.mem_of_getElem? hx)
theorem free_obj {d : Nat} (h : s.free d = true) : ∀ d' o, look s.objs d' = some o → d' ≠ d ∧ o.refs d = false := by
  intro d' o ho
  simp only [St.free, Bool.and_eq_true, Bool.not_eq_true'] at h
  have := h.2.1
  rw [List.any_eq_false] at this
  have h1 := this (d', o) (look_mem ho)
  simp only [Bool.or_eq_true, not_or, Bool.not_eq_true] at h1
  exact ⟨fun e => by subst e; simp at h1, h1.2⟩
theorem free_dfr {d : Nat} {V V' : Vl} (hV : Off d V V') (h : s.free d = true) : s.dfr.map (ADef.real V') = s.dfr.map (ADef.real V) := by
  simp only [St.free, Bool.and_eq_true, Bool.not_eq_true'] at h
  have := h.2.2
  rw [List.any_eq_false] at this
  refine List.map_congr_left fun x hx => ?_
  have h1 := this x hx
  simp only [Bool.not_eq_true, List.any_eq_false] at h1
  simp only [ADef.real]
  congr 2
  refine List.map_congr_left fun k hk => ?_
  rw [(hV k (fun e => by subst e; have := h1 k hk; simp at this)).1]
theorem base_no {C : Ctx} {b : Nat} (h : C.w0.heap.size ≤ b ∨ C.H0 b ≠ none) (h1 : b < C.w0.heap.size) (h2 : C.H0 b = none) : False := by
  rcases h with h | h
  · omega
  · exact h h2
theorem privB_off {d d' : Nat} {V V' : Vl} (hV : Off d V V') (h : d' ≠ d) (o : AObj) : privB V' d' o = privB V d' o := by
  cases o with
  | box ty l => simp [privB, (hV d' h).1]
  | row ty sz es => simp [privB, (hV d' h).2]
theorem rowIn_same {w w' : World} {v : Value} {ty sz : Nat} {es : List (List Value)} (h : RowIn w v ty sz es) (hb : ∀ b, blockOf v = some b → w'.heap[b]? = w.heap[b]?) : RowIn w' v ty sz es := by
  rcases h with h | ⟨b, o, cap, c, hv, h1, h2⟩
  · exact .inl h
  · exact .inr ⟨b, o, cap, c, hv, by rw [hb b (by rw [hv]; rfl)]; exact h1, h2⟩
theorem objRep_same {d d' : Nat} {V V' : Vl} {w w' : World} (hV : Off d V V') (h : d' ≠ d) {o : AObj} (hr : o.refs d = false) (ho : ObjRep V w d' o) (hb : ∀ b, privB V d' o = some b → w'.heap[b]? = w.heap[b]?) :
    ObjRep V' w' d' o := by
  cases o with
  | box ty l =>
    obtain ⟨cs, h1, h2⟩ := ho
    exact ⟨cs, segs_off hV hr h1, by rw [(hV d' h).1, hb _ rfl]; exact h2⟩
  | row ty sz es =>
    simp only [ObjRep, (hV d' h).2]
    exact rowIn_same ho fun b e => hb b e
/-- Nothing else of memory has turned. -/
structure Only (w w' : World) (B : Nat → Prop) : Prop where
  os : w'.os = w.os
  tape : Tp w' w
  output : w'.output = w.output
  size : w.heap.size ≤ w'.heap.size
  block : ∀ b, ¬ B b → b < w.heap.size → w'.heap[b]? = w.heap[b]?
theorem delO_look {l : List (Nat × AObj)} {base : Option Nat} {d' : Nat} {o : AObj} (h : look (delO l base) d' = some o) : look l d' = some o ∧ base ≠ some d' := by
  cases base with
  | none => exact ⟨h, by simp⟩
  | some r =>
    simp only [delO, look_objDel] at h
    split at h
    · cases h
    · exact ⟨h, by simpa using by assumption⟩
theorem rep_objs (h : Rep C V s H a w) {d : Nat} {obj : AObj} {base : Option Nat} {V' : Vl} {w' : World} (hf : s.free d = true) (hV : Off d V V')
    (ho : Only w w' fun b => ∃ r o, base = some r ∧ look s.objs r = some o ∧ privB V r o = some b) (hobj : ObjRep V' w' d obj)
    (hb : ∀ b, privB V' d obj = some b → (w.heap.size ≤ b ∧ b < w'.heap.size) ∨ ∃ r o, base = some r ∧ look s.objs r = some o ∧ privB V r o = some b) :
    Rep C V' ⟨s.env, objSet (delO s.objs base) d obj, s.dfr⟩ H a w' := by
  have other : ∀ d' o, look s.objs d' = some o → base ≠ some d' → ∀ b, privB V d' o = some b → w'.heap[b]? = w.heap[b]? := by
    intro d' o h1 h2 b h3
    refine ho.block b ?_ (h.priv _ _ _ h1 h3).2.2
    rintro ⟨r, o', e, h4, h5⟩
    exact h2 (by rw [e, h.dist _ _ _ _ _ h4 h1 h5 h3])
  have known : ∀ b o, H b = some o → w'.heap[b]? = some o := by
    intro b o hbo
    rw [ho.block b ?_ ?_]
    · exact h.sub b o hbo
    · rintro ⟨r, o', e, h4, h5⟩
      rw [(h.priv _ _ _ h4 h5).1] at hbo; cases hbo
    · have := h.sub b o hbo
      exact (Array.getElem?_eq_some_iff.1 this).1
  refine { env := ?_, len := h.len, dfr := h.dfr.trans (free_dfr hV hf).symm, sub := known, objs := ?_, priv := ?_, dist := ?_, os := ho.os.trans h.os, tape := ho.tape.trans h.tape, output := ho.output.trans h.output, size := Nat.le_trans h.size ho.size, other := ?_ }
  · intro t x hx
    exact sv_off hV (free_env hf t x hx) (h.env t x hx)
  · intro d' o hd
    rw [look_objSet] at hd
    split at hd
    · rename_i e; subst e; cases hd; exact hobj
    · obtain ⟨h1, h2⟩ := delO_look hd
      obtain ⟨h3, h4⟩ := free_obj hf _ _ h1
      exact objRep_same hV h3 h4 (h.objs _ _ h1) fun b e => other _ _ h1 h2 b e
  · intro d' o b hd hp
    rw [look_objSet] at hd
    split at hd
    · rename_i e; subst e; cases hd
      rcases hb b hp with ⟨h1, h2⟩ | ⟨r, o', h1, h2, h3⟩
      · refine ⟨?_, .inl (Nat.le_trans h.size h1), h2⟩
        cases hbb : H b with
        | none => rfl
        | some ob => have := h.sub b ob hbb; have := (Array.getElem?_eq_some_iff.1 this).1; omega
      · obtain ⟨h4, h5, h6⟩ := h.priv _ _ _ h2 h3
        exact ⟨h4, h5, Nat.lt_of_lt_of_le h6 ho.size⟩
    · obtain ⟨h1, h2⟩ := delO_look hd
      obtain ⟨h3, h4⟩ := free_obj hf _ _ h1
      rw [privB_off hV h3] at hp
      obtain ⟨h4, h5, h6⟩ := h.priv _ _ _ h1 hp
      exact ⟨h4, h5, Nat.lt_of_lt_of_le h6 ho.size⟩
  · have main : ∀ d' o' b, d' ≠ d → look (delO s.objs base) d' = some o' → privB V' d' o' = some b → privB V' d obj = some b → False := by
      intro d' o' b hne hd hp hp'
      obtain ⟨h1, h2⟩ := delO_look hd
      rw [privB_off hV hne] at hp
      rcases hb b hp' with ⟨h3, h4⟩ | ⟨r, o'', h3, h4, h5⟩
      · have := (h.priv _ _ _ h1 hp).2.2; omega
      · exact h2 (by rw [h3, h.dist _ _ _ _ _ h4 h1 h5 hp])
    intro d1 o1 d2 o2 b hd1 hd2 hp1 hp2
    rw [look_objSet] at hd1 hd2
    split at hd1
    · rename_i e1; subst e1; cases hd1
      split at hd2
      · rename_i e2; exact e2
      · rename_i e2; exact (main d2 o2 b (fun e => e2 e.symm) hd2 hp2 hp1).elim
    · rename_i e1
      split at hd2
      · rename_i e2; subst e2; cases hd2
        exact (main d1 o1 b (fun e => e1 e.symm) hd1 hp1 hp2).elim
      · rename_i e2
        obtain ⟨h1, _⟩ := delO_look hd1
        obtain ⟨h2, _⟩ := delO_look hd2
        rw [privB_off hV (fun e => e1 e.symm)] at hp1
        rw [privB_off hV (fun e => e2 e.symm)] at hp2
        exact h.dist _ _ _ _ _ h1 h2 hp1 hp2
  · intro b hb1 hb2
    obtain ⟨h1, h2⟩ := h.other b hb1 hb2
    refine ⟨?_, h2⟩
    rw [ho.block b ?_ (Nat.lt_of_lt_of_le hb1 h.size), h1]
    rintro ⟨r, o', e, h4, h5⟩
    exact base_no (h.priv _ _ _ h4 h5).2.1 hb1 hb2
/-- A variable's content is written. -/
theorem rep_mod (h : Rep C V s H a w) {d : Nat} {old obj : AObj} {b0 : Nat} {w' : World} (hd : look s.objs d = some old) (hp : privB V d old = some b0) (hp' : privB V d obj = some b0)
    (ho : Only w w' fun b => b = b0) (hobj : ObjRep V w' d obj) : Rep C V ⟨s.env, objSet s.objs d obj, s.dfr⟩ H a w' := by
  obtain ⟨hn, hbase, hlt⟩ := h.priv _ _ _ hd hp
  have other : ∀ d' o, look s.objs d' = some o → d ≠ d' → ∀ b, privB V d' o = some b → w'.heap[b]? = w.heap[b]? := by
    intro d' o h1 h2 b h3
    refine ho.block b ?_ (h.priv _ _ _ h1 h3).2.2
    intro e; subst e
    exact h2 (h.dist _ _ _ _ _ hd h1 hp h3)
  refine { env := h.env, len := h.len, dfr := h.dfr, sub := ?_, objs := ?_, priv := ?_, dist := ?_, os := ho.os.trans h.os, tape := ho.tape.trans h.tape, output := ho.output.trans h.output, size := Nat.le_trans h.size ho.size, other := ?_ }
  · intro b o hbo
    have h1 := h.sub b o hbo
    rw [ho.block b (by intro e; subst e; rw [hn] at hbo; cases hbo) (Array.getElem?_eq_some_iff.1 h1).1]
    exact h1
  · intro d' o hd'
    rw [look_objSet] at hd'
    split at hd'
    · rename_i e; subst e; cases hd'; exact hobj
    · rename_i e
      cases o with
      | box ty l =>
        obtain ⟨cs, h1, h2⟩ := h.objs _ _ hd'
        exact ⟨cs, h1, by rw [other _ _ hd' e _ rfl]; exact h2⟩
      | row ty sz es => exact rowIn_same (h.objs _ _ hd') fun b hb => other _ _ hd' e b hb
  · intro d' o b hd' hpb
    rw [look_objSet] at hd'
    split at hd'
    · rename_i e; subst e; cases hd'
      rw [hp'] at hpb; cases hpb
      exact ⟨hn, hbase, Nat.lt_of_lt_of_le hlt ho.size⟩
    · obtain ⟨h4, h5, h6⟩ := h.priv _ _ _ hd' hpb
      exact ⟨h4, h5, Nat.lt_of_lt_of_le h6 ho.size⟩
  · intro d1 o1 d2 o2 b hd1 hd2 hp1 hp2
    rw [look_objSet] at hd1 hd2
    split at hd1
    · rename_i e1; subst e1; cases hd1
      rw [hp'] at hp1; cases hp1
      split at hd2
      · rename_i e2; exact e2
      · exact h.dist _ _ _ _ _ hd hd2 hp hp2
    · split at hd2
      · rename_i e2; subst e2; cases hd2
        rw [hp'] at hp2; cases hp2
        exact h.dist _ _ _ _ _ hd1 hd hp1 hp
      · exact h.dist _ _ _ _ _ hd1 hd2 hp1 hp2
  · intro b hb1 hb2
    obtain ⟨h1, h2⟩ := h.other b hb1 hb2
    refine ⟨?_, h2⟩
    rw [ho.block b (by intro e; subst e; exact base_no hbase hb1 hb2) (Nat.lt_of_lt_of_le hb1 h.size), h1]

theorem sc_one {x : SC} {y : Value} (hb : x ≠ .bad) (h : x.rep V y) : one y = true := by
  cases x with
  | v z => obtain ⟨h1, h2⟩ := h; rw [h1]; exact h2
  | box _ _ => rw [show y = _ from h]; rfl
  | boxi _ _ _ _ => rw [show y = _ from h.2]; rfl
  | arr _ _ _ _ _ => obtain ⟨a', h1, _⟩ := h; rw [h1]; rfl
  | row d => obtain ⟨h1, h2⟩ := h; rw [h1]; exact h2
  | sub _ _ _ _ => obtain ⟨a, n, c, a', h1, h2, _⟩ := h; rw [h2]; rfl
  | cell _ _ _ _ => obtain ⟨A, n, c, h1, h2, h3⟩ := h; rw [h3]; rfl
  | clo _ _ _ => rw [show y = _ from h]; rfl
  | bad => exact absurd rfl hb
theorem segs_one : ∀ {l : List Seg} {cs : List Value}, noBad l = true → SegsRep V l cs → ∀ x ∈ cs, one x = true
  | [], cs, _, h => by simp only [SegsRep] at h; subst h; simp
  | .c x :: r, cs, hn, h => by
    obtain ⟨y, l', rfl, hx, hr⟩ := h
    have : x ≠ .bad ∧ noBad r = true := by cases x <;> simp [noBad] at hn ⊢ <;> exact hn
    intro z hz
    rcases List.mem_cons.1 hz with rfl | hz
    · exact sc_one this.1 hx
    · exact segs_one this.2 hr z hz
  | .ints k n xs :: r, cs, hn, h => by
    obtain ⟨_, l', rfl, hr⟩ := h
    intro z hz
    rcases List.mem_append.1 hz with hz | hz
    · simp at hz; obtain ⟨m, _, rfl⟩ := hz; rfl
    · exact segs_one (by simpa [noBad] using hn) hr z hz
/-- A world with another block. -/
def setB (w : World) (b : Nat) (o : Obj) : World := { w with heap := w.heap.setIfInBounds b o }
theorem setB_only (b : Nat) (o : Obj) : Only w (setB w b o) fun x => x = b := by
  refine ⟨rfl, ⟨rfl, fun _ => Nat.le_refl _⟩, rfl, by simp [setB], fun x hx _ => ?_⟩
  simp only [setB, Array.getElem?_setIfInBounds]
  rw [if_neg (fun e => hx e.symm)]
theorem setB_at {b : Nat} {o o' : Obj} (h : w.heap[b]? = some o') : (setB w b o).heap[b]? = some o := by
  have := (Array.getElem?_eq_some_iff.1 h).1
  simp [setB, this]
theorem setB_setB (b : Nat) (o o' : Obj) : setB (setB w b o) b o' = setB w b o' := by
  simp only [setB]
  congr 1
  apply Array.ext'
  simp
theorem setCell_eq {b off : Nat} {v : Value} {c : Array Value} {ty : TypeId} (h : w.heap[b]? = some (.cells c ty (0, 0))) :
    w.setCell ⟨b, off, none⟩ v = setB w b (.cells (c.setIfInBounds off v) ty (0, 0)) := by
  unfold World.setCell setB
  congr 1
  have hlt := (Array.getElem?_eq_some_iff.1 h).1
  apply Array.ext_getElem?
  intro i
  rw [Array.getElem?_modify, Array.getElem?_setIfInBounds]
  by_cases hi : b = i
  · subst hi
    have h' := (Array.getElem?_eq_some_iff.1 h).2
    simp [hlt, h']
  · simp [hi]
theorem store_run {b off : Nat} {v : Value} {c : Array Value} {ty : TypeId} (h : w.heap[b]? = some (.cells c ty (0, 0))) (ho : off < c.size) (h1 : one v = true) :
    (store ⟨b, off, none⟩ v).run P w = .ok () (setB w b (.cells (c.setIfInBounds off v) ty (0, 0))) := by
  rw [← setCell_eq h]
  have hc : w.cell? ⟨b, off, none⟩ = some c[off] := by rw [cell_block h rfl]; simp [ho]
  have hf : w.frozen? ⟨b, off, none⟩ = false := by simp [World.frozen?, h]
  unfold store
  cases v <;> simp [one] at h1 <;> simp [Sem.run, hc, hf]
theorem storeCells_run {b off : Nat} : ∀ (vs : List Value) (i : Nat) (w : World) {c : Array Value} {ty : TypeId}, w.heap[b]? = some (.cells c ty (0, 0)) → off + i + vs.length ≤ c.size → (∀ x ∈ vs, one x = true) →
    (storeCells ⟨b, off, none⟩ vs i).run P w = .ok () (setB w b (.cells (writeCells c (off + i) vs) ty (0, 0)))
  | [], i, w, c, ty, h, _, _ => by
    simp only [storeCells, Sem.run_pure, writeCells]
    congr 1
    unfold setB
    have hlt := (Array.getElem?_eq_some_iff.1 h).1
    have : w.heap.setIfInBounds b (.cells c ty (0, 0)) = w.heap := by
      apply Array.ext_getElem?
      intro j
      rw [Array.getElem?_setIfInBounds]
      by_cases hj : b = j
      · subst hj
        have h' := (Array.getElem?_eq_some_iff.1 h).2
        simp [hlt, h']
      · simp [hj]
    rw [this]
  | v :: vs, i, w, c, ty, h, hl, h1 => by
    simp only [storeCells, Sem.run_bind, add_spot]
    simp only [List.length_cons] at hl
    rw [store_run h (by omega) (h1 v (by simp))]
    simp only [Result.andThen_ok]
    rw [storeCells_run vs (i + 1) _ (setB_at h) (by simp; omega) fun x hx => h1 x (by simp [hx])]
    rw [setB_setB]
    rfl
theorem storeVar_run {t : TypeId} {i : TypeInfo} {b off : Nat} {v : Value} {c : Array Value} {ty : TypeId} (hi : P.info? t = some i) (hv : v.cells.size = i.size) (h : w.heap[b]? = some (.cells c ty (0, 0)))
    (hl : off + i.size ≤ c.size) (h1 : ∀ x ∈ v.cells.toList, one x = true) : (storeVar t ⟨b, off, none⟩ v).run P w = .ok () (setB w b (.cells (writeCells c off v.cells.toList) ty (0, 0))) := by
  unfold storeVar
  simp only [Sem.run_bind, run_sizeT hi, Result.andThen_ok]
  rw [if_neg (by simp [hv])]
  exact storeCells_run _ 0 w h (by simp [hv]; omega) h1
theorem exec_u {s : Sem Unit} {w' : World} (h : s.run P w = .ok () w') : ((do s; pure Next.skip : Sem Next)).run P w = .ok .skip w' := by
  rw [Sem.run_bind, h]; rfl
/-- What an operation that makes or writes private variables comes to. -/
def Goes (P : Program) (C : Ctx) (o : Oper) (a : Act) (w : World) (K : St → Prop) (H : Heap) : Prop :=
  ∃ V s' y w', K s' ∧ Rep C V s' H (a.put o.dst y) w' ∧ ((execOp a.eval o).run P w = .ok (.value y) w' ∨ ((execOp a.eval o).run P w = .ok .skip w' ∧ y = undef))
theorem rep_set (h : Rep C V s H a w) {x : SV} {y : Value} (hx : x.rep V y) {d : Nat} : Rep C V (s.set d x) H (a.put (some d) y) w := h.put hx (some d)

def Vl.box (V : Vl) (d b : Nat) : Vl := ⟨fun s => if s = d then b else V.blk s, V.row⟩
def Vl.rows (V : Vl) (d : Nat) (v : Value) : Vl := ⟨V.blk, fun s => if s = d then v else V.row s⟩
theorem box_off (V : Vl) (d b : Nat) : Off d V (V.box d b) := fun s h => ⟨by simp [Vl.box, h], rfl⟩
theorem rows_off (V : Vl) (d : Nat) (v : Value) : Off d V (V.rows d v) := fun s h => ⟨rfl, by simp [Vl.rows, h]⟩
theorem alloc_only (o : Obj) (B : Nat → Prop) : Only w { w with heap := w.heap.push o } B :=
  ⟨rfl, ⟨rfl, fun _ => Nat.le_refl _⟩, rfl, by simp, fun b _ hb => by simp [Array.getElem?_push, Nat.ne_of_lt hb]⟩
theorem newRow_run {t : TypeId} {c : Array Value} : (newRow t c).run P w = .ok ⟨w.heap.size, 0, none⟩ { w with heap := w.heap.push (.cells c t) } := by
  rfl
/-- A new variable. -/
theorem new_box (h : Rep C V s H a w) {d : Nat} (hf : s.free d = true) {l : List Seg} {cs : List Value} (t : TypeId) (hs : SegsRep V l cs) (hr : l.any (Seg.refs d) = false) :
    ∃ V', Off d V V' ∧ Rep C V' (St.set ⟨s.env, objSet s.objs d (.box t l), s.dfr⟩ d (.c (.box d 0))) H (a.put (some d) (.pointer (some ⟨w.heap.size, 0, none⟩))) { w with heap := w.heap.push (.cells cs.toArray t) } ∧ V'.blk d = w.heap.size := by
  have hoff := box_off V d w.heap.size
  refine ⟨V.box d w.heap.size, hoff, rep_set (s := ⟨s.env, objSet (delO s.objs none) d (.box t l), s.dfr⟩) (rep_objs h hf hoff (alloc_only _ _) (obj := .box t l) ⟨cs, segs_off hoff hr hs, ?_⟩ ?_) ?_, by simp [Vl.box]⟩
  · simp [Vl.box]
  · intro b hb
    simp [privB, Vl.box] at hb
    subst hb
    exact .inl ⟨Nat.le_refl _, by simp⟩
  · simp [SV.rep, SC.rep, Vl.box]
theorem ev_refs {d : Nat} (hf : s.free d = true) (x : Operand) : (ev s x).refs d = false := by
  cases x with
  | tmp t =>
    simp only [ev]
    rcases get_nth (s := s) (t := t) with ⟨e, _⟩ | e
    · rw [e]; rfl
    · exact free_env hf t _ e
  | const v => cases v <;> rfl
  | global g => rfl
  | func f => rfl
theorem segs_refs {x : SV} {d : Nat} {l : List Seg} (h : x.refs d = false) (e : x.segs = some l) : l.any (Seg.refs d) = false := by
  cases x with
  | c x => cases x <;> simp [SV.segs] at e <;> subst e <;> simpa [Seg.refs, SV.refs] using h
  | agg l' => simp [SV.segs] at e; subst e; exact h
  | tup l => simp [SV.segs] at e
theorem parse_refs {d : Nat} : ∀ {ks : List SK} {cs : List Value} {l : List Seg}, parse ks cs = some l → l.any (Seg.refs d) = false
  | [], [], l, h => by simp [parse] at h; subst h; rfl
  | [], _ :: _, l, h => by simp [parse] at h
  | .c k :: r, [], l, h => by simp [parse] at h
  | .c k :: r, x :: cs, l, h => by
    simp only [parse] at h
    split at h
    · rename_i l' hl'; cases h
      simp only [List.any_cons, Seg.refs, SC.refs, Bool.false_or]
      exact parse_refs hl'
    · cases h
  | .ints k n :: r, cs, l, h => by
    simp only [parse] at h
    split at h
    · split at h
      · rename_i l' hl'; cases h
        simp only [List.any_cons, Seg.refs, Bool.false_or]
        exact parse_refs hl'
      · cases h
    · cases h
/-- A new row of its own block. -/
theorem new_row (h : Rep C V s H a w) {d : Nat} (hf : s.free d = true) {es : List (List Value)} {ty sz cap : Nat} {c : Array Value} (base : Option Nat) {w' : World}
    (hw : Only w w' fun b => ∃ r o, base = some r ∧ look s.objs r = some o ∧ privB V r o = some b) (hb : w'.heap[w.heap.size]? = some (.cells c ty (0, 0)))
    (hcap : es.length ≤ cap) (hc : cap * sz ≤ c.size) (hes : ∀ e ∈ es, e.length = sz) (hfl : c.toList.take (es.length * sz) = es.flatten) (hon : ∀ e ∈ es, ∀ x ∈ e, one x = true) :
    ∃ V', Off d V V' ∧ Rep C V' (St.set ⟨s.env, objSet (delO s.objs base) d (.row ty sz es), s.dfr⟩ d (.c (.row d))) H (a.put (some d) (.slice (some ⟨w.heap.size, 0, none⟩) es.length cap)) w' ∧
      V'.row d = .slice (some ⟨w.heap.size, 0, none⟩) es.length cap := by
  have hoff := rows_off V d (.slice (some ⟨w.heap.size, 0, none⟩) es.length cap)
  have hsz := (Array.getElem?_eq_some_iff.1 hb).1
  refine ⟨V.rows d (.slice (some ⟨w.heap.size, 0, none⟩) es.length cap), hoff, rep_set (s := ⟨s.env, objSet (delO s.objs base) d (.row ty sz es), s.dfr⟩) (rep_objs h hf hoff hw (obj := .row ty sz es) ?_ ?_) ?_, by simp [Vl.rows]⟩
  · exact .inr ⟨w.heap.size, 0, cap, c, by simp [Vl.rows], hb, hcap, by omega, hes, by simpa using hfl, hon⟩
  · intro b hb'
    simp [privB, Vl.rows, blockOf] at hb'
    subst hb'
    exact .inl ⟨Nat.le_refl _, hsz⟩
  · simp [SV.rep, SC.rep, Vl.rows, one]
end
end Sx

set_option linter.unusedVariables false
set_option linter.unusedSimpArgs false
namespace Sx
open Go
set_option linter.unusedSectionVars false
variable [Dr]
section
variable {P : Program} {C : Ctx} {V : Vl} {s : St} {H : Heap} {a : Act} {w : World}

/-- Cells written over others. -/
def lw (l : List Value) (p : Nat) (cs : List Value) : List Value := l.take p ++ cs ++ l.drop (p + cs.length)
theorem lw_right (A l : List Value) (p : Nat) (cs : List Value) : lw (A ++ l) (A.length + p) cs = A ++ lw l p cs := by
  simp only [lw, List.append_assoc]
  rw [List.take_append, List.take_of_length_le (by omega), Nat.add_sub_cancel_left, List.append_assoc]
  congr 2
  rw [List.drop_append, List.drop_eq_nil_of_le (by omega), List.nil_append]
  congr 2; omega
theorem lw_left (l B : List Value) (p : Nat) (cs : List Value) (h : p + cs.length ≤ l.length) : lw (l ++ B) p cs = lw l p cs ++ B := by
  simp only [lw, List.append_assoc]
  rw [List.take_append_of_le_length (by omega), List.drop_append_of_le_length h]
theorem lw_len (l : List Value) (p : Nat) (cs : List Value) (h : p + cs.length ≤ l.length) : (lw l p cs).length = l.length := by
  simp [lw]; omega
theorem write_lw (c : Array Value) (p : Nat) (cs : List Value) (h : p + cs.length ≤ c.size) : (writeCells c p cs).toList = lw c.toList p cs := writeCells_list cs c p h
theorem writeCells_size (c : Array Value) (p : Nat) (cs : List Value) (h : p + cs.length ≤ c.size) : (writeCells c p cs).size = c.size := by
  rw [← Array.length_toList, write_lw c p cs h, lw_len _ _ _ (by simpa using h), Array.length_toList]
theorem flatten_split {sz i : Nat} {es : List (List Value)} {e : List Value} (hes : ∀ e ∈ es, e.length = sz) (he : es[i]? = some e) :
    es.flatten = (es.take i).flatten ++ (e ++ (es.drop (i + 1)).flatten) ∧ (es.take i).flatten.length = i * sz := by
  have hlt := (List.getElem?_eq_some_iff.1 he).1
  refine ⟨?_, ?_⟩
  · conv => lhs; rw [← List.take_append_drop i es]
    rw [List.flatten_append, List.drop_eq_getElem_cons hlt, List.flatten_cons]
    rw [(List.getElem?_eq_some_iff.1 he).2]
  · have : ∀ (l : List (List Value)), (∀ e ∈ l, e.length = sz) → l.flatten.length = l.length * sz := by
      intro l
      induction l with
      | nil => simp
      | cons x l ih => intro h; simp [h x (by simp), ih fun e he => h e (by simp [he]), Nat.succ_mul, Nat.add_comm]
    rw [this _ fun e he => hes e (List.mem_of_mem_take he), List.length_take, Nat.min_eq_left (by omega)]
theorem flatten_len {sz : Nat} : ∀ {l : List (List Value)}, (∀ e ∈ l, e.length = sz) → l.flatten.length = l.length * sz
  | [], _ => by simp
  | x :: l, h => by
    have h1 := flatten_len (l := l) fun e he => h e (by simp [he])
    rw [List.flatten_cons, List.length_append, h1, h x (by simp), List.length_cons, Nat.succ_mul, Nat.add_comm]
/-- An element of a row, written. -/
theorem row_put {sz i off : Nat} {es : List (List Value)} {e cs : List Value} (hes : ∀ e ∈ es, e.length = sz) (he : es[i]? = some e) (hl : off + cs.length ≤ sz) :
    lw es.flatten (i * sz + off) cs = (es.set i (lw e off cs)).flatten := by
  obtain ⟨h1, h2⟩ := flatten_split hes he
  have hel : e.length = sz := hes e (List.mem_of_getElem? he)
  have hlt := (List.getElem?_eq_some_iff.1 he).1
  rw [h1, ← h2, lw_right, lw_left _ _ _ _ (by omega)]
  rw [List.set_eq_take_append_cons_drop]
  simp [hlt]
theorem modify_eq {es : List (List Value)} {i off : Nat} {e cs : List Value} (he : es[i]? = some e) : cellPut es i off cs = es.set i (lw e off cs) := by
  have hlt := (List.getElem?_eq_some_iff.1 he).1
  have h2 := (List.getElem?_eq_some_iff.1 he).2
  unfold cellPut lw
  apply List.ext_getElem?
  intro j
  rw [List.getElem?_modify, List.getElem?_set]
  by_cases hj : i = j
  · subst hj; simp [hlt, h2]
  · simp [hj]
theorem flat_noBad : ∀ {l : List Seg} {cs : List Value}, flat l = some cs → noBad l = true
  | [], _, _ => rfl
  | .c x :: r, cs, h => by
    cases x <;> simp [flat] at h
    split at h
    · rename_i l hl; exact flat_noBad (l := r) hl
    · cases h
  | .ints k n xs :: r, cs, h => by
    simp only [flat] at h
    split at h
    · rename_i l hl; exact flat_noBad (l := r) hl
    · cases h
theorem elemsOf_rep (h : Rep C V s H a w) {sz : Nat} : ∀ (parts : List (Nat × Operand)) (j n : Nat) {es : List (List Value)}, elemsOf P sz s parts j n = some es →
    es.length = n ∧ (∀ e ∈ es, e.length = sz) ∧ (∀ e ∈ es, ∀ x ∈ e, one x = true) ∧ ∀ (cells : Array Value) (pre : List Value), pre.length = j * sz → cells.size = (j + n) * sz → cells.toList.take (j * sz) = pre →
        ∃ cs, Instr.fill (fun i => some (i * sz, sz)) cells (parts.map fun (i, x) => (i, a.eval x)) = some cs ∧ cs.toList = pre ++ es.flatten
  | [], j, 0, es, e => by
    simp [elemsOf] at e
    subst e
    refine ⟨rfl, by simp, by simp, fun cells pre hp hc ht => ⟨cells, rfl, ?_⟩⟩
    rw [← ht, List.flatten_nil, List.append_nil, List.take_of_length_le (by simp [hc])]
  | _ :: _, j, 0, es, e => by simp [elemsOf] at e
  | [], j, n + 1, es, e => by simp [elemsOf] at e
  | (i, x) :: r, j, n + 1, es, e => by
    simp only [elemsOf] at e
    split at e
    · rename_i l hb hl
      split at e
      · rename_i cs hcs
        split at e
        · rename_i es' hsz hes'
          cases e
          have := nbt hb; subst this
          have hsz' := nbt hsz
          obtain ⟨h1, h2, h2', h3⟩ := elemsOf_rep h r (i + 1) n hes'
          refine ⟨by simp [h1], ?_, ?_, ?_⟩
          · intro e he
            rcases List.mem_cons.1 he with rfl | he
            · exact hsz'
            · exact h2 e he
          · intro e he
            rcases List.mem_cons.1 he with rfl | he
            · have hrep := segs_rep (h.ev x) hl
              have hv := flat_rep hrep hcs
              rw [← hv]
              exact segs_one (flat_noBad hcs) hrep
            · exact h2' e he
          · intro cells pre hp hc ht
            have hrep := segs_rep (h.ev x) hl
            have hv := flat_rep hrep hcs
            have hvl : (a.eval x).cells.size = sz := by have := congrArg List.length hv; simp at this; omega
            have hroom : i * sz + sz ≤ cells.size := by
              rw [hc, ← Nat.succ_mul]; exact Nat.mul_le_mul_right _ (by omega)
            rw [List.map_cons, fill_cons rfl hvl hroom]
            have hw := write_lw cells (i * sz) (a.eval x).cells.toList (by simp [hvl]; omega)
            obtain ⟨cs2, h4, h5⟩ := h3 (writeCells cells (i * sz) (a.eval x).cells.toList) (pre ++ cs) (by simp [hp, hsz', Nat.succ_mul]) (by rw [writeCells_size _ _ _ (by simp [hvl]; omega), hc]; congr 1; omega) (by
              rw [hw, lw, ht, hv, Nat.succ_mul]
              exact List.take_left' (by simp [hp, hsz']))
            exact ⟨cs2, h4, by rw [h5]; simp⟩
        · cases e
      · cases e
    · cases e
theorem sliceElem_eq {t e : TypeId} {sz : Nat} (he : sliceElem P t = some (e, sz)) : P.underlying t = some (.slice e) ∧ ∃ i, P.info? e = some i ∧ i.size = sz := by
  unfold sliceElem at he
  split at he
  · split at he
    · rename_i hz; cases he
      exact ⟨by assumption, sizeT_eq hz⟩
    · cases he
  · cases he
theorem zeros_list {z : Array Value} (n : Nat) : ((Array.range (n * z.size)).map (z[· % z.size]!)).toList = (List.replicate n z.toList).flatten := by
  induction n with
  | zero => simp
  | succ n ih =>
    rw [List.replicate_succ', List.flatten_append, ← ih]
    apply List.ext_getElem?
    intro i
    simp only [Array.toList_map, Array.toList_range, List.getElem?_map, List.flatten_cons, List.flatten_nil, List.append_nil]
    by_cases hi : i < n * z.size
    · rw [List.getElem?_append_left (by simpa using hi)]
      have hi2 : i < (n + 1) * z.size := by rw [Nat.succ_mul]; omega
      simp [hi, hi2]
    · rw [List.getElem?_append_right (by simpa using hi)]
      simp only [List.length_map, List.length_range]
      by_cases hi2 : i < (n + 1) * z.size
      · have hlt : i - n * z.size < z.size := by rw [Nat.succ_mul] at hi2; omega
        have hmod : i % z.size = i - n * z.size := by
          have e1 : i = (i - n * z.size) + z.size * n := by have := Nat.mul_comm n z.size; omega
          conv => lhs; rw [e1]
          rw [Nat.add_mul_mod_self_left, Nat.mod_eq_of_lt hlt]
        rw [List.getElem?_range hi2]
        simp [hmod, hlt]
      · rw [List.getElem?_eq_none (by simp; omega), List.getElem?_eq_none (by simp; rw [Nat.succ_mul] at hi2; omega)]
        rfl
theorem loadCells_run {A : Addr} {l : List Value} (hc : ∀ j x, l[j]? = some x → w.cell? (A.add j) = some x) : (loadCells A l.length).run P w = .ok l.toArray w := by
  unfold loadCells
  rw [loadCellsFrom_run l.length 0 #[] l rfl (by simpa using hc)]
  simp
structure SrcRep (P : Program) (w : World) (v : Value) (sz : Nat) (es : List (List Value)) : Prop where
  len : ∃ xb xc, v = .slice xb es.length xc
  el : ∀ e ∈ es, e.length = sz
  run : (Builtin.firstCells sz es.length v).run P w = .ok es.flatten.toArray w
  on : ∀ e ∈ es, ∀ x ∈ e, one x = true
theorem flat_cell {A : Addr} (hs : A.spot = none) {sz : Nat} {es : List (List Value)} (hes : ∀ e ∈ es, e.length = sz)
    (h : ∀ i e, es[i]? = some e → ∀ q x, e[q]? = some x → w.cell? (A.add (i * sz + q)) = some x) : ∀ j x, es.flatten[j]? = some x → w.cell? (A.add j) = some x := by
  intro j x hj
  have hlt := (List.getElem?_eq_some_iff.1 hj).1
  rw [flatten_len hes] at hlt
  have hsz : 0 < sz := by
    rcases Nat.eq_zero_or_pos sz with h0 | h0
    · rw [h0] at hlt; simp at hlt
    · exact h0
  have hi : j / sz < es.length := Nat.div_lt_of_lt_mul (by rw [Nat.mul_comm]; exact hlt)
  have he : es[j / sz]? = some es[j / sz] := List.getElem?_eq_getElem hi
  have hj2 : j = j / sz * sz + j % sz := by have := Nat.div_add_mod j sz; rw [Nat.mul_comm] at this; omega
  have hq := Nat.mod_lt j hsz
  rw [hj2] at hj ⊢
  rw [flatten_get hes he hq] at hj
  exact h _ _ he _ _ hj
theorem src_row {v : Value} {ty sz : Nat} {es : List (List Value)} (h : RowIn w v ty sz es) : SrcRep P w v sz es := by
  rcases h with ⟨hv, rfl⟩ | ⟨b, o, cap, c, hv, hb, hcap, hc, hes, hfl, hon⟩
  · exact ⟨⟨none, 0, hv⟩, by simp, by rw [hv]; rfl, by simp⟩
  · refine ⟨⟨_, _, hv⟩, hes, ?_, hon⟩
    rw [hv]
    simp only [Builtin.firstCells]
    rw [← flatten_len hes]
    refine loadCells_run ?_
    intro j x hj
    rw [add_spot rfl, cell_block hb rfl]
    have hlt := (List.getElem?_eq_some_iff.1 hj).1
    rw [← hfl] at hj
    rw [List.getElem?_take_of_lt (by rw [flatten_len hes] at hlt; exact hlt), List.getElem?_drop] at hj
    simpa using hj
theorem sub_flat {sz lo hi : Nat} {es : List (List Value)} (hes : ∀ e ∈ es, e.length = sz) (h1 : lo ≤ hi) (h2 : hi ≤ es.length) :
    ((es.flatten).drop (lo * sz)).take ((hi - lo) * sz) = ((es.drop lo).take (hi - lo)).flatten ∧ ((es.drop lo).take (hi - lo)).length = hi - lo := by
  refine ⟨?_, by simp; omega⟩
  have e1 : es = es.take lo ++ (((es.drop lo).take (hi - lo)) ++ (es.drop lo).drop (hi - lo)) := by rw [List.take_append_drop, List.take_append_drop]
  conv => lhs; rw [e1]
  rw [List.flatten_append, List.flatten_append]
  have l1 : (es.take lo).flatten.length = lo * sz := by rw [flatten_len fun e he => hes e (List.mem_of_mem_take he), List.length_take, Nat.min_eq_left (by omega)]
  have l2 : ((es.drop lo).take (hi - lo)).flatten.length = (hi - lo) * sz := by
    rw [flatten_len fun e he => hes e (List.mem_of_mem_drop (List.mem_of_mem_take he))]
    congr 1; simp; omega
  rw [List.drop_left' l1, List.take_left' l2]
theorem src_sub {v y : Value} {ty sz lo hi : Nat} {es : List (List Value)} (h : RowIn w v ty sz es) (hy : SubRep v sz lo hi y) : SrcRep P w y sz ((es.drop lo).take (hi - lo)) := by
  obtain ⟨a0, n, cap, a', hv, rfl, hle, hn, hcap, ha0, hA⟩ := hy
  rcases h with ⟨hv', rfl⟩ | ⟨b, o, cap', c, hv', hb, hcap', hc, hes, hfl, hon⟩
  · rw [hv'] at hv
    cases hv
    have : hi = 0 := by omega
    subst this
    have : lo = 0 := by omega
    subst this
    obtain ⟨_, _, rfl⟩ := ha0 rfl
    exact ⟨⟨none, 0, by simp⟩, by simp, by simp [Builtin.firstCells], by simp⟩
  · rw [hv'] at hv
    cases hv
    obtain ⟨hs, o', rfl, ho', hroom⟩ := hA _ rfl
    obtain ⟨hf1, hf2⟩ := sub_flat hes hle hn
    have hes' : ∀ e ∈ (es.drop lo).take (hi - lo), e.length = sz := fun e he => hes e (List.mem_of_mem_drop (List.mem_of_mem_take he))
    refine ⟨⟨_, _, by rw [hf2]⟩, hes', ?_, fun e he => hon e (List.mem_of_mem_drop (List.mem_of_mem_take he))⟩
    simp only [Builtin.firstCells]
    rw [hf2]
    rw [show (hi - lo) * sz = ((es.drop lo).take (hi - lo)).flatten.length by rw [flatten_len hes', hf2]]
    refine loadCells_run ?_
    intro j x hj
    have hlt := (List.getElem?_eq_some_iff.1 hj).1
    rw [flatten_len hes', hf2] at hlt
    have hlo : lo < cap := by
      rcases Nat.lt_or_ge lo hi with h | h
      · omega
      · have : hi - lo = 0 := by omega
        rw [this] at hlt; simp at hlt
    rw [add_spot rfl, cell_block hb rfl, ho' hlo]
    rw [← hf1, List.getElem?_take_of_lt hlt, List.getElem?_drop, ← hfl] at hj
    have hle2 : lo * sz + j < es.length * sz := by
      have : lo * sz + (hi - lo) * sz = hi * sz := by rw [← Nat.add_mul]; congr 1; omega
      have : hi * sz ≤ es.length * sz := Nat.mul_le_mul_right _ hn
      omega
    rw [List.getElem?_take_of_lt hle2, List.getElem?_drop] at hj
    simpa [Nat.add_assoc] using hj
theorem src_real {Hr : Heap} (hsub : Hr.sub w) {v : Value} {sz : Nat} {es : List (List Value)} (h : SliceAt Hr v sz es) : SrcRep P w v sz es := by
  obtain ⟨a0, n, c, rfl, rfl, hle, hes, hon, hA⟩ := h
  refine ⟨⟨_, _, rfl⟩, hes, ?_, hon⟩
  cases es with
  | nil => cases a0 <;> simp [Builtin.firstCells, loadCells, loadCellsFrom]
  | cons e0 r =>
    obtain ⟨A, rfl, hs, _⟩ := hA 0 e0 rfl
    simp only [Builtin.firstCells]
    rw [← flatten_len hes]
    refine loadCells_run (flat_cell hs hes ?_)
    intro i e he q x hq
    obtain ⟨A', hA', _, hh⟩ := hA i e he
    cases hA'
    have := has_cell hsub hh q x hq
    rwa [add_spot hs, add_spot rfl, Nat.add_assoc, ← add_spot hs] at this
structure BaseRep (V : Vl) (s : St) (w : World) (vb : Value) (ty sz : Nat) (base : Option Nat) (es : List (List Value)) (ab : Option Addr) (cap : Nat) (g : Prop) : Prop where
  val : vb = .slice ab es.length cap
  room : es.length ≤ cap
  el : ∀ e ∈ es, e.length = sz
  on : ∀ e ∈ es, ∀ x ∈ e, one x = true
  blk : (ab = none ∧ cap = 0) ∨ ∃ b o c ty', ab = some ⟨b, o, none⟩ ∧ w.heap[b]? = some (.cells c ty' (0, 0)) ∧ o + cap * sz ≤ c.size ∧ (c.toList.drop o).take (es.length * sz) = es.flatten ∧
    ((ty' = ty ∧ ∃ r ob, base = some r ∧ look s.objs r = some ob ∧ privB V r ob = some b) ∨ (g ∧ cap = es.length))
theorem base_rep (h : Rep C V s H a w) {x : SV} {vb : Value} {ty sz : Nat} {base : Option Nat} {es : List (List Value)} (hx : x.rep V vb) (hb : baseOf s ty sz x = some (base, es)) :
    ∃ ab cap, BaseRep V s w vb ty sz base es ab cap False := by
  unfold baseOf at hb
  split at hb
  · obtain ⟨hx, -⟩ := hx
    split at hb
    · rename_i r _ ty' sz' es' hl
      split at hb
      · rename_i h1 h2
        cases hb
        have := nbt h1; subst this
        have := nbt h2; subst this
        have ho := h.objs _ _ hl
        have ho' := ho
        rcases ho with ⟨hv, rfl⟩ | ⟨b, o, cap, c, hv, hb, hcap, hc, hes, hfl, hon⟩
        · exact ⟨none, 0, by rw [hx, hv]; rfl, Nat.le_refl _, by simp, by simp, .inl ⟨rfl, rfl⟩⟩
        · exact ⟨_, _, by rw [hx, hv], hcap, hes, hon, .inr ⟨b, o, c, _, rfl, hb, hc, hfl, .inl ⟨rfl, r, _, rfl, hl, by simp [privB, hv, blockOf]⟩⟩⟩
      · cases hb
    · cases hb
  · split at hb
    · rename_i r z lo hi _ ty' sz' es' hl
      split at hb
      · rename_i h1 h2 h3
        cases hb
        have := nbt h1; subst this
        have := nbt h2; subst this
        have := nbt h3; subst this
        obtain ⟨a0, n, cap, a', hv, rfl, hle, hn, hcap, ha0, hA⟩ := hx
        rcases h.objs _ _ hl with ⟨hv', rfl⟩ | ⟨b, o, cap', c, hv', hb, hcap', hc, hes, hfl, hon⟩
        · rw [hv'] at hv
          cases hv
          have : hi = 0 := by omega
          subst this
          have : lo = 0 := by omega
          subst this
          obtain ⟨_, _, rfl⟩ := ha0 rfl
          exact ⟨none, 0, by simp, by simp, by simp, by simp, .inl ⟨rfl, rfl⟩⟩
        · rw [hv'] at hv
          cases hv
          obtain ⟨hs, o', rfl, ho', hroom⟩ := hA _ rfl
          obtain ⟨hf1, hf2⟩ := sub_flat hes hle hn
          simp only at hroom
          refine ⟨some ⟨b, o', none⟩, cap - lo, by rw [hf2], by rw [hf2]; omega, fun e he => hes e (List.mem_of_mem_drop (List.mem_of_mem_take he)), fun e he => hon e (List.mem_of_mem_drop (List.mem_of_mem_take he)), .inr ⟨b, o', c, _, rfl, hb, by omega, ?_, .inl ⟨rfl, r, _, rfl, hl, by simp [privB, hv', blockOf]⟩⟩⟩
          rw [hf2, ← hf1]
          rcases Nat.lt_or_ge lo cap with hlo | hlo
          · rw [ho' hlo, ← hfl, ← List.drop_drop, List.drop_take, List.take_take]
            congr 1
            have : lo * z + (hi - lo) * z = hi * z := by rw [← Nat.add_mul]; congr 1; omega
            have : hi * z ≤ es'.length * z := Nat.mul_le_mul_right _ hn
            omega
          · have : hi - lo = 0 := by omega
            rw [this]; simp
      · cases hb
    · cases hb
  · cases hb
    obtain ⟨rfl, -⟩ := hx
    exact ⟨none, 0, rfl, Nat.le_refl _, by simp, by simp, .inl ⟨rfl, rfl⟩⟩
  · cases hb
theorem askRoom_run (n : Nat) : (askRoom n).run P w = .ok () w := by unfold askRoom; split <;> rfl
theorem nextcap_le {need cap : Nat} (h : cap < need) : Builtin.nextslicecap need cap ≤ 2 * need := by
  unfold Builtin.nextslicecap
  split
  · omega
  · split
    · omega
    · have : ∀ (r c : Nat), 256 ≤ c → c ≤ 2 * need → Builtin.growBy need r c ≤ 2 * need := by
        intro r
        induction r with
        | zero => intro c _ hc; exact hc
        | succ r ih =>
          intro c h1 hc
          unfold Builtin.growBy
          split
          · exact hc
          · exact ih _ (by omega) (by omega)
      exact this 4 cap (by omega) (by omega)
theorem append_run {t t2 e e2 : TypeId} {i : TypeInfo} {z : Value} {ty : TypeId} (hu : P.underlying t = some (.slice e)) (hu2 : P.underlying t2 = some (.slice e2)) (hi : P.info? e = some i) (hz : i.zero = some z)
    (hzs : z.cells.size = i.size) {base : Option Nat} {es es2 : List (List Value)} {vb v : Value} {ab : Option Addr} {cap : Nat} {g : Prop} (hg : g → es2 ≠ []) (hb : BaseRep V s w vb ty i.size base es ab cap g) (hsrc' : ∀ w' : World, w'.heap = w.heap → SrcRep P w' v i.size es2)
    (hroom : (es ++ es2).length * i.bytes ≤ roomMax) (hby : 0 < i.bytes) (rt : TypeId) :
    (∃ b o c, ab = some ⟨b, o, none⟩ ∧ w.heap[b]? = some (.cells c ty (0, 0)) ∧ o + cap * i.size ≤ c.size ∧ (c.toList.drop o).take (es.length * i.size) = es.flatten ∧ (∃ r ob, base = some r ∧ look s.objs r = some ob ∧ privB V r ob = some b) ∧ (es ++ es2).length ≤ cap ∧
      (Builtin.append_ #[t, t2] rt #[vb, v]).run P w = .ok (.slice ab (es ++ es2).length cap) (setB w b (.cells (writeCells c (o + es.length * i.size) es2.flatten) ty (0, 0)))) ∨
    (es ++ es2 = [] ∧ (Builtin.append_ #[t, t2] rt #[vb, v]).run P w = .ok (.slice none 0 0) w) ∨
    ∃ cap' c, (es ++ es2).length ≤ cap' ∧ cap' * i.size ≤ c.size ∧ c.toList.take ((es ++ es2).length * i.size) = (es ++ es2).flatten ∧
      (Builtin.append_ #[t, t2] rt #[vb, v]).run P w = .ok (.slice (some ⟨w.heap.size, 0, none⟩) (es ++ es2).length cap') { w with drawn := w.drawn + 1, heap := w.heap.push (.cells c e) } := by
  obtain ⟨⟨xb, xc, rfl⟩, hel2, hfc, hon2⟩ := hsrc' w rfl
  have hone : ∀ x ∈ es2.flatten, one x = true := by
    intro x hx
    obtain ⟨e, h1, h2⟩ := List.mem_flatten.1 hx
    exact hon2 e h1 x h2
  have hlen : (es ++ es2).length = es.length + es2.length := by simp
  rw [hb.val]
  have hbi : (typeInfo e).run P w = .ok i w := by simp [typeInfo, hi]
  by_cases hcap : es.length + es2.length ≤ cap
  · have run0 : (Builtin.append_ #[t, t2] rt #[.slice ab es.length cap, .slice xb es2.length xc]).run P w =
        (match ab with
          | some a => (do storeCells (a.add (es.length * i.size)) es2.flatten; pure (.slice ab (es.length + es2.length) cap) : Sem Value)
          | none => pure (.slice ab (es.length + es2.length) cap)).run P w := by
      simp only [Builtin.append_, List.getElem?_toArray, List.getElem?_cons_zero, List.getElem?_cons_succ, Sem.run_bind, run_underlying hu, Result.andThen_ok, run_sizeT hi, run_underlying hu2, Sem.run_pure,
        Bool.false_eq_true, if_false, Builtin.lenOf, Bool.not_false, if_true]
      rw [if_pos hcap]
      simp only [Sem.run_bind, hfc, Result.andThen_ok]
      cases ab <;> rfl
    rcases hb.blk with ⟨rfl, rfl⟩ | ⟨b, o, c, ty', rfl, hblk, hc, hfl, hbase⟩
    · have h1 : es = [] := List.length_eq_zero_iff.1 (by omega)
      have h2 : es2 = [] := List.length_eq_zero_iff.1 (by omega)
      subst h1; subst h2
      exact .inr (.inl ⟨rfl, by rw [run0]; rfl⟩)
    · have hfit : o + es.length * i.size + es2.flatten.length ≤ c.size := by
        rw [flatten_len hel2]
        have : (es.length + es2.length) * i.size ≤ cap * i.size := Nat.mul_le_mul_right _ hcap
        rw [Nat.add_mul] at this; omega
      obtain ⟨hty, hbase'⟩ : ty' = ty ∧ ∃ r ob, base = some r ∧ look s.objs r = some ob ∧ privB V r ob = some b := by
        rcases hbase with hbase | ⟨h1, h2⟩
        · exact hbase
        · exact absurd (List.length_eq_zero_iff.1 (by omega)) (hg h1)
      subst hty
      refine .inl ⟨b, o, c, rfl, hblk, hc, hfl, hbase', by omega, ?_⟩
      rw [run0]
      simp only [Sem.run_bind, add_spot]
      rw [storeCells_run es2.flatten 0 w hblk (by omega) hone]
      simp only [Result.andThen_ok, Sem.run_pure, Nat.add_zero, hlen]
  · have hn2 : Builtin.nextslicecap (es.length + es2.length) cap * i.bytes ≤ 2 ^ 48 := by
      have h1 := nextcap_le (need := es.length + es2.length) (cap := cap) (by omega)
      have h2 : Builtin.nextslicecap (es.length + es2.length) cap * i.bytes ≤ 2 * (es.length + es2.length) * i.bytes := Nat.mul_le_mul_right _ h1
      rw [hlen] at hroom
      unfold roomMax at hroom
      rw [Nat.mul_assoc] at h2
      omega
    have hold : (Builtin.firstCells i.size es.length (.slice ab es.length cap)).run P { w with drawn := w.drawn + 1 } = .ok es.flatten.toArray { w with drawn := w.drawn + 1 } := by
      rcases hb.blk with ⟨rfl, rfl⟩ | ⟨b, o, c, ty', rfl, hblk, hc, hfl, hbase⟩
      · have h1 : es = [] := List.length_eq_zero_iff.1 (by have := hb.room; omega)
        subst h1; rfl
      · simp only [Builtin.firstCells]
        rw [← flatten_len hb.el]
        refine loadCells_run ?_
        intro j x hj
        have hlt := (List.getElem?_eq_some_iff.1 hj).1
        rw [flatten_len hb.el] at hlt
        rw [add_spot rfl]
        show w.cell? _ = _
        rw [cell_block hblk rfl]
        rw [← hfl, List.getElem?_take_of_lt hlt, List.getElem?_drop] at hj
        simpa using hj
    have hnew : (Builtin.firstCells i.size es2.length (.slice xb es2.length xc)).run P { w with drawn := w.drawn + 1 } = .ok es2.flatten.toArray { w with drawn := w.drawn + 1 } := (hsrc' { w with drawn := w.drawn + 1 } rfl).run
    have hq : (choose (.appendCap (es.length + es2.length) cap e)).run P w = .ok (es.length + es2.length + w.tape w.drawn (.appendCap (es.length + es2.length) cap e) % (2 ^ 63 - (es.length + es2.length))) { w with drawn := w.drawn + 1 } := rfl
    generalize hg : es.length + es2.length + w.tape w.drawn (.appendCap (es.length + es2.length) cap e) % (2 ^ 63 - (es.length + es2.length)) = nc at hq
    have hnc : es.length + es2.length ≤ nc := by omega
    refine .inr (.inr ⟨nc, es.flatten.toArray ++ es2.flatten.toArray ++ Builtin.zeroCells z.cells (nc - (es.length + es2.length)), by omega, ?_, ?_, ?_⟩)
    · simp only [Array.size_append, List.size_toArray, flatten_len hb.el, flatten_len hel2, Builtin.zeroCells, Array.size_map, Array.size_range, hzs]
      rw [← Nat.add_mul, ← Nat.add_mul]
      exact Nat.mul_le_mul_right _ (by omega)
    · simp only [Array.toList_append, List.flatten_append]
      exact List.take_left' (by simp [flatten_len hb.el, flatten_len hel2, Nat.add_mul])
    · simp only [Builtin.append_, List.getElem?_toArray, List.getElem?_cons_zero, List.getElem?_cons_succ, Sem.run_bind, run_underlying hu, Result.andThen_ok, run_sizeT hi, run_underlying hu2, Sem.run_pure,
        Bool.false_eq_true, if_false, Builtin.lenOf, Bool.not_false, if_true]
      rw [if_neg hcap]
      simp only [Sem.run_bind, hbi, Result.andThen_ok]
      rw [if_neg (by simp; omega)]
      simp only [Sem.run_bind, hbi, Result.andThen_ok]
      rw [if_neg (by omega)]
      simp only [Sem.run_bind, hq, Result.andThen_ok]
      have hbi' : (typeInfo e).run P { w with drawn := w.drawn + 1 } = .ok i { w with drawn := w.drawn + 1 } := by simp [typeInfo, hi]
      simp only [hbi', Result.andThen_ok, Sem.run_bind, askRoom_run, hold, hnew, run_zero hi hz, newRow_run, Sem.run_pure, hlen]
theorem rowIn_heap {w w' : World} (e : w'.heap = w.heap) {v : Value} {ty sz : Nat} {es : List (List Value)} (h : RowIn w v ty sz es) : RowIn w' v ty sz es := by
  unfold RowIn at *
  rw [e]; exact h
theorem sub_heap {w w' : World} (e : w'.heap = w.heap) {H : Heap} (h : H.sub w) : H.sub w' := by
  intro b o hb
  rw [e]; exact h b o hb
/-- A block that an object had that goes. -/
def Was (V : Vl) (s : St) (base : Option Nat) (b : Nat) : Prop := ∃ r ob, base = some r ∧ look s.objs r = some ob ∧ privB V r ob = some b
/-- What an append comes to: what it leaves alone. -/
def GoesB (P : Program) (C : Ctx) (V : Vl) (s : St) (o : Oper) (a : Act) (w : World) (K : St → Prop) (H : Heap) (base : Option Nat) : Prop :=
  ∃ d, o.dst = some d ∧ ∃ V' s' y w', K s' ∧ Rep C V' s' H (a.put o.dst y) w' ∧ Off d V V' ∧ Only w w' (Was V s base) ∧ (∀ x ob, look s'.objs x = some ob → x = d ∨ look s.objs x = some ob) ∧
    (∀ x ob, look s.objs x = some ob → base ≠ some x → x ≠ d → look s'.objs x = some ob) ∧ (∀ ob b, look s'.objs d = some ob → privB V' d ob = some b → w.heap.size ≤ b ∨ Was V s base b) ∧ (execOp a.eval o).run P w = .ok (.value y) w'
theorem GoesB.goes {o : Oper} {K : St → Prop} {base : Option Nat} (h : GoesB P C V s o a w K H base) : Goes P C o a w K H := by
  obtain ⟨d, _, V', s', y, w', h1, h2, _, _, _, _, _, h3⟩ := h
  exact ⟨V', s', y, w', h1, h2, .inl h3⟩
theorem delO_keep {l : List (Nat × AObj)} {base : Option Nat} {x : Nat} {o : AObj} (h : look l x = some o) (hb : base ≠ some x) : look (delO l base) x = some o := by
  cases base with
  | none => exact h
  | some r => simp only [delO]; rw [look_objDel, if_neg (fun e => hb (by rw [e]))]; exact h
theorem base_site {ty sz : Nat} {x : SV} {base : Option Nat} {es : List (List Value)} (h : baseOf s ty sz x = some (base, es)) {r : Nat} (e : base = some r) : x.site = some r := by
  subst e
  unfold baseOf at h
  split at h
  · split at h
    · split at h
      · cases h; rfl
      · cases h
    · cases h
  · split at h
    · split at h
      · cases h; rfl
      · cases h
    · cases h
  · cases h
  · cases h
/-- An append, with what it makes told. -/
theorem append_goes (h : Rep C V s H a w) {o : Oper} {d : Nat} (hd : o.dst = some d) (hf : s.free d = true) {t t2 e e2 : TypeId} {i : TypeInfo} {z : Value} (hu : P.underlying t = some (.slice e)) (hu2 : P.underlying t2 = some (.slice e2)) (hi : P.info? e = some i) (hz : i.zero = some z)
    (hzs : z.cells.size = i.size) {base : Option Nat} {es es2 : List (List Value)} {x y : Operand} {ab : Option Addr} {cap : Nat} {g : Prop} (hg : g → es2 ≠ []) (hb : BaseRep V s w (a.eval x) e i.size base es ab cap g) (hsrc : ∀ w' : World, w'.heap = w.heap → SrcRep P w' (a.eval y) i.size es2)
    (hby : 0 < i.bytes) {K : St → Prop} (hk : rowK s d e i.size i.bytes base (es ++ es2) K)
    (hex : ∀ r w', (Builtin.append_ #[t, t2] o.type #[a.eval x, a.eval y]).run P w = .ok r w' → (execOp a.eval o).run P w = .ok (.value r) w') : GoesB P C V s o a w K H base := by
  obtain ⟨hroom, hK⟩ := hk
  have hel2 := (hsrc w rfl).el
  have hall : ∀ e ∈ es ++ es2, e.length = i.size := by
    intro e he
    rcases List.mem_append.1 he with he | he
    · exact hb.el e he
    · exact hel2 e he
  have hallon : ∀ e ∈ es ++ es2, ∀ x ∈ e, one x = true := by
    intro e he
    rcases List.mem_append.1 he with he | he
    · exact hb.on e he
    · exact (hsrc w rfl).on e he
  have hl1 : ∀ (ob0 : AObj) x ob, look (objSet (delO s.objs base) d ob0) x = some ob → x = d ∨ look s.objs x = some ob := by
    intro ob0 x ob hx
    rw [look_objSet] at hx
    split at hx
    · rename_i e; exact .inl e.symm
    · exact .inr (delO_look hx).1
  have hl2 : ∀ (ob0 : AObj) x ob, look s.objs x = some ob → base ≠ some x → x ≠ d → look (objSet (delO s.objs base) d ob0) x = some ob := by
    intro ob0 x ob hx hb hne
    rw [look_objSet, if_neg (Ne.symm hne)]
    exact delO_keep hx hb
  have hl3 : ∀ (ob0 ob : AObj), look (objSet (delO s.objs base) d ob0) d = some ob → ob = ob0 := by
    intro ob0 ob hx
    rw [look_objSet, if_pos rfl] at hx
    exact (Option.some.inj hx).symm
  unfold GoesB
  rw [hd]
  refine ⟨d, rfl, ?_⟩
  rcases append_run hu hu2 hi hz hzs hg hb hsrc hroom hby o.type with ⟨b, off, c, rfl, hblk, hc, hfl, hbase, hle, hrun⟩ | ⟨hnil, hrun⟩ | ⟨cap', c, hle, hc, hfl, hrun⟩
  · have hoff := rows_off V d (.slice (some ⟨b, off, none⟩) (es ++ es2).length cap)
    have hfit : off + es.length * i.size + es2.flatten.length ≤ c.size := by
      rw [flatten_len hel2]
      have : (es.length + es2.length) * i.size ≤ cap * i.size := Nat.mul_le_mul_right _ (by simpa using hle)
      rw [Nat.add_mul] at this; omega
    obtain ⟨r, ob, hr1, hr2, hr3⟩ := hbase
    have honly : Only w (setB w b (.cells (writeCells c (off + es.length * i.size) es2.flatten) e (0, 0))) (Was V s base) := by
      have := setB_only (w := w) b (.cells (writeCells c (off + es.length * i.size) es2.flatten) e (0, 0))
      exact ⟨this.os, this.tape, this.output, this.size, fun b' hb' hlt => this.block b' (fun eb => hb' ⟨r, ob, hr1, hr2, by rw [hr3, eb]⟩) hlt⟩
    refine ⟨V.rows d (.slice (some ⟨b, off, none⟩) (es ++ es2).length cap), _, _, _, hK, rep_set (s := ⟨s.env, objSet (delO s.objs base) d (.row e i.size (es ++ es2)), s.dfr⟩) (rep_objs h hf hoff (obj := .row e i.size (es ++ es2)) honly ?_ ?_) ?_, hoff, honly, hl1 _, hl2 _, ?_, hex _ _ hrun⟩
    · refine .inr ⟨b, off, cap, _, by simp [Vl.rows], setB_at hblk, hle, by rw [writeCells_size _ _ _ hfit]; exact hc, hall, ?_, hallon⟩
      rw [write_lw _ _ _ hfit]
      have e0 : c.toList = c.toList.take off ++ c.toList.drop off := (List.take_append_drop _ _).symm
      have l0 : (c.toList.take off).length = off := by simp; omega
      conv => lhs; rw [e0]
      have e1 : off + es.length * i.size = (c.toList.take off).length + es.length * i.size := by omega
      rw [e1, lw_right, List.drop_left' l0, lw, hfl, List.flatten_append]
      rw [List.take_left' (by simp [flatten_len hb.el, flatten_len hel2, Nat.add_mul])]
    · intro b' hb'
      simp [privB, Vl.rows, blockOf] at hb'
      subst hb'
      exact .inr ⟨r, ob, hr1, hr2, hr3⟩
    · simp [SV.rep, SC.rep, Vl.rows, one]
    · intro ob' b' h1 h2
      rw [hl3 _ _ h1] at h2
      simp [privB, Vl.rows, blockOf] at h2
      subst h2
      exact .inr ⟨r, ob, hr1, hr2, hr3⟩
  · have hoff := rows_off V d (.slice none 0 0)
    refine ⟨V.rows d (.slice none 0 0), _, _, _, hK, rep_set (s := ⟨s.env, objSet (delO s.objs base) d (.row e i.size (es ++ es2)), s.dfr⟩) (rep_objs h hf hoff (obj := .row e i.size (es ++ es2)) ⟨rfl, ⟨rfl, by first | exact fun _ => Nat.le_refl _ | exact fun _ => Nat.le_succ _⟩, rfl, Nat.le_refl _, fun _ _ _ => rfl⟩ ?_ ?_) ?_, hoff, ⟨rfl, ⟨rfl, by first | exact fun _ => Nat.le_refl _ | exact fun _ => Nat.le_succ _⟩, rfl, Nat.le_refl _, fun _ _ _ => rfl⟩, hl1 _, hl2 _, ?_, hex _ _ hrun⟩
    · exact .inl ⟨by simp [Vl.rows], hnil⟩
    · intro b' hb'
      simp [privB, Vl.rows, blockOf] at hb'
    · simp [SV.rep, SC.rep, Vl.rows, one]
    · intro ob' b' h1 h2
      rw [hl3 _ _ h1] at h2
      simp [privB, Vl.rows, blockOf] at h2
  · obtain ⟨V', hoff, hrep, hnb⟩ := new_row h hf (es := es ++ es2) (ty := e) (sz := i.size) (cap := cap') (c := c) base (w' := { w with drawn := w.drawn + 1, heap := w.heap.push (.cells c e) })
      ⟨rfl, ⟨rfl, by first | exact fun _ => Nat.le_refl _ | exact fun _ => Nat.le_succ _⟩, rfl, by simp, fun b _ hb => by simp [Array.getElem?_push, Nat.ne_of_lt hb]⟩ (by simp) hle hc hall hfl hallon
    refine ⟨V', _, _, _, hK, hrep, hoff, ⟨rfl, ⟨rfl, by first | exact fun _ => Nat.le_refl _ | exact fun _ => Nat.le_succ _⟩, rfl, by simp, fun b _ hb => by simp [Array.getElem?_push, Nat.ne_of_lt hb]⟩, hl1 _, hl2 _, ?_, hex _ _ hrun⟩
    intro ob' b' h1 h2
    rw [hl3 _ _ h1] at h2
    simp only [privB, hnb, blockOf, Option.some.injEq] at h2
    exact .inl (by omega)
theorem src_arr {V : Vl} {b off n lo hi : Nat} {y : Value} (hy : (SC.arr b off n lo hi).rep V y) {cs : List Value} {ty : TypeId} {fr : Nat × Nat} (hblk : w.heap[V.blk b]? = some (.cells cs.toArray ty fr)) {k : IntKind} {xs : List Int} {l' : List Value}
    (e0 : cs.drop off = xs.map (Value.int k) ++ l') (hn : xs.length = n) (hoff : off ≤ cs.length) : SrcRep P w y 1 (((xs.drop lo).take (hi - lo)).map fun v => [Value.int k v]) := by
  obtain ⟨a', rfl, hle, hm, hA⟩ := hy
  have hlen : (((xs.drop lo).take (hi - lo)).map fun v => [Value.int k v]).length = hi - lo := by simp; omega
  have hone : ∀ e ∈ ((xs.drop lo).take (hi - lo)).map (fun v => [Value.int k v]), e.length = 1 := fun e he => by
    obtain ⟨q, _, rfl⟩ := List.mem_map.1 he; rfl
  refine ⟨⟨a', n - lo, by rw [hlen]⟩, hone, ?_, ?_⟩
  · rcases Nat.lt_or_ge lo n with hlt | hge
    · rw [hA hlt]
      simp only [Builtin.firstCells]
      rw [← flatten_len hone]
      refine loadCells_run (flat_cell rfl hone ?_)
      intro i e he q x hq
      rw [List.getElem?_map] at he
      obtain ⟨v, hv, rfl⟩ := Option.map_eq_some_iff.1 he
      have hi' : i < hi - lo := by
        have := (List.getElem?_eq_some_iff.1 hv).1
        simp at this; omega
      have hq0 : q = 0 := by
        have := (List.getElem?_eq_some_iff.1 hq).1
        simp at this; omega
      subst hq0
      simp at hq
      subst hq
      rw [List.getElem?_take_of_lt hi', List.getElem?_drop] at hv
      rw [add_spot rfl, cell_block hblk rfl]
      have h1 : (cs.drop off)[lo + i]? = some (Value.int k v) := by
        rw [e0, List.getElem?_append_left (by simp; omega), List.getElem?_map, hv]; rfl
      rw [List.getElem?_drop] at h1
      simpa [Nat.add_assoc] using h1
    · have h0 : hi - lo = 0 := by omega
      rw [h0]
      cases a' <;> simp [Builtin.firstCells, loadCells, loadCellsFrom]
  · intro e he x hx
    obtain ⟨q, _, rfl⟩ := List.mem_map.1 he
    simp at hx
    subst hx
    rfl
theorem src_of (h : Rep C V s H a w) {x : SV} {y : Value} {es : List (List Value)} {sz : Nat} (hx : x.rep V y) (hs : srcOf s sz x = some es) {w' : World} (e : w'.heap = w.heap) : SrcRep P w' y sz es := by
  unfold srcOf at hs
  split at hs
  · obtain ⟨hx, -⟩ := hx
    split at hs
    · rename_i hl
      split at hs
      · rename_i hb
        have := nbt hb; subst this
        cases hs
        rw [hx]
        exact src_row (rowIn_heap e (h.objs _ _ hl))
      · cases hs
    · cases hs
  · split at hs
    · rename_i hl
      split at hs
      · rename_i hb hb2
        have := nbt hb; subst this
        have := nbt hb2; subst this
        cases hs
        exact src_sub (rowIn_heap e (h.objs _ _ hl)) hx
      · cases hs
    · cases hs
  · rename_i b off n lo hi
    split at hs
    · rename_i ty l hl hb
      have hsz := nbt hb; subst hsz
      split at hs
      · rename_i k m xs rest hseg
        split at hs
        · rename_i hmn
          have hmn := nbt hmn
          subst hmn
          cases hs
          obtain ⟨cs, hcs, hblk⟩ := h.objs _ _ hl
          obtain ⟨⟨hn, l', e0, _⟩, hoff⟩ := segFrom_rep _ _ hcs hseg
          rw [← e] at hblk
          exact src_arr hx hblk e0 hn hoff
        · cases hs
      · cases hs
    · cases hs
  · cases hs
theorem appK_sound (h : Rep C V s H a w) {Hr : Heap} (hr : Hr ≤ H) (o : Oper) {args : Array Operand} {ats : Array TypeId} (ho : o.op = .call { callee := .builtin .append, args := args, argTypes := ats }) {K : St → Prop} (hk : objK P o s Hr K) :
    ∃ base, GoesB P C V s o a w K H base ∧ ∀ r, base = some r → appSite s o = some r := by
  have hsub := le_sub hr h.sub
  cases hd : o.dst with
  | none => unfold objK at hk; rw [ho, hd] at hk; exact hk.elim
  | some d =>
    unfold objK at hk
    rw [ho, hd] at hk
    simp only at hk
    split at hk
    · rename_i t t2 x y hf h1 h2
      have e1 : ats = #[t, t2] := by apply Array.ext'; simpa using h1
      have e2 : args = #[x, y] := by apply Array.ext'; simpa using h2
      subst e1; subst e2
      have hex : ∀ r w', (Builtin.append_ #[t, t2] o.type #[a.eval x, a.eval y]).run P w = .ok r w' → (execOp a.eval o).run P w = .ok (.value r) w' := by
        intro r w' hr
        unfold execOp
        rw [ho]
        simp only [resolve, Sem.run_bind, Sem.run_pure, Result.andThen_ok, invoke, builtin, List.map_toArray, List.map_cons, List.map_nil, hr]
      split at hk
      · rename_i e2 e sz hu2 he
        obtain ⟨hu, i, hi, rfl⟩ := sliceElem_eq he
        split at hk
        · rename_i by_ z hby hz
          obtain ⟨i', v, hi', hv, rfl, hone⟩ := zeroT_eq hz
          rw [hi] at hi'; cases hi'
          have hby' : i.bytes = by_ + 1 := by simp [bytesT, hi] at hby; exact hby
          split at hk
          · rename_i hzl
            have hzs : v.cells.size = i.size := by have := nbt hzl; simpa using this
            have hx := h.ev x
            have hy := h.ev y
            split at hk
            · rename_i b off n hi' harr
              rw [harr] at hx
              obtain ⟨a', hxv, hle, hm, hA⟩ := hx
              split at hk
              · rename_i ty l x1 es2 hl hsrc hsz1 hfull
                simp only [Bool.and_eq_true] at hfull
                have hn1 := Nat.le_of_ble_eq_true hfull.2
                have hfull := nbt hfull.1
                have hsz1 := nbt hsz1
                split at hk
                · rename_i k m xs rest hseg
                  split at hk
                  · rename_i hmn
                    have hmn := nbt hmn
                    subst hmn
                    subst hfull
                    obtain ⟨cs, hcs, hblk⟩ := h.objs _ _ hl
                    obtain ⟨h3, h4⟩ := segFrom_rep _ _ hcs hseg
                    obtain ⟨hn, l', e0, hl'⟩ := h3
                    rw [← hby'] at hk
                    have hA' := hA (by omega)
                    rw [hA'] at hxv
                    have hfl : ∀ xs : List Int, (xs.map fun v => [Value.int k v]).flatten = xs.map (Value.int k) := by
                      intro xs
                      induction xs with
                      | nil => rfl
                      | cons x r ih => simp [ih]
                    refine ⟨none, append_goes (g := True) (base := none) (es := xs.map fun v => [Value.int k v]) (ab := some ⟨V.blk b, off, none⟩) (cap := xs.length) h hd hf hu hu2 hi hv hzs (by simp) ⟨?_, ?_, ?_, ?_, .inr ⟨V.blk b, off, cs.toArray, ty, rfl, hblk, ?_, ?_, .inr ⟨trivial, by simp⟩⟩⟩ (fun w' e => src_of h hy hsrc e) (by omega) hk hex, by simp⟩
                    · rw [hxv]; simp [hn]
                    · simp
                    · intro e he
                      obtain ⟨q, _, rfl⟩ := List.mem_map.1 he
                      simpa using hsz1.symm
                    · intro e he x hx
                      obtain ⟨q, _, rfl⟩ := List.mem_map.1 he
                      simp at hx
                      subst hx
                      rfl
                    · have := congrArg List.length e0
                      simp at this
                      rw [hsz1]
                      simp
                      omega
                    · rw [hsz1, hfl]
                      simp only [List.length_map, Nat.mul_one]
                      rw [e0]
                      exact List.take_left' (by simp)
                  · exact hk.elim
                · exact hk.elim
              · exact hk.elim
            · split at hk
              · rename_i base es hb
                obtain ⟨ab, cap, hbr⟩ := base_rep h hx hb
                split at hk
                · rename_i a0 n c hreal
                  rw [hreal] at hy
                  obtain ⟨hy, -⟩ := hy
                  obtain ⟨es2, hs, hk⟩ := hk
                  rw [← hby'] at hk
                  refine ⟨base, append_goes h hd hf hu hu2 hi hv hzs (by simp) hbr (fun w' e => by rw [hy]; exact src_real (sub_heap e hsub) hs) (by omega) hk hex, fun r e => ?_⟩
                  simp only [appSite, ho]; exact base_site hb e
                · split at hk
                  · rename_i es2 hsrc _
                    rw [← hby'] at hk
                    refine ⟨base, append_goes h hd hf hu hu2 hi hv hzs (by simp) hbr (fun w' e => ?_) (by omega) hk hex, fun r e => ?_⟩
                    · exact src_of h hy hsrc e
                    · simp only [appSite, ho]; exact base_site hb e
                  · exact hk.elim
              · exact hk.elim
          · exact hk.elim
        · exact hk.elim
      · exact hk.elim
    · exact hk.elim
/-- A store into a private variable, or into a row: what it changes. -/
theorem storeK_sound (h : Rep C V s H a w) {Hr : Heap} (o : Oper) {t : TypeId} {x y : Operand} (ho : o.op = .store t x y) (hd : o.dst = none) {K : St → Prop} (hk : objK P o s Hr K) :
    ∃ d old obj b0 w', look s.objs d = some old ∧ privB V d old = some b0 ∧ privB V d obj = some b0 ∧ storeSite (ev s x) = some d ∧ K ⟨s.env, objSet s.objs d obj, s.dfr⟩ ∧
      Rep C V ⟨s.env, objSet s.objs d obj, s.dfr⟩ H a w' ∧ Only w w' (fun b => b = b0) ∧ (execOp a.eval o).run P w = .ok .skip w' := by
  unfold objK at hk
  unfold execOp
  rw [ho, hd] at hk
  rw [ho]
  simp only at hk
  have hx := h.ev x
  split at hk
  · rename_i b off hb
    rw [hb] at hx
    simp only [SV.rep, SC.rep] at hx
    split at hk
    · rename_i ty l new z hl hn hz
      split at hk
      · rename_i l' hbn hl'
        simp only [Bool.and_eq_true] at hbn
        obtain ⟨i, hi, rfl⟩ := sizeT_eq hz
        obtain ⟨cs, hcs, hblk⟩ := h.objs _ _ hl
        have hrep := segs_rep (h.ev y) hn
        have hlen := segsRep_len hrep
        have hsz := nbt hbn.1
        obtain ⟨h1, h2⟩ := segPut_rep hcs hrep hl'
        have hrun := storeVar_run (P := P) (off := off) hi (by simp at hlen; omega) hblk (by simp at h2 ⊢; simp at hlen; omega) (segs_one hbn.2 hrep)
        refine ⟨_, _, _, _, _, hl, rfl, rfl, by rw [hb]; rfl, hk, rep_mod h hl rfl rfl (setB_only _ _) ?_, setB_only _ _, exec_u (by simp only [Instr.storeAt, Sem.run_bind, hx, Instr.sureAddr, Sem.run_pure, Result.andThen_ok]; exact hrun)⟩
        refine ⟨_, h1, ?_⟩
        rw [setB_at hblk, show (writeCells cs.toArray off (a.eval y).cells.toList) = (cs.take off ++ (a.eval y).cells.toList ++ cs.drop (off + (a.eval y).cells.toList.length)).toArray by
          apply Array.ext'; rw [writeCells_list _ _ _ (by simpa using h2)]]
      · exact hk.elim
    · exact hk.elim
  · rename_i b off n i hb
    rw [hb] at hx
    obtain ⟨hin, hx⟩ := hx
    split at hk
    · rename_i ty l k v hl hy hz
      have hy' := h.ev y
      rw [hy] at hy'
      obtain ⟨hy', -⟩ := hy'
      obtain ⟨inf, hi, h1'⟩ := sizeT_eq hz
      obtain ⟨cs, hcs, hblk⟩ := h.objs _ _ hl
      split at hk
      · rename_i k' m xs rest hr'
        split at hk
        · rename_i l' hm hkk hl'
          have := nbt hm; subst this
          have := sameK_eq hkk; subst this
          obtain ⟨h1, h2⟩ := segFrom_rep _ _ hcs hr'
          obtain ⟨hn, l1, e1, hl1⟩ := h1
          have hrep : SegsRep V [.ints k m (xs.set i v)] ((xs.set i v).map (.int k)) := ⟨by simpa using hn, [], by simp, rfl⟩
          obtain ⟨h3, h4⟩ := segPut_rep hcs hrep hl'
          simp only [List.length_map, List.length_set] at h3 h4
          have hrun := storeVar_run (P := P) (v := .int k v) (off := off + i) hi (by rw [h1']; rfl) hblk (by simp; omega) (by simp [Value.cells, one])
          refine ⟨_, _, _, _, _, hl, rfl, rfl, by rw [hb]; rfl, hk, rep_mod h hl rfl rfl (setB_only _ _) ?_, setB_only _ _, exec_u (by simp only [Instr.storeAt, Sem.run_bind, hx, Instr.sureAddr, Sem.run_pure, Result.andThen_ok, hy']; exact hrun)⟩
          refine ⟨_, h3, ?_⟩
          rw [setB_at hblk]
          congr 2
          apply Array.ext'
          simp only [Value.cells, writeCells, Array.toList_setIfInBounds]
          apply List.ext_getElem?
          intro j
          have hsplit : cs = cs.take off ++ (xs.map (Value.int k) ++ l1) := by rw [← e1, List.take_append_drop]
          have hl1' : cs.drop (off + xs.length) = l1 := by
            rw [← List.drop_drop, e1, List.drop_append_of_le_length (by simp), List.drop_eq_nil_of_le (by simp)]
            simp
          rw [hl1']
          conv => lhs; rw [hsplit]
          have htk : (cs.take off).length = off := by simp; omega
          rw [List.append_assoc, List.set_append_right _ _ (by omega), htk, Nat.add_sub_cancel_left, List.set_append_left _ _ (by simp; omega), List.map_set]
        · exact hk.elim
      · exact hk.elim
    · exact hk.elim
  · rename_i r sz' i off hb
    rw [hb] at hx
    obtain ⟨A, n, cap, hv, hs, hx⟩ := hx
    split at hk
    · rename_i ty sz es new z hl hn hz
      split at hk
      · rename_i cs hcs
        split at hk
        · rename_i hb1 hb2 hb3
          have := nbt hb3; subst this
          have hcl := nbt hb1
          have hle := Nat.le_of_ble_eq_true hb2
          obtain ⟨hi, hK⟩ := hk
          obtain ⟨inf, hinf, rfl⟩ := sizeT_eq hz
          have hrep := segs_rep (h.ev y) hn
          have hval := flat_rep hrep hcs
          have hvs : (a.eval y).cells.size = inf.size := by have := congrArg List.length hval; simp at this; omega
          have hone : ∀ x ∈ (a.eval y).cells.toList, one x = true := by
            exact segs_one (flat_noBad hcs) hrep
          rcases h.objs _ _ hl with ⟨hv', rfl⟩ | ⟨b, o', cap', c, hv', hblk, hcap, hc1, hes, hfl, hon⟩
          · simp at hi
          · rw [hv'] at hv
            cases hv
            have he : es[i]? = some es[i] := List.getElem?_eq_getElem hi
            have hroom : i * sz + off + inf.size ≤ es.length * sz := by
              have : (i + 1) * sz ≤ es.length * sz := Nat.mul_le_mul_right _ hi
              rw [Nat.succ_mul] at this; omega
            have hroom2 : es.length * sz ≤ cap * sz := Nat.mul_le_mul_right _ hcap
            have hrun := storeVar_run (P := P) (off := o' + i * sz + off) hinf hvs hblk (by omega) hone
            have hes' : (match Nat.beq inf.size sz with | true => es.set i cs | false => cellPut es i off cs) = es.set i (lw es[i] off cs) := by
              split
              · rename_i hbb
                have hbb := nbt hbb
                have h0 : off = 0 := by omega
                subst h0
                have hel := hes es[i] (List.getElem_mem hi)
                rw [lw, List.take_zero, List.nil_append, List.drop_eq_nil_of_le (by omega), List.append_nil]
              · exact modify_eq he
            have hK' : K ⟨s.env, objSet s.objs r (.row ty sz (es.set i (lw es[i] off cs))), s.dfr⟩ := by rw [← hes']; exact hK
            refine ⟨_, _, _, _, _, hl, by simp [privB, hv', blockOf], by simp [privB, hv', blockOf], by rw [hb]; rfl, hK', rep_mod h hl (by simp [privB, hv', blockOf]) (by simp [privB, hv', blockOf]) (setB_only b _) (.inr ⟨b, o', cap, writeCells c (o' + i * sz + off) cs, ?_, ?_, ?_, ?_, ?_, ?_, ?_⟩), setB_only b _, exec_u (by simp only [Instr.storeAt, Sem.run_bind, hx, Instr.sureAddr, Sem.run_pure, Result.andThen_ok]; exact hrun)⟩
            · rw [hv']; simp
            · rw [setB_at hblk, hval]
            · simpa using hcap
            · rw [writeCells_size _ _ _ (by omega)]; exact hc1
            · intro e he'
              rcases List.mem_or_eq_of_mem_set he' with he' | rfl
              · exact hes e he'
              · have hel := hes es[i] (List.getElem_mem hi)
                rw [lw_len _ _ _ (by omega), hel]
            · rw [write_lw _ _ _ (by omega), ← row_put hes he (by omega), ← hfl, List.length_set]
              have e0 : c.toList = c.toList.take o' ++ ((c.toList.drop o').take (es.length * sz) ++ (c.toList.drop o').drop (es.length * sz)) := by
                rw [List.take_append_drop, List.take_append_drop]
              have l0 : (c.toList.take o').length = o' := by simp; omega
              have l1 : ((c.toList.drop o').take (es.length * sz)).length = es.length * sz := by simp; omega
              conv => lhs; rw [e0]
              have e1 : o' + i * sz + off = (c.toList.take o').length + (i * sz + off) := by omega
              rw [e1, lw_right, lw_left _ _ _ _ (by omega), List.drop_left' l0, List.take_left' (by rw [lw_len _ _ _ (by omega), l1])]
            · intro e he'
              rcases List.mem_or_eq_of_mem_set he' with he' | rfl
              · exact hon e he'
              · intro x hx
                rw [lw] at hx
                rcases List.mem_append.1 hx with hx | hx
                · rcases List.mem_append.1 hx with hx | hx
                  · exact hon _ (List.getElem_mem hi) x (List.mem_of_mem_take hx)
                  · exact hone x (by rw [hval]; exact hx)
                · exact hon _ (List.getElem_mem hi) x (List.mem_of_mem_drop hx)
        · exact hk.elim
      · exact hk.elim
    · exact hk.elim
  · exact hk.elim
theorem objK_sound (h : Rep C V s H a w) {Hr : Heap} (hr : Hr ≤ H) (o : Oper) {K : St → Prop} (hk : objK P o s Hr K) : Goes P C o a w K H := by
  have hsub := le_sub hr h.sub
  unfold objK at hk
  unfold Goes execOp
  split at hk
  · -- alloc
    rename_i t d ho hd
    rw [ho, hd]
    split at hk
    · rename_i z ks hf hz hks
      obtain ⟨i, v, hi, hv, rfl, hone⟩ := zeroT_eq hz
      split at hk
      · rename_i l hl
        obtain ⟨V', hoff, hrep, hnb⟩ := new_box h hf t (parse_rep (V := V) hl hone) (parse_refs hl)
        refine ⟨V', _, _, _, hk, hrep, .inl (exec_v ?_)⟩
        simp only [Instr.alloc, Sem.run_bind, run_zero hi hv, Result.andThen_ok, newVar, newRow_run, Sem.run_pure]
      · exact hk.elim
    · exact hk.elim
  · -- box
    rename_i t x d ho hd
    rw [ho, hd]
    split at hk
    · rename_i l hf hl
      obtain ⟨V', hoff, hrep, hnb⟩ := new_box h hf t (segs_rep (h.ev x) hl) (segs_refs (ev_refs hf x) hl)
      refine ⟨V', _, _, _, hk, hrep, .inl (exec_v ?_)⟩
      simp only [Instr.box, Sem.run_bind, newVar, newRow_run, Result.andThen_ok, Sem.run_pure]
    · exact hk.elim
  · -- store
    rename_i t x y ho hd
    rw [ho, hd]
    have hx := h.ev x
    split at hk
    · rename_i b off hb
      rw [hb] at hx
      simp only [SV.rep, SC.rep] at hx
      split at hk
      · rename_i ty l new z hl hn hz
        split at hk
        · rename_i l' hbn hl'
          simp only [Bool.and_eq_true] at hbn
          obtain ⟨i, hi, rfl⟩ := sizeT_eq hz
          obtain ⟨cs, hcs, hblk⟩ := h.objs _ _ hl
          have hrep := segs_rep (h.ev y) hn
          have hlen := segsRep_len hrep
          have hsz := nbt hbn.1
          obtain ⟨h1, h2⟩ := segPut_rep hcs hrep hl'
          have hrun := storeVar_run (P := P) (off := off) hi (by simp at hlen; omega) hblk (by simp at h2 ⊢; simp at hlen; omega) (segs_one hbn.2 hrep)
          refine ⟨V, _, undef, _, hk, rep_mod h hl rfl rfl (setB_only _ _) ?_, .inr ⟨exec_u (by simp only [Instr.storeAt, Sem.run_bind, hx, Instr.sureAddr, Sem.run_pure, Result.andThen_ok]; exact hrun), rfl⟩⟩
          refine ⟨_, h1, ?_⟩
          rw [setB_at hblk, show (writeCells cs.toArray off (a.eval y).cells.toList) = (cs.take off ++ (a.eval y).cells.toList ++ cs.drop (off + (a.eval y).cells.toList.length)).toArray by
            apply Array.ext'; rw [writeCells_list _ _ _ (by simpa using h2)]]
        · exact hk.elim
      · exact hk.elim
    · rename_i b off n i hb
      rw [hb] at hx
      obtain ⟨hin, hx⟩ := hx
      split at hk
      · rename_i ty l k v hl hy hz
        have hy' := h.ev y
        rw [hy] at hy'
        obtain ⟨hy', -⟩ := hy'
        obtain ⟨inf, hi, h1'⟩ := sizeT_eq hz
        obtain ⟨cs, hcs, hblk⟩ := h.objs _ _ hl
        split at hk
        · rename_i k' m xs rest hr'
          split at hk
          · rename_i l' hm hkk hl'
            have := nbt hm; subst this
            have := sameK_eq hkk; subst this
            obtain ⟨h1, h2⟩ := segFrom_rep _ _ hcs hr'
            obtain ⟨hn, l1, e1, hl1⟩ := h1
            have hrep : SegsRep V [.ints k m (xs.set i v)] ((xs.set i v).map (.int k)) := ⟨by simpa using hn, [], by simp, rfl⟩
            obtain ⟨h3, h4⟩ := segPut_rep hcs hrep hl'
            simp only [List.length_map, List.length_set] at h3 h4
            have hrun := storeVar_run (P := P) (v := .int k v) (off := off + i) hi (by rw [h1']; rfl) hblk (by simp; omega) (by simp [Value.cells, one])
            refine ⟨V, _, undef, _, hk, rep_mod h hl rfl rfl (setB_only _ _) ?_, .inr ⟨exec_u (by simp only [Instr.storeAt, Sem.run_bind, hx, Instr.sureAddr, Sem.run_pure, Result.andThen_ok, hy']; exact hrun), rfl⟩⟩
            refine ⟨_, h3, ?_⟩
            rw [setB_at hblk]
            congr 2
            apply Array.ext'
            simp only [Value.cells, writeCells, Array.toList_setIfInBounds]
            apply List.ext_getElem?
            intro j
            have hsplit : cs = cs.take off ++ (xs.map (Value.int k) ++ l1) := by rw [← e1, List.take_append_drop]
            have hl1' : cs.drop (off + xs.length) = l1 := by
              rw [← List.drop_drop, e1, List.drop_append_of_le_length (by simp), List.drop_eq_nil_of_le (by simp)]
              simp
            rw [hl1']
            conv => lhs; rw [hsplit]
            have htk : (cs.take off).length = off := by simp; omega
            rw [List.append_assoc, List.set_append_right _ _ (by omega), htk, Nat.add_sub_cancel_left, List.set_append_left _ _ (by simp; omega), List.map_set]
          · exact hk.elim
        · exact hk.elim
      · exact hk.elim
    · rename_i r sz' i off hb
      rw [hb] at hx
      obtain ⟨A, n, cap, hv, hs, hx⟩ := hx
      split at hk
      · rename_i ty sz es new z hl hn hz
        split at hk
        · rename_i cs hcs
          split at hk
          · rename_i hb1 hb2 hb3
            have := nbt hb3; subst this
            have hcl := nbt hb1
            have hle := Nat.le_of_ble_eq_true hb2
            obtain ⟨hi, hK⟩ := hk
            obtain ⟨inf, hinf, rfl⟩ := sizeT_eq hz
            have hrep := segs_rep (h.ev y) hn
            have hval := flat_rep hrep hcs
            have hvs : (a.eval y).cells.size = inf.size := by have := congrArg List.length hval; simp at this; omega
            have hone : ∀ x ∈ (a.eval y).cells.toList, one x = true := by
              exact segs_one (flat_noBad hcs) hrep
            rcases h.objs _ _ hl with ⟨hv', rfl⟩ | ⟨b, o', cap', c, hv', hblk, hcap, hc1, hes, hfl, hon⟩
            · simp at hi
            · rw [hv'] at hv
              cases hv
              have he : es[i]? = some es[i] := List.getElem?_eq_getElem hi
              have hroom : i * sz + off + inf.size ≤ es.length * sz := by
                have : (i + 1) * sz ≤ es.length * sz := Nat.mul_le_mul_right _ hi
                rw [Nat.succ_mul] at this; omega
              have hroom2 : es.length * sz ≤ cap * sz := Nat.mul_le_mul_right _ hcap
              have hrun := storeVar_run (P := P) (off := o' + i * sz + off) hinf hvs hblk (by omega) hone
              have hes' : (match Nat.beq inf.size sz with | true => es.set i cs | false => cellPut es i off cs) = es.set i (lw es[i] off cs) := by
                split
                · rename_i hbb
                  have hbb := nbt hbb
                  have h0 : off = 0 := by omega
                  subst h0
                  have hel := hes es[i] (List.getElem_mem hi)
                  rw [lw, List.take_zero, List.nil_append, List.drop_eq_nil_of_le (by omega), List.append_nil]
                · exact modify_eq he
              have hK' : K ⟨s.env, objSet s.objs r (.row ty sz (es.set i (lw es[i] off cs))), s.dfr⟩ := by rw [← hes']; exact hK
              refine ⟨V, _, undef, _, hK', rep_mod h hl (by simp [privB, hv', blockOf]) (by simp [privB, hv', blockOf]) (setB_only b _) (.inr ⟨b, o', cap, writeCells c (o' + i * sz + off) cs, ?_, ?_, ?_, ?_, ?_, ?_, ?_⟩), .inr ⟨exec_u (by simp only [Instr.storeAt, Sem.run_bind, hx, Instr.sureAddr, Sem.run_pure, Result.andThen_ok]; exact hrun), rfl⟩⟩
              · rw [hv']; simp
              · rw [setB_at hblk, hval]
              · simpa using hcap
              · rw [writeCells_size _ _ _ (by omega)]; exact hc1
              · intro e he'
                rcases List.mem_or_eq_of_mem_set he' with he' | rfl
                · exact hes e he'
                · have hel := hes es[i] (List.getElem_mem hi)
                  rw [lw_len _ _ _ (by omega), hel]
              · rw [write_lw _ _ _ (by omega), ← row_put hes he (by omega), ← hfl, List.length_set]
                have e0 : c.toList = c.toList.take o' ++ ((c.toList.drop o').take (es.length * sz) ++ (c.toList.drop o').drop (es.length * sz)) := by
                  rw [List.take_append_drop, List.take_append_drop]
                have l0 : (c.toList.take o').length = o' := by simp; omega
                have l1 : ((c.toList.drop o').take (es.length * sz)).length = es.length * sz := by simp; omega
                conv => lhs; rw [e0]
                have e1 : o' + i * sz + off = (c.toList.take o').length + (i * sz + off) := by omega
                rw [e1, lw_right, lw_left _ _ _ _ (by omega), List.drop_left' l0, List.take_left' (by rw [lw_len _ _ _ (by omega), l1])]
              · intro e he'
                rcases List.mem_or_eq_of_mem_set he' with he' | rfl
                · exact hon e he'
                · intro x hx
                  rw [lw] at hx
                  rcases List.mem_append.1 hx with hx | hx
                  · rcases List.mem_append.1 hx with hx | hx
                    · exact hon _ (List.getElem_mem hi) x (List.mem_of_mem_take hx)
                    · exact hone x (by rw [hval]; exact hx)
                  · exact hon _ (List.getElem_mem hi) x (List.mem_of_mem_drop hx)
          · exact hk.elim
        · exact hk.elim
      · exact hk.elim
    · exact hk.elim
  · -- buildSlice
    rename_i t n parts d ho hd
    rw [ho, hd]
    split at hk
    · rename_i e sz hf he
      split at hk
      · rename_i es hes hn
        obtain ⟨hu, i, hi, rfl⟩ := sliceElem_eq he
        have hn' := Nat.le_of_ble_eq_true hn
        obtain ⟨h1, h2, h2', h3⟩ := elemsOf_rep h _ _ _ hes
        split at hk
        · rename_i z hz
          obtain ⟨i', v, hi', hv, rfl, hone⟩ := zeroT_eq hz
          have hz1 : (if n * i.size = 0 then (pure #[] : Sem (Array Value)) else do pure (← zeroValue e).cells).run P w = .ok (if n * i.size = 0 then #[] else v.cells) w := by
            split
            · rfl
            · simp only [Sem.run_bind, run_zero hi' hv, Result.andThen_ok, Sem.run_pure]
          generalize hq : (if n * i.size = 0 then #[] else v.cells) = zq at hz1
          generalize hcells : (Array.range (n * i.size)).map (zq[· % zq.size]!) = cells
          have hcl : cells.size = n * i.size := by rw [← hcells]; simp
          obtain ⟨cs, h4, h5⟩ := h3 cells [] (by simp) (by simpa using hcl) (by simp)
          have hcs : cs.size = n * i.size := by rw [← Array.length_toList, h5, List.nil_append, flatten_len h2, h1]
          obtain ⟨V', hoff, hrep, hnb⟩ := new_row h hf (es := es) (ty := e) (sz := i.size) (cap := n) (c := cs) none (w' := { w with heap := w.heap.push (.cells cs e) }) (alloc_only _ _) (by simp) (by omega) (by omega) h2
            (by rw [h5, List.nil_append, List.take_of_length_le (by rw [flatten_len h2]; exact Nat.le_refl _)]) h2'
          rw [h1] at hrep
          refine ⟨V', _, _, _, hk, hrep, .inl (exec_v ?_)⟩
          simp only [Instr.buildSlice, Sem.run_bind, run_underlying hu, Result.andThen_ok, run_sizeT hi]
          rw [if_neg (by omega)]
          by_cases hzero : n * i.size = 0
          · rw [if_pos hzero] at hq ⊢
            subst hq
            simp only [Sem.run_bind, Sem.run_pure, Result.andThen_ok, Array.toList_map]
            rw [hcells, h4]
            simp only [Sem.run_bind, newRow_run, Result.andThen_ok, Sem.run_pure]
          · rw [if_neg hzero] at hq ⊢
            subst hq
            simp only [Sem.run_bind, run_zero hi' hv, Sem.run_pure, Result.andThen_ok, Array.toList_map]
            rw [hcells, h4]
            simp only [Sem.run_bind, newRow_run, Result.andThen_ok, Sem.run_pure]
        · exact hk.elim
      · exact hk.elim
    · exact hk.elim
  · -- makeSlice
    rename_i t n c d ho hd
    rw [ho, hd]
    have hn := h.ev n
    have hc := h.ev c
    split at hk
    · rename_i e sz hf he
      split at hk
      · rename_i n' c' z by_ hn1 hc1 hz hby
        rw [hn1] at hn
        rw [hc1] at hc
        obtain ⟨hn, -⟩ := hn
        obtain ⟨hc, -⟩ := hc
        split at hk
        · rename_i hzl
          have hzl := nbt hzl
          obtain ⟨⟨h0, rfl, hroom⟩, hK⟩ := hk
          obtain ⟨hu, i, hi, rfl⟩ := sliceElem_eq he
          obtain ⟨i', v, hi', hv, rfl, hone⟩ := zeroT_eq hz
          rw [hi] at hi'; cases hi'
          have hby' : i.bytes = by_ + 1 := by simp [bytesT, hi] at hby; exact hby
          have hle : c' ≤ roomMax := by
            refine Int.le_trans ?_ hroom
            have : c' * 1 ≤ c' * ((by_ + 1 : Nat) : Int) := Int.mul_le_mul_of_nonneg_left (by omega) h0
            simpa using this
          have hwrap : IntKind.i64.wrap c' = c' := IntWalk.i64_in c' (by unfold roomMax at hle; omega)
          have hzs : v.cells.size = i.size := by simpa using hzl
          have hz1 : (if c'.toNat * i.size = 0 then (pure #[] : Sem (Array Value)) else do pure (← zeroValue e).cells).run P w = .ok (if c'.toNat * i.size = 0 then #[] else v.cells) w := by
            split
            · rfl
            · simp only [Sem.run_bind, run_zero hi hv, Result.andThen_ok, Sem.run_pure]
          generalize hq : (if c'.toNat * i.size = 0 then #[] else v.cells) = zq at hz1
          have hcells : ((Array.range (c'.toNat * i.size)).map (zq[· % zq.size]!)).toList = (List.replicate c'.toNat v.cells.toList).flatten := by
            by_cases hzero : c'.toNat * i.size = 0
            · rw [hzero]
              have : (List.replicate c'.toNat v.cells.toList).flatten = [] := by
                apply List.eq_nil_of_length_eq_zero
                rw [flatten_len (sz := i.size) (by intro e he; rw [List.eq_of_mem_replicate he]; simpa using hzl)]
                simpa using hzero
              rw [this]; simp
            · rw [if_neg hzero] at hq
              subst hq
              rw [← hzs]
              exact zeros_list _
          have hrepl : ∀ e ∈ List.replicate c'.toNat v.cells.toList, e.length = i.size := by
            intro e he; rw [List.eq_of_mem_replicate he]; simpa using hzl
          obtain ⟨V', hoff, hrep, hnb⟩ := new_row h hf (es := List.replicate c'.toNat v.cells.toList) (ty := e) (sz := i.size) (cap := c'.toNat) (c := (Array.range (c'.toNat * i.size)).map (zq[· % zq.size]!)) none (w' := { w with heap := w.heap.push (.cells ((Array.range (c'.toNat * i.size)).map (zq[· % zq.size]!)) e) }) (alloc_only _ _) (by simp) (by simp) (by simp) hrepl
            (by rw [hcells, List.take_of_length_le (by rw [flatten_len hrepl]; exact Nat.le_refl _)]) (by intro e he; rw [List.eq_of_mem_replicate he]; exact hone)
          rw [List.length_replicate] at hrep
          refine ⟨V', _, _, _, hK, hrep, .inl (exec_v ?_)⟩
          rw [hn, hc]
          have hb48 : ¬ ((i.bytes : Int) * c' > 2 ^ 48) := by
            rw [hby', Int.mul_comm]
            unfold roomMax at hroom
            omega
          have hcond : ¬ (c' < 0 || (i.bytes : Int) * c' > 2 ^ 48 || c' < 0 || c' > c') = true := by
            simp; omega
          simp only [Instr.makeSlice, Sem.run_bind, run_underlying hu, Result.andThen_ok, asInt, asIntOf, Sem.run_pure, typeInfo, run_program, hi, hwrap]
          rw [if_neg (by simpa using hcond)]
          have hask : (askRoom (c'.toNat * i.bytes)).run P w = .ok () w := by unfold askRoom; split <;> rfl
          simp only [Sem.run_bind, hask, Result.andThen_ok, run_sizeT hi]
          by_cases hzero : c'.toNat * i.size = 0
          · rw [if_pos hzero] at hq ⊢
            subst hq
            simp only [Sem.run_bind, Sem.run_pure, Result.andThen_ok, newRow_run]
          · rw [if_neg hzero] at hq ⊢
            subst hq
            simp only [Sem.run_bind, run_zero hi hv, Sem.run_pure, Result.andThen_ok, newRow_run]
        · exact hk.elim
      · exact hk.elim
    · exact hk.elim
  · -- append
    rename_i args ats d ho hd
    rw [ho]
    have goal : Goes P C o a w K H := (appK_sound h hr o ho (by unfold objK; rw [ho, hd]; exact hk)).elim fun _ q => q.1.goes
    unfold Goes execOp at goal
    rw [ho] at goal
    exact goal
  · exact hk.elim
end
end Sx

set_option linter.unusedVariables false
set_option linter.unusedSimpArgs false
namespace Sx
open Go
set_option linter.unusedSectionVars false
variable [Dr]
theorem heap_refl (H : Heap) : H ≤ H := fun _ _ e => e
theorem heap_trans {A B D : Heap} (h : A ≤ B) (h' : B ≤ D) : A ≤ D := fun b o e => h' b o (h b o e)
section
variable {P : Program} {C : Ctx} {V : Vl} {s : St} {H : Heap} {a : Act} {w : World}

theorem upd_same (H : Heap) (b : Nat) (o : Obj) : H.upd b o b = some o := by simp [Heap.upd]
theorem upd_ne (H : Heap) {b b' : Nat} (o : Obj) (h : b' ≠ b) : H.upd b o b' = H b' := by simp [Heap.upd, h]
theorem rep_look (h : Rep C V s H a w) {s' : St} (he : s'.env = s.env) (hd : s'.dfr = s.dfr) (hl : ∀ d o, look s'.objs d = some o → look s.objs d = some o) : Rep C V s' H a w :=
  { env := by rw [he]; exact h.env, len := by rw [he]; exact h.len, dfr := by rw [hd]; exact h.dfr, sub := h.sub, objs := fun d o e => h.objs d o (hl d o e), priv := fun d o b e => h.priv d o b (hl d o e),
    dist := fun d o d' o' b e e' => h.dist d o d' o' b (hl d o e) (hl d' o' e'), os := h.os, tape := h.tape, output := h.output, size := h.size, other := h.other }
/-- Behind a call. -/
theorem rep_step (h : Rep C V s H a w) {H' : Heap} {w' : World} (hs : Step H w H' w') : Rep C V s H' a w' := by
  have keep : ∀ d o b, look s.objs d = some o → privB V d o = some b → w'.heap[b]? = w.heap[b]? ∧ H' b = none := by
    intro d o b h1 h2
    obtain ⟨h3, h4, h5⟩ := h.priv _ _ _ h1 h2
    exact ⟨hs.other b h5 h3, hs.fresh b h5 h3⟩
  refine { env := h.env, len := h.len, dfr := h.dfr, sub := hs.sub, objs := ?_, priv := ?_, dist := h.dist, os := hs.os.trans h.os, tape := hs.tape.trans h.tape, output := hs.output.trans h.output, size := Nat.le_trans h.size hs.size, other := ?_ }
  · intro d o hd
    cases o with
    | box ty l =>
      obtain ⟨cs, h1, h2⟩ := h.objs _ _ hd
      exact ⟨cs, h1, by rw [(keep _ _ _ hd rfl).1]; exact h2⟩
    | row ty sz es => exact rowIn_same (h.objs _ _ hd) fun b hb => (keep _ _ _ hd hb).1
  · intro d o b h1 h2
    obtain ⟨h3, h4, h5⟩ := h.priv _ _ _ h1 h2
    exact ⟨(keep _ _ _ h1 h2).2, h4, Nat.lt_of_lt_of_le h5 hs.size⟩
  · intro b h1 h2
    obtain ⟨h3, h4⟩ := h.other b h1 h2
    have hlt := Nat.lt_of_lt_of_le h1 h.size
    exact ⟨by rw [hs.other b hlt h4, h3], hs.fresh b hlt h4⟩
/-- A block is told. -/
theorem rep_tell (h : Rep C V s H a w) {b : Nat} {obj : Obj} (hb : w.heap[b]? = some obj) (hbase : C.w0.heap.size ≤ b ∨ C.H0 b ≠ none) (hn : ∀ d o, look s.objs d = some o → privB V d o ≠ some b) : Rep C V s (H.upd b obj) a w := by
  refine { env := h.env, len := h.len, dfr := h.dfr, sub := ?_, objs := h.objs, priv := ?_, dist := h.dist, os := h.os, tape := h.tape, output := h.output, size := h.size, other := ?_ }
  · intro b' o' e
    by_cases hbb : b' = b
    · subst hbb; rw [upd_same] at e; cases e; exact hb
    · rw [upd_ne _ _ hbb] at e; exact h.sub _ _ e
  · intro d' o' b' e1 e2
    obtain ⟨h3, h4, h5⟩ := h.priv _ _ _ e1 e2
    have : b' ≠ b := fun e => hn d' o' e1 (by rw [← e]; exact e2)
    exact ⟨by rw [upd_ne _ _ this]; exact h3, h4, h5⟩
  · intro b' h1 h2
    obtain ⟨h3, h4⟩ := h.other b' h1 h2
    have : b' ≠ b := by intro e; subst e; exact base_no hbase h1 h2
    exact ⟨h3, by rw [upd_ne _ _ this]; exact h4⟩
theorem look_del {s : St} {d d' : Nat} {o : AObj} (h : look (s.del d).objs d' = some o) : look s.objs d' = some o ∧ d' ≠ d := by
  simp only [St.del, look_objDel] at h
  split at h
  · cases h
  · rename_i hne; exact ⟨h, fun e => hne e.symm⟩
theorem rep_del (h : Rep C V s H a w) (d : Nat) : Rep C V (s.del d) H a w := rep_look h rfl rfl fun _ _ e => (look_del e).1
/-- A block that is told is a variable's again. -/
theorem rep_in (h : Rep C V s H a w) {d : Nat} {o : AObj} {b : Nat} {obj : Obj} (hp : privB V d o = some b) (hb : H b = some obj) (ho : ObjRep V w d o) :
    Rep C V ⟨s.env, objSet s.objs d o, s.dfr⟩ (H.del b) a w := by
  have hdel : ∀ b', b' ≠ b → H.del b b' = H b' := fun b' e => by simp [Heap.del, e]
  have hdel' : H.del b b = none := by simp [Heap.del]
  have hlt := (Array.getElem?_eq_some_iff.1 (h.sub _ _ hb)).1
  have hbase : C.w0.heap.size ≤ b ∨ C.H0 b ≠ none := by
    rcases Nat.lt_or_ge b C.w0.heap.size with h1 | h1
    · right; intro h2; rw [(h.other b h1 h2).2] at hb; cases hb
    · exact .inl h1
  refine { env := h.env, len := h.len, dfr := h.dfr, sub := ?_, objs := ?_, priv := ?_, dist := ?_, os := h.os, tape := h.tape, output := h.output, size := h.size, other := ?_ }
  · intro b' o' e
    by_cases hbb : b' = b
    · subst hbb; rw [hdel'] at e; cases e
    · rw [hdel _ hbb] at e; exact h.sub _ _ e
  · intro d' o' e
    rw [look_objSet] at e
    split at e
    · rename_i hd; subst hd; cases e; exact ho
    · exact h.objs _ _ e
  · intro d' o' b' e1 e2
    rw [look_objSet] at e1
    split at e1
    · rename_i hd; subst hd; cases e1
      rw [hp] at e2; cases e2
      exact ⟨hdel', hbase, hlt⟩
    · obtain ⟨h3, h4, h5⟩ := h.priv _ _ _ e1 e2
      exact ⟨by simp [Heap.del, h3], h4, h5⟩
  · have main : ∀ d' o' b', look s.objs d' = some o' → privB V d' o' = some b' → privB V d o = some b' → False := by
      intro d' o' b' e1 e2 e3
      rw [hp] at e3; cases e3
      rw [(h.priv _ _ _ e1 e2).1] at hb; cases hb
    intro d1 o1 d2 o2 b' e1 e2 p1 p2
    rw [look_objSet] at e1 e2
    split at e1
    · rename_i x1; subst x1; cases e1
      split at e2
      · assumption
      · exact (main _ _ _ e2 p2 p1).elim
    · split at e2
      · rename_i x2; subst x2; cases e2; exact (main _ _ _ e1 p1 p2).elim
      · exact h.dist _ _ _ _ _ e1 e2 p1 p2
  · intro b' h1 h2
    obtain ⟨h3, h4⟩ := h.other b' h1 h2
    exact ⟨h3, by simp [Heap.del, h4]⟩
/-- A row without a block is a variable's again. -/
theorem rep_in0 (h : Rep C V s H a w) {d : Nat} {o : AObj} (hp : privB V d o = none) (ho : ObjRep V w d o) : Rep C V ⟨s.env, objSet s.objs d o, s.dfr⟩ H a w := by
  refine { env := h.env, len := h.len, dfr := h.dfr, sub := h.sub, objs := ?_, priv := ?_, dist := ?_, os := h.os, tape := h.tape, output := h.output, size := h.size, other := h.other }
  · intro d' o' e
    rw [look_objSet] at e
    split at e
    · rename_i hd; subst hd; cases e; exact ho
    · exact h.objs _ _ e
  · intro d' o' b' e1 e2
    rw [look_objSet] at e1
    split at e1
    · rename_i hd; subst hd; cases e1; rw [hp] at e2; cases e2
    · exact h.priv _ _ _ e1 e2
  · intro d1 o1 d2 o2 b' e1 e2 p1 p2
    rw [look_objSet] at e1 e2
    split at e1
    · rename_i x1; subst x1; cases e1; rw [hp] at p1; cases p1
    · split at e2
      · rename_i x2; subst x2; cases e2; rw [hp] at p2; cases p2
      · exact h.dist _ _ _ _ _ e1 e2 p1 p2
theorem rep_off {V' : Vl} {d : Nat} (h : Rep C V s H a w) (hf : s.free d = true) (hV : Off d V V') : Rep C V' s H a w :=
  { env := fun t x hx => sv_off hV (free_env hf t x hx) (h.env t x hx), len := h.len, dfr := h.dfr.trans (free_dfr hV hf).symm, sub := h.sub,
    objs := fun d' o e => objRep_same hV (free_obj hf _ _ e).1 (free_obj hf _ _ e).2 (h.objs _ _ e) fun _ _ => rfl,
    priv := fun d' o b e hp => h.priv d' o b e (by rw [privB_off hV (free_obj hf _ _ e).1] at hp; exact hp),
    dist := fun d1 o1 d2 o2 b e1 e2 p1 p2 => h.dist d1 o1 d2 o2 b e1 e2 (by rw [privB_off hV (free_obj hf _ _ e1).1] at p1; exact p1) (by rw [privB_off hV (free_obj hf _ _ e2).1] at p2; exact p2),
    os := h.os, tape := h.tape, output := h.output, size := h.size, other := h.other }
theorem rep_same' (h : Rep C V s H a w) {g : Nat} {x : SV} (hx : x.rep V (a.tmps.getD g undef)) : Rep C V (s.set g x) H a w := by
  refine { env := ?_, len := ?_, dfr := h.dfr, sub := h.sub, objs := h.objs, priv := h.priv, dist := h.dist, os := h.os, tape := h.tape, output := h.output, size := h.size, other := h.other }
  · intro t z hz
    simp only [St.set, nth_setNth] at hz
    by_cases hg : g = t
    · subst hg
      simp only [if_true] at hz
      split at hz
      · cases hz; exact hx
      · cases hz
    · rw [if_neg hg] at hz
      exact h.env t z hz
  · simp only [St.set, setNth_eq, List.length_set]; exact h.len
theorem setNth_setNth' {α : Type} : ∀ (l : List α) (n : Nat) (x y : α), setNth (setNth l n x) n y = setNth l n y
  | [], _, _, _ => rfl
  | _ :: r, 0, _, _ => rfl
  | z :: r, n + 1, x, y => by simp [setNth, setNth_setNth' r n x y]
/-! ### Lending -/
def LentOK (V : Vl) (ls : List Lend) : Prop := ∀ x ∈ ls, match x.kind with
  | .row _ _ => V.row x.site = x.val
  | .box _ => x.val = .pointer (some ⟨V.blk x.site, 0, none⟩)
  | .gone => True
structure LendsTo (V : Vl) (s : St) (H : Heap) (s' : St) (Hl : Heap) (ls : List Lend) : Prop where
  env : s'.env = s.env
  dfr : s'.dfr = s.dfr
  sub : ∀ d o, look s'.objs d = some o → look s.objs d = some o
  up : H ≤ Hl
  low : ∀ b o, Hl b = some o → H b = some o ∨ ∃ x ∈ ls, blockOf x.val = some b
  src : ∀ x ∈ ls, ∃ o, look s.objs x.site = some o ∧ privB V x.site o = blockOf x.val
  gone : ∀ d o, look s.objs d = some o → look s'.objs d = some o ∨ ∃ x ∈ ls, x.site = d
  ok : LentOK V ls
theorem LendsTo.refl (V : Vl) (s : St) (H : Heap) : LendsTo V s H s H [] :=
  ⟨rfl, rfl, fun _ _ e => e, heap_refl H, fun _ _ e => .inl e, by simp, fun _ _ e => .inl e, by intro x hx; cases hx⟩
theorem LendsTo.trans {s1 s2 : St} {H1 H2 : Heap} {l1 l2 : List Lend} (h : LendsTo V s H s1 H1 l1) (h' : LendsTo V s1 H1 s2 H2 l2) : LendsTo V s H s2 H2 (l1 ++ l2) := by
  refine ⟨h'.env.trans h.env, h'.dfr.trans h.dfr, fun d o e => h.sub d o (h'.sub d o e), heap_trans h.up h'.up, ?_, ?_, ?_, ?_⟩
  · intro b o e
    rcases h'.low b o e with e | ⟨x, hx, hb⟩
    · rcases h.low b o e with e | ⟨x, hx, hb⟩
      · exact .inl e
      · exact .inr ⟨x, by simp [hx], hb⟩
    · exact .inr ⟨x, by simp [hx], hb⟩
  · intro x hx
    rcases List.mem_append.1 hx with hx | hx
    · exact h.src x hx
    · obtain ⟨o, h1, h2⟩ := h'.src x hx
      exact ⟨o, h.sub _ _ h1, h2⟩
  · intro d o e
    rcases h.gone d o e with e | ⟨x, hx, hb⟩
    · rcases h'.gone d o e with e | ⟨x, hx, hb⟩
      · exact .inl e
      · exact .inr ⟨x, by simp [hx], hb⟩
    · exact .inr ⟨x, by simp [hx], hb⟩
  · intro x hx
    rcases List.mem_append.1 hx with hx | hx
    · exact h.ok x hx
    · exact h'.ok x hx
/-- A row that is told. -/
theorem lend_row (h : Rep C V s H a w) {d ty sz : Nat} {es : List (List Value)} (hl : look s.objs d = some (.row ty sz es)) (k : LK) (hk : k = .row ty sz ∨ k = .gone) :
    ∃ H', H ≤ H' ∧ (∀ b, blockOf (V.row d) = some b → H b = none) ∧ (∀ b o, H' b = some o → H b = some o ∨ blockOf (V.row d) = some b) ∧ RowAt H' (V.row d) ty sz es ∧ Rep C V (s.del d) H' a w ∧ LendsTo V s H (s.del d) H' [⟨d, V.row d, k⟩] := by
  have hgone : ∀ d' o', look s.objs d' = some o' → look (s.del d).objs d' = some o' ∨ ∃ x ∈ [(⟨d, V.row d, k⟩ : Lend)], x.site = d' := by
    intro d' o' e
    by_cases hd : d = d'
    · exact .inr ⟨_, List.mem_cons_self .., hd⟩
    · left; simp only [St.del, look_objDel, if_neg hd]; exact e
  have hsrc : ∀ x ∈ [(⟨d, V.row d, k⟩ : Lend)], ∃ o, look s.objs x.site = some o ∧ privB V x.site o = blockOf x.val := by
    intro x hx
    simp at hx
    subst hx
    exact ⟨_, hl, rfl⟩
  have hok : LentOK V [⟨d, V.row d, k⟩] := by
    intro x hx
    simp at hx
    subst hx
    rcases hk with rfl | rfl <;> simp
  rcases h.objs _ _ hl with ⟨hv, rfl⟩ | ⟨b, o, cap, c, hv, hb, hrest⟩
  · refine ⟨H, heap_refl H, by rw [hv]; simp [blockOf], fun _ _ e => .inl e, .inl ⟨hv, rfl⟩, rep_del h d, ⟨rfl, rfl, fun _ _ e => (look_del e).1, heap_refl H, fun _ _ e => .inl e, hsrc, hgone, hok⟩⟩
  · have hp : privB V d (.row ty sz es) = some b := by simp [privB, hv, blockOf]
    obtain ⟨hn, hbase, hlt⟩ := h.priv _ _ _ hl hp
    have up : H ≤ H.upd b (.cells c ty (0, 0)) := fun b' o' e => by
      by_cases hbb : b' = b
      · subst hbb; rw [hn] at e; cases e
      · rw [upd_ne _ _ hbb]; exact e
    have low : ∀ b' o', H.upd b (.cells c ty (0, 0)) b' = some o' → H b' = some o' ∨ blockOf (V.row d) = some b' := fun b' o' e => by
      by_cases hbb : b' = b
      · subst hbb; right; rw [hv]; rfl
      · rw [upd_ne _ _ hbb] at e; exact .inl e
    refine ⟨H.upd b (.cells c ty (0, 0)), up, by rw [hv]; simp [blockOf]; exact hn, low, .inr ⟨b, o, cap, c, hv, upd_same _ _ _, hrest⟩, rep_tell (rep_del h d) hb hbase ?_, ⟨rfl, rfl, fun _ _ e => (look_del e).1, up, ?_, hsrc, hgone, hok⟩⟩
    · intro d' o' e1 e2
      obtain ⟨e1, hne⟩ := look_del e1
      exact hne (h.dist _ _ _ _ _ e1 hl e2 hp)
    · intro b' o' e
      rcases low b' o' e with e | e
      · exact .inl e
      · exact .inr ⟨_, List.mem_cons_self .., e⟩
theorem lendIn_sound : ∀ (l : List Seg) (s : St) (H : Heap) {cs : List Value} {K : List Value → St → Heap → List Lend → Prop}, Rep C V s H a w → SegsRep V l cs → lendIn l s H K →
    ∃ s' H' ls, K cs s' H' ls ∧ Rep C V s' H' a w ∧ LendsTo V s H s' H' ls
  | [], s, H, cs, K, h, hs, hk => by
    have : cs = [] := hs
    subst this
    exact ⟨s, H, [], hk, h, LendsTo.refl _ _ _⟩
  | .c x :: r, s, H, cs, K, h, hs, hk => by
    obtain ⟨y, l', rfl, hx, hr⟩ := hs
    unfold lendIn at hk
    split at hk
    · rename_i v
      obtain ⟨rfl, -⟩ := hx
      obtain ⟨s', H', ls, h1, h2, h3⟩ := lendIn_sound r s H h hr hk
      exact ⟨s', H', ls, h1, h2, h3⟩
    · rename_i d
      obtain ⟨rfl, -⟩ := hx
      split at hk
      · rename_i ty sz es hl
        obtain ⟨H1, g1, g2, g3, g4, g5, g6⟩ := lend_row h hl .gone (.inr rfl)
        obtain ⟨s', H', ls, h1, h2, h3⟩ := lendIn_sound r _ _ g5 hr (hk _ _ g1 g2 g3 g4)
        exact ⟨s', H', _, h1, h2, g6.trans h3⟩
      · exact hk.elim
    · exact hk.elim
  | .ints k n xs :: r, s, H, cs, K, h, hs, hk => by
    obtain ⟨_, l', rfl, hr⟩ := hs
    unfold lendIn at hk
    obtain ⟨s', H', ls, h1, h2, h3⟩ := lendIn_sound r s H h hr hk
    exact ⟨s', H', ls, h1, h2, h3⟩
theorem lendBox_sound {d : Nat} {K : Value → St → Heap → List Lend → Prop} (h : Rep C V s H a w) (hk : lendBox d s H K) :
    ∃ s' H' ls, K (.pointer (some ⟨V.blk d, 0, none⟩)) s' H' ls ∧ Rep C V s' H' a w ∧ LendsTo V s H s' H' ls := by
  unfold lendBox at hk
  split at hk
  · rename_i ty l hl
    obtain ⟨cs, hcs, hb⟩ := h.objs _ _ hl
    have hp : privB V d (.box ty l) = some (V.blk d) := rfl
    obtain ⟨hn, hbase, hlt⟩ := h.priv _ _ _ hl hp
    obtain ⟨s', H', ls, h1, h2, h3⟩ := lendIn_sound l (s.del d) H (rep_del h d) hcs hk
    have hno : ∀ x ∈ ls, x.site ≠ d := fun x hx => by
      obtain ⟨o, e, _⟩ := h3.src x hx
      exact (look_del e).2
    have hnone : H' (V.blk d) = none := by
      cases hq : H' (V.blk d) with
      | none => rfl
      | some ob =>
        exfalso
        rcases h3.low _ ob hq with e | ⟨x, hx, hb⟩
        · rw [hn] at e; cases e
        · obtain ⟨o', g1, g2⟩ := h3.src x hx
          exact hno x hx (h.dist _ _ _ _ _ (look_del g1).1 hl (by rw [g2, hb]) hp)
    refine ⟨s', _, _, h1 _ hnone, rep_tell h2 hb hbase ?_, ?_⟩
    · intro d' o' e1 e2
      obtain ⟨e1, hne⟩ := look_del (h3.sub _ _ e1)
      exact hne (h.dist _ _ _ _ _ e1 hl e2 hp)
    · refine ⟨h3.env, h3.dfr, fun d' o e => (look_del (h3.sub _ _ e)).1, ?_, ?_, ?_, ?_, ?_⟩
      · intro b o e
        have : b ≠ V.blk d := by rintro rfl; rw [hn] at e; cases e
        rw [upd_ne _ _ this]
        exact h3.up b o e
      · intro b o e
        by_cases hbb : b = V.blk d
        · subst hbb; exact .inr ⟨_, List.mem_cons_self .., rfl⟩
        · rw [upd_ne _ _ hbb] at e
          rcases h3.low b o e with e | ⟨x, hx, hb⟩
          · exact .inl e
          · exact .inr ⟨x, List.mem_cons_of_mem _ hx, hb⟩
      · intro x hx
        rcases List.mem_cons.1 hx with rfl | hx
        · exact ⟨_, hl, rfl⟩
        · obtain ⟨o, g1, g2⟩ := h3.src x hx
          exact ⟨o, (look_del g1).1, g2⟩
      · intro d' o e
        by_cases hd : d = d'
        · exact .inr ⟨_, List.mem_cons_self .., hd⟩
        · rcases h3.gone d' o (by simp only [St.del, look_objDel, if_neg hd]; exact e) with e | ⟨x, hx, hb⟩
          · exact .inl e
          · exact .inr ⟨x, List.mem_cons_of_mem _ hx, hb⟩
      · intro x hx
        rcases List.mem_cons.1 hx with rfl | hx
        · rfl
        · exact h3.ok x hx
  · exact hk.elim
theorem lendCaps_sound : ∀ (l : List Cap) (s : St) (H : Heap) {K : List Value → St → Heap → List Lend → Prop}, Rep C V s H a w → lendCaps l s H K →
    ∃ s' H' ls, K (l.map (Cap.real V)) s' H' ls ∧ Rep C V s' H' a w ∧ LendsTo V s H s' H' ls
  | [], s, H, K, h, hk => ⟨s, H, [], hk, h, LendsTo.refl _ _ _⟩
  | .v x :: r, s, H, K, h, hk => by
    unfold lendCaps at hk
    exact lendCaps_sound r s H h hk
  | .b d :: r, s, H, K, h, hk => by
    unfold lendCaps at hk
    obtain ⟨s1, H1, l1, h1, h2, h3⟩ := lendBox_sound h hk
    obtain ⟨s2, H2, l2, g1, g2, g3⟩ := lendCaps_sound r s1 H1 h2 h1
    exact ⟨s2, H2, _, g1, g2, h3.trans g3⟩
theorem lendC_sound {x : SC} {y : Value} {K : Value → St → Heap → List Lend → Prop} (h : Rep C V s H a w) (hx : x.rep V y) (hk : lendC x s H K) :
    ∃ s' H' ls, K y s' H' ls ∧ Rep C V s' H' a w ∧ LendsTo V s H s' H' ls := by
  unfold lendC at hk
  split at hk
  · obtain ⟨rfl, -⟩ := hx
    exact ⟨s, H, [], hk, h, LendsTo.refl _ _ _⟩
  · rename_i d
    obtain ⟨rfl, -⟩ := hx
    split at hk
    · rename_i ty sz es hl
      obtain ⟨H1, g1, g2, g3, g4, g5, g6⟩ := lend_row h hl (.row ty sz) (.inl rfl)
      exact ⟨_, _, _, hk _ _ g1 g2 g3 g4, g5, g6⟩
    · exact hk.elim
  · rename_i d
    rw [show y = _ from hx]
    exact lendBox_sound h hk
  · rename_i fn first caps
    rw [show y = _ from hx]
    obtain ⟨s1, H1, l1, h1, h2, h3⟩ := lendCaps_sound caps s H h hk
    exact ⟨s1, H1, l1, h1, h2, h3⟩
  · exact hk.elim
theorem lendSegs_sound : ∀ (l : List Seg) (s : St) (H : Heap) {cs : List Value} {K : List Value → St → Heap → List Lend → Prop}, Rep C V s H a w → SegsRep V l cs → lendSegs l s H K →
    ∃ s' H' ls, K cs s' H' ls ∧ Rep C V s' H' a w ∧ LendsTo V s H s' H' ls
  | [], s, H, cs, K, h, hs, hk => by
    have : cs = [] := hs
    subst this
    exact ⟨s, H, [], hk, h, LendsTo.refl _ _ _⟩
  | .c x :: r, s, H, cs, K, h, hs, hk => by
    obtain ⟨y, l', rfl, hx, hr⟩ := hs
    unfold lendSegs at hk
    obtain ⟨s1, H1, l1, h1, h2, h3⟩ := lendC_sound h hx hk
    obtain ⟨s2, H2, l2, g1, g2, g3⟩ := lendSegs_sound r s1 H1 h2 hr h1
    exact ⟨s2, H2, _, g1, g2, h3.trans g3⟩
  | .ints k n xs :: r, s, H, cs, K, h, hs, hk => by
    obtain ⟨_, l', rfl, hr⟩ := hs
    unfold lendSegs at hk
    obtain ⟨s', H', ls, h1, h2, h3⟩ := lendSegs_sound r s H h hr hk
    exact ⟨s', H', ls, h1, h2, h3⟩
theorem lendV_sound {x : SV} {y : Value} {K : Value → St → Heap → List Lend → Prop} (h : Rep C V s H a w) (hx : x.rep V y) (hk : lendV x s H K) :
    ∃ s' H' ls, K y s' H' ls ∧ Rep C V s' H' a w ∧ LendsTo V s H s' H' ls := by
  unfold lendV at hk
  split at hk
  · exact lendC_sound h hx hk
  · obtain ⟨cs, rfl, hs⟩ := hx
    obtain ⟨s', H', ls, h1, h2, h3⟩ := lendSegs_sound _ s H h hs hk
    exact ⟨s', H', ls, h1, h2, h3⟩
  · exact hk.elim
theorem lendK_sound : ∀ (xs : List SV) (ys : List Value) (s : St) (H : Heap) {K : List Value → St → Heap → List Lend → Prop}, Rep C V s H a w → xs.length = ys.length →
    (∀ (i : Nat) (x : SV) (y : Value), xs[i]? = some x → ys[i]? = some y → x.rep V y) → lendK xs s H K → ∃ s' Hl ls, K ys s' Hl ls ∧ Rep C V s' Hl a w ∧ LendsTo V s H s' Hl ls
  | [], ys, s, H, K, h, hl, hr, hk => by
    have : ys = [] := by cases ys <;> simp_all
    subst this
    exact ⟨s, H, [], hk, h, LendsTo.refl _ _ _⟩
  | x :: r, ys, s, H, K, h, hl, hr, hk => by
    obtain ⟨y, ys, rfl⟩ : ∃ y ys', ys = y :: ys' := by cases ys <;> simp_all
    have hx := hr 0 x y rfl rfl
    have hr' : ∀ (i : Nat) (x : SV) (y : Value), r[i]? = some x → ys[i]? = some y → x.rep V y := fun i x y h1 h2 => hr (i + 1) x y (by simpa using h1) (by simpa using h2)
    unfold lendK at hk
    obtain ⟨s1, H1, l1, h1, h2, h3⟩ := lendV_sound h hx hk
    obtain ⟨s2, H2, l2, g1, g2, g3⟩ := lendK_sound r ys s1 H1 h2 (by simpa using hl) hr' h1
    exact ⟨s2, H2, _, g1, g2, h3.trans g3⟩
theorem rowAt_in {v : Value} {ty sz : Nat} {es : List (List Value)} (hs : H.sub w) (h : RowAt H v ty sz es) : RowIn w v ty sz es := by
  rcases h with h | ⟨b, o, cap, c, hv, hb, hr⟩
  · exact .inl h
  · exact .inr ⟨b, o, cap, c, hv, hs _ _ hb, hr⟩
theorem rep_row (h : Rep C V s H a w) {d ty sz : Nat} {v : Value} {es : List (List Value)} (hv : V.row d = v) (hrow : RowAt H v ty sz es) : Rep C V ⟨s.env, objSet s.objs d (.row ty sz es), s.dfr⟩ (H.delO (blockOf v)) a w := by
  have hin := rowAt_in h.sub hrow
  have hobj : ObjRep V w d (.row ty sz es) := by simp only [ObjRep]; rw [hv]; exact hin
  rcases hrow with ⟨rfl, rfl⟩ | ⟨b, o, cap, c, rfl, hb, _⟩
  · exact rep_in0 h (by simp [privB, hv, blockOf]) hobj
  · exact rep_in h (b := b) (by simp [privB, hv, blockOf]) hb hobj
theorem backK_sound : ∀ (ls : List Lend) (s : St) (H : Heap) {K : St → Heap → Prop}, Rep C V s H a w → LentOK V ls → backK P ls s H K → ∃ s' H', K s' H' ∧ Rep C V s' H' a w
  | [], s, H, K, h, _, hk => ⟨s, H, hk, h⟩
  | ⟨d, v, k⟩ :: r, s, H, K, h, hL, hk => by
    have hL0 := hL _ (List.mem_cons_self ..)
    have hLr : LentOK V r := fun x hx => hL x (List.mem_cons_of_mem _ hx)
    cases k with
    | row ty sz =>
      obtain ⟨es, hrow, hk⟩ := hk
      exact backK_sound r _ _ (rep_row h hL0 hrow) hLr hk
    | box ty =>
      simp only at hL0
      subst hL0
      simp only [backK] at hk
      split at hk
      · rename_i ks hks
        obtain ⟨l, ⟨⟨b, hbv, hb⟩, hk⟩, hf⟩ := exSegs_fits hk
        simp [blockOf] at hbv
        subst hbv
        exact backK_sound r _ _ (rep_in h (o := .box ty l) (b := V.blk d) rfl hb ⟨_, fits_rep hf, h.sub _ _ hb⟩) hLr hk
      · exact hk.elim
    | gone => exact backK_sound r _ _ h hLr hk
theorem adoptK_sound (h : Rep C V s H a w) {t ty sz : Nat} {K : St → Heap → Prop} (hk : adoptK s t ty sz H K) : ∃ V' s' H', K s' H' ∧ Rep C V' s' H' a w := by
  unfold adoptK at hk
  split at hk
  · rename_i v hv
    split at hk
    · rename_i hf
      obtain ⟨es, hrow, hk⟩ := hk
      have hx := h.get t
      rw [hv] at hx
      obtain ⟨hx, hone⟩ := hx
      have h1 : Rep C V (s.set t (.c .bad)) H a w := rep_same' h trivial
      have h2 := rep_off (V' := V.rows t v) h1 hf (rows_off V t v)
      have h3 := rep_row h2 (d := t) (ty := ty) (sz := sz) (es := es) (by simp [Vl.rows]) hrow
      have h4 := rep_same' h3 (g := t) (x := .c (.row t)) (by
        show _ ∧ _
        exact ⟨by rw [hx]; simp [Vl.rows], by simpa [Vl.rows] using hone⟩)
      refine ⟨V.rows t v, _, _, hk, ?_⟩
      have e : (St.set ⟨(s.set t (.c .bad)).env, objSet (s.set t (.c .bad)).objs t (.row ty sz es), (s.set t (.c .bad)).dfr⟩ t (.c (.row t))) = St.set ⟨s.env, objSet s.objs t (.row ty sz es), s.dfr⟩ t (.c (.row t)) := by
        simp only [St.set, setNth_setNth']
      rw [← e]
      exact h4
    · exact hk.elim
  · exact hk.elim
end
end Sx

set_option linter.unusedVariables false
set_option linter.unusedSimpArgs false
namespace Sx
open Go
set_option linter.unusedSectionVars false
variable [Dr]
section
variable {P : Program} {C : Ctx} {V : Vl} {s : St} {H : Heap} {a : Act} {w : World}

/-- A block that is known, or new, holds something else. -/
theorem rep_pub (h : Rep C V s H a w) {b : Nat} {obj : Obj} {w' : World} (hb : (∃ o, H b = some o) ∨ w.heap.size ≤ b) (ho : Only w w' fun x => x = b) (hat : w'.heap[b]? = some obj) : Rep C V s (H.upd b obj) a w' := by
  have hpriv : ∀ d o b', look s.objs d = some o → privB V d o = some b' → b' ≠ b := by
    intro d o b' h1 h2 e
    subst e
    obtain ⟨h3, _, h4⟩ := h.priv _ _ _ h1 h2
    rcases hb with ⟨o, hb⟩ | hb
    · rw [h3] at hb; cases hb
    · omega
  refine { env := h.env, len := h.len, dfr := h.dfr, sub := ?_, objs := ?_, priv := ?_, dist := h.dist, os := ho.os.trans h.os, tape := ho.tape.trans h.tape, output := ho.output.trans h.output, size := Nat.le_trans h.size ho.size, other := ?_ }
  · intro b' o' hb'
    by_cases e : b' = b
    · subst e; rw [upd_same] at hb'; cases hb'; exact hat
    · rw [upd_ne _ _ e] at hb'
      have := h.sub b' o' hb'
      rw [ho.block b' e (Array.getElem?_eq_some_iff.1 this).1]
      exact this
  · intro d o hd
    have keep : ∀ b', privB V d o = some b' → w'.heap[b']? = w.heap[b']? := fun b' hb' => ho.block b' (hpriv d o b' hd hb') (h.priv _ _ _ hd hb').2.2
    cases o with
    | box ty l =>
      obtain ⟨cs, h1, h2⟩ := h.objs _ _ hd
      exact ⟨cs, h1, by rw [keep _ rfl]; exact h2⟩
    | row ty sz es => exact rowIn_same (h.objs _ _ hd) fun b hb => keep b hb
  · intro d o b' hd hp
    obtain ⟨h1, h2, h3⟩ := h.priv _ _ _ hd hp
    exact ⟨by rw [upd_ne _ _ (hpriv _ _ _ hd hp)]; exact h1, h2, Nat.lt_of_lt_of_le h3 ho.size⟩
  · intro b' h1 h2
    obtain ⟨h3, h4⟩ := h.other b' h1 h2
    have hne : b' ≠ b := by
      intro e; subst e
      rcases hb with ⟨o, hb⟩ | hb
      · rw [h4] at hb; cases hb
      · have := h.size; omega
    exact ⟨by rw [ho.block b' hne (Nat.lt_of_lt_of_le h1 h.size), h3], by rw [upd_ne _ _ hne]; exact h4⟩
theorem mapK {r : Option Nat} {K : Nat → Prop} (h : MapK r K) : ∃ x, r = some x ∧ K x := by
  cases r with
  | none => exact h.elim
  | some x => exact ⟨x, rfl, h⟩
theorem setB_self {b : Nat} {o : Obj} (h : w.heap[b]? = some o) : setB w b o = w := by
  unfold setB
  have hlt := (Array.getElem?_eq_some_iff.1 h)
  obtain ⟨h1, h2⟩ := hlt
  have : w.heap.setIfInBounds b o = w.heap := by
    apply Array.ext
    · simp
    · intro i h3 h4
      rw [Array.getElem_setIfInBounds]
      split
      · rename_i e; subst e; exact h2.symm
      · rfl
  rw [this]
/-- What is handed over has no hole. -/
theorem lendC_good {x : SC} {s : St} {H : Heap} {K : Value → St → Heap → List Lend → Prop} (hk : lendC x s H K) : x ≠ .bad := by
  rintro rfl
  exact hk
theorem lendSegs_one : ∀ (l : List Seg) (s : St) (H : Heap) {cs : List Value} {K : List Value → St → Heap → List Lend → Prop}, Rep C V s H a w → SegsRep V l cs → lendSegs l s H K → ∀ x ∈ cs, one x = true
  | [], s, H, cs, K, h, hs, hk => by
    have : cs = [] := hs
    subst this; simp
  | .c x :: r, s, H, cs, K, h, hs, hk => by
    obtain ⟨y, l', rfl, hx, hr⟩ := hs
    unfold lendSegs at hk
    have hone := sc_one (lendC_good hk) hx
    obtain ⟨s1, H1, l1, h1, h2, h3⟩ := lendC_sound h hx hk
    intro z hz
    rcases List.mem_cons.1 hz with rfl | hz
    · exact hone
    · exact lendSegs_one r s1 H1 h2 hr h1 z hz
  | .ints k n xs :: r, s, H, cs, K, h, hs, hk => by
    obtain ⟨_, l', rfl, hr⟩ := hs
    unfold lendSegs at hk
    intro z hz
    rcases List.mem_append.1 hz with hz | hz
    · obtain ⟨n, _, rfl⟩ := List.mem_map.1 hz; rfl
    · exact lendSegs_one r s H h hr hk z hz
theorem run_setObj {r : Nat} {o o' : Obj} (h : w.heap[r]? = some o') (hc : ∀ c e f, o' ≠ .cells c e f) : (setObj r o).run P w = .ok () (setB w r o) := by
  simp only [setObj, Sem.run, h]
  rfl
theorem findNow_idx {k : IntKind} {x : Int} : ∀ (es : List MapEntry) (i : Nat), IntKeys k es →
    Instr.findNow (.int k) (.int k x) es i = some ((es.findIdx? (fun e => match e.key with | .int _ y => x == y | _ => false)).map fun j => (i + j, ((es[j]?).map (·.val)).getD undef))
  | [], i, _ => rfl
  | e :: es, i, h => by
    obtain ⟨n, hn⟩ := h e (by simp)
    simp only [Instr.findNow, hn, Instr.sameNow, if_true, List.findIdx?_cons]
    by_cases hx : x = n
    · subst hx; simp
    · have hb : (x == n) = false := by simpa using hx
      simp only [hb]
      rw [findNow_idx es (i + 1) fun e he => h e (by simp [he])]
      simp only [Option.map_map, Bool.false_eq_true, if_false]
      congr 2
      funext j
      simp [Nat.add_assoc, Nat.add_comm 1 j]
/-- What an operation that changes known memory comes to. -/
def EffGoes (P : Program) (C : Ctx) (o : Oper) (a : Act) (w : World) (K : St → Heap → Prop) : Prop :=
  ∃ V s' H' y w', K s' H' ∧ Rep C V s' H' (a.put o.dst y) w' ∧ ((execOp a.eval o).run P w = .ok (.value y) w' ∨ ((execOp a.eval o).run P w = .ok .skip w' ∧ y = undef))
theorem flat_one (l : List UInt8) : (l.map fun x => [Value.int .u8 (x.toNat : Int)]).flatten = l.map fun x => Value.int .u8 (x.toNat : Int) := by
  induction l with
  | nil => rfl
  | cons x r ih => simp [ih]
/-- What a copy takes. -/
theorem copyK_sound (h : Rep C V s H a w) {t2 : TypeId} {sz : Nat} {al : Option Addr} {n : Nat} {y : Operand} {K : Nat → Heap → Prop} (hk : copyK P t2 sz al n (ev s y) H K) (hy : (ev s y).rep V (a.eval y)) :
    ∃ (k : Nat) (es : List (List Value)), (Builtin.lenOf (a.eval y)).run P w = .ok k w ∧ (Builtin.firstCells sz (Nat.min k n) (a.eval y)).run P w = .ok es.flatten.toArray w ∧ (∀ x ∈ es.flatten, one x = true) ∧ (∀ e ∈ es, e.length = sz) ∧
      FillK al 0 sz es H fun H' => K (min k n) H' := by
  unfold copyK at hk
  split at hk
  · rename_i e2 a2 m c2 hu2 hy1
    rw [hy1] at hy
    obtain ⟨hy, -⟩ := hy
    obtain ⟨es, hsl, hk⟩ := hk
    obtain ⟨-, hel, hfc, hon⟩ := src_real (P := P) h.sub hsl
    have hm : es.length = min m n := by obtain ⟨_, _, _, e, h1, _⟩ := hsl; cases e; exact h1
    refine ⟨m, es, by rw [hy]; rfl, ?_, ?_, hel, hk⟩
    · rw [hm] at hfc
      have e : Nat.min m n = min m n := rfl
      rw [hy, e]
      cases a2 with
      | none => exact hfc
      | some A => exact hfc
    · intro x hx
      obtain ⟨e, h1, h2⟩ := List.mem_flatten.1 hx
      exact hon e h1 x h2
  · rename_i b hu2 hy1
    rw [hy1] at hy
    obtain ⟨hy, -⟩ := hy
    split at hk
    · rename_i hsz
      have := nbt hsz; subst this
      refine ⟨b.size, _, by rw [hy]; rfl, ?_, ?_, ?_, hk⟩
      · rw [hy, flat_one]
        simp only [Builtin.firstCells, Sem.run_pure]
        congr 1
        apply Array.ext'
        simp only [Array.toList_map]
        rw [show (b.extract 0 (Nat.min b.size n)).data.toList = b.data.toList.take (Nat.min b.size n) by rw [ByteArray.data_extract]; simp]
        congr 1
        have e : Nat.min b.size n = min n b.data.toList.length := by show Nat.min b.data.size n = _; simp [Nat.min_comm]
        rw [e, ← List.take_eq_take_min]
      · rw [flat_one]; intro x hx
        obtain ⟨z, _, rfl⟩ := List.mem_map.1 hx
        rfl
      · intro e he
        obtain ⟨z, _, rfl⟩ := List.mem_map.1 he
        rfl
    · exact hk.elim
  · exact hk.elim
theorem effK_sound (h : Rep C V s H a w) (o : Oper) {K : St → Heap → Prop} (hk : effK P o s H K) : EffGoes P C o a w K := by
  unfold effK at hk
  unfold EffGoes execOp
  split at hk
  · rename_i t x y ho
    rw [ho]
    have hx := h.ev x
    split at hk
    · rename_i p l z hp hl hz
      rw [hp] at hx
      obtain ⟨hx, -⟩ := hx
      split at hk
      · rename_i hcl
        have hcl := nbt hcl
        have hrep := segs_rep (h.ev y) hl
        have hk0 := hk
        obtain ⟨s1, H1, ls, hk, h1, hL⟩ := lendSegs_sound l s H h hrep hk
        obtain ⟨A, rfl, c, ty, ⟨hb, hs, hle⟩, hK⟩ := ptrK hk
        obtain ⟨i, hi, rfl⟩ := sizeT_eq hz
        have hvs : (a.eval y).cells.size = i.size := by have := segsRep_len hrep; simp at this; omega
        have hblk := h1.sub _ _ hb
        have hA : A = ⟨A.block, A.off, none⟩ := by cases A; simp_all
        have hone := lendSegs_one l s H h hrep hk0
        have hrun := storeVar_run (P := P) (off := A.off) hi hvs hblk hle hone
        refine ⟨V, _, _, undef, _, hK, (rep_pub h1 (.inl ⟨_, hb⟩) (setB_only _ _) (setB_at hblk)).put (x := .c .bad) trivial o.dst, .inr ⟨exec_u ?_, rfl⟩⟩
        simp only [Instr.storeAt, Sem.run_bind, hx, Instr.sureAddr, Sem.run_pure, Result.andThen_ok]
        rw [hA]; exact hrun
      · exact hk.elim
    · exact hk.elim
  · rename_i t x ho
    rw [ho]
    have hx := h.ev x
    split at hk
    · rename_i dir e ik n hu hx1
      rw [hx1] at hx
      obtain ⟨hx, -⟩ := hx
      split at hk
      · rename_i b hb
        obtain ⟨⟨h0, h1, h2⟩, hk⟩ := hk
        have hn : H w.heap.size = none := by
          cases hb : H w.heap.size with
          | none => rfl
          | some ob => have := (Array.getElem?_eq_some_iff.1 (h.sub _ _ hb)).1; omega
        unfold bytesT at hb
        split at hb
        · rename_i inf hi
          cases hb
          refine ⟨V, _, _, _, { w with heap := w.heap.push (.chan n.toNat #[] false 0 0 false) }, hk w.heap.size hn, (rep_pub h (.inr (Nat.le_refl _)) (alloc_only _ _) (by simp)).put (x := .c (.v (.chan (some w.heap.size)))) ⟨rfl, rfl⟩ o.dst, .inl (exec_v ?_)⟩
          have hm : (inf.bytes : Int) * n ≤ 1048576 * 1048576 := Int.mul_le_mul h2 h1 h0 (by decide)
          have hc : ¬ (n < 0 ∨ n > IntKind.i64.max ∨ (inf.bytes : Int) * n > 2 ^ 48 - 112) := by
            have : IntKind.i64.max = 9223372036854775807 := by decide
            rw [this]; omega
          rw [hx]
          have ha : (asInt (.int ik n)).run P w = .ok n w := by simp [asInt, asIntOf]
          have hti : (typeInfo e).run P w = .ok inf w := by simp [typeInfo, hi]
          simp only [Instr.makeChan, Sem.run_bind, ha, Result.andThen_ok, run_underlying hu, hti, if_neg hc]
          rfl
        · cases hb
      · exact hk.elim
    · exact hk.elim
  · rename_i t ho
    rw [ho]
    have hn : H w.heap.size = none := by
      cases hb : H w.heap.size with
      | none => rfl
      | some ob => have := (Array.getElem?_eq_some_iff.1 (h.sub _ _ hb)).1; omega
    refine ⟨V, _, _, _, { w with heap := w.heap.push (.map #[] 0) }, hk w.heap.size hn, (rep_pub h (.inr (Nat.le_refl _)) (alloc_only _ _) (by simp)).put (x := .c (.v (.map (some w.heap.size)))) ⟨rfl, rfl⟩ o.dst, .inl (exec_v ?_)⟩
    rfl
  · rename_i src dst x ho
    rw [ho]
    have hx := h.ev x
    split at hk
    · rename_i e b h1 h2 h3
      rw [h3] at hx
      obtain ⟨hx, -⟩ := hx
      split at hk
      · rename_i he
        have hn : H w.heap.size = none := by
          cases hb : H w.heap.size with
          | none => rfl
          | some ob => have := (Array.getElem?_eq_some_iff.1 (h.sub _ _ hb)).1; omega
        have hle : b.size ≤ grownCap w b.size 0 e := by
          show b.size ≤ b.size + w.tape w.drawn (.appendCap b.size 0 e) % (2 ^ 63 - b.size)
          omega
        have hcs : ∀ (i : Nat) (x : UInt8), b.data.toList[i]? = some x → (bytesRow b (grownCap w b.size 0 e))[i]? = some (.int .u8 (x.toNat : Int)) := by
          intro i x hi
          have hi' := (List.getElem?_eq_some_iff.1 hi).1
          have hi2 : i < b.data.size := by simpa using hi'
          unfold bytesRow
          rw [Array.getElem?_append_left (by simpa using hi2), Array.getElem?_map, ← Array.getElem?_toList, hi]
          rfl
        generalize hC : bytesRow b (grownCap w b.size 0 e) = C at hcs
        have ho2 : Only w { w with drawn := w.drawn + 1, heap := w.heap.push (.cells C e (C.size, C.size + 1)) } fun x => x = w.heap.size :=
          ⟨rfl, ⟨rfl, fun _ => Nat.le_succ _⟩, rfl, by show w.heap.size ≤ (w.heap.push _).size; rw [Array.size_push]; omega, fun j hj hlt => by
            show (w.heap.push _)[j]? = _
            rw [Array.getElem?_push]
            split
            · exact absurd (by assumption) hj
            · rfl⟩
        refine ⟨V, _, _, _, { w with drawn := w.drawn + 1, heap := w.heap.push (.cells C e (C.size, C.size + 1)) }, hk w.heap.size (grownCap w b.size 0 e) (H.upd w.heap.size (.cells C e (C.size, C.size + 1))) (fun x o hx => ?_) hn (fun x o hx => ?_) ?_,
          (rep_pub h (.inr (Nat.le_refl _)) ho2 (by simp)).put (x := .c (.v (.slice (some ⟨w.heap.size, 0, none⟩) b.size (grownCap w b.size 0 e)))) ⟨rfl, rfl⟩ o.dst, .inl (exec_v ?_)⟩
        · rw [upd_ne _ _ (fun q => by subst q; rw [hn] at hx; cases hx)]; exact hx
        · by_cases q : x = w.heap.size
          · exact .inr q
          · rw [upd_ne _ _ q] at hx; exact .inl hx
        · refine ⟨_, _, _, rfl, by rw [List.length_map]; exact Array.length_toList, hle, ?_, ?_, ?_⟩
          · intro e he
            obtain ⟨z, _, rfl⟩ := List.mem_map.1 he
            rfl
          · intro e he x hx
            obtain ⟨z, _, rfl⟩ := List.mem_map.1 he
            simp only [byteV, List.mem_singleton] at hx
            subst hx; rfl
          · intro i e' he'
            rw [List.getElem?_map] at he'
            cases hb : b.data.toList[i]? with
            | none => rw [hb] at he'; cases he'
            | some z =>
              rw [hb] at he'
              cases he'
              refine ⟨_, rfl, rfl, fun j y hj => ?_⟩
              cases j with
              | succ j => cases hj
              | zero =>
                cases hj
                rw [Nat.mul_one, add_spot (A := ⟨w.heap.size, 0, none⟩) rfl i, add_spot (A := ⟨w.heap.size, 0 + i, none⟩) rfl]
                simp only [Heap.cell?, upd_same]
                have := hcs i z hb
                simpa using this
        · rw [hx]
          have := run_bytes_of_string (P := P) w src dst e b h1 h2 he
          rw [hC] at this
          exact this
      · exact hk.elim
    · exact hk.elim
  · rename_i t m k x ho
    rw [ho]
    have hm := h.ev m
    have hkk := h.ev k
    split at hk
    · rename_i kt et r ik n hu hm1 hk1
      rw [hm1] at hm
      rw [hk1] at hkk
      obtain ⟨hm, -⟩ := hm
      obtain ⟨hkk, -⟩ := hkk
      split at hk
      · rename_i ik' hkt
        split at hk
        · rename_i hsk
          have := sameK_eq hsk; subst this
          obtain ⟨s1, H1, ls, hk, h1, hL⟩ := lendV_sound h (h.ev x) hk
          obtain ⟨r, rfl, es, clk, ⟨hb, hik⟩, hK⟩ := mapK hk
          have hblk := h1.sub _ _ hb
          refine ⟨V, _, _, undef, _, hK, (rep_pub h1 (.inl ⟨_, hb⟩) (setB_only _ _) (setB_at hblk)).put (x := .c .bad) trivial o.dst, .inr ⟨exec_u ?_, rfl⟩⟩
          rw [hm, hkk]
          simp only [Instr.mapUpdate, Sem.run_bind, run_underlying hu, Result.andThen_ok, run_getObj hblk (by simp)]
          rw [show (10000 : Nat) = 9999 + 1 from rfl, checkKey_int hkt]
          simp only [Result.andThen_ok, Instr.findKey, Sem.run_bind, run_underlying hkt, findNow_idx es.toList 0 hik, Sem.run_pure, mapPut]
          cases hf : es.toList.findIdx? (fun e => match e.key with | .int _ y => n == y | _ => false) with
          | none =>
            simp only [Option.map_none]
            rw [run_setObj hblk (by simp)]
          | some j =>
            simp only [Option.map_some, Nat.zero_add]
            have hj := List.findIdx?_eq_some_iff_getElem.1 hf
            obtain ⟨hlt, hj1, _⟩ := hj
            have hjs : j < es.size := by simpa using hlt
            obtain ⟨y, hy⟩ := hik _ (List.getElem_mem hlt)
            rw [hy] at hj1
            have hny : n = y := by simpa using hj1
            subst hny
            have hy' : es[j].key = .int ik n := by simpa using hy
            have hstay : (Instr.keyThatStays (((es[j]?).map (·.key)).getD (.int ik n)) (.int ik n)).run P w = .ok (.int ik n) w := by
              simp only [Array.getElem?_eq_getElem hjs, Option.map_some, Option.getD_some, hy', Instr.keyThatStays]
              rw [if_pos (by simp [Instr.sameBits])]
              rfl
            simp only [Sem.run_bind, hstay, Result.andThen_ok]
            rw [run_setObj hblk (by simp)]
        · exact hk.elim
      · exact hk.elim
    · exact hk.elim
  · rename_i args ats ho
    rw [ho]
    split at hk
    · rename_i t x hat hargs
      have hx := h.ev x
      split at hk
      · rename_i e sz al n c he hx1
        rw [hx1] at hx
        obtain ⟨hx, -⟩ := hx
        split at hk
        · rename_i z hz
          split at hk
          · rename_i hzl
            have hzl := nbt hzl
            have e2 : args = #[x] := by apply Array.ext'; simpa using hargs
            have e1 : ats[0]? = some t := by rw [← Array.getElem?_toList, hat]; rfl
            subst e2
            obtain ⟨hu, i, hi, rfl⟩ := sliceElem_eq he
            obtain ⟨i', v, hi', hv, rfl, hone⟩ := zeroT_eq hz
            rw [hi] at hi'; cases hi'
            rcases hk with ⟨rfl, hK⟩ | ⟨A, cs, ty, rfl, ⟨hb, hs, hle⟩, hK⟩
            · refine ⟨V, _, _, .tuple #[], _, hK, h.put (x := .c .bad) trivial o.dst, .inl ?_⟩
              simp only [resolve, Sem.run_bind, Sem.run_pure, Result.andThen_ok, invoke, builtin, List.map_toArray, List.map_cons, List.map_nil, hx]
              have hrun : (Builtin.clear_ ats o.type #[.slice al 0 c]).run P w = .ok (.tuple #[]) w := by
                simp only [Builtin.clear_, e1, List.getElem?_toArray, List.getElem?_cons_zero, Sem.run_bind, run_underlying hu, Result.andThen_ok]
                cases al <;> rfl
              rw [hrun]
              rfl
            · have hblk := h.sub _ _ hb
              have hA : A = ⟨A.block, A.off, none⟩ := by cases A; simp_all
              have hlen : ((List.replicate n v.cells.toList).flatten).length = n * i.size := by
                rw [flatten_len (sz := i.size) (by intro e he; rw [List.eq_of_mem_replicate he]; exact hzl), List.length_replicate]
              have hall : ∀ x ∈ (List.replicate n v.cells.toList).flatten, one x = true := by
                intro x hx
                obtain ⟨e, he, hx⟩ := List.mem_flatten.1 hx
                rw [List.eq_of_mem_replicate he] at hx
                exact hone x hx
              refine ⟨V, _, _, .tuple #[], _, hK, (rep_pub h (.inl ⟨_, hb⟩) (setB_only _ _) (setB_at hblk)).put (x := .c .bad) trivial o.dst, .inl ?_⟩
              simp only [resolve, Sem.run_bind, Sem.run_pure, Result.andThen_ok, invoke, builtin, List.map_toArray, List.map_cons, List.map_nil, hx]
              have hst := storeCells_run (P := P) (off := A.off) _ 0 w hblk (by rw [hlen]; omega) hall
              rw [← hA] at hst
              have hrun : (Builtin.clear_ ats o.type #[.slice (some A) n c]).run P w = .ok (.tuple #[]) (setB w A.block (.cells (writeCells cs A.off (List.replicate n v.cells.toList).flatten) ty (0, 0))) := by
                cases n with
                | zero =>
                  simp only [Builtin.clear_, e1, List.getElem?_toArray, List.getElem?_cons_zero, Sem.run_bind, run_underlying hu, Result.andThen_ok]
                  simp only [List.replicate_zero, List.flatten_nil, writeCells, setB_self hblk]
                  rfl
                | succ n =>
                  simp only [Builtin.clear_, e1, List.getElem?_toArray, List.getElem?_cons_zero, Sem.run_bind, run_underlying hu, Result.andThen_ok, run_zero hi hv, Builtin.zeroCells, zeros_list]
                  simp only [Nat.add_zero] at hst
                  rw [hst]
                  rfl
              rw [hrun]
              rfl
          · exact hk.elim
        · exact hk.elim
      · exact hk.elim
    · exact hk.elim
  · rename_i args ats ho
    rw [ho]
    split at hk
    · rename_i t t2 x y hat hargs
      have hx := h.ev x
      have hy := h.ev y
      split at hk
      · rename_i e sz al n c he hx1
        rw [hx1] at hx
        obtain ⟨hx, -⟩ := hx
        obtain ⟨hu, i, hi, rfl⟩ := sliceElem_eq he
        have e1 : ats[0]? = some t := by rw [← Array.getElem?_toList, hat]; rfl
        have e2 : args = #[x, y] := by apply Array.ext'; simpa using hargs
        subst e2
        obtain ⟨k, es, hlen, hcells, hone, hel, hk⟩ := copyK_sound h (sz := i.size) hk hy
        have run0 : (Builtin.copy_ ats o.type #[.slice al n c, a.eval y]).run P w = (match al with
            | some A => (do storeCells A es.flatten; pure (goInt (Nat.min k n)) : Sem Value)
            | none => pure (goInt (Nat.min k n))).run P w := by
          simp only [Builtin.copy_, e1, List.getElem?_toArray, List.getElem?_cons_zero, List.getElem?_cons_succ, Sem.run_bind, run_underlying hu, Result.andThen_ok, run_sizeT hi, hlen, hcells]
          cases al <;> rfl
        rcases hk with ⟨rfl, hK⟩ | ⟨A, cs, ty, rfl, ⟨hb, hs, hle⟩, hK⟩
        · refine ⟨V, _, _, goInt (Nat.min k n), w, hK, h.put (x := .c (.v (.int .i64 ((min k n : Nat) : Int)))) ⟨rfl, rfl⟩ o.dst, .inl ?_⟩
          simp only [resolve, Sem.run_bind, Sem.run_pure, Result.andThen_ok, invoke, builtin, List.map_toArray, List.map_cons, List.map_nil, hx]
          have hrun : (Builtin.copy_ ats o.type #[.slice al n c, a.eval y]).run P w = .ok (goInt (Nat.min k n)) w := by
            rw [run0]
            cases al <;> simp [storeCells]
          rw [hrun]
          rfl
        · have hblk := h.sub _ _ hb
          have hA : A = ⟨A.block, A.off, none⟩ := by cases A; simp_all
          simp only [Nat.zero_mul, Nat.add_zero] at hle hK
          have hst := storeCells_run (P := P) (b := A.block) (off := A.off) es.flatten 0 w hblk (by rw [flatten_len hel]; omega) hone
          refine ⟨V, _, _, goInt (Nat.min k n), _, hK, (rep_pub h (.inl ⟨_, hb⟩) (setB_only _ _) (setB_at hblk)).put (x := .c (.v (.int .i64 ((min k n : Nat) : Int)))) ⟨rfl, rfl⟩ o.dst, .inl ?_⟩
          simp only [resolve, Sem.run_bind, Sem.run_pure, Result.andThen_ok, invoke, builtin, List.map_toArray, List.map_cons, List.map_nil, hx]
          have hrun : (Builtin.copy_ ats o.type #[.slice (some A) n c, a.eval y]).run P w = .ok (goInt (Nat.min k n)) (setB w A.block (.cells (writeCells cs A.off es.flatten) ty (0, 0))) := by
            rw [run0]
            simp only [Sem.run_bind]
            rw [hA, hst]
            simp only [Result.andThen_ok, Sem.run_pure, Nat.add_zero]
          rw [hrun]
          rfl
      · exact hk.elim
    · exact hk.elim
  · rename_i args ats ho
    rw [ho]
    split at hk
    · rename_i t rest m k hat hargs
      have hm := h.ev m
      have hkk := h.ev k
      split at hk
      · rename_i kt et r ik n hu hm1 hk1
        rw [hm1] at hm
        rw [hk1] at hkk
        obtain ⟨hm, -⟩ := hm
        obtain ⟨hkk, -⟩ := hkk
        split at hk
        · rename_i ik' hkt
          split at hk
          · rename_i hsk
            have := sameK_eq hsk; subst this
            obtain ⟨r, rfl, es, clk, ⟨hb, hik⟩, hK⟩ := mapK hk
            have hblk := h.sub _ _ hb
            have e2 : args = #[m, k] := by apply Array.ext'; simpa using hargs
            have e1 : ats[0]? = some t := by rw [← Array.getElem?_toList, hat]; rfl
            subst e2
            refine ⟨V, _, _, .tuple #[], _, hK, (rep_pub h (.inl ⟨_, hb⟩) (setB_only _ _) (setB_at hblk)).put (x := .c .bad) trivial o.dst, .inl ?_⟩
            simp only [resolve, Sem.run_bind, Sem.run_pure, Result.andThen_ok, invoke, builtin, List.map_toArray, List.map_cons, List.map_nil, hm, hkk]
            have hrun : (Builtin.delete_ ats o.type #[.map (some r), .int ik n]).run P w = .ok (.tuple #[]) (setB w r (mapDel es clk n)) := by
              simp only [Builtin.delete_, e1, List.getElem?_toArray, List.getElem?_cons_zero, List.getElem?_cons_succ, Sem.run_bind, run_underlying hu, Result.andThen_ok, run_getObj hblk (by simp)]
              rw [show (10000 : Nat) = 9999 + 1 from rfl, checkKey_int hkt]
              simp only [Result.andThen_ok, Instr.findKey, Sem.run_bind, run_underlying hkt, findNow_idx es.toList 0 hik, Sem.run_pure, mapDel]
              cases hf : es.toList.findIdx? (fun e => match e.key with | .int _ y => n == y | _ => false) with
              | none =>
                simp only [Option.map_none, Sem.run_bind]
                rw [run_setObj hblk (by simp)]
                rfl
              | some j =>
                simp only [Option.map_some, Nat.zero_add, Sem.run_bind]
                rw [run_setObj hblk (by simp)]
                rfl
            rw [hrun]
            rfl
          · exact hk.elim
        · exact hk.elim
      · exact hk.elim
    · exact hk.elim
  · exact hk.elim
end
end Sx

set_option linter.unusedVariables false
set_option linter.unusedSimpArgs false
namespace Sx
open Go
set_option linter.unusedSectionVars false
variable [Dr]
section
variable {P : Program} {C : Ctx} {V : Vl} {s : St} {H : Heap} {a : Act} {w : World}
/-! ### What a call hands back -/
theorem comp_fits {V : Vl} {t : TypeId} {ks : List SK} {l : List Seg} (hks : kinds P t = some ks) (hf : Fits ks l) : (mkComp (isAggT P t) l).rep V (compVal (mkComp (isAggT P t) l)) := by
  cases ha : isAggT P t with
  | true => exact ⟨_, rfl, fits_rep hf⟩
  | false =>
    obtain ⟨k1, rfl⟩ := kinds_one hks ha
    obtain ⟨y, rfl, h1⟩ := fits_one hf
    exact ⟨rfl, h1⟩
theorem exComps_sound {V : Vl} : ∀ {ts : List TypeId} {ks : List (Bool × List SK)} {K : List Comp → Prop}, compKinds P ts = some ks → exComps ks K → ∃ cs, K cs ∧ CompsRep V cs (cs.map compVal)
  | [], ks, K, h, hk => by
    simp [compKinds] at h
    subst h
    exact ⟨[], hk, rfl⟩
  | t :: r, ks, K, h, hk => by
    simp only [compKinds] at h
    split at h
    · rename_i ks1 l h1 h2
      cases h
      obtain ⟨sg, hk, hf⟩ := exSegs_fits hk
      obtain ⟨cs, hk, hr⟩ := exComps_sound (V := V) h2 hk
      exact ⟨_, hk, _, _, rfl, comp_fits h1 hf, hr⟩
    · cases h
theorem retK_sound {V : Vl} {t : TypeId} {e : Ending} {K : SV → Prop} (hk : retK P t e K) : ∃ v x, e = .returned v ∧ x.rep V v ∧ K x := by
  unfold retK at hk
  split at hk
  · split at hk
    · rename_i ks hks
      obtain ⟨cs, ⟨h1, h2⟩, hr⟩ := exComps_sound (V := V) hks hk
      exact ⟨_, .tup cs, h1, ⟨_, rfl, hr⟩, h2⟩
    · exact hk.elim
  · split at hk
    · rename_i ks hks
      obtain ⟨l, ⟨h1, h2⟩, hf⟩ := exSegs_fits hk
      refine ⟨_, _, h1, ?_, h2⟩
      cases ha : isAggT P t with
      | true => exact ⟨_, rfl, fits_rep hf⟩
      | false =>
        obtain ⟨k1, rfl⟩ := kinds_one hks ha
        obtain ⟨y, rfl, h1'⟩ := fits_one hf
        exact ⟨rfl, h1'⟩
    · exact hk.elim
def CallPost (C : Ctx) (o : Oper) (a : Act) (Kp : Option (St → List PanicEntry → Heap → Prop)) (K : St → Heap → Prop) : Ending → World → Prop
  | .returned v, w' => ∃ V s' H', K s' H' ∧ Rep C V s' H' (a.put o.dst v) w'
  | .panicked c, w' => ∃ kp V s' H', Kp = some kp ∧ kp s' c H' ∧ Rep C V s' H' a w'
  | .outgrown, _ => False
/-- What a call comes to. -/
def CallGoes (P : Program) (C : Ctx) (o : Oper) (a : Act) (w : World) (Kp : Option (St → List PanicEntry → Heap → Prop)) (K : St → Heap → Prop) : Prop :=
  ∃ f args, (execOp a.eval o).run P w = .ok (.enter f args) w ∧ Calls P f args w (CallPost C o a Kp K)
theorem callable_run {f : FuncId} (h : callable P f = true) (args : Array Value) : (callFunc f args).run P w = .ok (.enter f args) w := by
  unfold callable at h
  split at h
  · rename_i fn hf
    simp only [Bool.and_eq_true, bne_iff_ne, ne_eq] at h
    unfold callFunc
    simp only [Sem.run_bind, run_program, Result.andThen_ok, hf]
    rw [if_neg (by simpa using h.2), if_neg (by simp; exact Option.isSome_iff_ne_none.1 h.1)]
    rfl
  · cases h
theorem evs_rep (h : Rep C V s H a w) (args : List Operand) : (args.map (ev s)).length = (args.map a.eval).length ∧ ∀ (i : Nat) (x : SV) (y : Value), (args.map (ev s))[i]? = some x → (args.map a.eval)[i]? = some y → x.rep V y := by
  refine ⟨by simp, fun i x y hx hy => ?_⟩
  simp at hx hy
  obtain ⟨q, hq, rfl⟩ := hx
  obtain ⟨q', hq', rfl⟩ := hy
  rw [hq] at hq'; cases hq'
  exact h.ev q
theorem callK_sound (h : Rep C V s H a w) (o : Oper) {Kp : Option (St → List PanicEntry → Heap → Prop)} {K : St → Heap → Prop} (hk : callK P o s H Kp K) : CallGoes P C o a w Kp K := by
  unfold callK at hk
  split at hk
  · rename_i f args ats ho
    have post : ∀ (s1 : St) (Hl : Heap) (ls : List Lend), Rep C V s1 Hl a w → LentOK V ls → ∀ (e : Ending) (w' : World), (∃ H', Step Hl w H' w' ∧ callR P o s1 ls Kp K e H') → CallPost C o a Kp K e w' := by
      rintro s1 Hl ls hrep hok e w' ⟨H', hstep, hR⟩
      have hrep' := rep_step hrep hstep
      have good : (retK P o.type e fun x => backK P ls s1 H' fun s' H'' => K (s'.put o.dst x) H'') → CallPost C o a Kp K e w' := by
        intro hR
        obtain ⟨v, x, rfl, hx, hb⟩ := retK_sound (V := V) hR
        obtain ⟨s', H'', h1, h2⟩ := backK_sound ls s1 H' hrep' hok hb
        exact ⟨V, _, H'', h1, h2.put hx o.dst⟩
      unfold callR at hR
      cases Kp with
      | none => exact good hR
      | some kp =>
        rcases hR with hR | ⟨c, rfl, hR⟩
        · exact good hR
        · exact ⟨kp, V, s1, H', rfl, hR, hrep'⟩
    have hargs : (args.map a.eval) = (args.toList.map a.eval).toArray := by apply Array.ext'; simp
    split at hk
    · rename_i g
      obtain ⟨s1, Hl, ls, hk, hrep, hL⟩ := lendK_sound _ _ s H h (evs_rep h args.toList).1 (evs_rep h args.toList).2 hk
      obtain ⟨hc, hk⟩ := hk
      refine ⟨g, (args.toList.map a.eval).toArray, ?_, (hk w hrep.sub).mono (post _ _ _ hrep hL.ok)⟩
      unfold execOp
      rw [ho]
      simp only [resolve, Sem.run_bind, Act.eval, Deferred.ofValue, Sem.run_pure, Result.andThen_ok, invoke]
      rw [hargs]
      have e1 : (#[] : Array Value) ++ (args.toList.map a.eval).toArray ++ #[] = (args.toList.map a.eval).toArray := by apply Array.ext'; simp
      rw [e1]
      exact callable_run hc _
    · rename_i f' _
      obtain ⟨s1, H1, l1, hk, hrep1, hL1⟩ := lendV_sound h (h.ev f) hk
      have h1 : Rep C V ⟨s.env, s1.objs, s1.dfr⟩ H1 a w := by
        have := hrep1
        rw [← hL1.env]
        exact this
      have hev : (args.toList.map (ev s)) = args.toList.map (ev s1) := by
        refine List.map_congr_left fun x _ => ?_
        cases x <;> simp [ev, St.get, hL1.env]
      rw [hev] at hk
      obtain ⟨s2, Hl, ls, hk, hrep, hL⟩ := lendK_sound _ _ s1 H1 hrep1 (evs_rep hrep1 args.toList).1 (evs_rep hrep1 args.toList).2 hk
      generalize hfv : a.eval f = fv at hk
      unfold MeetsV at hk
      split at hk
      · rename_i g first cap
        obtain ⟨hc, hk⟩ := hk
        refine ⟨g, (first.toList ++ args.toList.map a.eval ++ cap.toList).toArray, ?_, (hk w hrep.sub).mono (post _ _ _ hrep (hL1.trans hL).ok)⟩
        unfold execOp
        rw [ho]
        simp only [resolve, Sem.run_bind, hfv, Deferred.ofValue, Sem.run_pure, Result.andThen_ok, invoke]
        have : first ++ Array.map a.eval args ++ cap = (first.toList ++ args.toList.map a.eval ++ cap.toList).toArray := by apply Array.ext'; simp
        rw [this]
        exact callable_run hc _
      · exact hk.elim
  · exact hk.elim
/-- A call that keeps what it is given. -/
theorem giveK_sound (h : Rep C V s H a w) (o : Oper) {O : List (Nat × AObj)} {G : Heap} {Kp : Option (St → List PanicEntry → Heap → Prop)} {K : St → Heap → Prop} (hk : giveK P O G o s H Kp K) : CallGoes P C o a w Kp K := by
  unfold giveK at hk
  split at hk
  · rename_i g args ats ho
    have hargs : (args.map a.eval) = (args.toList.map a.eval).toArray := by apply Array.ext'; simp
    obtain ⟨s1, Hl, ls, hk, hrep, hL⟩ := lendK_sound _ _ s H h (evs_rep h args.toList).1 (evs_rep h args.toList).2 hk
    obtain ⟨hc, hk⟩ := hk
    refine ⟨g, (args.toList.map a.eval).toArray, ?_, (hk w hrep.sub).mono ?_⟩
    · unfold execOp
      rw [ho]
      simp only [resolve, Sem.run_bind, Act.eval, Deferred.ofValue, Sem.run_pure, Result.andThen_ok, invoke]
      rw [hargs]
      have e1 : (#[] : Array Value) ++ (args.toList.map a.eval).toArray ++ #[] = (args.toList.map a.eval).toArray := by apply Array.ext'; simp
      rw [e1]
      exact callable_run hc _
    · rintro e w' ⟨H', hstep, hR⟩
      have hrep' := rep_step hrep hstep
      have good : (retK P o.type e fun x => K (s1.put o.dst x) H') → CallPost C o a Kp K e w' := by
        intro hR
        obtain ⟨v, x, rfl, hx, hb⟩ := retK_sound (V := V) hR
        exact ⟨V, _, H', hb, hrep'.put hx o.dst⟩
      unfold giveR at hR
      split at hR
      · cases Kp with
        | none => exact good hR.2
        | some kp =>
          rcases hR with hR | ⟨c, rfl, hR⟩
          · exact good hR.2
          · exact ⟨kp, V, s1, H', rfl, hR, hrep'⟩
      · exact hR.elim
  · exact hk.elim
end
end Sx

set_option linter.unusedVariables false
set_option linter.unusedSimpArgs false
namespace Sx
open Go
set_option linter.unusedSectionVars false
variable [Dr]
section
variable {P : Program} {C : Ctx} {V : Vl} {s : St} {H : Heap} {a : Act} {w : World}

/-- Real states that an abstract condition speaks of. -/
def Gam (C : Ctx) (K : St → Heap → Prop) (a : Act) (w : World) : Prop := ∃ V s H, Rep C V s H a w ∧ K s H
def GamQ (C : Ctx) (Q : Exit → St → Heap → Prop) (e : Exit) (a : Act) (w : World) : Prop := ∃ V s H, Rep C V s H a w ∧ Q e s H
theorem rep_weaken (h : Rep C V s H a w) {s' : St} (hl : s'.env.length ≤ a.tmps.size) (he : ∀ t x, nth s'.env t = some x → x = .c .bad ∨ x = s.get t) (hd : s'.dfr = s.dfr)
    (ho : ∀ d o, look s'.objs d = some o → look s.objs d = some o) : Rep C V s' H a w :=
  { env := fun t x e => by
      rcases he t x e with rfl | rfl
      · trivial
      · exact h.get t
    len := hl, dfr := by rw [hd]; exact h.dfr, sub := h.sub, objs := fun d o e => h.objs d o (ho d o e), priv := fun d o b e => h.priv d o b (ho d o e),
    dist := fun d o d' o' b e e' => h.dist d o d' o' b (ho d o e) (ho d' o' e'), os := h.os, tape := h.tape, output := h.output, size := h.size, other := h.other }
theorem nth_restrict (keep : List Nat) : ∀ (l : List SV) (i t : Nat), nth (restrictEnv keep l i) t = (nth l t).map fun x => match memN keep (i + t) with | true => x | false => .c .bad
  | [], i, t => by simp [restrictEnv, nth]
  | x :: r, i, 0 => by
    simp only [restrictEnv, nth, Nat.add_zero, Option.map_some]
    cases memN keep i <;> rfl
  | x :: r, i, t + 1 => by
    simp only [restrictEnv, nth, nth_restrict keep r (i + 1) t]
    rw [show i + 1 + t = i + (t + 1) by omega]
theorem restrict_len (keep : List Nat) : ∀ (l : List SV) (i : Nat), (restrictEnv keep l i).length = l.length
  | [], _ => rfl
  | x :: r, i => by simp [restrictEnv, restrict_len keep r]
theorem rep_restrict (h : Rep C V s H a w) (keep : List Nat) : Rep C V ⟨restrictEnv keep s.env 0, s.objs, s.dfr⟩ H a w := by
  refine rep_weaken h (by rw [restrict_len]; exact h.len) ?_ rfl fun _ _ e => e
  intro t x e
  simp only [nth_restrict, Nat.zero_add] at e
  cases hn : nth s.env t with
  | none => rw [hn] at e; simp at e
  | some y =>
    rw [hn] at e
    simp only [Option.map_some, Option.some.injEq] at e
    split at e
    · subst e; right; unfold St.get; rw [hn]
    · subst e; left; rfl
theorem rep_pan (h : Rep C V s H a w) (pk : Option (List Nat)) : Rep C V (panSt pk s) H a w := by
  cases pk with
  | none => exact rep_weaken h (by simp [panSt]) (by simp [panSt, nth]) rfl (by simp [panSt, look])
  | some l => exact rep_restrict h l
theorem put_same {a : Act} {d : Nat} {y : Value} (e : a.tmps.getD d undef = y) : a.put (some d) y = a := by
  subst e
  unfold Act.put
  have : a.tmps.setIfInBounds d (a.tmps.getD d undef) = a.tmps := by
    apply Array.ext
    · simp
    · intro i hi1 hi2
      rw [Array.getElem_setIfInBounds]
      split
      · rename_i q
        subst q
        rw [Array.getD_eq_getD_getElem?, Array.getElem?_eq_getElem hi2]
        rfl
      · rfl
  simp only [this]
theorem pub_one {x : SC} {y : Value} (hd : x.rep V y) {s : St} {H : Heap} {K : Value → St → Heap → List Lend → Prop} (hk : lendC x s H K) : (SC.v y).rep V y := by
  refine ⟨rfl, ?_⟩
  unfold lendC at hk
  split at hk
  · obtain ⟨rfl, h⟩ := hd; exact h
  · obtain ⟨rfl, h⟩ := hd; exact h
  · obtain rfl := hd; rfl
  · obtain rfl := hd; rfl
  · exact hk.elim
/-- What is lent of a slot's value: the slot holds it. -/
theorem pub_lend (h : Rep C V s H a w) {d : Nat} {x : SC} (hx : s.get d = .c x) {K : Value → St → Heap → List Lend → Prop} (hk : lendC x s H K) :
    ∃ v s' H' ls, K v s' H' ls ∧ Rep C V (s'.set d (.c (.v v))) H' a w ∧ Rep C V s' H' a w ∧ LendsTo V s H s' H' ls ∧ SV.rep V (.c (.v v)) v ∧ a.tmps.getD d undef = v := by
  have hd := h.get d
  rw [hx] at hd
  have hd0 : x.rep V (a.tmps.getD d undef) := hd
  obtain ⟨s', H', ls, h1, h2, h3⟩ := lendC_sound h hd0 hk
  refine ⟨_, s', H', ls, h1, ?_, h2, h3, ?_, rfl⟩
  · have h4 := h2.put (x := .c (.v (a.tmps.getD d undef))) (y := a.tmps.getD d undef) (pub_one hd0 hk) (some d)
    rw [put_same rfl] at h4
    exact h4
  · exact pub_one hd0 hk
theorem pubBoxK_sound (h : Rep C V s H a w) {d : Nat} {K : St → Heap → Prop} (hk : pubBoxK d s H K) : Gam C K a w := by
  unfold pubBoxK at hk
  split at hk
  · rename_i x hx
    obtain ⟨v, s', H', ls, h1, h2, -⟩ := pub_lend h hx hk
    exact ⟨V, _, H', h2, h1⟩
  · exact hk.elim
theorem run_subEntry (x y c : Int) (hx : 0 ≤ x) (hy : 0 ≤ y) (hy2 : y ≤ 18446744073709551615) (hc0 : 0 ≤ c) (hc : c ≤ 1) (w : World) :
    (subEntry #[.int .u64 x, .int .u64 y, .int .u64 c]).run P w =
      .ok (.tuple #[.int .u64 ((x + 18446744073709551616 - y - c) % 18446744073709551616), .int .u64 (if x < y + c then 1 else 0)]) w := by
  obtain ⟨X, rfl⟩ := Int.eq_ofNat_of_zero_le hx
  obtain ⟨Y, rfl⟩ := Int.eq_ofNat_of_zero_le hy
  have key : ∀ k : Nat, k ≤ 1 → (subEntry #[.int .u64 (X : Int), .int .u64 (Y : Int), .int .u64 (k : Int)]).run P w =
      .ok (Extern.MathBitsCarry.pair ((X + Extern.MathBitsCarry.m64 - Y - k) % Extern.MathBitsCarry.m64) (if X < Y + k then 1 else 0)) w := by
    intro k hk
    have : k = 0 ∨ k = 1 := by omega
    rcases this with rfl | rfl <;> rfl
  obtain ⟨k, rfl⟩ := Int.eq_ofNat_of_zero_le hc0
  rw [key k (by omega)]
  have hm : Extern.MathBitsCarry.m64 = 18446744073709551616 := rfl
  simp only [Extern.MathBitsCarry.pair, hm]
  have e1 : Int.ofNat ((X + 18446744073709551616 - Y - k) % 18446744073709551616) = ((X : Int) + 18446744073709551616 - Y - k) % 18446744073709551616 := by
    show (((X + 18446744073709551616 - Y - k) % 18446744073709551616 : Nat) : Int) = _
    omega
  have e2 : Int.ofNat (if X < Y + k then 1 else 0) = if (X : Int) < (Y : Int) + (k : Int) then 1 else 0 := by
    by_cases q : X < Y + k
    · rw [if_pos q, if_pos (by omega)]; rfl
    · rw [if_neg q, if_neg (by omega)]; rfl
  rw [e1, e2]
theorem extOf_call {hs : Hints} {o : Oper} (h : isCall o.op = false) : extOf hs o = none := by
  unfold extOf
  split
  · rename_i ho; rw [ho] at h; cases h
  · rfl
theorem extK_sound (h : Rep C V s H a w) {hs : Hints} {o : Oper} {g : Nat} {x y c : Operand} (ho : extOf hs o = some (g, x, y, c)) {K : SV → Prop} (hk : extK P g (ev s x) (ev s y) (ev s c) K) :
    ∃ z r, K z ∧ z.rep V r ∧ (execOp a.eval o).run P w = .ok (.value r) w := by
  unfold extOf at ho
  split at ho
  · rename_i g' args ats hop
    split at ho
    · rename_i x' y' c' _ hargs
      cases ho
      have hx := h.ev x
      have hy := h.ev y
      have hc := h.ev c
      unfold extK at hk
      split at hk
      · rename_i q1 q2 q3 va vb vc h1 h2 h3
        rw [h1] at hx; rw [h2] at hy; rw [h3] at hc
        obtain ⟨hx, -⟩ := hx
        obtain ⟨hy, -⟩ := hy
        obtain ⟨hc, -⟩ := hc
        obtain ⟨r1, r2, hcar, hk⟩ := hk
        have ea : args.map a.eval = #[.int .u64 va, .int .u64 vb, .int .u64 vc] := by
          apply Array.ext'
          rw [Array.toList_map, hargs]
          simp [hx, hy, hc]
        have e0 : (execOp a.eval o).run P w = (callFunc g #[.int .u64 va, .int .u64 vb, .int .u64 vc]).run P w := by
          unfold execOp
          rw [hop]
          simp only [resolve, Sem.run_bind, Act.eval, Deferred.ofValue, Sem.run_pure, Result.andThen_ok, invoke]
          rw [show args.map a.eval = _ from ea]
          rfl
        refine ⟨_, .tuple #[.int .u64 r1, .int .u64 r2], hk, ?_, ?_⟩
        · exact ⟨_, rfl, _, _, rfl, ⟨rfl, rfl⟩, _, _, rfl, ⟨rfl, rfl⟩, rfl⟩
        · rw [e0]
          rcases hcar with ⟨⟨fn, hf, hn, hb, hnx, he⟩, b1, b2, b3, b4, rfl, rfl⟩ | ⟨⟨fn, hf, hn, hb, hnx, he⟩, b1, b2, b3, b4, b5, rfl, rfl⟩
          · rw [run_callFunc_extern hf hn hb hnx he, run_add64 va vb vc b1 b2 b3 b4]
            rfl
          · rw [run_callFunc_extern hf hn hb hnx he, run_subEntry va vb vc b1 b2 b3 b4 b5]
            rfl
      · exact hk.elim
    · cases ho
  · cases ho
theorem opD_sound (h : Rep C V s H a w) {hs : Hints} (hE : ∀ t, memN hs.eqs t = true → EqOK P t)
    {Q : Exit → St → Heap → Prop} {o : Oper} {K : St → Heap → Prop} (hk : opD P hs Q o s H K) : o.wp P a w (Gam C K) (GamQ C Q) := by
  unfold Oper.wp
  unfold opD at hk
  split at hk
  · obtain ⟨z, r, h1, h2, h3⟩ := valK_sound h (cfg := ⟨hs.eqs⟩) hE o hk
    rw [h3, Oper.upon_value]
    exact ⟨V, _, H, h.put h2 o.dst, h1⟩
  · split at hk
    · obtain ⟨V', s', y, w', h1, h2, h3 | ⟨h3, rfl⟩⟩ := objK_sound h (heap_refl H) o hk
      · rw [h3, Oper.upon_value]; exact ⟨V', s', H, h2, h1⟩
      · rw [h3, Oper.upon_skip]; exact ⟨V', s', H, h2, h1⟩
    · obtain ⟨V', s', y, w', h1, h2, h3 | ⟨h3, rfl⟩⟩ := objK_sound h (heap_refl H) o hk
      · rw [h3, Oper.upon_value]; exact pubBoxK_sound h2 h1
      · rw [h3, Oper.upon_skip]; exact pubBoxK_sound h2 h1
  · obtain ⟨z, r, h1, h2, h3⟩ := readK_sound h (heap_refl H) o hk
    rw [h3, Oper.upon_value]
    exact ⟨V, _, H, h.put h2 o.dst, h1⟩
  · obtain ⟨V', s', H', y, w', h1, h2, h3 | ⟨h3, rfl⟩⟩ := effK_sound h o hk
    · rw [h3, Oper.upon_value]; exact ⟨V', s', H', h2, h1⟩
    · rw [h3, Oper.upon_skip]; exact ⟨V', s', H', h2, h1⟩
  · split at hk
    · obtain ⟨f, args, h1, h2⟩ := giveK_sound h o hk
      rw [h1, Oper.upon_enter]
      refine h2.mono ?_
      intro e w' he
      cases e with
      | returned v =>
        obtain ⟨V', s', H', h3, h4⟩ := he
        exact ⟨V', s', H', h4, h3⟩
      | panicked c =>
        obtain ⟨kp, V', s', H', h3, h4, h5⟩ := he
        unfold panicQ at h3
        split at h3
        · cases h3
          exact ⟨V', _, H', rep_pan h5 _, h4⟩
        · cases h3
      | outgrown => exact he.elim
    · split at hk
      · obtain ⟨f, args, h1, h2⟩ := callK_sound h o hk
        rw [h1, Oper.upon_enter]
        refine h2.mono ?_
        intro e w' he
        cases e with
        | returned v =>
          obtain ⟨V', s', H', h3, h4⟩ := he
          exact ⟨V', s', H', h4, h3⟩
        | panicked c =>
          obtain ⟨kp, V', s', H', h3, h4, h5⟩ := he
          unfold panicQ at h3
          split at h3
          · cases h3
            exact ⟨V', _, H', rep_pan h5 _, h4⟩
          · cases h3
        | outgrown => exact he.elim
      · obtain ⟨f, args, h1, h2⟩ := callK_sound h o hk
        rw [h1, Oper.upon_enter]
        refine h2.mono ?_
        intro e w' he
        cases e with
        | returned v =>
          obtain ⟨V', s', H', h3, h4⟩ := he
          obtain ⟨V2, s2, H2, h6, h7⟩ := adoptK_sound h4 h3
          exact ⟨V2, s2, H2, h7, h6⟩
        | panicked c =>
          obtain ⟨kp, V', s', H', h3, h4, h5⟩ := he
          unfold panicQ at h3
          split at h3
          · cases h3
            exact ⟨V', _, H', rep_pan h5 _, h4⟩
          · cases h3
        | outgrown => exact he.elim
  · split at hk
    · rename_i x ho
      have hx := h.ev x
      split at hk
      · rename_i t v hv
        rw [hv] at hx
        obtain ⟨hx, -⟩ := hx
        have : (execOp a.eval o).run P w = .halt (.panic (.iface t v)) w := by
          unfold execOp
          rw [ho]
          simp only [hx, Instr.panic, goPanic, Sem.run_bind, Sem.run]
          rfl
        rw [this, Oper.upon_panic]
        exact ⟨V, _, H, rep_pan h _, hk⟩
      · exact hk.elim
    · exact hk.elim
  · split at hk
    · rename_i f args ats ho
      split at hk
      · rename_i l hl hc
        have hcap := caps_rep h args.toList (sites_caps _ hl)
        have : (execOp a.eval o).run P w = .ok (.defer { target := .fn (.func f) #[], args := args.map a.eval }) w := by
          unfold execOp
          rw [ho]
          simp only [resolve, Sem.run_bind, Act.eval, Deferred.ofValue, Sem.run_pure, Result.andThen_ok]
          simp
        rw [this, Oper.upon_defer]
        have hargs : args.map a.eval = (l.map fun k => Value.pointer (some ⟨V.blk k, 0, none⟩)).toArray := by
          apply Array.ext'
          simp only [Array.toList_map, hcap, List.map_map]
          rfl
        have h1 : Rep C V ⟨s.env, s.objs, ⟨f, l⟩ :: s.dfr⟩ H { a with defers := { target := .fn (.func f) #[], args := args.map a.eval } :: a.defers } w :=
          { env := h.env, len := h.len, dfr := by simp only [List.map_cons, ADef.real, h.dfr, hargs], sub := h.sub, objs := h.objs, priv := h.priv, dist := h.dist, os := h.os, tape := h.tape, output := h.output, size := h.size, other := h.other }
        exact ⟨V, _, H, h1.put (x := .c .bad) trivial o.dst, hk⟩
      · exact hk.elim
    · exact hk.elim
  · exact hk.elim
theorem ovlOf_call {hs : Hints} {o : Oper} (h : isCall o.op = false) : ovlOf hs o = none := by
  unfold ovlOf
  split
  · rename_i ho; rw [ho] at h; cases h
  · rfl
theorem run_overlaps {t e : TypeId} {rs : Array TypeId} {sz : Nat} (hu : P.underlying t = some (.slice e)) (hz : sizeT P e = some sz) (hsub : H.sub w) {a b : Option Addr} {n m c d : Nat} (hk : ApartK H a b n m) :
    (Extern.SlicesOverlaps.overlaps #[t, t] rs #[.slice a n c, .slice b m d]).run P w = .ok (.bool false) w := by
  obtain ⟨i, hi, rfl⟩ := sizeT_eq hz
  have hzr : (Go.sizeOf e).run P w = .ok i.size w := run_sizeT hi
  have e1 : Sem.run P (Extern.SlicesOverlaps.overlaps #[t, t] rs #[.slice a n c, .slice b m d]) w = Sem.run P (α := Value) (do
    let some t := (#[t, t] : Array TypeId)[0]? | stuck "slices.overlaps: no parameter types"
    let .slice elem ← underlying t | stuck "slices.overlaps: slice type expected"
    let size ← sizeOf elem
    match (a : Option Addr), (b : Option Addr) with
    | some a, some b =>
      if n = 0 ∨ m = 0 ∨ size = 0 then pure (Value.bool false)
      else if a.block != b.block && (← frozen a) && (← frozen b) then unsupported .addressObserved
      else do
        if a.block != b.block then do
          noView a; noView b
          if ← mayBeOne a b then return Value.bool ((← choose (.extern "sameAddr.stringBytes" 2)) == 1)
        pure (Value.bool (a.block == b.block && a.off < b.off + m * size && b.off < a.off + n * size))
    | _, _ => pure (Value.bool false)) w := rfl
  rw [e1]
  by_cases hz0 : n = 0 ∨ m = 0 ∨ i.size = 0
  · cases a <;> cases b <;> simp [run_underlying hu, hzr, hz0]
  rcases hk with rfl | rfl | h1 | h1 | ⟨A, B, c1, d1, t1, u1, rfl, rfl, hne, hA, hB, hd⟩
  · simp [run_underlying hu, hzr]
  · cases a <;> simp [run_underlying hu, hzr]
  · exact absurd (.inl h1) hz0
  · exact absurd (.inr (.inl h1)) hz0
  have hwA := hsub _ _ hA
  have hwB := hsub _ _ hB
  have hnb : (A.block != B.block) = true := by simpa using hne
  have hnb' : (A.block == B.block) = false := by simpa using hne
  have hsa : w.shape? A.block = some (t1, c1.size) := by simp [World.shape?, hwA]
  have hsb : w.shape? B.block = some (u1, d1.size) := by simp [World.shape?, hwB]
  have hfa : w.frozen? A = false := by simp [World.frozen?, hwA]
  have hfe : w.frozen? { block := A.block, off := c1.size } = false := by simp [World.frozen?, hwA]
  cases hk : d1.size with
  | zero => exact absurd hk hd
  | succ kB =>
    rw [hk] at hsb
    simp [run_underlying hu, hzr, hz0, hnb, hnb', frozen, noView, viewAt, mayBeOne, stringish, shape, Sem.run, hsa, hsb, hfa, hfe]
theorem ovlK_sound (h : Rep C V s H a w) {hs : Hints} {o : Oper} {g : Nat} {x y : Operand} (ho : ovlOf hs o = some (g, x, y)) {K : SV → Prop} (hk : ovlK P g (ev s x) (ev s y) H K) :
    ∃ z r, K z ∧ z.rep V r ∧ (execOp a.eval o).run P w = .ok (.value r) w := by
  unfold ovlOf at ho
  split at ho
  · rename_i g' args ats hop
    split at ho
    · rename_i x' y' _ hargs
      cases ho
      have hx := h.ev x
      have hy := h.ev y
      unfold ovlK at hk
      split at hk
      · rename_i a1 n c b1 m d h1 h2
        rw [h1] at hx; rw [h2] at hy
        obtain ⟨hx, -⟩ := hx
        obtain ⟨hy, -⟩ := hy
        obtain ⟨⟨t, e, rs, sz, ⟨fn, hf, hn, hb, hnx, he⟩, hu, hz⟩, hap, hk⟩ := hk
        have ea : args.map a.eval = #[.slice a1 n c, .slice b1 m d] := by
          apply Array.ext'
          rw [Array.toList_map, hargs]
          simp [hx, hy]
        refine ⟨_, .bool false, hk, ⟨rfl, rfl⟩, ?_⟩
        unfold execOp
        rw [hop]
        simp only [resolve, Sem.run_bind, Act.eval, Deferred.ofValue, Sem.run_pure, Result.andThen_ok, invoke]
        rw [show args.map a.eval = _ from ea]
        show (callFunc g #[.slice a1 n c, .slice b1 m d]).run P w = _
        rw [run_callFunc_extern hf hn hb hnx he, run_overlaps hu hz h.sub hap]
        rfl
      · exact hk.elim
    · cases ho
  · cases ho
theorem opC_sound (h : Rep C V s H a w) {hs : Hints} (hE : ∀ t, memN hs.eqs t = true → EqOK P t)
    {Q : Exit → St → Heap → Prop} {o : Oper} {K : St → Heap → Prop} (hk : opC P hs Q o s H K) : o.wp P a w (Gam C K) (GamQ C Q) := by
  unfold opC at hk
  split at hk
  · rename_i ho
    obtain ⟨z, r, h1, h2, h3⟩ := extK_sound h ho hk
    unfold Oper.wp
    rw [h3, Oper.upon_value]
    exact ⟨V, _, H, h.put h2 o.dst, h1⟩
  · split at hk
    · rename_i ho
      obtain ⟨z, r, h1, h2, h3⟩ := ovlK_sound h ho hk
      unfold Oper.wp
      rw [h3, Oper.upon_value]
      exact ⟨V, _, H, h.put h2 o.dst, h1⟩
    · exact opD_sound h hE hk
theorem inpK_sound (h : Rep C V s H a w) {hs : Hints} {o : Oper} {x y : Operand} {sz : Nat} (ho : inpOf P hs o = some (x, y, sz)) {K : St → Heap → Prop} (hk : inpK sz (ev s x) (ev s y) o.dst s H K) :
    ∃ V' s' H' v w', K s' H' ∧ Rep C V' s' H' (a.put o.dst v) w' ∧ (execOp a.eval o).run P w = .ok (.value v) w' := by
  unfold inpOf at ho
  split at ho
  · rename_i args ats d hop hd
    split at ho
    · rename_i x' y' t t2 _ hargs hats
      split at ho
      · rename_i e sz' e2 he hu2
        cases ho
        have hx := h.ev x
        have hy := h.ev y
        unfold inpK at hk
        split at hk
        · rename_i al n c a2 m c2 hx1 hy1
          rw [hx1] at hx
          rw [hy1] at hy
          obtain ⟨hx, -⟩ := hx
          obtain ⟨hy, -⟩ := hy
          obtain ⟨hroom, es2, hsl, hk⟩ := hk
          obtain ⟨hu, i, hi, rfl⟩ := sliceElem_eq he
          obtain ⟨⟨xb, xc, hv⟩, hel2, hfc, hon2⟩ := src_real (P := P) h.sub hsl
          have hm : es2.length = m := by cases hv; rfl
          have hone : ∀ x ∈ es2.flatten, one x = true := by
            intro x hx
            obtain ⟨e, h1, h2⟩ := List.mem_flatten.1 hx
            exact hon2 e h1 x h2
          subst hm
          have e1 : ats = #[t, t2] := by apply Array.ext'; simpa using hats
          have e2 : args = #[x, y] := by apply Array.ext'; simpa using hargs
          subst e1; subst e2
          have run0 : (Builtin.append_ #[t, t2] o.type #[.slice al n c, .slice a2 es2.length c2]).run P w =
              (match al with
                | some a => (do storeCells (a.add (n * i.size)) es2.flatten; pure (.slice al (n + es2.length) c) : Sem Value)
                | none => pure (.slice al (n + es2.length) c)).run P w := by
            simp only [Builtin.append_, List.getElem?_toArray, List.getElem?_cons_zero, List.getElem?_cons_succ, Sem.run_bind, run_underlying hu, Result.andThen_ok, run_sizeT hi, run_underlying hu2, Sem.run_pure,
              Bool.false_eq_true, if_false, Builtin.lenOf, Bool.not_false, if_true]
            rw [if_pos hroom]
            simp only [Sem.run_bind, hfc, Result.andThen_ok]
            cases al <;> rfl
          have exec : ∀ w', (Builtin.append_ #[t, t2] o.type #[.slice al n c, .slice a2 es2.length c2]).run P w = .ok (.slice al (n + es2.length) c) w' →
              (execOp a.eval o).run P w = .ok (.value (.slice al (n + es2.length) c)) w' := fun w' hr => by
            unfold execOp
            rw [hop]
            simp only [resolve, Sem.run_bind, Sem.run_pure, Result.andThen_ok, invoke, builtin, List.map_toArray, List.map_cons, List.map_nil, hx, hy]
            rw [hr]
            rfl
          rcases hk with ⟨rfl, hK⟩ | ⟨A, cs, ty, rfl, ⟨hb, hs, hle⟩, hK⟩
          · refine ⟨V, _, _, .slice al (n + 0) c, w, hK, h.put (x := .c (.v (.slice al (n + 0) c))) ⟨rfl, rfl⟩ o.dst, exec _ ?_⟩
            rw [run0]
            cases al <;> simp [storeCells]
          · have hblk := h.sub _ _ hb
            have hA : A = ⟨A.block, A.off, none⟩ := by cases A; simp_all
            refine ⟨V, _, _, _, _, hK, (rep_pub h (.inl ⟨_, hb⟩) (setB_only _ _) (setB_at hblk)).put (x := .c (.v (.slice (some A) (n + es2.length) c))) ⟨rfl, rfl⟩ o.dst, exec _ ?_⟩
            rw [run0]
            have hst := storeCells_run (P := P) (b := A.block) (off := A.off + n * i.size) es2.flatten 0 w hblk (by rw [flatten_len hel2]; omega) hone
            have e3 : A.add (n * i.size) = ⟨A.block, A.off + n * i.size, none⟩ := by rw [add_spot hs]
            simp only [Sem.run_bind, e3]
            rw [hst]
            simp only [Result.andThen_ok, Sem.run_pure, Nat.add_zero]
        · exact hk.elim
      · cases ho
    · cases ho
  · cases ho
/-- What an append takes. -/
structure SrcX (P : Program) (t2 : TypeId) (v : Value) (sz by_ : Nat) (z : List Value) (w : World) (es2 : List (List Value)) : Prop where
  el : ∀ e ∈ es2, e.length = sz
  on : ∀ e ∈ es2, ∀ x ∈ e, one x = true
  kind : ((∃ e2, P.underlying t2 = some (.slice e2)) ∧ ∀ w' : World, w'.heap = w.heap → SrcRep P w' v sz es2) ∨
    (∃ k ik n, P.underlying t2 = some (.int k) ∧ v = .int ik n ∧ 0 ≤ n ∧ n * (by_ : Int) ≤ roomMax ∧ es2 = List.replicate n.toNat z) ∨
    ∃ b, P.underlying t2 = some .string ∧ v = .string b ∧ es2 = b.data.toList.map fun x => [.int .u8 (x.toNat : Int)]
theorem asrcK_sound (h : Rep C V s H a w) {t2 : TypeId} {sz by_ : Nat} {z : List Value} {y : Operand} {K : List (List Value) → Prop} (hzl : z.length = sz) (hzo : ∀ x ∈ z, one x = true) (hk : asrcK P t2 sz by_ z (ev s y) H K) : ∃ es2, SrcX P t2 (a.eval y) sz by_ z w es2 ∧ K es2 := by
  have hy := h.ev y
  unfold asrcK at hk
  split at hk
  · rename_i e2 a2 m c2 hu2 hy1
    rw [hy1] at hy
    obtain ⟨hy, -⟩ := hy
    obtain ⟨es, hsl, hk⟩ := hk
    have hs := src_real (P := P) h.sub hsl
    refine ⟨es, ⟨hs.el, hs.on, .inl ⟨⟨_, hu2⟩, fun w' e => ?_⟩⟩, hk⟩
    rw [hy]
    exact src_real (P := P) (sub_heap e h.sub) hsl
  · rename_i ik k ik' n hu2 hy1
    rw [hy1] at hy
    obtain ⟨hy, -⟩ := hy
    obtain ⟨⟨h0, h1⟩, hk⟩ := hk
    exact ⟨_, ⟨fun e he => by rw [List.eq_of_mem_replicate he]; exact hzl, fun e he => by rw [List.eq_of_mem_replicate he]; exact hzo, .inr (.inl ⟨_, _, _, hu2, hy, h0, h1, rfl⟩)⟩, hk⟩
  · rename_i b hu2 hy1
    rw [hy1] at hy
    obtain ⟨hy, -⟩ := hy
    split at hk
    · rename_i hsz
      have := nbt hsz
      refine ⟨_, ⟨fun e he => ?_, fun e he => ?_, .inr (.inr ⟨b, hu2, hy, rfl⟩)⟩, hk⟩
      · obtain ⟨z, _, rfl⟩ := List.mem_map.1 he
        rw [this]; rfl
      · obtain ⟨z, _, rfl⟩ := List.mem_map.1 he
        intro x hx; simp at hx; subst hx; rfl
    · exact hk.elim
  · exact hk.elim
theorem append_any {t t2 e : TypeId} {i : TypeInfo} {z : Value} (hu : P.underlying t = some (.slice e)) (hi : P.info? e = some i) (hz : i.zero = some z) (hzs : z.cells.size = i.size)
    {al : Option Addr} {c : Nat} {v : Value} {es es2 : List (List Value)} (hb : ∀ w' : World, w'.heap = w.heap → SrcRep P w' (.slice al es.length c) i.size es) (hx : SrcX P t2 v i.size i.bytes z.cells.toList w es2) (hby : 0 < i.bytes) (rt : TypeId) :
    (es.length + es2.length ≤ c → (Builtin.append_ #[t, t2] rt #[.slice al es.length c, v]).run P w = (match al with
      | some a => (do storeCells (a.add (es.length * i.size)) es2.flatten; pure (.slice al (es.length + es2.length) c) : Sem Value)
      | none => pure (.slice al (es.length + es2.length) c)).run P w) ∧
    (c < es.length + es2.length → (es.length + es2.length) * i.bytes ≤ roomMax → ∃ cap' cs, es.length + es2.length ≤ cap' ∧ cap' * i.size ≤ cs.size ∧ cs.toList.take ((es.length + es2.length) * i.size) = (es ++ es2).flatten ∧
      (Builtin.append_ #[t, t2] rt #[.slice al es.length c, v]).run P w = .ok (.slice (some ⟨w.heap.size, 0, none⟩) (es.length + es2.length) cap') { w with drawn := w.drawn + 1, heap := w.heap.push (.cells cs e) }) := by
  have hbi : ∀ w : World, (typeInfo e).run P w = .ok i w := fun w => by simp [typeInfo, hi]
  have hel := (hb w rfl).el
  -- what is appended, cells
  have happ : ((∃ k, P.underlying t2 = some (.int k)) ∧ ∃ ik n, v = .int ik n ∧ 0 ≤ n ∧ n * (i.bytes : Int) ≤ roomMax ∧ es2 = List.replicate n.toNat z.cells.toList) ∨
      (((∃ e2, P.underlying t2 = some (.slice e2)) ∨ P.underlying t2 = some .string) ∧ (∀ w : World, (Builtin.lenOf v).run P w = .ok es2.length w) ∧ ∀ w' : World, w'.heap = w.heap → (Builtin.firstCells i.size es2.length v).run P w' = .ok es2.flatten.toArray w') := by
    rcases hx.kind with ⟨h1, h2⟩ | ⟨k, ik, n, h1, h2, h3, h4, h5⟩ | ⟨b, h1, h2, h3⟩
    · refine .inr ⟨.inl h1, ?_, fun w' e => (h2 w' e).run⟩
      obtain ⟨xb, xc, e⟩ := (h2 w rfl).len
      subst e
      exact fun w => rfl
    · exact .inl ⟨⟨_, h1⟩, ik, n, h2, h3, h4, h5⟩
    · refine .inr ⟨.inr h1, ?_, fun w' e => ?_⟩
      · subst h2; subst h3; intro w; simp [Builtin.lenOf]
      · subst h2; subst h3
        rw [flat_one]
        simp only [Builtin.firstCells, Sem.run_pure]
        congr 1
        apply Array.ext'
        simp only [Array.toList_map]
        congr 1
        rw [ByteArray.data_extract]
        simp
        exact List.take_of_length_le (Nat.le_refl _)
  have hq : (choose (.appendCap (es.length + es2.length) c e)).run P w = .ok (es.length + es2.length + w.tape w.drawn (.appendCap (es.length + es2.length) c e) % (2 ^ 63 - (es.length + es2.length))) { w with drawn := w.drawn + 1 } := rfl
  generalize hg : es.length + es2.length + w.tape w.drawn (.appendCap (es.length + es2.length) c e) % (2 ^ 63 - (es.length + es2.length)) = nc at hq
  have hnc : es.length + es2.length ≤ nc := by omega
  have hn2 : c < es.length + es2.length → (es.length + es2.length) * i.bytes ≤ roomMax → Builtin.nextslicecap (es.length + es2.length) c * i.bytes ≤ 2 ^ 48 := fun hc hroom => by
    have h1 := nextcap_le (need := es.length + es2.length) (cap := c) (by omega)
    have h2 : Builtin.nextslicecap (es.length + es2.length) c * i.bytes ≤ 2 * (es.length + es2.length) * i.bytes := Nat.mul_le_mul_right _ h1
    unfold roomMax at hroom
    rw [Nat.mul_assoc] at h2
    omega
  have hn3 : (es.length + es2.length) * i.bytes ≤ roomMax → ¬ (((es.length + es2.length : Nat) : Int) > IntKind.i64.max) := fun hroom => by
    have : es.length + es2.length ≤ (es.length + es2.length) * i.bytes := Nat.le_mul_of_pos_right _ hby
    unfold roomMax at hroom
    have : IntKind.i64.max = 9223372036854775807 := by decide
    omega
  have hold : (Builtin.firstCells i.size es.length (.slice al es.length c)).run P { w with drawn := w.drawn + 1 } = .ok es.flatten.toArray { w with drawn := w.drawn + 1 } := (hb { w with drawn := w.drawn + 1 } rfl).run
  have fin : ∃ cs : Array Value, cs = es.flatten.toArray ++ es2.flatten.toArray ++ Builtin.zeroCells z.cells (nc - (es.length + es2.length)) ∧ nc * i.size ≤ cs.size ∧ cs.toList.take ((es.length + es2.length) * i.size) = (es ++ es2).flatten := by
    refine ⟨_, rfl, ?_, ?_⟩
    · simp only [Array.size_append, List.size_toArray, flatten_len hel, flatten_len hx.el, Builtin.zeroCells, Array.size_map, Array.size_range, hzs]
      rw [← Nat.add_mul, ← Nat.add_mul]
      exact Nat.mul_le_mul_right _ (by omega)
    · simp only [Array.toList_append, List.flatten_append]
      exact List.take_left' (by simp [flatten_len hel, flatten_len hx.el, Nat.add_mul])
  obtain ⟨cs, hcs, f1, f2⟩ := fin
  rcases happ with ⟨⟨ku, hu2⟩, ik, n, rfl, h0, h1, he2⟩ | ⟨hu2, hl, hf⟩
  · have h1' : n ≤ roomMax := by
      have e : n * 1 ≤ n * (i.bytes : Int) := Int.mul_le_mul_of_nonneg_left (show (1 : Int) ≤ (i.bytes : Int) by omega) h0
      omega
    have hw : IntKind.i64.wrap n = n := by rw [IntKind.wrap_i64]; unfold roomMax at h1'; omega
    have hai : ∀ w : World, (asInt (.int ik n)).run P w = .ok n w := fun w => by simp [asInt, asIntOf]
    have hel2 : es2.length = n.toNat := by rw [he2, List.length_replicate]
    have hap : ∀ w : World, (if n.toNat * i.size = 0 then (pure #[] : Sem (Array Value)) else do pure (Builtin.zeroCells (← zeroValue e).cells n.toNat)).run P w = .ok es2.flatten.toArray w := fun w => by
      have e9 : es2.flatten.toArray = Builtin.zeroCells z.cells n.toNat := by
        rw [he2]
        apply Array.ext'
        rw [Builtin.zeroCells, zeros_list]
      split
      · rename_i q
        rw [e9]
        have : Builtin.zeroCells z.cells n.toNat = #[] := by
          rw [← Array.size_eq_zero_iff]
          simp only [Builtin.zeroCells, Array.size_map, Array.size_range, hzs, q]
        rw [this]
        rfl
      · simp only [Sem.run_bind, run_zero hi hz, Result.andThen_ok, Sem.run_pure, e9]
    have hA : ¬ (n < 0) := by omega
    have hB : ¬ (n * (i.bytes : Int) > 2 ^ 48) := by unfold roomMax at h1; omega
    refine ⟨fun hc => ?_, fun hc hroom => ⟨nc, cs, hnc, f1, f2, ?_⟩⟩
    · simp only [Builtin.append_, List.getElem?_toArray, List.getElem?_cons_zero, List.getElem?_cons_succ, Sem.run_bind, run_underlying hu, Result.andThen_ok, run_sizeT hi, run_underlying hu2, Sem.run_pure,
        if_true, hai, hw, Bool.not_true, Bool.false_eq_true, if_false, if_neg hA, hbi, if_neg hB]
      rw [if_pos (by omega)]
      simp only [Sem.run_bind, hap, Result.andThen_ok]
      rw [hel2]
      cases al <;> rfl
    · simp only [Builtin.append_, List.getElem?_toArray, List.getElem?_cons_zero, List.getElem?_cons_succ, Sem.run_bind, run_underlying hu, Result.andThen_ok, run_sizeT hi, run_underlying hu2, Sem.run_pure,
        if_true, hai, hw, Bool.not_true, Bool.false_eq_true, if_false, if_neg hA, hbi, if_neg hB]
      have hn2 := hn2 hc hroom
      have hn3 := hn3 hroom
      rw [hel2] at hq hcs hn2 hn3 hc hroom ⊢
      rw [if_neg (by omega)]
      simp only [Sem.run_bind, hbi, Result.andThen_ok]
      rw [if_neg (fun q => hn3 q.1)]
      simp only [Sem.run_bind, hbi, Result.andThen_ok]
      rw [if_neg (by omega)]
      simp only [Sem.run_bind, hq, Result.andThen_ok, hbi, askRoom_run, hold, hap, run_zero hi hz, newRow_run, Sem.run_pure, ← hcs]
  · refine ⟨fun hc => ?_, fun hc hroom => ⟨nc, cs, hnc, f1, f2, ?_⟩⟩
    · rcases hu2 with ⟨e2, hu2⟩ | hu2
      all_goals
        simp only [Builtin.append_, List.getElem?_toArray, List.getElem?_cons_zero, List.getElem?_cons_succ, Sem.run_bind, run_underlying hu, Result.andThen_ok, run_sizeT hi, run_underlying hu2, Sem.run_pure, Bool.false_eq_true, if_false, hl, Bool.not_false, if_true]
        rw [if_pos hc]
        simp only [Sem.run_bind, hf w rfl, Result.andThen_ok]
        cases al <;> rfl
    · rcases hu2 with ⟨e2, hu2⟩ | hu2
      all_goals
        simp only [Builtin.append_, List.getElem?_toArray, List.getElem?_cons_zero, List.getElem?_cons_succ, Sem.run_bind, run_underlying hu, Result.andThen_ok, run_sizeT hi, run_underlying hu2, Sem.run_pure, Bool.false_eq_true, if_false, hl, Bool.not_false, if_true]
        rw [if_neg (by omega)]
        simp only [Sem.run_bind, hbi, Result.andThen_ok]
        rw [if_neg (fun q => hn3 hroom q.1)]
        simp only [Sem.run_bind, hbi, Result.andThen_ok]
        rw [if_neg (by have := hn2 hc hroom; omega)]
        simp only [Sem.run_bind, hq, Result.andThen_ok, hbi, askRoom_run, hold, hf { w with drawn := w.drawn + 1 } rfl, run_zero hi hz, newRow_run, Sem.run_pure, ← hcs]
theorem aprK_sound (h : Rep C V s H a w) {hs : Hints} {o : Oper} {r : Apr} (ho : aprOf P hs o = some r) {K : St → Heap → Prop} (hk : aprK P r (ev s r.x) (ev s r.y) o.dst s H K) :
    (∃ args ats, o.op = .call { callee := .builtin .append, args := args, argTypes := ats }) ∧ ∃ V' s' H' v w', K s' H' ∧ Rep C V' s' H' (a.put o.dst v) w' ∧ (execOp a.eval o).run P w = .ok (.value v) w' := by
  unfold aprOf at ho
  split at ho
  · rename_i args ats d hop hd
    refine ⟨⟨_, _, hop⟩, ?_⟩
    split at ho
    · rename_i x y t t2 _ hargs hats
      split at ho
      · rename_i e sz he
        split at ho
        · rename_i b z hb hz
          split at ho
          · rename_i hzl
            cases ho
            have hzl := nbt hzl
            have hx := h.ev x
            unfold aprK at hk
            simp only at hk
            split at hk
            · rename_i al n c hx1
              rw [hx1] at hx
              obtain ⟨hx, -⟩ := hx
              obtain ⟨hu, i, hi, rfl⟩ := sliceElem_eq he
              obtain ⟨i', zv, hi', hzv, rfl, hzo⟩ := zeroT_eq hz
              rw [hi] at hi'; cases hi'
              have hby : i.bytes = b + 1 := by
                unfold bytesT at hb; rw [hi] at hb; simpa using hb
              obtain ⟨es, hsl, hk⟩ := hk
              obtain ⟨es2, hsrc, hk1, hk2⟩ := asrcK_sound h hzl hzo hk
              have hn : es.length = n := by obtain ⟨_, _, _, e1, h1, _⟩ := hsl; cases e1; exact h1
              subst hn
              rw [← hby] at hsrc
              have hbase : ∀ w' : World, w'.heap = w.heap → SrcRep P w' (.slice al es.length c) i.size es := fun w' e => src_real (P := P) (sub_heap e h.sub) hsl
              obtain ⟨run1, run2⟩ := append_any (t := t) (c := c) hu hi hzv hzl hbase hsrc (by omega) o.type
              have e1 : ats = #[t, t2] := by apply Array.ext'; simpa using hats
              have e2 : args = #[x, y] := by apply Array.ext'; simpa using hargs
              subst e1; subst e2
              have exec : ∀ {r w'}, (Builtin.append_ #[t, t2] o.type #[.slice al es.length c, a.eval y]).run P w = .ok r w' → (execOp a.eval o).run P w = .ok (.value r) w' := fun {r w'} hr => by
                unfold execOp
                rw [hop]
                simp only [resolve, Sem.run_bind, Sem.run_pure, Result.andThen_ok, invoke, builtin, List.map_toArray, List.map_cons, List.map_nil, hx]
                rw [hr]
                rfl
              have hone : ∀ x ∈ es2.flatten, one x = true := by
                intro x hx
                obtain ⟨e, h1, h2⟩ := List.mem_flatten.1 hx
                exact hsrc.on e h1 x h2
              by_cases hc : es.length + es2.length ≤ c
              · have run0 := run1 hc
                rcases hk1 hc with ⟨rfl, hK⟩ | ⟨A, cs, ty, rfl, ⟨hb, hs, hle⟩, hK⟩
                · refine ⟨V, _, _, .slice al (es.length + 0) c, w, hK, h.put (x := .c (.v (.slice al (es.length + 0) c))) ⟨rfl, rfl⟩ o.dst, exec ?_⟩
                  rw [run0]
                  cases al <;> simp [storeCells]
                · have hblk := h.sub _ _ hb
                  have hA : A = ⟨A.block, A.off, none⟩ := by cases A; simp_all
                  refine ⟨V, _, _, _, _, hK, (rep_pub h (.inl ⟨_, hb⟩) (setB_only _ _) (setB_at hblk)).put (x := .c (.v (.slice (some A) (es.length + es2.length) c))) ⟨rfl, rfl⟩ o.dst, exec ?_⟩
                  rw [run0]
                  have hst := storeCells_run (P := P) (b := A.block) (off := A.off + es.length * i.size) es2.flatten 0 w hblk (by rw [flatten_len hsrc.el]; omega) hone
                  have e3 : A.add (es.length * i.size) = ⟨A.block, A.off + es.length * i.size, none⟩ := by rw [add_spot hs]
                  simp only [Sem.run_bind, e3]
                  rw [hst]
                  simp only [Result.andThen_ok, Sem.run_pure, Nat.add_zero]
              · obtain ⟨hroom, hk2⟩ := hk2 (by omega)
                obtain ⟨cap, cs, h1, h2, h3, h4⟩ := run2 (by omega) (by rw [hby]; exact hroom)
                have hn : H w.heap.size = none := by
                  cases hb : H w.heap.size with
                  | none => rfl
                  | some ob => have := (Array.getElem?_eq_some_iff.1 (h.sub _ _ hb)).1; omega
                have ho2 : Only w { w with drawn := w.drawn + 1, heap := w.heap.push (.cells cs e) } fun x => x = w.heap.size :=
                  ⟨rfl, ⟨rfl, fun _ => Nat.le_succ _⟩, rfl, by simp, fun b hb hlt => by simp [Array.getElem?_push]; omega⟩
                refine ⟨V, _, _, _, _, hk2 w.heap.size cap (H.upd w.heap.size (.cells cs e (0, 0))) (fun x o hx => ?_) hn (fun x o hx => ?_) ?_, (rep_pub h (.inr (Nat.le_refl _)) ho2 (by simp)).put (x := .c (.v (.slice (some ⟨w.heap.size, 0, none⟩) (es.length + es2.length) cap))) ⟨rfl, rfl⟩ o.dst, exec h4⟩
                · rw [upd_ne _ _ (fun q => by subst q; rw [hn] at hx; cases hx)]; exact hx
                · by_cases q : x = w.heap.size
                  · exact .inr q
                  · rw [upd_ne _ _ q] at hx; exact .inl hx
                · refine .inr ⟨w.heap.size, 0, cap, cs, ?_, by rw [upd_same], by rw [List.length_append]; omega, by omega, ?_, ?_, ?_⟩
                  · rw [List.length_append]
                  · intro e he
                    rcases List.mem_append.1 he with he | he
                    · exact (hbase w rfl).el e he
                    · exact hsrc.el e he
                  · rw [List.drop_zero, List.length_append]; exact h3
                  · intro e he
                    rcases List.mem_append.1 he with he | he
                    · exact (hbase w rfl).on e he
                    · exact hsrc.on e he
            · exact hk.elim
          · cases ho
        · cases ho
      · cases ho
    · cases ho
  · cases ho
theorem opK_sound (h : Rep C V s H a w) {hs : Hints} (hE : ∀ t, memN hs.eqs t = true → EqOK P t)
    {Q : Exit → St → Heap → Prop} {o : Oper} {K : St → Heap → Prop} (hk : opK P hs Q o s H K) : o.wp P a w (Gam C K) (GamQ C Q) := by
  unfold opK at hk
  split at hk
  · rename_i x y sz ho
    obtain ⟨V', s', H', v, w', h1, h2, h3⟩ := inpK_sound h ho hk
    unfold Oper.wp
    rw [h3, Oper.upon_value]
    exact ⟨V', s', H', h2, h1⟩
  split at hk
  · rename_i r ho
    obtain ⟨-, V', s', H', v, w', h1, h2, h3⟩ := aprK_sound h ho hk
    unfold Oper.wp
    rw [h3, Oper.upon_value]
    exact ⟨V', s', H', h2, h1⟩
  split at hk
  · exact opC_sound h hE hk
  · obtain ⟨V', s', H', hk, h'⟩ := adoptK_sound h hk
    exact opC_sound h' hE hk
theorem rep_same (h : Rep C V s H a w) {g : Nat} {x : SV} (hx : x.rep V (a.tmps.getD g undef)) : Rep C V (s.set g x) H a w := by
  refine { env := ?_, len := ?_, dfr := h.dfr, sub := h.sub, objs := h.objs, priv := h.priv, dist := h.dist, os := h.os, tape := h.tape, output := h.output, size := h.size, other := h.other }
  · intro t z hz
    simp only [St.set, nth_setNth] at hz
    by_cases hg : g = t
    · subst hg
      simp only [if_true] at hz
      split at hz
      · cases hz; exact hx
      · cases hz
    · rw [if_neg hg] at hz
      exact h.env t z hz
  · simp only [St.set, setNth_eq, List.length_set]; exact h.len
theorem guard_yields {V : Vl} {s : St} {H : Heap} {a : Act} {w : World} (h : Rep C V s H a w) {ops : Array Oper} {j g : Nat} {p : Bool} (hg : guardDst ops.toList j = some g) (hs : s.get g = .c (.v (.bool p))) :
    yielded ops a.tmps j = some p ∧ a.tmps.getD g undef = .bool p := by
  have hrep := h.get g
  rw [hs] at hrep
  obtain ⟨hrep, -⟩ := hrep
  refine ⟨?_, hrep⟩
  have hlt : g < a.tmps.size := by
    rcases get_nth (s := s) (t := g) with ⟨e, _⟩ | e
    · rw [hs] at e; cases e
    · rw [nth_eq] at e
      have := (List.getElem?_eq_some_iff.1 e).1
      have := h.len
      omega
  unfold guardDst at hg
  rw [nth_eq] at hg
  split at hg
  · rename_i o ho
    have ho' : ops[j]? = some o := by simpa using ho
    unfold yielded
    rw [ho']
    have : a.tmps[g]? = some (.bool p) := by
      rw [Array.getD_eq_getD_getElem?, Array.getElem?_eq_getElem hlt] at hrep
      rw [Array.getElem?_eq_getElem hlt]
      simpa using hrep
    simp [hg, this]
  · cases hg
theorem guard_undef {V : Vl} {s : St} {H : Heap} {a : Act} {w : World} (h : Rep C V s H a w) {ops : Array Oper} {j g : Nat} (hg : guardDst ops.toList j = some g) (hs : s.get g = .tup []) :
    yielded ops a.tmps j = none := by
  have hrep := h.get g
  rw [hs] at hrep
  obtain ⟨ys, hy, hys⟩ := hrep
  have : ys = [] := hys
  subst this
  unfold guardDst at hg
  rw [nth_eq] at hg
  split at hg
  · rename_i o ho
    have ho' : ops[j]? = some o := by simpa using ho
    unfold yielded
    rw [ho', Option.bind_some, hg, Option.bind_some]
    rw [Array.getD_eq_getD_getElem?] at hy
    cases ha : a.tmps[g]? with
    | none => rfl
    | some v => rw [ha] at hy; simp at hy; subst hy; rfl
  · cases hg
theorem opsK_sound {hs : Hints} (hE : ∀ t, memN hs.eqs t = true → EqOK P t) {Q : Exit → St → Heap → Prop} {ops : Array Oper} : ∀ (l : List Oper) {V : Vl} {s : St} {H : Heap} {a : Act} {w : World}, Rep C V s H a w →
    opsK P hs Q ops.toList l s H → wpList P ops (GamQ C Q) l a w
  | [], V, s, H, a, w, h, hk => ⟨V, s, H, h, hk⟩
  | o :: r, V, s, H, a, w, h, hk => by
    have next : ∀ a w, Gam C (fun s' H' => opsK P hs Q ops.toList r s' H') a w → wpList P ops (GamQ C Q) r a w := by
      rintro a w ⟨V, s, H, h1, h2⟩
      exact opsK_sound hE r h1 h2
    have skip : ∀ {s : St} {a : Act}, Rep C V s H a w → opsK P hs Q ops.toList r (s.put o.dst (.tup [])) H → wpList P ops (GamQ C Q) r (a.put o.dst undef) w :=
      fun h' hk' => opsK_sound hE r (h'.put (x := .tup []) ⟨[], rfl, rfl⟩ o.dst) hk'
    unfold wpList
    simp only [opsK] at hk
    split at hk
    · rename_i hg
      rw [if_pos (by simp [Region.wanted, hg])]
      exact .inl (Oper.wp_mono next (opK_sound h hE hk))
    · rename_i j b hg
      split at hk
      · exact hk.elim
      · rename_i g hgd
        split at hk
        · rename_i p hp
          obtain ⟨hy, hv⟩ := guard_yields h hgd hp
          have hset : Rep C V (s.set g (.c (.v (.bool p)))) H a w := rep_same h ⟨hv, rfl⟩
          split at hk
          · cases p with
            | true =>
              rw [if_pos (by simp [Region.wanted, hg, hy])]
              exact .inl (Oper.wp_mono next (opK_sound hset hE hk))
            | false =>
              rw [if_neg (by simp [Region.wanted, hg, hy])]
              exact skip hset hk
          · cases p with
            | true =>
              rw [if_neg (by simp [Region.wanted, hg, hy])]
              exact skip hset hk
            | false =>
              rw [if_pos (by simp [Region.wanted, hg, hy])]
              exact .inl (Oper.wp_mono next (opK_sound hset hE hk))
        · rename_i hp
          have hy := guard_undef h hgd hp
          rw [if_neg (by simp [Region.wanted, hg, hy])]
          exact skip h hk
        · exact hk.elim
end
end Sx

set_option linter.unusedVariables false
set_option linter.unusedSimpArgs false
namespace Sx
open Go
set_option linter.unusedSectionVars false
variable [Dr]
section
variable {P : Program} {ops : Array Oper} {C : World → Prop} {PN : List PanicEntry → Act → World → Prop} {big wr rd : Nat → Bool} {n : Nat}

def pureAt (P : Program) (o : Oper) (a : Act) (w : World) (v : Value) : Prop := (execOp a.eval o).run P w = .ok (.value v) w ∨ ((execOp a.eval o).run P w = .ok .skip w ∧ v = undef)
/-- What an operation does that is no call by value. -/
def bigUpon (P : Program) (pan : List PanicEntry → World → Prop) (next : Value → World → Prop) : Result Next → Prop
  | .ok (.value v) w' => next v w'
  | .ok .skip w' => next undef w'
  | .ok (.enter f args) w' => Calls P f args w' fun e w'' => match e with | .returned v => next v w'' | .panicked c => pan c w'' | .outgrown => False
  | .halt (.panic v) w' => pan [{ v, recovered := false }] w'
  | _ => False
def bigAt (P : Program) (PN : List PanicEntry → Act → World → Prop) (o : Oper) (a : Act) (w : World) (next : Value → World → Prop) : Prop := bigUpon P (fun c w' => PN c a w') next ((execOp a.eval o).run P w)
theorem bigUpon_mono {p p' : List PanicEntry → World → Prop} {N N' : Value → World → Prop} {r : Result Next} (h : bigUpon P p N r) (hn : ∀ v w', N v w' → N' v w') (hp : ∀ c w', p c w' → p' c w') : bigUpon P p' N' r := by
  cases r with
  | ok x w' =>
    cases x <;> simp only [bigUpon] at h ⊢
    case value v => exact hn _ _ h
    case skip => exact hn _ _ h
    case enter f args =>
      refine h.mono fun e w'' hq => ?_
      cases e with
      | returned v => exact hn _ _ hq
      | panicked c => exact hp _ _ hq
      | outgrown => exact hq
  | halt x w' => cases x <;> first | exact h.elim | exact hp _ _ h
theorem bigAt_mono {PN : List PanicEntry → Act → World → Prop} {o : Oper} {a : Act} {w : World} {N N' : Value → World → Prop} (h : bigAt P PN o a w N) (hn : ∀ v w', N v w' → N' v w') : bigAt P PN o a w N' := bigUpon_mono h hn fun _ _ h => h
theorem bigAt_wp {PN : List PanicEntry → Act → World → Prop} {o : Oper} {a : Act} {w : World} {K : Act → World → Prop} {Q : Exit → Act → World → Prop} (hQ : ∀ c a w, PN c a w → Q (.panic c) a w)
    (h : bigAt P PN o a w fun v w' => K (a.put o.dst v) w') : o.wp P a w K Q := by
  unfold bigAt at h
  unfold Oper.wp
  generalize (execOp a.eval o).run P w = r at *
  cases r with
  | ok x w' =>
    cases x <;> simp only [bigUpon] at h <;> simp only [Oper.upon]
    case value v => exact h
    case skip => exact h
    case enter f args =>
      refine h.mono fun e w'' hq => ?_
      cases e with
      | returned v => exact hq
      | panicked c => exact hQ _ _ _ hq
      | outgrown => exact hq.elim
  | halt x w' => cases x <;> first | exact h.elim | exact hQ _ _ _ h

/-- Operation number i comes up. -/
def mOp (P : Program) (ops : Array Oper) (C : World → Prop) (PN : List PanicEntry → Act → World → Prop) (big wr rd : Nat → Bool) (i : Nat) (K : Act → World → Prop) (a : Act) (w : World) : Prop :=
  match ops[i]? with
  | none => False
  | some o => if Region.wanted o (yielded ops a.tmps) then
      (if big i then bigAt P PN o a w (fun v w' => (wr i = false → C w') ∧ K (a.put o.dst v) w') else ∃ v, (∀ w', (rd i = true → C w') → pureAt P o a w' v) ∧ K (a.put o.dst v) w)
    else K (a.put o.dst undef) w
theorem mOp_mono {i : Nat} {K K' : Act → World → Prop} {a : Act} {w : World} (h : mOp P ops C PN big wr rd i K a w) (hk : ∀ a w, K a w → K' a w) : mOp P ops C PN big wr rd i K' a w := by
  unfold mOp at *
  split at h
  · exact h.elim
  · split at h
    · rename_i hw
      rw [if_pos hw]
      split at h
      · rename_i hb; rw [if_pos hb]; exact bigAt_mono h fun v w' ⟨h1, h2⟩ => ⟨h1, hk _ _ h2⟩
      · rename_i hb; rw [if_neg hb]; obtain ⟨v, h1, h2⟩ := h; exact ⟨v, h1, hk _ _ h2⟩
    · rename_i hw; rw [if_neg hw]; exact hk _ _ h
def wpM (P : Program) (ops : Array Oper) (C : World → Prop) (PN : List PanicEntry → Act → World → Prop) (big wr rd : Nat → Bool) (n : Nat) (L : Array Bool → Act → World → Prop) : Nat → Array Bool → Act → World → Prop
  | 0, listed, a, w => L listed a w
  | f + 1, listed, a, w => Region.ready .any ops listed ≠ [] ∧ ∀ i ∈ Region.ready .any ops listed, i < n ∧ mOp P ops C PN big wr rd i (wpM P ops C PN big wr rd n L f (listed.setIfInBounds i true)) a w
/-- Something that looks into memory is still to come. -/
def Left (rd : Nat → Bool) (listed : Array Bool) : Prop := ∃ k, rd k = true ∧ listed.getD k true = false
theorem Left.back {listed : Array Bool} {i : Nat} (h : Left rd (listed.setIfInBounds i true)) : Left rd listed := by
  obtain ⟨k, h1, h2⟩ := h
  refine ⟨k, h1, ?_⟩
  by_cases hik : i = k
  · subst hik
    by_cases hs : i < listed.size
    · simp [hs] at h2
    · simp [Array.setIfInBounds, hs] at h2
  · rw [getD_set_ne true hik] at h2; exact h2
def Closed (ops : Array Oper) (listed : Array Bool) : Prop := ∀ (j : Nat) (oj : Oper), ops[j]? = some oj → listed.getD j false = true → ∀ (e : Edge), e ∈ oj.after → Region.binds .any e = true → listed.getD e.on false = true
theorem Closed.step {ops : Array Oper} {listed : Array Bool} {i : Nat} (h : Closed ops listed) (hi : i ∈ Region.ready .any ops listed) : Closed ops (listed.setIfInBounds i true) := by
  intro j oj hj hl e he hb
  have up : ∀ x, listed.getD x false = true → (listed.setIfInBounds i true).getD x false = true := fun x hx => by
    by_cases hix : i = x
    · subst hix
      by_cases hs : i < listed.size
      · simp [hs]
      · simp [hs] at hx
    · rw [getD_set_ne false hix]; exact hx
  by_cases hij : i = j
  · subst hij
    obtain ⟨_, o, ho, hall⟩ := mem_ready.1 hi
    rw [hj] at ho; cases ho
    exact up _ (hall e he hb)
  · rw [getD_set_ne false hij] at hl
    exact up _ (h j oj hj hl e he hb)
theorem reach_spec {ops : Array Oper} {listed : Array Bool} (h : Closed ops listed) {k : Nat} : ∀ (f j : Nat), reach ops f k j = true → (∀ oj, ops[j]? = some oj → ∀ (e : Edge), e ∈ oj.after → Region.binds .any e = true → listed.getD e.on false = true) → listed.getD k false = true
  | 0, j, hr, _ => by cases hr
  | f + 1, j, hr, hall => by
    unfold reach at hr
    split at hr
    · rename_i oj hoj
      simp only [List.any_eq_true, Bool.and_eq_true, Bool.or_eq_true] at hr
      obtain ⟨e, he, hb, hr⟩ := hr
      have he' : e ∈ oj.after := by simpa using he
      have h1 := hall oj hoj e he' hb
      rcases hr with hr | ⟨_, hr⟩
      · have := nbt hr; rw [← this]; exact h1
      · exact reach_spec h f e.on hr fun o ho e' he' hb' => h _ _ ho h1 e' he' hb'
    · cases hr
theorem wpAny_of_wpM {g : Nat} {L : Array Bool → Act → World → Prop} {Q : Exit → Act → World → Prop} (hwr : ∀ i k, wr i = true → rd k = true → ∀ listed, Closed ops listed → i ∈ Region.ready .any ops listed → listed.getD k false = true)
    (hQ : ∀ c a w, PN c a w → Q (.panic c) a w) (hL : ∀ listed a w, L listed a w → wpAny P .any ops Q g listed a w) :
    ∀ (f : Nat) (listed : Array Bool) (a : Act) (w : World), Closed ops listed → (Left rd listed → C w) → wpM P ops C PN big wr rd n L f listed a w → wpAny P .any ops Q (f + g) listed a w
  | 0, listed, a, w, _, hc, h => by rw [Nat.zero_add]; exact hL _ _ _ h
  | f + 1, listed, a, w, hcl, hc, h => by
    rw [show f + 1 + g = (f + g) + 1 by omega]
    refine ⟨fun h0 => absurd h0 h.1, fun i hi => ?_⟩
    have h1 := (h.2 i hi).2
    unfold mOp at h1
    unfold wpOp
    split at h1
    · exact h1.elim
    · rename_i o ho
      simp only [ho]
      split at h1
      · rename_i hw
        rw [if_pos hw]
        left
        split at h1
        · refine bigAt_wp hQ (bigAt_mono h1 fun v w' ⟨h2, h3⟩ => wpAny_of_wpM hwr hQ hL f _ _ _ (hcl.step hi) ?_ h3)
          intro hl
          cases hwi : wr i with
          | false => exact h2 hwi
          | true =>
            exfalso
            obtain ⟨k, hk1, hk2⟩ := hl.back
            have := hwr i k hwi hk1 listed hcl hi
            rw [getD_both hk2] at this
            cases this
        · obtain ⟨v, h2, h3⟩ := h1
          have := wpAny_of_wpM hwr hQ hL f _ _ _ (hcl.step hi) (fun hl => hc hl.back) h3
          unfold Oper.wp
          rcases h2 w (fun hr => hc ⟨i, hr, (mem_ready.1 hi).1⟩) with h4 | ⟨h4, rfl⟩
          · rw [h4, Oper.upon_value]; exact this
          · rw [h4, Oper.upon_skip]; exact this
      · rename_i hw; rw [if_neg hw]; exact wpAny_of_wpM hwr hQ hL f _ _ _ (hcl.step hi) (fun hl => hc hl.back) h1
/-- What is known of an operation that only looks, or is passed over. -/
def Yl (P : Program) (ops : Array Oper) (C : World → Prop) (r : Bool) (o : Oper) (v : Value) (a : Act) : Prop :=
  (Region.wanted o (yielded ops a.tmps) = true ∧ ∀ w', (r = true → C w') → pureAt P o a w' v) ∨ (Region.wanted o (yielded ops a.tmps) = false ∧ v = undef)
theorem Yl.of_same {r : Bool} {o : Oper} {v : Value} {a a' : Act} (hy : Yl P ops C r o v a) (he : execOp a'.eval o = execOp a.eval o)
    (hw : Region.wanted o (yielded ops a'.tmps) = Region.wanted o (yielded ops a.tmps)) : Yl P ops C r o v a' := by
  unfold Yl pureAt at *
  rw [he, hw]; exact hy
theorem Yl.mOp {i : Nat} {o : Oper} {v : Value} {a : Act} {w : World} (hi : ops[i]? = some o) (hy : Yl P ops C (rd i) o v a) (hb : big i = false ∨ Region.wanted o (yielded ops a.tmps) = false) {K : Act → World → Prop} (h : K (a.put o.dst v) w) :
    mOp P ops C PN big wr rd i K a w := by
  unfold Sx.mOp
  simp only [hi]
  rcases hy with ⟨hw, hv⟩ | ⟨hw, rfl⟩
  · rcases hb with hb | hb
    · rw [if_pos hw, if_neg (by simp [hb])]; exact ⟨v, hv, h⟩
    · rw [hw] at hb; cases hb
  · rw [if_neg (by simp [hw])]; exact h
theorem yl_of_mOp {i : Nat} {o : Oper} {a : Act} {w : World} {K : Act → World → Prop} (hi : ops[i]? = some o) (hb : big i = false ∨ Region.wanted o (yielded ops a.tmps) = false) (h : mOp P ops C PN big wr rd i K a w) : ∃ v, Yl P ops C (rd i) o v a ∧ K (a.put o.dst v) w := by
  unfold mOp at h
  simp only [hi] at h
  by_cases hw : Region.wanted o (yielded ops a.tmps) = true
  · rcases hb with hb | hb
    · rw [if_pos hw, if_neg (by simp [hb])] at h
      obtain ⟨v, h1, h2⟩ := h
      exact ⟨v, .inl ⟨hw, h1⟩, h2⟩
    · rw [hw] at hb; cases hb
  · rw [if_neg hw] at h
    exact ⟨undef, .inr ⟨by simpa using hw, rfl⟩, h⟩
theorem mOp_put {j : Nat} {r : Bool} {oi oj : Oper} {v : Value} (hP : ∀ c (a : Act) w v, PN c (a.put oi.dst v) w → PN c a w) (hj : ops[j]? = some oj) (hap : oi.apart ops oj = true) (hsi : ∀ cs b, oi.op ≠ .select cs b) (hsj : ∀ cs b, oj.op ≠ .select cs b)
    {K : Act → World → Prop} {a : Act} {w : World} (hy : Yl P ops C r oi v a) (h : mOp P ops C PN big wr rd j K (a.put oi.dst v) w) :
    mOp P ops C PN big wr rd j (fun a' w' => Yl P ops C r oi v a' ∧ Region.wanted oi (yielded ops a'.tmps) = Region.wanted oi (yielded ops a.tmps) ∧ K (a'.put oi.dst v) w') a w := by
  obtain ⟨h1, h2, h3⟩ := Oper.apart_spec hap
  have keep : ∀ u, Yl P ops C r oi v (a.put oj.dst u) := fun u => hy.of_same (execOp_put oi hsi a oj.dst u h3) (wanted_put oi a oj.dst u h3)
  have want : ∀ u, Region.wanted oi (yielded ops (a.put oj.dst u).tmps) = Region.wanted oi (yielded ops a.tmps) := fun u => wanted_put oi a oj.dst u h3
  unfold mOp at *
  simp only [hj] at *
  rw [wanted_put oj a oi.dst v h1] at h
  split
  · rename_i hw
    rw [if_pos hw] at h
    split
    · rename_i hb
      rw [if_pos hb] at h
      unfold bigAt at h ⊢
      rw [execOp_put oj hsj a oi.dst v h1] at h
      exact bigUpon_mono h (fun u w' ⟨hc, hk⟩ => ⟨hc, keep u, want u, by rw [← Act.put_comm a v u h2]; exact hk⟩) fun c w' hp => hP c a w' v hp
    · rename_i hb
      rw [if_neg hb] at h
      obtain ⟨u, hu, hk⟩ := h
      refine ⟨u, fun w' hw' => ?_, keep u, want u, by rw [← Act.put_comm a v u h2]; exact hk⟩
      have := hu w' hw'
      unfold pureAt at *
      rwa [execOp_put oj hsj a oi.dst v h1] at this
  · rename_i hw
    rw [if_neg hw] at h
    exact ⟨keep _, want _, by rw [← Act.put_comm a v undef h2]; exact h⟩
theorem tailB_spec (h : tailB ops n = true) {listed : Array Bool} {i : Nat} (hi : i < n) (hun : listed.getD i true = false) : ∀ j ∈ Region.ready .any ops listed, j < n := by
  intro j hj
  rcases Nat.lt_or_ge j n with hlt | hge
  · exact hlt
  · obtain ⟨_, oj, hoj, hall⟩ := mem_ready.1 hj
    have hjs : j < ops.size := (Array.getElem?_eq_some_iff.1 hoj).1
    have h1 := List.all_eq_true.1 h j (List.mem_range.2 hjs)
    simp only [Bool.or_eq_true, Nat.blt_eq] at h1
    rcases h1 with h1 | h1
    · omega
    · obtain ⟨o', ho', e, he, hb, hon⟩ := Region.waitsFor_spec (List.all_eq_true.1 h1 i (List.mem_range.2 hi))
      have : o' = oj := Option.some.inj (ho'.symm.trans hoj)
      subst this
      have h2 := hall e he hb
      rw [hon, getD_both hun] at h2
      cases h2
/-- A quiet operation may be taken first. -/
theorem wpM_quiet {L : Array Bool → Act → World → Prop} (hL : ∀ listed a w, L listed a w → ∀ j ∈ Region.ready .any ops listed, n ≤ j) (ht : tailB ops n = true) (hsel : ∀ (j : Nat) (o : Oper) cs b, ops[j]? = some o → o.op ≠ .select cs b)
    (hP : ∀ (j : Nat) (o : Oper), ops[j]? = some o → ∀ c (a : Act) w v, PN c (a.put o.dst v) w → PN c a w)
    {i : Nat} {oi : Oper} {v : Value} (hi : ops[i]? = some oi) (hin : i < n) :
    ∀ (f : Nat) (listed : Array Bool) (a : Act) (w : World),
      (∀ j oj, ops[j]? = some oj → j ≠ i → listed.getD j true = false → (∀ e ∈ oj.after, Region.binds .any e = true → e.on ≠ i) → oi.apart ops oj = true) →
      i ∈ Region.ready .any ops listed → Yl P ops C (rd i) oi v a → (big i = false ∨ Region.wanted oi (yielded ops a.tmps) = false) →
      wpM P ops C PN big wr rd n L f (listed.setIfInBounds i true) (a.put oi.dst v) w → wpM P ops C PN big wr rd n L (f + 1) listed a w := by
  intro f
  induction f with
  | zero =>
    intro listed a w _ hr hy hb H
    have hun := (mem_ready.1 hr).1
    refine ⟨fun h => (by rw [h] at hr; cases hr), fun j hj => ?_⟩
    have hjn := tailB_spec ht hin hun j hj
    refine ⟨hjn, ?_⟩
    by_cases hji : j = i
    · subst hji; exact hy.mOp hi hb H
    · have := hL _ _ _ H j (ready_mono hj hji)
      omega
  | succ f ih =>
    intro listed a w hfree hr hy hb H
    have hun := (mem_ready.1 hr).1
    refine ⟨fun h => (by rw [h] at hr; cases hr), fun j hj => ?_⟩
    have hjn := tailB_spec ht hin hun j hj
    refine ⟨hjn, ?_⟩
    by_cases hji : j = i
    · subst hji; exact hy.mOp hi hb H
    · have h1 := (H.2 j (ready_mono hj hji)).2
      obtain ⟨hjun, oj, hoj, hall⟩ := mem_ready.1 hj
      have hnot : ∀ e ∈ oj.after, Region.binds .any e = true → e.on ≠ i := fun e he hbb heq => by
        have h1 := hall e he hbb
        rw [heq, getD_both hun] at h1
        cases h1
      have h2 := mOp_put (hP i oi hi) hoj (hfree j oj hoj hji hjun hnot) (fun cs b => hsel i oi cs b hi) (fun cs b => hsel j oj cs b hoj) hy h1
      have hfree' : ∀ k ok, ops[k]? = some ok → k ≠ i → (listed.setIfInBounds j true).getD k true = false →
          (∀ e ∈ ok.after, Region.binds .any e = true → e.on ≠ i) → oi.apart ops ok = true := fun k ok hk hki hun hno => by
        refine hfree k ok hk hki ?_ hno
        by_cases hjk : j = k
        · subst hjk; exact hjun
        · rw [getD_set_ne true hjk] at hun; exact hun
      refine mOp_mono h2 fun a' w' h3 => ih (listed.setIfInBounds j true) a' w' hfree' (ready_mono hr (Ne.symm hji)) h3.1 (hb.imp id fun hb => by rw [h3.2.1]; exact hb) ?_
      rw [Array.setIfInBounds_comm _ _ hji]
      exact h3.2.2
/-! ### One order -/
def mList (P : Program) (ops : Array Oper) (C : World → Prop) (PN : List PanicEntry → Act → World → Prop) (big wr rd : Nat → Bool) (N : Act → World → Prop) : List Nat → Act → World → Prop
  | [], a, w => N a w
  | k :: r, a, w => mOp P ops C PN big wr rd k (mList P ops C PN big wr rd N r) a w
theorem wpM_lex {fin : Array Bool → Bool} {N : Act → World → Prop} (hfin : ∀ l', fin l' = true → ∀ j ∈ Region.ready .any ops l', n ≤ j) (hsel : Region.noSelect ops = true) (ht : tailB ops n = true)
    (hP : ∀ (j : Nat) (o : Oper), ops[j]? = some o → ∀ c (a : Act) w v, PN c (a.put o.dst v) w → PN c a w) :
    ∀ (l : List Nat) (listed : Array Bool) (a : Act) (w : World), HeadInv .any ops n listed → lexB ops n big fin l listed = true → mList P ops C PN big wr rd N l a w →
      wpM P ops C PN big wr rd n (fun l' a' w' => HeadInv .any ops n l' ∧ fin l' = true ∧ N a' w') l.length listed a w
  | [], listed, a, w, inv, hB, h => ⟨inv, by simpa [lexB] using hB, h⟩
  | k :: r, listed, a, w, inv, hB, h => by
    simp only [lexB, Bool.and_eq_true] at hB
    obtain ⟨⟨hkn, hk⟩, hB'⟩ := hB
    have hkn : k < n := by simpa [Nat.blt_eq] using hkn
    have hr' : k ∈ Region.ready .any ops listed := by
      split at hk <;> simp only [Bool.and_eq_true] at hk
      · simpa using hk.2
      · simpa using hk.1
    obtain ⟨_, o, ho, _⟩ := mem_ready.1 hr'
    have hL : ∀ (l' : Array Bool) (a' : Act) (w' : World), (HeadInv .any ops n l' ∧ fin l' = true ∧ N a' w') → ∀ j ∈ Region.ready .any ops l', n ≤ j := fun l' a' w' h => hfin l' h.2.1
    have rest : ∀ a' w', mList P ops C PN big wr rd N r a' w' → wpM P ops C PN big wr rd n (fun l' a' w' => HeadInv .any ops n l' ∧ fin l' = true ∧ N a' w') r.length (listed.setIfInBounds k true) a' w' :=
      fun a' w' h' => wpM_lex hfin hsel ht hP r _ a' w' (inv.set hr' hkn) hB' h'
    simp only [mList] at h
    split at hk
    · rename_i hb
      simp only [Bool.and_eq_true, List.all_eq_true] at hk
      refine ⟨fun h0 => (by rw [h0] at hr'; cases hr'), fun j hj => ?_⟩
      have := nbt (hk.1 j hj)
      subst this
      exact ⟨hkn, mOp_mono h fun a' w' h' => rest a' w' h'⟩
    · rename_i hb
      simp only [Bool.and_eq_true] at hk
      obtain ⟨v, hy, hK⟩ := yl_of_mOp ho (.inl hb) h
      exact wpM_quiet hL ht (Region.noSelect_spec hsel) hP ho hkn r.length listed a w (Region.free_spec ho hk.2) hr' hy (.inl hb) (rest _ _ hK)
theorem tailB_all : tailB ops ops.size = true := by
  simp only [tailB, List.all_eq_true, Bool.or_eq_true]
  intro j hj
  left
  simpa [Nat.blt_eq] using hj
theorem fin2_none {l' : Array Bool} (h : fin2 ops l' = true) : Region.ready .any ops l' = [] := by
  cases hr : Region.ready .any ops l' with
  | nil => rfl
  | cons j r =>
    have hj : j ∈ Region.ready .any ops l' := by rw [hr]; simp
    simp only [fin2, List.all_eq_true] at h
    have h1 := Nat.le_of_ble_eq_true (h j hj)
    obtain ⟨_, o, ho, _⟩ := mem_ready.1 hj
    have := (Array.getElem?_eq_some_iff.1 ho).1
    omega
/-- A statement whose order is drawn, from one order. -/
theorem wp_region_mix {id : Nat} {Q : Exit → Act → World → Prop} {a : Act} {w : World} {l : List Nat} (hm : P.follows .mixedOrders = true) (hsel : Region.noSelect ops = true) (hll : l.length = ops.size)
    (hlex : lexB ops ops.size big (fin2 ops) l (Array.replicate ops.size false) = true) (hwr : ∀ i k, wr i = true → rd k = true → ∀ listed, Closed ops listed → i ∈ Region.ready .any ops listed → listed.getD k false = true) (hC : C { w with drawn := w.drawn + 1 })
    (hQ : ∀ c a w, PN c a w → Q (.panic c) a w) (hP : ∀ (j : Nat) (o : Oper), ops[j]? = some o → ∀ c (a : Act) w v, PN c (a.put o.dst v) w → PN c a w)
    (h : mList P ops C PN big wr rd (Q .normal) l a { w with drawn := w.drawn + 1 }) : (Code.region id ops true).wp P Q a w := by
  have inv0 : HeadInv .any ops ops.size (Array.replicate ops.size false) :=
    ⟨by simp, fun j oj _ hl => (by rw [getD_replicate_false] at hl; cases hl), fun t h1 h2 => by omega⟩
  have h1 := wpM_lex (fun l' hf j hj => by rw [fin2_none hf] at hj; cases hj) hsel tailB_all hP l _ a _ inv0 hlex h
  refine wp_region_any hm ?_
  have h2 := wpAny_of_wpM (g := 0) (Q := Q) hwr hQ (fun listed a' w' hl => ⟨fin2_none hl.2.1, hl.2.2⟩) l.length _ a _ inv0.closed (fun _ => hC) h1
  rw [hll] at h2
  exact h2
end
end Sx

set_option linter.unusedVariables false
set_option linter.unusedSimpArgs false
namespace Sx
open Go
set_option linter.unusedSectionVars false
variable [Dr]
section
variable {P : Program} {C : Ctx} {V : Vl} {s : St} {H : Heap} {a : Act} {w : World}

def GoesA (P : Program) (C : Ctx) (V : Vl) (o : Oper) (a : Act) (w : World) (K : St → Prop) (H : Heap) : Prop :=
  ∃ d, o.dst = some d ∧ ∃ V' s' y w', K s' ∧ Rep C V' s' H (a.put o.dst y) w' ∧ Off d V V' ∧ Only w w' (fun _ => False) ∧ (∀ ob b, look s'.objs d = some ob → privB V' d ob = some b → w.heap.size ≤ b) ∧ ((execOp a.eval o).run P w = .ok (.value y) w' ∨ ((execOp a.eval o).run P w = .ok .skip w' ∧ y = undef))
theorem new_at {d : Nat} {l : List (Nat × AObj)} {ob0 : AObj} {V' : Vl} {n : Nat} (h : privB V' d ob0 = some n) : ∀ ob b, look (objSet l d ob0) d = some ob → privB V' d ob = some b → n ≤ b := by
  intro ob b h1 h2
  rw [look_objSet, if_pos rfl] at h1
  cases h1
  rw [h] at h2
  cases h2
  exact Nat.le_refl _
theorem allocK_sound (h : Rep C V s H a w) {Hr : Heap} (hr : Hr ≤ H) (o : Oper) (hop : isAlloc o.op = true) {K : St → Prop} (hk : objK P o s Hr K) : GoesA P C V o a w K H := by
  have hsub := le_sub hr h.sub
  unfold objK at hk
  unfold GoesA execOp
  split at hk
  · -- alloc
    rename_i t d ho hd
    rw [ho, hd]
    split at hk
    · rename_i z ks hf hz hks
      obtain ⟨i, v, hi, hv, rfl, hone⟩ := zeroT_eq hz
      split at hk
      · rename_i l hl
        obtain ⟨V', hoff, hrep, hnb⟩ := new_box h hf t (parse_rep (V := V) hl hone) (parse_refs hl)
        refine ⟨_, rfl, V', _, _, _, hk, hrep, hoff, alloc_only _ _, new_at (by simp [privB, hnb, blockOf]), .inl (exec_v ?_)⟩
        simp only [Instr.alloc, Sem.run_bind, run_zero hi hv, Result.andThen_ok, newVar, newRow_run, Sem.run_pure]
      · exact hk.elim
    · exact hk.elim
  · -- box
    rename_i t x d ho hd
    rw [ho, hd]
    split at hk
    · rename_i l hf hl
      obtain ⟨V', hoff, hrep, hnb⟩ := new_box h hf t (segs_rep (h.ev x) hl) (segs_refs (ev_refs hf x) hl)
      refine ⟨_, rfl, V', _, _, _, hk, hrep, hoff, alloc_only _ _, new_at (by simp [privB, hnb, blockOf]), .inl (exec_v ?_)⟩
      simp only [Instr.box, Sem.run_bind, newVar, newRow_run, Result.andThen_ok, Sem.run_pure]
    · exact hk.elim
  · -- store
    rename_i ho _
    rw [ho] at hop; cases hop
  · -- buildSlice
    rename_i t n parts d ho hd
    rw [ho, hd]
    split at hk
    · rename_i e sz hf he
      split at hk
      · rename_i es hes hn
        obtain ⟨hu, i, hi, rfl⟩ := sliceElem_eq he
        have hn' := Nat.le_of_ble_eq_true hn
        obtain ⟨h1, h2, h2', h3⟩ := elemsOf_rep h _ _ _ hes
        split at hk
        · rename_i z hz
          obtain ⟨i', v, hi', hv, rfl, hone⟩ := zeroT_eq hz
          have hz1 : (if n * i.size = 0 then (pure #[] : Sem (Array Value)) else do pure (← zeroValue e).cells).run P w = .ok (if n * i.size = 0 then #[] else v.cells) w := by
            split
            · rfl
            · simp only [Sem.run_bind, run_zero hi' hv, Result.andThen_ok, Sem.run_pure]
          generalize hq : (if n * i.size = 0 then #[] else v.cells) = zq at hz1
          generalize hcells : (Array.range (n * i.size)).map (zq[· % zq.size]!) = cells
          have hcl : cells.size = n * i.size := by rw [← hcells]; simp
          obtain ⟨cs, h4, h5⟩ := h3 cells [] (by simp) (by simpa using hcl) (by simp)
          have hcs : cs.size = n * i.size := by rw [← Array.length_toList, h5, List.nil_append, flatten_len h2, h1]
          obtain ⟨V', hoff, hrep, hnb⟩ := new_row h hf (es := es) (ty := e) (sz := i.size) (cap := n) (c := cs) none (w' := { w with heap := w.heap.push (.cells cs e) }) (alloc_only _ _) (by simp) (by omega) (by omega) h2
            (by rw [h5, List.nil_append, List.take_of_length_le (by rw [flatten_len h2]; exact Nat.le_refl _)]) h2'
          rw [h1] at hrep
          refine ⟨_, rfl, V', _, _, _, hk, hrep, hoff, alloc_only _ _, new_at (by simp [privB, hnb, blockOf]), .inl (exec_v ?_)⟩
          simp only [Instr.buildSlice, Sem.run_bind, run_underlying hu, Result.andThen_ok, run_sizeT hi]
          rw [if_neg (by omega)]
          by_cases hzero : n * i.size = 0
          · rw [if_pos hzero] at hq ⊢
            subst hq
            simp only [Sem.run_bind, Sem.run_pure, Result.andThen_ok, Array.toList_map]
            rw [hcells, h4]
            simp only [Sem.run_bind, newRow_run, Result.andThen_ok, Sem.run_pure]
          · rw [if_neg hzero] at hq ⊢
            subst hq
            simp only [Sem.run_bind, run_zero hi' hv, Sem.run_pure, Result.andThen_ok, Array.toList_map]
            rw [hcells, h4]
            simp only [Sem.run_bind, newRow_run, Result.andThen_ok, Sem.run_pure]
        · exact hk.elim
      · exact hk.elim
    · exact hk.elim
  · -- makeSlice
    rename_i t n c d ho hd
    rw [ho, hd]
    have hn := h.ev n
    have hc := h.ev c
    split at hk
    · rename_i e sz hf he
      split at hk
      · rename_i n' c' z by_ hn1 hc1 hz hby
        rw [hn1] at hn
        rw [hc1] at hc
        obtain ⟨hn, -⟩ := hn
        obtain ⟨hc, -⟩ := hc
        split at hk
        · rename_i hzl
          have hzl := nbt hzl
          obtain ⟨⟨h0, rfl, hroom⟩, hK⟩ := hk
          obtain ⟨hu, i, hi, rfl⟩ := sliceElem_eq he
          obtain ⟨i', v, hi', hv, rfl, hone⟩ := zeroT_eq hz
          rw [hi] at hi'; cases hi'
          have hby' : i.bytes = by_ + 1 := by simp [bytesT, hi] at hby; exact hby
          have hle : c' ≤ roomMax := by
            refine Int.le_trans ?_ hroom
            have : c' * 1 ≤ c' * ((by_ + 1 : Nat) : Int) := Int.mul_le_mul_of_nonneg_left (by omega) h0
            simpa using this
          have hwrap : IntKind.i64.wrap c' = c' := IntWalk.i64_in c' (by unfold roomMax at hle; omega)
          have hzs : v.cells.size = i.size := by simpa using hzl
          have hz1 : (if c'.toNat * i.size = 0 then (pure #[] : Sem (Array Value)) else do pure (← zeroValue e).cells).run P w = .ok (if c'.toNat * i.size = 0 then #[] else v.cells) w := by
            split
            · rfl
            · simp only [Sem.run_bind, run_zero hi hv, Result.andThen_ok, Sem.run_pure]
          generalize hq : (if c'.toNat * i.size = 0 then #[] else v.cells) = zq at hz1
          have hcells : ((Array.range (c'.toNat * i.size)).map (zq[· % zq.size]!)).toList = (List.replicate c'.toNat v.cells.toList).flatten := by
            by_cases hzero : c'.toNat * i.size = 0
            · rw [hzero]
              have : (List.replicate c'.toNat v.cells.toList).flatten = [] := by
                apply List.eq_nil_of_length_eq_zero
                rw [flatten_len (sz := i.size) (by intro e he; rw [List.eq_of_mem_replicate he]; simpa using hzl)]
                simpa using hzero
              rw [this]; simp
            · rw [if_neg hzero] at hq
              subst hq
              rw [← hzs]
              exact zeros_list _
          have hrepl : ∀ e ∈ List.replicate c'.toNat v.cells.toList, e.length = i.size := by
            intro e he; rw [List.eq_of_mem_replicate he]; simpa using hzl
          obtain ⟨V', hoff, hrep, hnb⟩ := new_row h hf (es := List.replicate c'.toNat v.cells.toList) (ty := e) (sz := i.size) (cap := c'.toNat) (c := (Array.range (c'.toNat * i.size)).map (zq[· % zq.size]!)) none (w' := { w with heap := w.heap.push (.cells ((Array.range (c'.toNat * i.size)).map (zq[· % zq.size]!)) e) }) (alloc_only _ _) (by simp) (by simp) (by simp) hrepl
            (by rw [hcells, List.take_of_length_le (by rw [flatten_len hrepl]; exact Nat.le_refl _)]) (by intro e he; rw [List.eq_of_mem_replicate he]; exact hone)
          rw [List.length_replicate] at hrep
          refine ⟨_, rfl, V', _, _, _, hK, hrep, hoff, alloc_only _ _, new_at (by simp [privB, hnb, blockOf]), .inl (exec_v ?_)⟩
          rw [hn, hc]
          have hb48 : ¬ ((i.bytes : Int) * c' > 2 ^ 48) := by
            rw [hby', Int.mul_comm]
            unfold roomMax at hroom
            omega
          have hcond : ¬ (c' < 0 || (i.bytes : Int) * c' > 2 ^ 48 || c' < 0 || c' > c') = true := by
            simp; omega
          simp only [Instr.makeSlice, Sem.run_bind, run_underlying hu, Result.andThen_ok, asInt, asIntOf, Sem.run_pure, typeInfo, run_program, hi, hwrap]
          rw [if_neg (by simpa using hcond)]
          have hask : (askRoom (c'.toNat * i.bytes)).run P w = .ok () w := by unfold askRoom; split <;> rfl
          simp only [Sem.run_bind, hask, Result.andThen_ok, run_sizeT hi]
          by_cases hzero : c'.toNat * i.size = 0
          · rw [if_pos hzero] at hq ⊢
            subst hq
            simp only [Sem.run_bind, Sem.run_pure, Result.andThen_ok, newRow_run]
          · rw [if_neg hzero] at hq ⊢
            subst hq
            simp only [Sem.run_bind, run_zero hi hv, Sem.run_pure, Result.andThen_ok, newRow_run]
        · exact hk.elim
      · exact hk.elim
    · exact hk.elim
  · -- append
    rename_i ho _
    rw [ho] at hop; cases hop
  · exact hk.elim
end
end Sx
