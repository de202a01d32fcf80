/- Operations that make or write private variables: soundness. -/
import Derived.Test.YtekaopahienmgaaSxE
set_option linter.unusedVariables false
set_option linter.unusedSimpArgs false
namespace Sx
open Go
section
variable {P : Program} {C : Ctx} {V : Vl} {s : St} {H : Heap} {a : Act} {w : World}

/-- Alike but at one name. -/
def Off (d : Nat) (V V' : Vl) : Prop := ∀ s, s ≠ d → V'.blk s = V.blk s ∧ V'.row s = V.row s
theorem sc_off {d : Nat} {V V' : Vl} (hV : Off d V V') {x : SC} {y : Value} (hx : x.refs d = false) (h : x.rep V y) : x.rep V' y := by
  have ne : ∀ {n : Nat}, Nat.beq n d = false → n ≠ d := fun h e => by subst e; simp at h
  cases x with
  | v z => exact h
  | box s off => simp only [SC.refs] at hx; simp only [SC.rep] at h ⊢; rw [(hV s (ne hx)).1]; exact h
  | boxi s off n i => simp only [SC.refs] at hx; simp only [SC.rep] at h ⊢; rw [(hV s (ne hx)).1]; exact h
  | arr s off n lo hi => simp only [SC.refs] at hx; simp only [SC.rep] at h ⊢; rw [(hV s (ne hx)).1]; exact h
  | row s => simp only [SC.refs] at hx; simp only [SC.rep] at h ⊢; rw [(hV s (ne hx)).2]; exact h
  | sub s sz lo hi => simp only [SC.refs] at hx; simp only [SC.rep] at h ⊢; rw [(hV s (ne hx)).2]; exact h
  | cell s sz i off => simp only [SC.refs] at hx; simp only [SC.rep] at h ⊢; rw [(hV s (ne hx)).2]; exact h
  | clo fn first caps =>
    simp only [SC.refs] at hx; simp only [SC.rep] at h ⊢
    rw [h]
    congr 2
    refine List.map_congr_left fun c hc => ?_
    rw [List.any_eq_false] at hx
    have := hx c hc
    cases c with
    | b s => simp only [Bool.not_eq_true] at this; simp only [Cap.real]; rw [(hV s (ne this)).1]
    | v x => rfl
  | bad => trivial
theorem segs_off {d : Nat} {V V' : Vl} (hV : Off d V V') : ∀ {l : List Seg} {cs : List Value}, l.any (Seg.refs d) = false → SegsRep V l cs → SegsRep V' l cs
  | [], cs, _, h => h
  | .c x :: r, cs, hl, h => by
    simp only [List.any_cons, Bool.or_eq_false_iff] at hl
    obtain ⟨y, l', rfl, hx, hr⟩ := h
    exact ⟨y, l', rfl, sc_off hV hl.1 hx, segs_off hV hl.2 hr⟩
  | .ints k n xs :: r, cs, hl, h => by
    simp only [List.any_cons, Bool.or_eq_false_iff] at hl
    obtain ⟨hn, l', rfl, hr⟩ := h
    exact ⟨hn, l', rfl, segs_off hV hl.2 hr⟩
theorem comps_off {d : Nat} {V V' : Vl} (hV : Off d V V') : ∀ {l : List Comp} {cs : List Value}, l.any (Comp.refs d) = false → CompsRep V l cs → CompsRep V' l cs
  | [], cs, _, h => h
  | x :: r, cs, hl, h => by
    simp only [List.any_cons, Bool.or_eq_false_iff] at hl
    obtain ⟨y, l', rfl, hx, hr⟩ := h
    refine ⟨y, l', rfl, ?_, comps_off hV hl.2 hr⟩
    cases x with
    | c x => exact sc_off hV hl.1 hx
    | agg l => obtain ⟨cs, h1, h2⟩ := hx; exact ⟨cs, h1, segs_off hV hl.1 h2⟩
theorem sv_off {d : Nat} {V V' : Vl} (hV : Off d V V') {x : SV} {y : Value} (hx : x.refs d = false) (h : x.rep V y) : x.rep V' y := by
  cases x with
  | c x => exact sc_off hV hx h
  | agg l => obtain ⟨cs, h1, h2⟩ := h; exact ⟨cs, h1, segs_off hV hx h2⟩
  | tup l => obtain ⟨cs, h1, h2⟩ := h; exact ⟨cs, h1, comps_off hV hx h2⟩
theorem look_mem : ∀ {l : List (Nat × AObj)} {d : Nat} {o : AObj}, look l d = some o → (d, o) ∈ l
  | [], d, o, h => by simp [look] at h
  | (k, x) :: r, d, o, h => by
    simp only [look] at h
    split at h
    · rename_i hb; cases h; have := nbt hb; subst this; simp
    · exact List.mem_cons_of_mem _ (look_mem h)
theorem free_env {d : Nat} (h : s.free d = true) : ∀ t x, nth s.env t = some x → x.refs d = false := by
  intro t x hx
  simp only [St.free, Bool.and_eq_true, Bool.not_eq_true'] at h
  rw [nth_eq] at hx
  have := h.1
  rw [List.any_eq_false] at this
  simpa using this x (List.mem_of_getElem? hx)
theorem free_obj {d : Nat} (h : s.free d = true) : ∀ d' o, look s.objs d' = some o → d' ≠ d ∧ o.refs d = false := by
  intro d' o ho
  simp only [St.free, Bool.and_eq_true, Bool.not_eq_true'] at h
  have := h.2.1
  rw [List.any_eq_false] at this
  have h1 := this (d', o) (look_mem ho)
  simp only [Bool.or_eq_true, not_or, Bool.not_eq_true] at h1
  exact ⟨fun e => by subst e; simp at h1, h1.2⟩
theorem free_dfr {d : Nat} {V V' : Vl} (hV : Off d V V') (h : s.free d = true) : s.dfr.map (ADef.real V') = s.dfr.map (ADef.real V) := by
  simp only [St.free, Bool.and_eq_true, Bool.not_eq_true'] at h
  have := h.2.2
  rw [List.any_eq_false] at this
  refine List.map_congr_left fun x hx => ?_
  have h1 := this x hx
  simp only [Bool.not_eq_true, List.any_eq_false] at h1
  simp only [ADef.real]
  congr 2
  refine List.map_congr_left fun k hk => ?_
  rw [(hV k (fun e => by subst e; have := h1 k hk; simp at this)).1]
theorem base_no {C : Ctx} {b : Nat} (h : C.w0.heap.size ≤ b ∨ C.H0 b ≠ none) (h1 : b < C.w0.heap.size) (h2 : C.H0 b = none) : False := by
  rcases h with h | h
  · omega
  · exact h h2
theorem privB_off {d d' : Nat} {V V' : Vl} (hV : Off d V V') (h : d' ≠ d) (o : AObj) : privB V' d' o = privB V d' o := by
  cases o with
  | box ty l => simp [privB, (hV d' h).1]
  | row ty sz es => simp [privB, (hV d' h).2]
theorem rowIn_same {w w' : World} {v : Value} {ty sz : Nat} {es : List (List Value)} (h : RowIn w v ty sz es) (hb : ∀ b, blockOf v = some b → w'.heap[b]? = w.heap[b]?) : RowIn w' v ty sz es := by
  rcases h with h | ⟨b, o, cap, c, hv, h1, h2⟩
  · exact .inl h
  · exact .inr ⟨b, o, cap, c, hv, by rw [hb b (by rw [hv]; rfl)]; exact h1, h2⟩
theorem objRep_same {d d' : Nat} {V V' : Vl} {w w' : World} (hV : Off d V V') (h : d' ≠ d) {o : AObj} (hr : o.refs d = false) (ho : ObjRep V w d' o) (hb : ∀ b, privB V d' o = some b → w'.heap[b]? = w.heap[b]?) :
    ObjRep V' w' d' o := by
  cases o with
  | box ty l =>
    obtain ⟨cs, h1, h2⟩ := ho
    exact ⟨cs, segs_off hV hr h1, by rw [(hV d' h).1, hb _ rfl]; exact h2⟩
  | row ty sz es =>
    simp only [ObjRep, (hV d' h).2]
    exact rowIn_same ho fun b e => hb b e
/-- Nothing else of memory has turned. -/
structure Only (w w' : World) (B : Nat → Prop) : Prop where
  os : w'.os = w.os
  tape : w'.tape = w.tape
  output : w'.output = w.output
  size : w.heap.size ≤ w'.heap.size
  block : ∀ b, ¬ B b → b < w.heap.size → w'.heap[b]? = w.heap[b]?
theorem delO_look {l : List (Nat × AObj)} {base : Option Nat} {d' : Nat} {o : AObj} (h : look (delO l base) d' = some o) : look l d' = some o ∧ base ≠ some d' := by
  cases base with
  | none => exact ⟨h, by simp⟩
  | some r =>
    simp only [delO, look_objDel] at h
    split at h
    · cases h
    · exact ⟨h, by simpa using by assumption⟩
theorem rep_objs (h : Rep C V s H a w) {d : Nat} {obj : AObj} {base : Option Nat} {V' : Vl} {w' : World} (hf : s.free d = true) (hV : Off d V V')
    (ho : Only w w' fun b => ∃ r o, base = some r ∧ look s.objs r = some o ∧ privB V r o = some b) (hobj : ObjRep V' w' d obj)
    (hb : ∀ b, privB V' d obj = some b → (w.heap.size ≤ b ∧ b < w'.heap.size) ∨ ∃ r o, base = some r ∧ look s.objs r = some o ∧ privB V r o = some b) :
    Rep C V' ⟨s.env, objSet (delO s.objs base) d obj, s.dfr⟩ H a w' := by
  have other : ∀ d' o, look s.objs d' = some o → base ≠ some d' → ∀ b, privB V d' o = some b → w'.heap[b]? = w.heap[b]? := by
    intro d' o h1 h2 b h3
    refine ho.block b ?_ (h.priv _ _ _ h1 h3).2.2
    rintro ⟨r, o', e, h4, h5⟩
    exact h2 (by rw [e, h.dist _ _ _ _ _ h4 h1 h5 h3])
  have known : ∀ b o, H b = some o → w'.heap[b]? = some o := by
    intro b o hbo
    rw [ho.block b ?_ ?_]
    · exact h.sub b o hbo
    · rintro ⟨r, o', e, h4, h5⟩
      rw [(h.priv _ _ _ h4 h5).1] at hbo; cases hbo
    · have := h.sub b o hbo
      exact (Array.getElem?_eq_some_iff.1 this).1
  refine { env := ?_, len := h.len, dfr := h.dfr.trans (free_dfr hV hf).symm, sub := known, objs := ?_, priv := ?_, dist := ?_, os := ho.os.trans h.os, tape := ho.tape.trans h.tape, output := ho.output.trans h.output, size := Nat.le_trans h.size ho.size, other := ?_ }
  · intro t x hx
    exact sv_off hV (free_env hf t x hx) (h.env t x hx)
  · intro d' o hd
    rw [look_objSet] at hd
    split at hd
    · rename_i e; subst e; cases hd; exact hobj
    · obtain ⟨h1, h2⟩ := delO_look hd
      obtain ⟨h3, h4⟩ := free_obj hf _ _ h1
      exact objRep_same hV h3 h4 (h.objs _ _ h1) fun b e => other _ _ h1 h2 b e
  · intro d' o b hd hp
    rw [look_objSet] at hd
    split at hd
    · rename_i e; subst e; cases hd
      rcases hb b hp with ⟨h1, h2⟩ | ⟨r, o', h1, h2, h3⟩
      · refine ⟨?_, .inl (Nat.le_trans h.size h1), h2⟩
        cases hbb : H b with
        | none => rfl
        | some ob => have := h.sub b ob hbb; have := (Array.getElem?_eq_some_iff.1 this).1; omega
      · obtain ⟨h4, h5, h6⟩ := h.priv _ _ _ h2 h3
        exact ⟨h4, h5, Nat.lt_of_lt_of_le h6 ho.size⟩
    · obtain ⟨h1, h2⟩ := delO_look hd
      obtain ⟨h3, h4⟩ := free_obj hf _ _ h1
      rw [privB_off hV h3] at hp
      obtain ⟨h4, h5, h6⟩ := h.priv _ _ _ h1 hp
      exact ⟨h4, h5, Nat.lt_of_lt_of_le h6 ho.size⟩
  · have main : ∀ d' o' b, d' ≠ d → look (delO s.objs base) d' = some o' → privB V' d' o' = some b → privB V' d obj = some b → False := by
      intro d' o' b hne hd hp hp'
      obtain ⟨h1, h2⟩ := delO_look hd
      rw [privB_off hV hne] at hp
      rcases hb b hp' with ⟨h3, h4⟩ | ⟨r, o'', h3, h4, h5⟩
      · have := (h.priv _ _ _ h1 hp).2.2; omega
      · exact h2 (by rw [h3, h.dist _ _ _ _ _ h4 h1 h5 hp])
    intro d1 o1 d2 o2 b hd1 hd2 hp1 hp2
    rw [look_objSet] at hd1 hd2
    split at hd1
    · rename_i e1; subst e1; cases hd1
      split at hd2
      · rename_i e2; exact e2
      · rename_i e2; exact (main d2 o2 b (fun e => e2 e.symm) hd2 hp2 hp1).elim
    · rename_i e1
      split at hd2
      · rename_i e2; subst e2; cases hd2
        exact (main d1 o1 b (fun e => e1 e.symm) hd1 hp1 hp2).elim
      · rename_i e2
        obtain ⟨h1, _⟩ := delO_look hd1
        obtain ⟨h2, _⟩ := delO_look hd2
        rw [privB_off hV (fun e => e1 e.symm)] at hp1
        rw [privB_off hV (fun e => e2 e.symm)] at hp2
        exact h.dist _ _ _ _ _ h1 h2 hp1 hp2
  · intro b hb1 hb2
    obtain ⟨h1, h2⟩ := h.other b hb1 hb2
    refine ⟨?_, h2⟩
    rw [ho.block b ?_ (Nat.lt_of_lt_of_le hb1 h.size), h1]
    rintro ⟨r, o', e, h4, h5⟩
    exact base_no (h.priv _ _ _ h4 h5).2.1 hb1 hb2
/-- A variable's content is written. -/
theorem rep_mod (h : Rep C V s H a w) {d : Nat} {old obj : AObj} {b0 : Nat} {w' : World} (hd : look s.objs d = some old) (hp : privB V d old = some b0) (hp' : privB V d obj = some b0)
    (ho : Only w w' fun b => b = b0) (hobj : ObjRep V w' d obj) : Rep C V ⟨s.env, objSet s.objs d obj, s.dfr⟩ H a w' := by
  obtain ⟨hn, hbase, hlt⟩ := h.priv _ _ _ hd hp
  have other : ∀ d' o, look s.objs d' = some o → d ≠ d' → ∀ b, privB V d' o = some b → w'.heap[b]? = w.heap[b]? := by
    intro d' o h1 h2 b h3
    refine ho.block b ?_ (h.priv _ _ _ h1 h3).2.2
    intro e; subst e
    exact h2 (h.dist _ _ _ _ _ hd h1 hp h3)
  refine { env := h.env, len := h.len, dfr := h.dfr, sub := ?_, objs := ?_, priv := ?_, dist := ?_, os := ho.os.trans h.os, tape := ho.tape.trans h.tape, output := ho.output.trans h.output, size := Nat.le_trans h.size ho.size, other := ?_ }
  · intro b o hbo
    have h1 := h.sub b o hbo
    rw [ho.block b (by intro e; subst e; rw [hn] at hbo; cases hbo) (Array.getElem?_eq_some_iff.1 h1).1]
    exact h1
  · intro d' o hd'
    rw [look_objSet] at hd'
    split at hd'
    · rename_i e; subst e; cases hd'; exact hobj
    · rename_i e
      cases o with
      | box ty l =>
        obtain ⟨cs, h1, h2⟩ := h.objs _ _ hd'
        exact ⟨cs, h1, by rw [other _ _ hd' e _ rfl]; exact h2⟩
      | row ty sz es => exact rowIn_same (h.objs _ _ hd') fun b hb => other _ _ hd' e b hb
  · intro d' o b hd' hpb
    rw [look_objSet] at hd'
    split at hd'
    · rename_i e; subst e; cases hd'
      rw [hp'] at hpb; cases hpb
      exact ⟨hn, hbase, Nat.lt_of_lt_of_le hlt ho.size⟩
    · obtain ⟨h4, h5, h6⟩ := h.priv _ _ _ hd' hpb
      exact ⟨h4, h5, Nat.lt_of_lt_of_le h6 ho.size⟩
  · intro d1 o1 d2 o2 b hd1 hd2 hp1 hp2
    rw [look_objSet] at hd1 hd2
    split at hd1
    · rename_i e1; subst e1; cases hd1
      rw [hp'] at hp1; cases hp1
      split at hd2
      · rename_i e2; exact e2
      · exact h.dist _ _ _ _ _ hd hd2 hp hp2
    · split at hd2
      · rename_i e2; subst e2; cases hd2
        rw [hp'] at hp2; cases hp2
        exact h.dist _ _ _ _ _ hd1 hd hp1 hp
      · exact h.dist _ _ _ _ _ hd1 hd2 hp1 hp2
  · intro b hb1 hb2
    obtain ⟨h1, h2⟩ := h.other b hb1 hb2
    refine ⟨?_, h2⟩
    rw [ho.block b (by intro e; subst e; exact base_no hbase hb1 hb2) (Nat.lt_of_lt_of_le hb1 h.size), h1]

theorem sc_one {x : SC} {y : Value} (hb : x ≠ .bad) (h : x.rep V y) : one y = true := by
  cases x with
  | v z => obtain ⟨h1, h2⟩ := h; rw [h1]; exact h2
  | box _ _ => rw [show y = _ from h]; rfl
  | boxi _ _ _ _ => rw [show y = _ from h.2]; rfl
  | arr _ _ _ _ _ => obtain ⟨a', h1, _⟩ := h; rw [h1]; rfl
  | row d => obtain ⟨h1, h2⟩ := h; rw [h1]; exact h2
  | sub _ _ _ _ => obtain ⟨a, n, c, a', h1, h2, _⟩ := h; rw [h2]; rfl
  | cell _ _ _ _ => obtain ⟨A, n, c, h1, h2, h3⟩ := h; rw [h3]; rfl
  | clo _ _ _ => rw [show y = _ from h]; rfl
  | bad => exact absurd rfl hb
theorem segs_one : ∀ {l : List Seg} {cs : List Value}, noBad l = true → SegsRep V l cs → ∀ x ∈ cs, one x = true
  | [], cs, _, h => by simp only [SegsRep] at h; subst h; simp
  | .c x :: r, cs, hn, h => by
    obtain ⟨y, l', rfl, hx, hr⟩ := h
    have : x ≠ .bad ∧ noBad r = true := by cases x <;> simp [noBad] at hn ⊢ <;> exact hn
    intro z hz
    rcases List.mem_cons.1 hz with rfl | hz
    · exact sc_one this.1 hx
    · exact segs_one this.2 hr z hz
  | .ints k n xs :: r, cs, hn, h => by
    obtain ⟨_, l', rfl, hr⟩ := h
    intro z hz
    rcases List.mem_append.1 hz with hz | hz
    · simp at hz; obtain ⟨m, _, rfl⟩ := hz; rfl
    · exact segs_one (by simpa [noBad] using hn) hr z hz
/-- A world with another block. -/
def setB (w : World) (b : Nat) (o : Obj) : World := { w with heap := w.heap.setIfInBounds b o }
theorem setB_only (b : Nat) (o : Obj) : Only w (setB w b o) fun x => x = b := by
  refine ⟨rfl, rfl, rfl, by simp [setB], fun x hx _ => ?_⟩
  simp only [setB, Array.getElem?_setIfInBounds]
  rw [if_neg (fun e => hx e.symm)]
theorem setB_at {b : Nat} {o o' : Obj} (h : w.heap[b]? = some o') : (setB w b o).heap[b]? = some o := by
  have := (Array.getElem?_eq_some_iff.1 h).1
  simp [setB, this]
theorem setB_setB (b : Nat) (o o' : Obj) : setB (setB w b o) b o' = setB w b o' := by
  simp only [setB]
  congr 1
  apply Array.ext'
  simp
theorem setCell_eq {b off : Nat} {v : Value} {c : Array Value} {ty : TypeId} (h : w.heap[b]? = some (.cells c ty (0, 0))) :
    w.setCell ⟨b, off, none⟩ v = setB w b (.cells (c.setIfInBounds off v) ty (0, 0)) := by
  unfold World.setCell setB
  congr 1
  have hlt := (Array.getElem?_eq_some_iff.1 h).1
  apply Array.ext_getElem?
  intro i
  rw [Array.getElem?_modify, Array.getElem?_setIfInBounds]
  by_cases hi : b = i
  · subst hi
    have h' := (Array.getElem?_eq_some_iff.1 h).2
    simp [hlt, h']
  · simp [hi]
theorem store_run {b off : Nat} {v : Value} {c : Array Value} {ty : TypeId} (h : w.heap[b]? = some (.cells c ty (0, 0))) (ho : off < c.size) (h1 : one v = true) :
    (store ⟨b, off, none⟩ v).run P w = .ok () (setB w b (.cells (c.setIfInBounds off v) ty (0, 0))) := by
  rw [← setCell_eq h]
  have hc : w.cell? ⟨b, off, none⟩ = some c[off] := by rw [cell_block h rfl]; simp [ho]
  have hf : w.frozen? ⟨b, off, none⟩ = false := by simp [World.frozen?, h]
  unfold store
  cases v <;> simp [one] at h1 <;> simp [Sem.run, hc, hf]
theorem storeCells_run {b off : Nat} : ∀ (vs : List Value) (i : Nat) (w : World) {c : Array Value} {ty : TypeId}, w.heap[b]? = some (.cells c ty (0, 0)) → off + i + vs.length ≤ c.size → (∀ x ∈ vs, one x = true) →
    (storeCells ⟨b, off, none⟩ vs i).run P w = .ok () (setB w b (.cells (writeCells c (off + i) vs) ty (0, 0)))
  | [], i, w, c, ty, h, _, _ => by
    simp only [storeCells, Sem.run_pure, writeCells]
    congr 1
    unfold setB
    have hlt := (Array.getElem?_eq_some_iff.1 h).1
    have : w.heap.setIfInBounds b (.cells c ty (0, 0)) = w.heap := by
      apply Array.ext_getElem?
      intro j
      rw [Array.getElem?_setIfInBounds]
      by_cases hj : b = j
      · subst hj
        have h' := (Array.getElem?_eq_some_iff.1 h).2
        simp [hlt, h']
      · simp [hj]
    rw [this]
  | v :: vs, i, w, c, ty, h, hl, h1 => by
    simp only [storeCells, Sem.run_bind, add_spot]
    simp only [List.length_cons] at hl
    rw [store_run h (by omega) (h1 v (by simp))]
    simp only [Result.andThen_ok]
    rw [storeCells_run vs (i + 1) _ (setB_at h) (by simp; omega) fun x hx => h1 x (by simp [hx])]
    rw [setB_setB]
    rfl
theorem storeVar_run {t : TypeId} {i : TypeInfo} {b off : Nat} {v : Value} {c : Array Value} {ty : TypeId} (hi : P.info? t = some i) (hv : v.cells.size = i.size) (h : w.heap[b]? = some (.cells c ty (0, 0)))
    (hl : off + i.size ≤ c.size) (h1 : ∀ x ∈ v.cells.toList, one x = true) : (storeVar t ⟨b, off, none⟩ v).run P w = .ok () (setB w b (.cells (writeCells c off v.cells.toList) ty (0, 0))) := by
  unfold storeVar
  simp only [Sem.run_bind, run_sizeT hi, Result.andThen_ok]
  rw [if_neg (by simp [hv])]
  exact storeCells_run _ 0 w h (by simp [hv]; omega) h1
theorem exec_u {s : Sem Unit} {w' : World} (h : s.run P w = .ok () w') : ((do s; pure Next.skip : Sem Next)).run P w = .ok .skip w' := by
  rw [Sem.run_bind, h]; rfl
/-- What an operation that makes or writes private variables comes to. -/
def Goes (P : Program) (C : Ctx) (o : Oper) (a : Act) (w : World) (K : St → Prop) (H : Heap) : Prop :=
  ∃ V s' y w', K s' ∧ Rep C V s' H (a.put o.dst y) w' ∧ ((execOp a.eval o).run P w = .ok (.value y) w' ∨ ((execOp a.eval o).run P w = .ok .skip w' ∧ y = undef))
theorem rep_set (h : Rep C V s H a w) {x : SV} {y : Value} (hx : x.rep V y) {d : Nat} : Rep C V (s.set d x) H (a.put (some d) y) w := h.put hx (some d)

def Vl.box (V : Vl) (d b : Nat) : Vl := ⟨fun s => if s = d then b else V.blk s, V.row⟩
def Vl.rows (V : Vl) (d : Nat) (v : Value) : Vl := ⟨V.blk, fun s => if s = d then v else V.row s⟩
theorem box_off (V : Vl) (d b : Nat) : Off d V (V.box d b) := fun s h => ⟨by simp [Vl.box, h], rfl⟩
theorem rows_off (V : Vl) (d : Nat) (v : Value) : Off d V (V.rows d v) := fun s h => ⟨rfl, by simp [Vl.rows, h]⟩
theorem alloc_only (o : Obj) (B : Nat → Prop) : Only w { w with heap := w.heap.push o } B :=
  ⟨rfl, rfl, rfl, by simp, fun b _ hb => by simp [Array.getElem?_push, Nat.ne_of_lt hb]⟩
theorem alloc_at (o : Obj) : ({ w with heap := w.heap.push o } : World).heap[w.heap.size]? = some o := by simp
theorem newRow_run {t : TypeId} {c : Array Value} : (newRow t c).run P w = .ok ⟨w.heap.size, 0, none⟩ { w with heap := w.heap.push (.cells c t) } := by
  rfl
/-- A new variable. -/
theorem new_box (h : Rep C V s H a w) {d : Nat} (hf : s.free d = true) {l : List Seg} {cs : List Value} (t : TypeId) (hs : SegsRep V l cs) (hr : l.any (Seg.refs d) = false) :
    ∃ V', Off d V V' ∧ Rep C V' (St.set ⟨s.env, objSet s.objs d (.box t l), s.dfr⟩ d (.c (.box d 0))) H (a.put (some d) (.pointer (some ⟨w.heap.size, 0, none⟩))) { w with heap := w.heap.push (.cells cs.toArray t) } ∧ V'.blk d = w.heap.size := by
  have hoff := box_off V d w.heap.size
  refine ⟨V.box d w.heap.size, hoff, rep_set (s := ⟨s.env, objSet (delO s.objs none) d (.box t l), s.dfr⟩) (rep_objs h hf hoff (alloc_only _ _) (obj := .box t l) ⟨cs, segs_off hoff hr hs, ?_⟩ ?_) ?_, by simp [Vl.box]⟩
  · simp [Vl.box]
  · intro b hb
    simp [privB, Vl.box] at hb
    subst hb
    exact .inl ⟨Nat.le_refl _, by simp⟩
  · simp [SV.rep, SC.rep, Vl.box]
theorem ev_refs {d : Nat} (hf : s.free d = true) (x : Operand) : (ev s x).refs d = false := by
  cases x with
  | tmp t =>
    simp only [ev]
    rcases get_nth (s := s) (t := t) with ⟨e, _⟩ | e
    · rw [e]; rfl
    · exact free_env hf t _ e
  | const v => cases v <;> rfl
  | global g => rfl
  | func f => rfl
theorem segs_refs {x : SV} {d : Nat} {l : List Seg} (h : x.refs d = false) (e : x.segs = some l) : l.any (Seg.refs d) = false := by
  cases x with
  | c x => cases x <;> simp [SV.segs] at e <;> subst e <;> simpa [Seg.refs, SV.refs] using h
  | agg l' => simp [SV.segs] at e; subst e; exact h
  | tup l => simp [SV.segs] at e
theorem parse_refs {d : Nat} : ∀ {ks : List SK} {cs : List Value} {l : List Seg}, parse ks cs = some l → l.any (Seg.refs d) = false
  | [], [], l, h => by simp [parse] at h; subst h; rfl
  | [], _ :: _, l, h => by simp [parse] at h
  | .c k :: r, [], l, h => by simp [parse] at h
  | .c k :: r, x :: cs, l, h => by
    simp only [parse] at h
    split at h
    · rename_i l' hl'; cases h
      simp only [List.any_cons, Seg.refs, SC.refs, Bool.false_or]
      exact parse_refs hl'
    · cases h
  | .ints k n :: r, cs, l, h => by
    simp only [parse] at h
    split at h
    · split at h
      · rename_i l' hl'; cases h
        simp only [List.any_cons, Seg.refs, Bool.false_or]
        exact parse_refs hl'
      · cases h
    · cases h
/-- A new row of its own block. -/
theorem new_row (h : Rep C V s H a w) {d : Nat} (hf : s.free d = true) {es : List (List Value)} {ty sz cap : Nat} {c : Array Value} (base : Option Nat) {w' : World}
    (hw : Only w w' fun b => ∃ r o, base = some r ∧ look s.objs r = some o ∧ privB V r o = some b) (hb : w'.heap[w.heap.size]? = some (.cells c ty (0, 0)))
    (hcap : es.length ≤ cap) (hc : cap * sz ≤ c.size) (hes : ∀ e ∈ es, e.length = sz) (hfl : c.toList.take (es.length * sz) = es.flatten) (hon : ∀ e ∈ es, ∀ x ∈ e, one x = true) :
    ∃ V', Off d V V' ∧ Rep C V' (St.set ⟨s.env, objSet (delO s.objs base) d (.row ty sz es), s.dfr⟩ d (.c (.row d))) H (a.put (some d) (.slice (some ⟨w.heap.size, 0, none⟩) es.length cap)) w' ∧
      V'.row d = .slice (some ⟨w.heap.size, 0, none⟩) es.length cap := by
  have hoff := rows_off V d (.slice (some ⟨w.heap.size, 0, none⟩) es.length cap)
  have hsz := (Array.getElem?_eq_some_iff.1 hb).1
  refine ⟨V.rows d (.slice (some ⟨w.heap.size, 0, none⟩) es.length cap), hoff, rep_set (s := ⟨s.env, objSet (delO s.objs base) d (.row ty sz es), s.dfr⟩) (rep_objs h hf hoff hw (obj := .row ty sz es) ?_ ?_) ?_, by simp [Vl.rows]⟩
  · exact .inr ⟨w.heap.size, 0, cap, c, by simp [Vl.rows], hb, hcap, by omega, hes, by simpa using hfl, hon⟩
  · intro b hb'
    simp [privB, Vl.rows, blockOf] at hb'
    subst hb'
    exact .inl ⟨Nat.le_refl _, hsz⟩
  · simp [SV.rep, SC.rep, Vl.rows, one]
end
end Sx
