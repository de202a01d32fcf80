/- What is handed over, and comes back: soundness. -/
import Derived.Test.YtekaopahienmgaaSxG
set_option linter.unusedVariables false
set_option linter.unusedSimpArgs false
namespace Sx
open Go
theorem heap_refl (H : Heap) : H ≤ H := fun _ _ e => e
theorem heap_trans {A B D : Heap} (h : A ≤ B) (h' : B ≤ D) : A ≤ D := fun b o e => h' b o (h b o e)
section
variable {P : Program} {C : Ctx} {V : Vl} {s : St} {H : Heap} {a : Act} {w : World}

theorem upd_same (H : Heap) (b : Nat) (o : Obj) : H.upd b o b = some o := by simp [Heap.upd]
theorem upd_ne (H : Heap) {b b' : Nat} (o : Obj) (h : b' ≠ b) : H.upd b o b' = H b' := by simp [Heap.upd, h]
theorem rep_look (h : Rep C V s H a w) {s' : St} (he : s'.env = s.env) (hd : s'.dfr = s.dfr) (hl : ∀ d o, look s'.objs d = some o → look s.objs d = some o) : Rep C V s' H a w :=
  { env := by rw [he]; exact h.env, len := by rw [he]; exact h.len, dfr := by rw [hd]; exact h.dfr, sub := h.sub, objs := fun d o e => h.objs d o (hl d o e), priv := fun d o b e => h.priv d o b (hl d o e),
    dist := fun d o d' o' b e e' => h.dist d o d' o' b (hl d o e) (hl d' o' e'), os := h.os, tape := h.tape, output := h.output, size := h.size, other := h.other }
/-- Behind a call. -/
theorem rep_step (h : Rep C V s H a w) {H' : Heap} {w' : World} (hs : Step H w H' w') : Rep C V s H' a w' := by
  have keep : ∀ d o b, look s.objs d = some o → privB V d o = some b → w'.heap[b]? = w.heap[b]? ∧ H' b = none := by
    intro d o b h1 h2
    obtain ⟨h3, h4, h5⟩ := h.priv _ _ _ h1 h2
    exact ⟨hs.other b h5 h3, hs.fresh b h5 h3⟩
  refine { env := h.env, len := h.len, dfr := h.dfr, sub := hs.sub, objs := ?_, priv := ?_, dist := h.dist, os := hs.os.trans h.os, tape := hs.tape.trans h.tape, output := hs.output.trans h.output, size := Nat.le_trans h.size hs.size, other := ?_ }
  · intro d o hd
    cases o with
    | box ty l =>
      obtain ⟨cs, h1, h2⟩ := h.objs _ _ hd
      exact ⟨cs, h1, by rw [(keep _ _ _ hd rfl).1]; exact h2⟩
    | row ty sz es => exact rowIn_same (h.objs _ _ hd) fun b hb => (keep _ _ _ hd hb).1
  · intro d o b h1 h2
    obtain ⟨h3, h4, h5⟩ := h.priv _ _ _ h1 h2
    exact ⟨(keep _ _ _ h1 h2).2, h4, Nat.lt_of_lt_of_le h5 hs.size⟩
  · intro b h1 h2
    obtain ⟨h3, h4⟩ := h.other b h1 h2
    have hlt := Nat.lt_of_lt_of_le h1 h.size
    exact ⟨by rw [hs.other b hlt h4, h3], hs.fresh b hlt h4⟩
/-- A block is told. -/
theorem rep_tell (h : Rep C V s H a w) {b : Nat} {obj : Obj} (hb : w.heap[b]? = some obj) (hbase : C.w0.heap.size ≤ b ∨ C.H0 b ≠ none) (hn : ∀ d o, look s.objs d = some o → privB V d o ≠ some b) : Rep C V s (H.upd b obj) a w := by
  refine { env := h.env, len := h.len, dfr := h.dfr, sub := ?_, objs := h.objs, priv := ?_, dist := h.dist, os := h.os, tape := h.tape, output := h.output, size := h.size, other := ?_ }
  · intro b' o' e
    by_cases hbb : b' = b
    · subst hbb; rw [upd_same] at e; cases e; exact hb
    · rw [upd_ne _ _ hbb] at e; exact h.sub _ _ e
  · intro d' o' b' e1 e2
    obtain ⟨h3, h4, h5⟩ := h.priv _ _ _ e1 e2
    have : b' ≠ b := fun e => hn d' o' e1 (by rw [← e]; exact e2)
    exact ⟨by rw [upd_ne _ _ this]; exact h3, h4, h5⟩
  · intro b' h1 h2
    obtain ⟨h3, h4⟩ := h.other b' h1 h2
    have : b' ≠ b := by intro e; subst e; exact base_no hbase h1 h2
    exact ⟨h3, by rw [upd_ne _ _ this]; exact h4⟩
theorem look_del {s : St} {d d' : Nat} {o : AObj} (h : look (s.del d).objs d' = some o) : look s.objs d' = some o ∧ d' ≠ d := by
  simp only [St.del, look_objDel] at h
  split at h
  · cases h
  · rename_i hne; exact ⟨h, fun e => hne e.symm⟩
theorem rep_del (h : Rep C V s H a w) (d : Nat) : Rep C V (s.del d) H a w := rep_look h rfl rfl fun _ _ e => (look_del e).1
/-- A block that is told is a variable's again. -/
theorem rep_in (h : Rep C V s H a w) {d : Nat} {o : AObj} {b : Nat} {obj : Obj} (hp : privB V d o = some b) (hb : H b = some obj) (ho : ObjRep V w d o) :
    Rep C V ⟨s.env, objSet s.objs d o, s.dfr⟩ (H.del b) a w := by
  have hdel : ∀ b', b' ≠ b → H.del b b' = H b' := fun b' e => by simp [Heap.del, e]
  have hdel' : H.del b b = none := by simp [Heap.del]
  have hlt := (Array.getElem?_eq_some_iff.1 (h.sub _ _ hb)).1
  have hbase : C.w0.heap.size ≤ b ∨ C.H0 b ≠ none := by
    rcases Nat.lt_or_ge b C.w0.heap.size with h1 | h1
    · right; intro h2; rw [(h.other b h1 h2).2] at hb; cases hb
    · exact .inl h1
  refine { env := h.env, len := h.len, dfr := h.dfr, sub := ?_, objs := ?_, priv := ?_, dist := ?_, os := h.os, tape := h.tape, output := h.output, size := h.size, other := ?_ }
  · intro b' o' e
    by_cases hbb : b' = b
    · subst hbb; rw [hdel'] at e; cases e
    · rw [hdel _ hbb] at e; exact h.sub _ _ e
  · intro d' o' e
    rw [look_objSet] at e
    split at e
    · rename_i hd; subst hd; cases e; exact ho
    · exact h.objs _ _ e
  · intro d' o' b' e1 e2
    rw [look_objSet] at e1
    split at e1
    · rename_i hd; subst hd; cases e1
      rw [hp] at e2; cases e2
      exact ⟨hdel', hbase, hlt⟩
    · obtain ⟨h3, h4, h5⟩ := h.priv _ _ _ e1 e2
      exact ⟨by simp [Heap.del, h3], h4, h5⟩
  · have main : ∀ d' o' b', look s.objs d' = some o' → privB V d' o' = some b' → privB V d o = some b' → False := by
      intro d' o' b' e1 e2 e3
      rw [hp] at e3; cases e3
      rw [(h.priv _ _ _ e1 e2).1] at hb; cases hb
    intro d1 o1 d2 o2 b' e1 e2 p1 p2
    rw [look_objSet] at e1 e2
    split at e1
    · rename_i x1; subst x1; cases e1
      split at e2
      · assumption
      · exact (main _ _ _ e2 p2 p1).elim
    · split at e2
      · rename_i x2; subst x2; cases e2; exact (main _ _ _ e1 p1 p2).elim
      · exact h.dist _ _ _ _ _ e1 e2 p1 p2
  · intro b' h1 h2
    obtain ⟨h3, h4⟩ := h.other b' h1 h2
    exact ⟨h3, by simp [Heap.del, h4]⟩
/-- A row without a block is a variable's again. -/
theorem rep_in0 (h : Rep C V s H a w) {d : Nat} {o : AObj} (hp : privB V d o = none) (ho : ObjRep V w d o) : Rep C V ⟨s.env, objSet s.objs d o, s.dfr⟩ H a w := by
  refine { env := h.env, len := h.len, dfr := h.dfr, sub := h.sub, objs := ?_, priv := ?_, dist := ?_, os := h.os, tape := h.tape, output := h.output, size := h.size, other := h.other }
  · intro d' o' e
    rw [look_objSet] at e
    split at e
    · rename_i hd; subst hd; cases e; exact ho
    · exact h.objs _ _ e
  · intro d' o' b' e1 e2
    rw [look_objSet] at e1
    split at e1
    · rename_i hd; subst hd; cases e1; rw [hp] at e2; cases e2
    · exact h.priv _ _ _ e1 e2
  · intro d1 o1 d2 o2 b' e1 e2 p1 p2
    rw [look_objSet] at e1 e2
    split at e1
    · rename_i x1; subst x1; cases e1; rw [hp] at p1; cases p1
    · split at e2
      · rename_i x2; subst x2; cases e2; rw [hp] at p2; cases p2
      · exact h.dist _ _ _ _ _ e1 e2 p1 p2
theorem rep_off {V' : Vl} {d : Nat} (h : Rep C V s H a w) (hf : s.free d = true) (hV : Off d V V') : Rep C V' s H a w :=
  { env := fun t x hx => sv_off hV (free_env hf t x hx) (h.env t x hx), len := h.len, dfr := h.dfr.trans (free_dfr hV hf).symm, sub := h.sub,
    objs := fun d' o e => objRep_same hV (free_obj hf _ _ e).1 (free_obj hf _ _ e).2 (h.objs _ _ e) fun _ _ => rfl,
    priv := fun d' o b e hp => h.priv d' o b e (by rw [privB_off hV (free_obj hf _ _ e).1] at hp; exact hp),
    dist := fun d1 o1 d2 o2 b e1 e2 p1 p2 => h.dist d1 o1 d2 o2 b e1 e2 (by rw [privB_off hV (free_obj hf _ _ e1).1] at p1; exact p1) (by rw [privB_off hV (free_obj hf _ _ e2).1] at p2; exact p2),
    os := h.os, tape := h.tape, output := h.output, size := h.size, other := h.other }
theorem rep_same' (h : Rep C V s H a w) {g : Nat} {x : SV} (hx : x.rep V (a.tmps.getD g undef)) : Rep C V (s.set g x) H a w := by
  refine { env := ?_, len := ?_, dfr := h.dfr, sub := h.sub, objs := h.objs, priv := h.priv, dist := h.dist, os := h.os, tape := h.tape, output := h.output, size := h.size, other := h.other }
  · intro t z hz
    simp only [St.set, nth_setNth] at hz
    by_cases hg : g = t
    · subst hg
      simp only [if_true] at hz
      split at hz
      · cases hz; exact hx
      · cases hz
    · rw [if_neg hg] at hz
      exact h.env t z hz
  · simp only [St.set, setNth_eq, List.length_set]; exact h.len
theorem setNth_setNth' {α : Type} : ∀ (l : List α) (n : Nat) (x y : α), setNth (setNth l n x) n y = setNth l n y
  | [], _, _, _ => rfl
  | _ :: r, 0, _, _ => rfl
  | z :: r, n + 1, x, y => by simp [setNth, setNth_setNth' r n x y]
/-! ### Lending -/
def LentOK (V : Vl) (ls : List Lend) : Prop := ∀ x ∈ ls, match x.kind with
  | .row _ _ => V.row x.site = x.val
  | .box _ => x.val = .pointer (some ⟨V.blk x.site, 0, none⟩)
  | .gone => True
structure LendsTo (V : Vl) (s : St) (H : Heap) (s' : St) (Hl : Heap) (ls : List Lend) : Prop where
  env : s'.env = s.env
  dfr : s'.dfr = s.dfr
  sub : ∀ d o, look s'.objs d = some o → look s.objs d = some o
  up : H ≤ Hl
  low : ∀ b o, Hl b = some o → H b = some o ∨ ∃ x ∈ ls, blockOf x.val = some b
  src : ∀ x ∈ ls, ∃ o, look s.objs x.site = some o ∧ privB V x.site o = blockOf x.val
  gone : ∀ d o, look s.objs d = some o → look s'.objs d = some o ∨ ∃ x ∈ ls, x.site = d
  ok : LentOK V ls
theorem LendsTo.refl (V : Vl) (s : St) (H : Heap) : LendsTo V s H s H [] :=
  ⟨rfl, rfl, fun _ _ e => e, heap_refl H, fun _ _ e => .inl e, by simp, fun _ _ e => .inl e, by intro x hx; cases hx⟩
theorem LendsTo.trans {s1 s2 : St} {H1 H2 : Heap} {l1 l2 : List Lend} (h : LendsTo V s H s1 H1 l1) (h' : LendsTo V s1 H1 s2 H2 l2) : LendsTo V s H s2 H2 (l1 ++ l2) := by
  refine ⟨h'.env.trans h.env, h'.dfr.trans h.dfr, fun d o e => h.sub d o (h'.sub d o e), heap_trans h.up h'.up, ?_, ?_, ?_, ?_⟩
  · intro b o e
    rcases h'.low b o e with e | ⟨x, hx, hb⟩
    · rcases h.low b o e with e | ⟨x, hx, hb⟩
      · exact .inl e
      · exact .inr ⟨x, by simp [hx], hb⟩
    · exact .inr ⟨x, by simp [hx], hb⟩
  · intro x hx
    rcases List.mem_append.1 hx with hx | hx
    · exact h.src x hx
    · obtain ⟨o, h1, h2⟩ := h'.src x hx
      exact ⟨o, h.sub _ _ h1, h2⟩
  · intro d o e
    rcases h.gone d o e with e | ⟨x, hx, hb⟩
    · rcases h'.gone d o e with e | ⟨x, hx, hb⟩
      · exact .inl e
      · exact .inr ⟨x, by simp [hx], hb⟩
    · exact .inr ⟨x, by simp [hx], hb⟩
  · intro x hx
    rcases List.mem_append.1 hx with hx | hx
    · exact h.ok x hx
    · exact h'.ok x hx
theorem lend_none (h : Rep C V s H a w) {s' : St} {Hl : Heap} {ls : List Lend} (hL : LendsTo V s H s' Hl ls) {d : Nat} {o : AObj} {b : Nat} (hd : look s.objs d = some o) (hp : privB V d o = some b) (hn : ∀ x ∈ ls, x.site ≠ d) : Hl b = none := by
  cases hq : Hl b with
  | none => rfl
  | some ob =>
    exfalso
    rcases hL.low b ob hq with e | ⟨x, hx, hb⟩
    · rw [(h.priv _ _ _ hd hp).1] at e; cases e
    · obtain ⟨o', h1, h2⟩ := hL.src x hx
      exact hn x hx (h.dist _ _ _ _ b h1 hd (by rw [h2, hb]) hp)
/-- A row that is told. -/
theorem lend_row (h : Rep C V s H a w) {d ty sz : Nat} {es : List (List Value)} (hl : look s.objs d = some (.row ty sz es)) (k : LK) (hk : k = .row ty sz ∨ k = .gone) :
    ∃ H', H ≤ H' ∧ (∀ b, blockOf (V.row d) = some b → H b = none) ∧ (∀ b o, H' b = some o → H b = some o ∨ blockOf (V.row d) = some b) ∧ RowAt H' (V.row d) ty sz es ∧ Rep C V (s.del d) H' a w ∧ LendsTo V s H (s.del d) H' [⟨d, V.row d, k⟩] := by
  have hgone : ∀ d' o', look s.objs d' = some o' → look (s.del d).objs d' = some o' ∨ ∃ x ∈ [(⟨d, V.row d, k⟩ : Lend)], x.site = d' := by
    intro d' o' e
    by_cases hd : d = d'
    · exact .inr ⟨_, List.mem_cons_self .., hd⟩
    · left; simp only [St.del, look_objDel, if_neg hd]; exact e
  have hsrc : ∀ x ∈ [(⟨d, V.row d, k⟩ : Lend)], ∃ o, look s.objs x.site = some o ∧ privB V x.site o = blockOf x.val := by
    intro x hx
    simp at hx
    subst hx
    exact ⟨_, hl, rfl⟩
  have hok : LentOK V [⟨d, V.row d, k⟩] := by
    intro x hx
    simp at hx
    subst hx
    rcases hk with rfl | rfl <;> simp
  rcases h.objs _ _ hl with ⟨hv, rfl⟩ | ⟨b, o, cap, c, hv, hb, hrest⟩
  · refine ⟨H, heap_refl H, by rw [hv]; simp [blockOf], fun _ _ e => .inl e, .inl ⟨hv, rfl⟩, rep_del h d, ⟨rfl, rfl, fun _ _ e => (look_del e).1, heap_refl H, fun _ _ e => .inl e, hsrc, hgone, hok⟩⟩
  · have hp : privB V d (.row ty sz es) = some b := by simp [privB, hv, blockOf]
    obtain ⟨hn, hbase, hlt⟩ := h.priv _ _ _ hl hp
    have up : H ≤ H.upd b (.cells c ty (0, 0)) := fun b' o' e => by
      by_cases hbb : b' = b
      · subst hbb; rw [hn] at e; cases e
      · rw [upd_ne _ _ hbb]; exact e
    have low : ∀ b' o', H.upd b (.cells c ty (0, 0)) b' = some o' → H b' = some o' ∨ blockOf (V.row d) = some b' := fun b' o' e => by
      by_cases hbb : b' = b
      · subst hbb; right; rw [hv]; rfl
      · rw [upd_ne _ _ hbb] at e; exact .inl e
    refine ⟨H.upd b (.cells c ty (0, 0)), up, by rw [hv]; simp [blockOf]; exact hn, low, .inr ⟨b, o, cap, c, hv, upd_same _ _ _, hrest⟩, rep_tell (rep_del h d) hb hbase ?_, ⟨rfl, rfl, fun _ _ e => (look_del e).1, up, ?_, hsrc, hgone, hok⟩⟩
    · intro d' o' e1 e2
      obtain ⟨e1, hne⟩ := look_del e1
      exact hne (h.dist _ _ _ _ _ e1 hl e2 hp)
    · intro b' o' e
      rcases low b' o' e with e | e
      · exact .inl e
      · exact .inr ⟨_, List.mem_cons_self .., e⟩
theorem lendIn_sound : ∀ (l : List Seg) (s : St) (H : Heap) {cs : List Value} {K : List Value → St → Heap → List Lend → Prop}, Rep C V s H a w → SegsRep V l cs → lendIn l s H K →
    ∃ s' H' ls, K cs s' H' ls ∧ Rep C V s' H' a w ∧ LendsTo V s H s' H' ls
  | [], s, H, cs, K, h, hs, hk => by
    have : cs = [] := hs
    subst this
    exact ⟨s, H, [], hk, h, LendsTo.refl _ _ _⟩
  | .c x :: r, s, H, cs, K, h, hs, hk => by
    obtain ⟨y, l', rfl, hx, hr⟩ := hs
    unfold lendIn at hk
    split at hk
    · rename_i v
      obtain ⟨rfl, -⟩ := hx
      obtain ⟨s', H', ls, h1, h2, h3⟩ := lendIn_sound r s H h hr hk
      exact ⟨s', H', ls, h1, h2, h3⟩
    · rename_i d
      obtain ⟨rfl, -⟩ := hx
      split at hk
      · rename_i ty sz es hl
        obtain ⟨H1, g1, g2, g3, g4, g5, g6⟩ := lend_row h hl .gone (.inr rfl)
        obtain ⟨s', H', ls, h1, h2, h3⟩ := lendIn_sound r _ _ g5 hr (hk _ _ g1 g2 g3 g4)
        exact ⟨s', H', _, h1, h2, g6.trans h3⟩
      · exact hk.elim
    · exact hk.elim
  | .ints k n xs :: r, s, H, cs, K, h, hs, hk => by
    obtain ⟨_, l', rfl, hr⟩ := hs
    unfold lendIn at hk
    obtain ⟨s', H', ls, h1, h2, h3⟩ := lendIn_sound r s H h hr hk
    exact ⟨s', H', ls, h1, h2, h3⟩
theorem lendBox_sound {d : Nat} {K : Value → St → Heap → List Lend → Prop} (h : Rep C V s H a w) (hk : lendBox d s H K) :
    ∃ s' H' ls, K (.pointer (some ⟨V.blk d, 0, none⟩)) s' H' ls ∧ Rep C V s' H' a w ∧ LendsTo V s H s' H' ls := by
  unfold lendBox at hk
  split at hk
  · rename_i ty l hl
    obtain ⟨cs, hcs, hb⟩ := h.objs _ _ hl
    have hp : privB V d (.box ty l) = some (V.blk d) := rfl
    obtain ⟨hn, hbase, hlt⟩ := h.priv _ _ _ hl hp
    obtain ⟨s', H', ls, h1, h2, h3⟩ := lendIn_sound l (s.del d) H (rep_del h d) hcs hk
    have hno : ∀ x ∈ ls, x.site ≠ d := fun x hx => by
      obtain ⟨o, e, _⟩ := h3.src x hx
      exact (look_del e).2
    have hnone : H' (V.blk d) = none := by
      cases hq : H' (V.blk d) with
      | none => rfl
      | some ob =>
        exfalso
        rcases h3.low _ ob hq with e | ⟨x, hx, hb⟩
        · rw [hn] at e; cases e
        · obtain ⟨o', g1, g2⟩ := h3.src x hx
          exact hno x hx (h.dist _ _ _ _ _ (look_del g1).1 hl (by rw [g2, hb]) hp)
    refine ⟨s', _, _, h1 _ hnone, rep_tell h2 hb hbase ?_, ?_⟩
    · intro d' o' e1 e2
      obtain ⟨e1, hne⟩ := look_del (h3.sub _ _ e1)
      exact hne (h.dist _ _ _ _ _ e1 hl e2 hp)
    · refine ⟨h3.env, h3.dfr, fun d' o e => (look_del (h3.sub _ _ e)).1, ?_, ?_, ?_, ?_, ?_⟩
      · intro b o e
        have : b ≠ V.blk d := by rintro rfl; rw [hn] at e; cases e
        rw [upd_ne _ _ this]
        exact h3.up b o e
      · intro b o e
        by_cases hbb : b = V.blk d
        · subst hbb; exact .inr ⟨_, List.mem_cons_self .., rfl⟩
        · rw [upd_ne _ _ hbb] at e
          rcases h3.low b o e with e | ⟨x, hx, hb⟩
          · exact .inl e
          · exact .inr ⟨x, List.mem_cons_of_mem _ hx, hb⟩
      · intro x hx
        rcases List.mem_cons.1 hx with rfl | hx
        · exact ⟨_, hl, rfl⟩
        · obtain ⟨o, g1, g2⟩ := h3.src x hx
          exact ⟨o, (look_del g1).1, g2⟩
      · intro d' o e
        by_cases hd : d = d'
        · exact .inr ⟨_, List.mem_cons_self .., hd⟩
        · rcases h3.gone d' o (by simp only [St.del, look_objDel, if_neg hd]; exact e) with e | ⟨x, hx, hb⟩
          · exact .inl e
          · exact .inr ⟨x, List.mem_cons_of_mem _ hx, hb⟩
      · intro x hx
        rcases List.mem_cons.1 hx with rfl | hx
        · rfl
        · exact h3.ok x hx
  · exact hk.elim
theorem lendCaps_sound : ∀ (l : List Cap) (s : St) (H : Heap) {K : List Value → St → Heap → List Lend → Prop}, Rep C V s H a w → lendCaps l s H K →
    ∃ s' H' ls, K (l.map (Cap.real V)) s' H' ls ∧ Rep C V s' H' a w ∧ LendsTo V s H s' H' ls
  | [], s, H, K, h, hk => ⟨s, H, [], hk, h, LendsTo.refl _ _ _⟩
  | .v x :: r, s, H, K, h, hk => by
    unfold lendCaps at hk
    exact lendCaps_sound r s H h hk
  | .b d :: r, s, H, K, h, hk => by
    unfold lendCaps at hk
    obtain ⟨s1, H1, l1, h1, h2, h3⟩ := lendBox_sound h hk
    obtain ⟨s2, H2, l2, g1, g2, g3⟩ := lendCaps_sound r s1 H1 h2 h1
    exact ⟨s2, H2, _, g1, g2, h3.trans g3⟩
theorem lendC_sound {x : SC} {y : Value} {K : Value → St → Heap → List Lend → Prop} (h : Rep C V s H a w) (hx : x.rep V y) (hk : lendC x s H K) :
    ∃ s' H' ls, K y s' H' ls ∧ Rep C V s' H' a w ∧ LendsTo V s H s' H' ls := by
  unfold lendC at hk
  split at hk
  · obtain ⟨rfl, -⟩ := hx
    exact ⟨s, H, [], hk, h, LendsTo.refl _ _ _⟩
  · rename_i d
    obtain ⟨rfl, -⟩ := hx
    split at hk
    · rename_i ty sz es hl
      obtain ⟨H1, g1, g2, g3, g4, g5, g6⟩ := lend_row h hl (.row ty sz) (.inl rfl)
      exact ⟨_, _, _, hk _ _ g1 g2 g3 g4, g5, g6⟩
    · exact hk.elim
  · rename_i d
    rw [show y = _ from hx]
    exact lendBox_sound h hk
  · rename_i fn first caps
    rw [show y = _ from hx]
    obtain ⟨s1, H1, l1, h1, h2, h3⟩ := lendCaps_sound caps s H h hk
    exact ⟨s1, H1, l1, h1, h2, h3⟩
  · exact hk.elim
theorem lendSegs_sound : ∀ (l : List Seg) (s : St) (H : Heap) {cs : List Value} {K : List Value → St → Heap → List Lend → Prop}, Rep C V s H a w → SegsRep V l cs → lendSegs l s H K →
    ∃ s' H' ls, K cs s' H' ls ∧ Rep C V s' H' a w ∧ LendsTo V s H s' H' ls
  | [], s, H, cs, K, h, hs, hk => by
    have : cs = [] := hs
    subst this
    exact ⟨s, H, [], hk, h, LendsTo.refl _ _ _⟩
  | .c x :: r, s, H, cs, K, h, hs, hk => by
    obtain ⟨y, l', rfl, hx, hr⟩ := hs
    unfold lendSegs at hk
    obtain ⟨s1, H1, l1, h1, h2, h3⟩ := lendC_sound h hx hk
    obtain ⟨s2, H2, l2, g1, g2, g3⟩ := lendSegs_sound r s1 H1 h2 hr h1
    exact ⟨s2, H2, _, g1, g2, h3.trans g3⟩
  | .ints k n xs :: r, s, H, cs, K, h, hs, hk => by
    obtain ⟨_, l', rfl, hr⟩ := hs
    unfold lendSegs at hk
    obtain ⟨s', H', ls, h1, h2, h3⟩ := lendSegs_sound r s H h hr hk
    exact ⟨s', H', ls, h1, h2, h3⟩
theorem lendV_sound {x : SV} {y : Value} {K : Value → St → Heap → List Lend → Prop} (h : Rep C V s H a w) (hx : x.rep V y) (hk : lendV x s H K) :
    ∃ s' H' ls, K y s' H' ls ∧ Rep C V s' H' a w ∧ LendsTo V s H s' H' ls := by
  unfold lendV at hk
  split at hk
  · exact lendC_sound h hx hk
  · obtain ⟨cs, rfl, hs⟩ := hx
    obtain ⟨s', H', ls, h1, h2, h3⟩ := lendSegs_sound _ s H h hs hk
    exact ⟨s', H', ls, h1, h2, h3⟩
  · exact hk.elim
theorem lendK_sound : ∀ (xs : List SV) (ys : List Value) (s : St) (H : Heap) {K : List Value → St → Heap → List Lend → Prop}, Rep C V s H a w → xs.length = ys.length →
    (∀ (i : Nat) (x : SV) (y : Value), xs[i]? = some x → ys[i]? = some y → x.rep V y) → lendK xs s H K → ∃ s' Hl ls, K ys s' Hl ls ∧ Rep C V s' Hl a w ∧ LendsTo V s H s' Hl ls
  | [], ys, s, H, K, h, hl, hr, hk => by
    have : ys = [] := by cases ys <;> simp_all
    subst this
    exact ⟨s, H, [], hk, h, LendsTo.refl _ _ _⟩
  | x :: r, ys, s, H, K, h, hl, hr, hk => by
    obtain ⟨y, ys, rfl⟩ : ∃ y ys', ys = y :: ys' := by cases ys <;> simp_all
    have hx := hr 0 x y rfl rfl
    have hr' : ∀ (i : Nat) (x : SV) (y : Value), r[i]? = some x → ys[i]? = some y → x.rep V y := fun i x y h1 h2 => hr (i + 1) x y (by simpa using h1) (by simpa using h2)
    unfold lendK at hk
    obtain ⟨s1, H1, l1, h1, h2, h3⟩ := lendV_sound h hx hk
    obtain ⟨s2, H2, l2, g1, g2, g3⟩ := lendK_sound r ys s1 H1 h2 (by simpa using hl) hr' h1
    exact ⟨s2, H2, _, g1, g2, h3.trans g3⟩
theorem rowAt_in {v : Value} {ty sz : Nat} {es : List (List Value)} (hs : H.sub w) (h : RowAt H v ty sz es) : RowIn w v ty sz es := by
  rcases h with h | ⟨b, o, cap, c, hv, hb, hr⟩
  · exact .inl h
  · exact .inr ⟨b, o, cap, c, hv, hs _ _ hb, hr⟩
theorem rep_row (h : Rep C V s H a w) {d ty sz : Nat} {v : Value} {es : List (List Value)} (hv : V.row d = v) (hrow : RowAt H v ty sz es) : Rep C V ⟨s.env, objSet s.objs d (.row ty sz es), s.dfr⟩ (H.delO (blockOf v)) a w := by
  have hin := rowAt_in h.sub hrow
  have hobj : ObjRep V w d (.row ty sz es) := by simp only [ObjRep]; rw [hv]; exact hin
  rcases hrow with ⟨rfl, rfl⟩ | ⟨b, o, cap, c, rfl, hb, _⟩
  · exact rep_in0 h (by simp [privB, hv, blockOf]) hobj
  · exact rep_in h (b := b) (by simp [privB, hv, blockOf]) hb hobj
theorem backK_sound : ∀ (ls : List Lend) (s : St) (H : Heap) {K : St → Heap → Prop}, Rep C V s H a w → LentOK V ls → backK P ls s H K → ∃ s' H', K s' H' ∧ Rep C V s' H' a w
  | [], s, H, K, h, _, hk => ⟨s, H, hk, h⟩
  | ⟨d, v, k⟩ :: r, s, H, K, h, hL, hk => by
    have hL0 := hL _ (List.mem_cons_self ..)
    have hLr : LentOK V r := fun x hx => hL x (List.mem_cons_of_mem _ hx)
    cases k with
    | row ty sz =>
      obtain ⟨es, hrow, hk⟩ := hk
      exact backK_sound r _ _ (rep_row h hL0 hrow) hLr hk
    | box ty =>
      simp only at hL0
      subst hL0
      simp only [backK] at hk
      split at hk
      · rename_i ks hks
        obtain ⟨l, ⟨⟨b, hbv, hb⟩, hk⟩, hf⟩ := exSegs_fits hk
        simp [blockOf] at hbv
        subst hbv
        exact backK_sound r _ _ (rep_in h (o := .box ty l) (b := V.blk d) rfl hb ⟨_, fits_rep hf, h.sub _ _ hb⟩) hLr hk
      · exact hk.elim
    | gone => exact backK_sound r _ _ h hLr hk
theorem adoptK_sound (h : Rep C V s H a w) {t ty sz : Nat} {K : St → Heap → Prop} (hk : adoptK s t ty sz H K) : ∃ V' s' H', K s' H' ∧ Rep C V' s' H' a w := by
  unfold adoptK at hk
  split at hk
  · rename_i v hv
    split at hk
    · rename_i hf
      obtain ⟨es, hrow, hk⟩ := hk
      have hx := h.get t
      rw [hv] at hx
      obtain ⟨hx, hone⟩ := hx
      have h1 : Rep C V (s.set t (.c .bad)) H a w := rep_same' h trivial
      have h2 := rep_off (V' := V.rows t v) h1 hf (rows_off V t v)
      have h3 := rep_row h2 (d := t) (ty := ty) (sz := sz) (es := es) (by simp [Vl.rows]) hrow
      have h4 := rep_same' h3 (g := t) (x := .c (.row t)) (by
        show _ ∧ _
        exact ⟨by rw [hx]; simp [Vl.rows], by simpa [Vl.rows] using hone⟩)
      refine ⟨V.rows t v, _, _, hk, ?_⟩
      have e : (St.set ⟨(s.set t (.c .bad)).env, objSet (s.set t (.c .bad)).objs t (.row ty sz es), (s.set t (.c .bad)).dfr⟩ t (.c (.row t))) = St.set ⟨s.env, objSet s.objs t (.row ty sz es), s.dfr⟩ t (.c (.row t)) := by
        simp only [St.set, setNth_setNth']
      rw [← e]
      exact h4
    · exact hk.elim
  · exact hk.elim
end
end Sx
