/- Calls: soundness. -/
import Derived.Test.YtjlnkihkabljbaaSxH
set_option linter.unusedVariables false
set_option linter.unusedSimpArgs false
namespace Sx
open Go
section
variable {P : Program} {C : Ctx} {V : Vl} {s : St} {H : Heap} {a : Act} {w : World}

theorem rep_look (h : Rep C V s H a w) {s' : St} (he : s'.env = s.env) (hd : s'.dfr = s.dfr) (hl : ∀ d o, look s'.objs d = some o → look s.objs d = some o) : Rep C V s' H a w :=
  { env := by rw [he]; exact h.env, len := by rw [he]; exact h.len, dfr := by rw [hd]; exact h.dfr, sub := h.sub, objs := fun d o e => h.objs d o (hl d o e), priv := fun d o b e => h.priv d o b (hl d o e),
    dist := fun d o d' o' b e e' => h.dist d o d' o' b (hl d o e) (hl d' o' e'), os := h.os, tape := h.tape, output := h.output, size := h.size, other := h.other }
/-- Behind a call. -/
theorem rep_step (h : Rep C V s H a w) {H' : Heap} {w' : World} (hs : Step H w H' w') : Rep C V s H' a w' := by
  have keep : ∀ d o b, look s.objs d = some o → privB V d o = some b → w'.heap[b]? = w.heap[b]? ∧ H' b = none := by
    intro d o b h1 h2
    obtain ⟨h3, h4, h5⟩ := h.priv _ _ _ h1 h2
    exact ⟨hs.other b h5 h3, hs.fresh b h5 h3⟩
  refine { env := h.env, len := h.len, dfr := h.dfr, sub := hs.sub, objs := ?_, priv := ?_, dist := h.dist, os := hs.os.trans h.os, tape := hs.tape.trans h.tape, output := hs.output.trans h.output, size := Nat.le_trans h.size hs.size, other := ?_ }
  · intro d o hd
    cases o with
    | box ty l =>
      obtain ⟨cs, h1, h2⟩ := h.objs _ _ hd
      exact ⟨cs, h1, by rw [(keep _ _ _ hd rfl).1]; exact h2⟩
    | row ty sz es => exact rowIn_same (h.objs _ _ hd) fun b hb => (keep _ _ _ hd hb).1
  · intro d o b h1 h2
    obtain ⟨h3, h4, h5⟩ := h.priv _ _ _ h1 h2
    exact ⟨(keep _ _ _ h1 h2).2, h4, Nat.lt_of_lt_of_le h5 hs.size⟩
  · intro b h1 h2
    obtain ⟨h3, h4⟩ := h.other b h1 h2
    have hlt := Nat.lt_of_lt_of_le h1 h.size
    exact ⟨by rw [hs.other b hlt h4, h3], hs.fresh b hlt h4⟩
/-- A variable's block is told. -/
theorem rep_out (h : Rep C V s H a w) {d : Nat} {o : AObj} {b : Nat} {obj : Obj} (hd : look s.objs d = some o) (hp : privB V d o = some b) (hb : w.heap[b]? = some obj) :
    Rep C V ⟨s.env, objDel s.objs d, s.dfr⟩ (H.upd b obj) a w := by
  have hl : ∀ d' o', look (objDel s.objs d) d' = some o' → look s.objs d' = some o' ∧ d' ≠ d := by
    intro d' o' e
    rw [look_objDel] at e
    split at e
    · cases e
    · exact ⟨e, fun x => by simp_all⟩
  refine { env := h.env, len := h.len, dfr := h.dfr, sub := ?_, objs := fun d' o' e => h.objs d' o' (hl _ _ e).1, priv := ?_, dist := fun d1 o1 d2 o2 b' e1 e2 => h.dist d1 o1 d2 o2 b' (hl _ _ e1).1 (hl _ _ e2).1, os := h.os, tape := h.tape, output := h.output, size := h.size, other := ?_ }
  · intro b' o' e
    by_cases hbb : b' = b
    · subst hbb; rw [upd_same] at e; cases e; exact hb
    · rw [upd_ne _ _ hbb] at e; exact h.sub _ _ e
  · intro d' o' b' e1 e2
    obtain ⟨e1, hne⟩ := hl _ _ e1
    obtain ⟨h3, h4, h5⟩ := h.priv _ _ _ e1 e2
    have : b' ≠ b := fun e => hne (by subst e; exact h.dist _ _ _ _ _ e1 hd e2 hp)
    exact ⟨by rw [upd_ne _ _ this]; exact h3, h4, h5⟩
  · intro b' h1 h2
    obtain ⟨h3, h4⟩ := h.other b' h1 h2
    have : b' ≠ b := by intro e; subst e; have := (h.priv _ _ _ hd hp).2.1; omega
    exact ⟨h3, by rw [upd_ne _ _ this]; exact h4⟩
/-- A block that is told is a variable's again. -/
theorem rep_in (h : Rep C V s H a w) {d : Nat} {o : AObj} {b : Nat} {obj : Obj} (hp : privB V d o = some b) (hb : H b = some obj) (hbase : C.w0.heap.size ≤ b) (ho : ObjRep V w d o) :
    Rep C V ⟨s.env, objSet s.objs d o, s.dfr⟩ (H.del b) a w := by
  have hdel : ∀ b', b' ≠ b → H.del b b' = H b' := fun b' e => by simp [Heap.del, e]
  have hdel' : H.del b b = none := by simp [Heap.del]
  have hlt := (Array.getElem?_eq_some_iff.1 (h.sub _ _ hb)).1
  refine { env := h.env, len := h.len, dfr := h.dfr, sub := ?_, objs := ?_, priv := ?_, dist := ?_, os := h.os, tape := h.tape, output := h.output, size := h.size, other := ?_ }
  · intro b' o' e
    by_cases hbb : b' = b
    · subst hbb; rw [hdel'] at e; cases e
    · rw [hdel _ hbb] at e; exact h.sub _ _ e
  · intro d' o' e
    rw [look_objSet] at e
    split at e
    · rename_i hd; subst hd; cases e; exact ho
    · exact h.objs _ _ e
  · intro d' o' b' e1 e2
    rw [look_objSet] at e1
    split at e1
    · rename_i hd; subst hd; cases e1
      rw [hp] at e2; cases e2
      exact ⟨hdel', hbase, hlt⟩
    · obtain ⟨h3, h4, h5⟩ := h.priv _ _ _ e1 e2
      exact ⟨by simp [Heap.del, h3], h4, h5⟩
  · have main : ∀ d' o' b', look s.objs d' = some o' → privB V d' o' = some b' → privB V d o = some b' → False := by
      intro d' o' b' e1 e2 e3
      rw [hp] at e3; cases e3
      rw [(h.priv _ _ _ e1 e2).1] at hb; cases hb
    intro d1 o1 d2 o2 b' e1 e2 p1 p2
    rw [look_objSet] at e1 e2
    split at e1
    · rename_i x1; subst x1; cases e1
      split at e2
      · assumption
      · exact (main _ _ _ e2 p2 p1).elim
    · split at e2
      · rename_i x2; subst x2; cases e2; exact (main _ _ _ e1 p1 p2).elim
      · exact h.dist _ _ _ _ _ e1 e2 p1 p2
  · intro b' h1 h2
    obtain ⟨h3, h4⟩ := h.other b' h1 h2
    exact ⟨h3, by simp [Heap.del, h4]⟩
/-- A row without a block is a variable's again. -/
theorem rep_in0 (h : Rep C V s H a w) {d : Nat} {o : AObj} (hp : privB V d o = none) (ho : ObjRep V w d o) : Rep C V ⟨s.env, objSet s.objs d o, s.dfr⟩ H a w := by
  refine { env := h.env, len := h.len, dfr := h.dfr, sub := h.sub, objs := ?_, priv := ?_, dist := ?_, os := h.os, tape := h.tape, output := h.output, size := h.size, other := h.other }
  · intro d' o' e
    rw [look_objSet] at e
    split at e
    · rename_i hd; subst hd; cases e; exact ho
    · exact h.objs _ _ e
  · intro d' o' b' e1 e2
    rw [look_objSet] at e1
    split at e1
    · rename_i hd; subst hd; cases e1; rw [hp] at e2; cases e2
    · exact h.priv _ _ _ e1 e2
  · intro d1 o1 d2 o2 b' e1 e2 p1 p2
    rw [look_objSet] at e1 e2
    split at e1
    · rename_i x1; subst x1; cases e1; rw [hp] at p1; cases p1
    · split at e2
      · rename_i x2; subst x2; cases e2; rw [hp] at p2; cases p2
      · exact h.dist _ _ _ _ _ e1 e2 p1 p2
def delAll (l : List (Nat × AObj)) : List Lend → List (Nat × AObj)
  | [] => l
  | x :: r => delAll (objDel l x.site) r
/-- What was lent, and where it lies. -/
def LentOK (C : Ctx) (V : Vl) (s : St) : List Lend → Prop
  | [] => True
  | x :: r => (∀ o, look s.objs x.site = some o → privB V x.site o = blockOf x.val ∧ (∀ ty sz es, o = .row ty sz es → V.row x.site = x.val) ∧ (∀ ty l, o = .box ty l → x.val = .pointer (some ⟨V.blk x.site, 0, none⟩))) ∧
      (∀ b, blockOf x.val = some b → C.w0.heap.size ≤ b) ∧ (∀ y ∈ r, y.site ≠ x.site) ∧ LentOK C V s r
theorem lendK_sound : ∀ (xs : List SV) (ys : List Value) (s : St) (H : Heap) {K : List Value → Heap → List Lend → Prop}, Rep C V s H a w → xs.length = ys.length →
    (∀ (i : Nat) (x : SV) (y : Value), xs[i]? = some x → ys[i]? = some y → x.rep V y) → lendK s xs H K →
    ∃ Hl ls, K ys Hl ls ∧ Rep C V ⟨s.env, delAll s.objs ls, s.dfr⟩ Hl a w ∧ LentOK C V s ls ∧ ∀ x ∈ ls, ∃ o, look s.objs x.site = some o
  | [], ys, s, H, K, h, hl, hr, hk => by
    have : ys = [] := by cases ys <;> simp_all
    subst this
    exact ⟨H, [], hk, h, trivial, by simp⟩
  | x :: r, ys, s, H, K, h, hl, hr, hk => by
    obtain ⟨y, ys, rfl⟩ : ∃ y ys', ys = y :: ys' := by cases ys <;> simp_all
    have hx := hr 0 x y rfl rfl
    have hr' : ∀ (i : Nat) (x : SV) (y : Value), r[i]? = some x → ys[i]? = some y → x.rep V y := fun i x y h1 h2 => hr (i + 1) x y (by simpa using h1) (by simpa using h2)
    have hl' : r.length = ys.length := by simpa using hl
    have back : ∀ {d : Nat} {ls : List Lend}, (∀ x ∈ ls, ∃ o, look (objDel s.objs d) x.site = some o) → (∀ x ∈ ls, ∃ o, look s.objs x.site = some o) ∧ ∀ y ∈ ls, y.site ≠ d := by
      intro d ls h1
      refine ⟨fun x hx => ?_, fun y hy => ?_⟩
      · obtain ⟨o, ho⟩ := h1 x hx
        rw [look_objDel] at ho
        split at ho
        · cases ho
        · exact ⟨o, ho⟩
      · obtain ⟨o, ho⟩ := h1 y hy
        rw [look_objDel] at ho
        split at ho
        · cases ho
        · rename_i hne; exact fun e => hne e.symm
    have lent : ∀ {d : Nat} {ls : List Lend}, (∀ x ∈ ls, ∃ o, look (objDel s.objs d) x.site = some o) → LentOK C V ⟨s.env, objDel s.objs d, s.dfr⟩ ls → LentOK C V s ls := by
      intro d ls
      induction ls with
      | nil => intro _ _; trivial
      | cons x ls ih =>
        intro h1 h2
        obtain ⟨h3, h4, h5, h6⟩ := h2
        have hne := (back h1).2 x (by simp)
        refine ⟨fun o ho => h3 o ?_, h4, h5, ih (fun y hy => h1 y (by simp [hy])) h6⟩
        rw [look_objDel, if_neg (fun e => hne e.symm)]
        exact ho
    unfold lendK at hk
    split at hk
    · rename_i d
      obtain ⟨rfl, hone⟩ := hx
      split at hk
      · rename_i ty sz es hlook
        have ho := h.objs _ _ hlook
        rcases ho with ⟨hv, rfl⟩ | ⟨b, o, cap, c, hv, hb, hrest⟩
        · have hrep : Rep C V ⟨s.env, objDel s.objs d, s.dfr⟩ H a w := rep_look h rfl rfl fun d' o' e => by
            rw [look_objDel] at e; split at e
            · cases e
            · exact e
          obtain ⟨Hl, ls, h1, h2, h4, h5⟩ := lendK_sound r ys _ H hrep hl' hr' (hk (V.row d) H (fun _ _ e => e) (by rw [hv]; simp [blockOf]) (fun _ _ e => .inl e) (.inl ⟨hv, rfl⟩))
          refine ⟨Hl, ⟨d, V.row d⟩ :: ls, h1, h2, ⟨?_, ?_, (back h5).2, lent h5 h4⟩, ?_⟩
          · intro o' ho'
            rw [hlook] at ho'; cases ho'
            exact ⟨rfl, fun _ _ _ _ => rfl, fun _ _ e => by cases e⟩
          · rw [hv]; simp [blockOf]
          · intro x hx
            rcases List.mem_cons.1 hx with rfl | hx
            · exact ⟨_, hlook⟩
            · exact (back h5).1 x hx
        · have hp : privB V d (.row ty sz es) = some b := by simp [privB, hv, blockOf]
          have hrep := rep_out h hlook hp hb
          obtain ⟨hn, hbase, hlt⟩ := h.priv _ _ _ hlook hp
          obtain ⟨Hl, ls, h1, h2, h4, h5⟩ := lendK_sound r ys _ _ hrep hl' hr' (hk (V.row d) (H.upd b (.cells c ty (0, 0)))
            (fun b' o' e => by
              by_cases hbb : b' = b
              · subst hbb; rw [hn] at e; cases e
              · rw [upd_ne _ _ hbb]; exact e)
            (by rw [hv]; simp [blockOf]; exact hn)
            (fun b' o' e => by
              by_cases hbb : b' = b
              · subst hbb; right; rw [hv]; rfl
              · rw [upd_ne _ _ hbb] at e; exact .inl e)
            (.inr ⟨b, o, cap, c, hv, upd_same _ _ _, hrest⟩))
          refine ⟨Hl, ⟨d, V.row d⟩ :: ls, h1, h2, ⟨?_, ?_, (back h5).2, lent h5 h4⟩, ?_⟩
          · intro o' ho'
            rw [hlook] at ho'; cases ho'
            exact ⟨rfl, fun _ _ _ _ => rfl, fun _ _ e => by cases e⟩
          · intro b' hb'
            rw [hv] at hb'
            simp [blockOf] at hb'
            subst hb'
            exact hbase
          · intro x hx
            rcases List.mem_cons.1 hx with rfl | hx
            · exact ⟨_, hlook⟩
            · exact (back h5).1 x hx
      · exact hk.elim
    · rename_i d
      simp only [SV.rep, SC.rep] at hx
      subst hx
      split at hk
      · rename_i ty l hlook
        split at hk
        · rename_i cs hcs
          obtain ⟨cs', h1, hb⟩ := h.objs _ _ hlook
          have := flat_rep h1 hcs
          subst this
          have hp : privB V d (.box ty l) = some (V.blk d) := rfl
          have hrep := rep_out h hlook hp hb
          obtain ⟨hn, hbase, hlt⟩ := h.priv _ _ _ hlook hp
          obtain ⟨Hl, ls, h1, h2, h4, h5⟩ := lendK_sound r ys _ _ hrep hl' hr' (hk (V.blk d) hn)
          refine ⟨Hl, ⟨d, .pointer (some ⟨V.blk d, 0, none⟩)⟩ :: ls, h1, h2, ⟨?_, ?_, (back h5).2, lent h5 h4⟩, ?_⟩
          · intro o' ho'
            rw [hlook] at ho'; cases ho'
            exact ⟨rfl, fun _ _ _ e => (by cases e), fun _ _ _ => rfl⟩
          · intro b' hb'
            simp [blockOf] at hb'
            subst hb'
            exact hbase
          · intro x hx
            rcases List.mem_cons.1 hx with rfl | hx
            · exact ⟨_, hlook⟩
            · exact (back h5).1 x hx
        · exact hk.elim
      · exact hk.elim
    · split at hk
      · rename_i v hv
        have := val_rep hx hv
        subst this
        obtain ⟨Hl, ls, h1, h2, h4, h5⟩ := lendK_sound r ys s H h hl' hr' hk
        exact ⟨Hl, ls, h1, h2, h4, h5⟩
      · exact hk.elim

theorem look_delAll : ∀ (ls : List Lend) (l : List (Nat × AObj)) (x : Nat), look (delAll l ls) x = if (∃ y ∈ ls, y.site = x) then none else look l x
  | [], l, x => by simp [delAll]
  | y :: r, l, x => by
    simp only [delAll, look_delAll r, look_objDel]
    by_cases h1 : ∃ y ∈ r, y.site = x
    · rw [if_pos h1, if_pos (by obtain ⟨z, h2, h3⟩ := h1; exact ⟨z, by simp [h2], h3⟩)]
    · rw [if_neg h1]
      by_cases h2 : y.site = x
      · rw [if_pos h2, if_pos ⟨y, by simp, h2⟩]
      · rw [if_neg h2, if_neg]
        rintro ⟨z, h3, h4⟩
        rcases List.mem_cons.1 h3 with rfl | h3
        · exact h2 h4
        · exact h1 ⟨z, h3, h4⟩
theorem rowAt_in {v : Value} {ty sz : Nat} {es : List (List Value)} (hs : H.sub w) (h : RowAt H v ty sz es) : RowIn w v ty sz es := by
  rcases h with h | ⟨b, o, cap, c, hv, hb, hr⟩
  · exact .inl h
  · exact .inr ⟨b, o, cap, c, hv, hs _ _ hb, hr⟩
theorem backK_sound : ∀ (ls : List Lend) (s : St) (H : Heap) {K : St → Heap → Prop}, Rep C V ⟨s.env, delAll s.objs ls, s.dfr⟩ H a w → LentOK C V s ls → (∀ x ∈ ls, ∃ o, look s.objs x.site = some o) → backK P ls s H K →
    ∃ s' H', K s' H' ∧ Rep C V s' H' a w
  | [], s, H, K, h, _, _, hk => ⟨s, H, hk, h⟩
  | ⟨d, v⟩ :: r, s, H, K, h, hL, hE, hk => by
    obtain ⟨hL1, hL2, hL3, hL4⟩ := hL
    -- what holds of the rest with a new object at d
    have rest : ∀ (o : AObj) (H' : Heap), Rep C V ⟨s.env, objSet (delAll s.objs (⟨d, v⟩ :: r)) d o, s.dfr⟩ H' a w →
        Rep C V ⟨s.env, delAll (objSet s.objs d o) r, s.dfr⟩ H' a w ∧ LentOK C V ⟨s.env, objSet s.objs d o, s.dfr⟩ r ∧ ∀ x ∈ r, ∃ o', look (objSet s.objs d o) x.site = some o' := by
      intro o H' h'
      have hsame : ∀ y ∈ r, look (objSet s.objs d o) y.site = look s.objs y.site := fun y hy => by
        rw [look_objSet, if_neg (fun e => hL3 y hy e.symm)]
      refine ⟨rep_look h' rfl rfl ?_, ?_, fun x hx => by rw [hsame x hx]; exact hE x (by simp [hx])⟩
      · intro x o' e
        simp only [look_delAll] at e
        split at e
        · cases e
        · rename_i hn
          simp only [look_objSet, look_delAll] at e ⊢
          by_cases hx : d = x
          · subst hx; simpa using e
          · rw [if_neg hx] at e ⊢
            rw [if_neg]
            · exact e
            · rintro ⟨z, h3, h4⟩
              rcases List.mem_cons.1 h3 with rfl | h3
              · exact hx h4
              · exact hn ⟨z, h3, h4⟩
      · clear hE h h' hk hL1 hL2
        induction r with
        | nil => trivial
        | cons y r ih =>
          obtain ⟨g1, g2, g3, g4⟩ := hL4
          refine ⟨fun o' ho' => g1 o' ?_, g2, g3, ih (fun y hy => hL3 y (by simp [hy])) g4 (fun y hy => hsame y (by simp [hy]))⟩
          rw [hsame y (by simp)] at ho'
          exact ho'
    simp only [backK] at hk
    split at hk
    · rename_i ty sz es0 hlook
      obtain ⟨h1, h2, _⟩ := hL1 _ hlook
      have hv := h2 _ _ _ rfl
      simp only at hv h1
      obtain ⟨es, hrow, hk⟩ := hk
      have hin := rowAt_in h.sub hrow
      have hobj : ObjRep V w d (.row ty sz es) := by simp only [ObjRep]; rw [hv]; exact hin
      rcases hrow with ⟨rfl, rfl⟩ | ⟨b, o, cap, c, rfl, hb, _⟩
      · obtain ⟨r1, r2, r3⟩ := rest _ _ (rep_in0 h (o := .row ty sz []) (by simp [privB, hv, blockOf]) hobj)
        exact backK_sound r _ _ r1 r2 r3 hk
      · obtain ⟨r1, r2, r3⟩ := rest _ _ (rep_in h (o := .row ty sz es) (b := b) (by simp [privB, hv, blockOf]) hb (hL2 b (by simp [blockOf])) hobj)
        exact backK_sound r _ _ r1 r2 r3 hk
    · rename_i ty l0 hlook
      obtain ⟨h1, _, h3⟩ := hL1 _ hlook
      have hv := h3 _ _ rfl
      simp only at hv
      subst hv
      split at hk
      · rename_i ks hks
        obtain ⟨l, ⟨⟨b, hbv, hb⟩, hk⟩, hf⟩ := exSegs_fits hk
        simp [blockOf] at hbv
        subst hbv
        obtain ⟨r1, r2, r3⟩ := rest _ _ (rep_in h (o := .box ty l) (b := V.blk d) rfl hb (hL2 _ (by simp [blockOf])) ⟨_, fits_rep hf, h.sub _ _ hb⟩)
        exact backK_sound r _ _ r1 r2 r3 hk
      · exact hk.elim
    · exact hk.elim
/-! ### What a call hands back -/
theorem comp_fits {V : Vl} {t : TypeId} {ks : List SK} {l : List Seg} (hks : kinds P t = some ks) (hf : Fits ks l) : (mkComp (isAggT P t) l).rep V (compVal (mkComp (isAggT P t) l)) := by
  cases ha : isAggT P t with
  | true => exact ⟨_, rfl, fits_rep hf⟩
  | false =>
    obtain ⟨k1, rfl⟩ := kinds_one hks ha
    obtain ⟨y, rfl, h1⟩ := fits_one hf
    exact ⟨rfl, h1⟩
theorem exComps_sound {V : Vl} : ∀ {ts : List TypeId} {ks : List (Bool × List SK)} {K : List Comp → Prop}, compKinds P ts = some ks → exComps ks K → ∃ cs, K cs ∧ CompsRep V cs (cs.map compVal)
  | [], ks, K, h, hk => by
    simp [compKinds] at h
    subst h
    exact ⟨[], hk, rfl⟩
  | t :: r, ks, K, h, hk => by
    simp only [compKinds] at h
    split at h
    · rename_i ks1 l h1 h2
      cases h
      obtain ⟨sg, hk, hf⟩ := exSegs_fits hk
      obtain ⟨cs, hk, hr⟩ := exComps_sound (V := V) h2 hk
      exact ⟨_, hk, _, _, rfl, comp_fits h1 hf, hr⟩
    · cases h
theorem retK_sound {V : Vl} {t : TypeId} {e : Ending} {K : SV → Prop} (hk : retK P t e K) : ∃ v x, e = .returned v ∧ x.rep V v ∧ K x := by
  unfold retK at hk
  split at hk
  · split at hk
    · rename_i ks hks
      obtain ⟨cs, ⟨h1, h2⟩, hr⟩ := exComps_sound (V := V) hks hk
      exact ⟨_, .tup cs, h1, ⟨_, rfl, hr⟩, h2⟩
    · exact hk.elim
  · split at hk
    · rename_i ks hks
      obtain ⟨l, ⟨h1, h2⟩, hf⟩ := exSegs_fits hk
      refine ⟨_, _, h1, ?_, h2⟩
      cases ha : isAggT P t with
      | true => exact ⟨_, rfl, fits_rep hf⟩
      | false =>
        obtain ⟨k1, rfl⟩ := kinds_one hks ha
        obtain ⟨y, rfl, h1'⟩ := fits_one hf
        exact ⟨rfl, h1'⟩
    · exact hk.elim
def CallPost (C : Ctx) (o : Oper) (a : Act) (Hb : Option Heap) (Kp : Option (List PanicEntry → Heap → Prop)) (K : St → Heap → Prop) : Ending → World → Prop
  | .returned v, w' => ∃ V s' H', K s' H' ∧ (∀ h, Hb = some h → h ≤ H') ∧ Rep C V s' H' (a.put o.dst v) w'
  | .panicked c, w' => ∃ kp V H', Kp = some kp ∧ kp c H' ∧ Rep C V ⟨[], [], a.defers⟩ H' a w'
  | .outgrown, _ => False
/-- What a call comes to. -/
def CallGoes (P : Program) (C : Ctx) (o : Oper) (a : Act) (w : World) (Hb : Option Heap) (Kp : Option (List PanicEntry → Heap → Prop)) (K : St → Heap → Prop) : Prop :=
  ∃ f args, (execOp a.eval o).run P w = .ok (.enter f args) w ∧ Calls P f args w (CallPost C o a Hb Kp K)
theorem callable_run {f : FuncId} (h : callable P f = true) (args : Array Value) : (callFunc f args).run P w = .ok (.enter f args) w := by
  unfold callable at h
  split at h
  · rename_i fn hf
    simp only [Bool.and_eq_true, bne_iff_ne, ne_eq] at h
    unfold callFunc
    simp only [Sem.run_bind, run_program, Result.andThen_ok, hf]
    rw [if_neg (by simpa using h.2), if_neg (by simp; exact Option.isSome_iff_ne_none.1 h.1)]
    rfl
  · cases h
theorem callK_sound (h : Rep C V s H a w) (o : Oper) {Hb : Option Heap} {Kp : Option (List PanicEntry → Heap → Prop)} {K : St → Heap → Prop} (hk : callK P o s Hb H Kp K) : CallGoes P C o a w Hb Kp K := by
  unfold callK at hk
  split at hk
  · rename_i f args ats ho
    have hlend := lendK_sound (args.toList.map (ev s)) (args.toList.map a.eval) s H h (by simp) (fun i x y hx hy => by
      simp at hx hy
      obtain ⟨q, hq, rfl⟩ := hx
      obtain ⟨q', hq', rfl⟩ := hy
      rw [hq] at hq'; cases hq'
      exact h.ev q) hk
    clear hk
    obtain ⟨Hl, ls, hk, hrep, hlent, hex⟩ := hlend
    have post : ∀ (e : Ending) (w' : World), (∃ H', Step Hl w H' w' ∧ callR P o s ls Hb Kp K e H') → CallPost C o a Hb Kp K e w' := by
      rintro e w' ⟨H', hstep, hR⟩
      have hrep' := rep_step hrep hstep
      have good : (retK P o.type e fun x => backK P ls s H' fun s' H'' => hbK Hb H'' (K (s'.put o.dst x) H'')) → CallPost C o a Hb Kp K e w' := by
        intro hR
        obtain ⟨v, x, rfl, hx, hb⟩ := retK_sound (V := V) hR
        obtain ⟨s', H'', h1, h2⟩ := backK_sound ls s H' hrep' hlent hex hb
        cases Hb with
        | none => exact ⟨V, _, H'', h1, by simp, h2.put hx o.dst⟩
        | some hb => exact ⟨V, _, H'', h1.2, fun h e => by cases e; exact h1.1, h2.put hx o.dst⟩
      unfold callR at hR
      cases Kp with
      | none => exact good hR
      | some kp =>
        rcases hR with hR | ⟨c, rfl, hR⟩
        · exact good hR
        · refine ⟨kp, V, H', rfl, hR, ?_⟩
          exact { env := by simp [nth], len := by simp, dfr := rfl, sub := hrep'.sub, objs := by simp [look], priv := by simp [look], dist := by simp [look], os := hrep'.os, tape := hrep'.tape, output := hrep'.output, size := hrep'.size, other := hrep'.other }
    have hargs : (args.map a.eval) = (args.toList.map a.eval).toArray := by apply Array.ext'; simp
    split at hk
    · rename_i g
      obtain ⟨hc, hk⟩ := hk
      refine ⟨g, (args.toList.map a.eval).toArray, ?_, (hk w hrep.sub).mono post⟩
      unfold execOp
      rw [ho]
      simp only [resolve, Sem.run_bind, Act.eval, Deferred.ofValue, Sem.run_pure, Result.andThen_ok, invoke]
      rw [hargs]
      have e1 : (#[] : Array Value) ++ (args.toList.map a.eval).toArray ++ #[] = (args.toList.map a.eval).toArray := by apply Array.ext'; simp
      rw [e1]
      exact callable_run hc _
    · rename_i f' _
      have hf := h.ev f
      split at hk
      · rename_i fv hfv
        rw [hfv] at hf
        obtain ⟨hf, -⟩ := hf
        unfold MeetsV at hk
        split at hk
        · rename_i g first cap
          obtain ⟨hc, hk⟩ := hk
          refine ⟨g, (first.toList ++ args.toList.map a.eval ++ cap.toList).toArray, ?_, (hk w hrep.sub).mono post⟩
          unfold execOp
          rw [ho]
          simp only [resolve, Sem.run_bind, hf, Deferred.ofValue, Sem.run_pure, Result.andThen_ok, invoke]
          have : first ++ Array.map a.eval args ++ cap = (first.toList ++ args.toList.map a.eval ++ cap.toList).toArray := by apply Array.ext'; simp
          rw [this]
          exact callable_run hc _
        · exact hk.elim
      · exact hk.elim
  · exact hk.elim
end
end Sx
