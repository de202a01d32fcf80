/- Loops: a state as one at the head: soundness. -/
import Derived.Test.YtekaopahienmgaaSxJ
set_option linter.unusedVariables false
set_option linter.unusedSimpArgs false
namespace Sx
open Go
section
variable {P : Program} {C : Ctx} {V : Vl} {s : St} {H : Heap} {a : Act} {w : World}

theorem only_refl (B : Nat → Prop) : Only w w B := ⟨rfl, rfl, rfl, Nat.le_refl _, fun _ _ _ => rfl⟩
theorem setNth_setNth {α : Type} : ∀ (l : List α) (n : Nat) (x y : α), setNth (setNth l n x) n y = setNth l n y
  | [], _, _, _ => rfl
  | _ :: r, 0, _, _ => rfl
  | z :: r, n + 1, x, y => by simp [setNth, setNth_setNth r n x y]
theorem rep_setbad (h : Rep C V s H a w) (t : Nat) : Rep C V (s.set t (.c .bad)) H a w := rep_same h (x := .c .bad) trivial
theorem norm_step (h : Rep C V s H a w) {t d ty sz : Nat} (hf : (s.set t (.c .bad)).free d = true) {base : Option Nat} {es : List (List Value)} (hb : baseOf s ty sz (s.get t) = some (base, es)) :
    ∃ V', Rep C V' (St.set ⟨s.env, objSet (delO s.objs base) d (.row ty sz es), s.dfr⟩ t (.c (.row d))) H a w := by
  obtain ⟨ab, cap, hbr⟩ := base_rep h (h.get t) hb
  have h1 := rep_setbad h t
  have hoff := rows_off V d (a.tmps.getD t undef)
  have hv : one (a.tmps.getD t undef) = true := by rw [hbr.val]; rfl
  have hrow : RowIn w (a.tmps.getD t undef) ty sz es := by
    rw [hbr.val]
    rcases hbr.blk with ⟨rfl, rfl⟩ | ⟨b, o, c, ty', rfl, hb1, hb2, hb3, ⟨rfl, _⟩ | ⟨hg, _⟩⟩
    · have : es = [] := List.length_eq_zero_iff.1 (by have := hbr.room; omega)
      subst this
      exact .inl ⟨rfl, rfl⟩
    · exact .inr ⟨b, o, cap, c, rfl, hb1, hbr.room, hb2, hbr.el, hb3, hbr.on⟩
    · exact hg.elim
  have h2 := rep_objs (d := d) (obj := .row ty sz es) (base := base) (V' := V.rows d (a.tmps.getD t undef)) h1 hf hoff (only_refl _) (by simpa [ObjRep, Vl.rows] using hrow) (by
    intro b hb'
    simp only [privB, Vl.rows, if_true] at hb'
    rw [hbr.val] at hb'
    rcases hbr.blk with ⟨rfl, rfl⟩ | ⟨b', o, c, ty', rfl, hb1, hb2, hb3, ⟨rfl, r, ob, g1, g2, g3⟩ | ⟨hg, _⟩⟩
    · simp [blockOf] at hb'
    · simp [blockOf] at hb'
      subst hb'
      exact .inr ⟨r, ob, g1, g2, g3⟩
    · exact hg.elim)
  have h3 := rep_same h2 (g := t) (x := .c (.row d)) (by
    show _ ∧ _
    exact ⟨by simp [Vl.rows], by simpa [Vl.rows] using hv⟩)
  refine ⟨V.rows d (a.tmps.getD t undef), ?_⟩
  have e : (St.set ⟨(s.set t (.c .bad)).env, objSet (delO (s.set t (.c .bad)).objs base) d (.row ty sz es), (s.set t (.c .bad)).dfr⟩ t (.c (.row d))) = St.set ⟨s.env, objSet (delO s.objs base) d (.row ty sz es), s.dfr⟩ t (.c (.row d)) := by
    simp only [St.set, setNth_setNth]
  rw [← e]
  exact h3
theorem normTo_sound {t d ty sz : Nat} {K : St → Prop} (h : Rep C V s H a w) (hk : normTo s t d ty sz K) : ∃ V' s', K s' ∧ Rep C V' s' H a w := by
  unfold normTo at hk
  split at hk
  · rename_i base es hf hb
    obtain ⟨V', h'⟩ := norm_step h hf hb
    exact ⟨V', _, hk, h'⟩
  · exact hk.elim
theorem normRow_sound {t ty sz : Nat} {K : St → Prop} (h : Rep C V s H a w) (hk : normRow s t ty sz K) : ∃ V' s', K s' ∧ Rep C V' s' H a w := by
  unfold normRow at hk
  have hd : Rep C V ⟨s.env, objDel s.objs t, s.dfr⟩ H a w := rep_del h t
  split at hk
  · split at hk
    · exact ⟨V, s, hk, h⟩
    · exact normTo_sound hd hk
  · split at hk
    · obtain ⟨V', s', hk', h'⟩ := normTo_sound h hk
      exact normTo_sound h' hk'
    · exact normTo_sound hd hk
  · exact normTo_sound hd hk
theorem normRows_sound : ∀ (l : List SlotH) {V : Vl} {s : St} {H : Heap} {K : St → Heap → Prop}, Rep C V s H a w → normRows l s H K → ∃ V' s' H', K s' H' ∧ Rep C V' s' H' a w
  | [], V, s, H, K, h, hk => ⟨V, s, H, hk, h⟩
  | .f t k :: r, V, s, H, K, h, hk => normRows_sound r h hk
  | .row t ty sz :: r, V, s, H, K, h, hk => by
    simp only [normRows] at hk
    obtain ⟨V', s', hk, h'⟩ := normRow_sound h hk
    exact normRows_sound r h' hk
  | .own t ty sz :: r, V, s, H, K, h, hk => by
    simp only [normRows] at hk
    split at hk
    · obtain ⟨V', s', H', hk, h'⟩ := adoptK_sound h hk
      exact normRows_sound r h' hk
    · obtain ⟨V', s', hk, h'⟩ := normRow_sound h hk
      exact normRows_sound r h' hk
theorem getK_spec : ∀ (k : FK) (v : Value) {K : k.ty → Prop}, k.getK v K → ∃ x, K x ∧ v = k.mk x := by
  intro k v K h
  cases k <;> cases v <;> simp only [FK.getK] at h <;> first
    | exact h.elim
    | exact ⟨_, h, rfl⟩
    | (split at h
       · rename_i hk; have := sameK_eq hk; subst this; exact ⟨_, h, rfl⟩
       · exact h.elim)
theorem eqSC_spec {x y : SC} {X : Prop} (h : eqSC x y X) : x = y ∧ X := by
  unfold eqSC at h
  split at h
  · split at h
    · rename_i hk; have := sameK_eq hk; subst this; exact ⟨by rw [h.1], h.2⟩
    · exact h.elim
  · exact ⟨by rw [h.1], h.2⟩
  · exact ⟨by rw [h.1], h.2⟩
  · exact ⟨by rw [h.1, h.2.1, h.2.2.1], h.2.2.2⟩
  · exact ⟨by rw [h.1], h.2⟩
  · exact ⟨by rw [h.1], h.2⟩
  · split at h
    · rename_i hk; have := nbt hk; subst this; exact ⟨by rw [h.1], h.2⟩
    · exact h.elim
  · split at h
    · rename_i hk; have := nbt hk; subst this; exact ⟨rfl, h⟩
    · exact h.elim
  · exact ⟨rfl, h⟩
  · exact h
theorem eqSegs_spec : ∀ {l r : List Seg} {X : Prop}, eqSegs l r X → l = r ∧ X
  | [], [], X, h => ⟨rfl, h⟩
  | .c x :: l, .c y :: r, X, h => by
    obtain ⟨e1, h1⟩ := eqSC_spec h
    obtain ⟨e2, h2⟩ := eqSegs_spec h1
    exact ⟨by rw [e1, e2], h2⟩
  | .ints k n xs :: l, .ints k' n' ys :: r, X, h => by
    simp only [eqSegs] at h
    split at h
    · rename_i hk
      simp only [Bool.and_eq_true] at hk
      have := sameK_eq hk.1; subst this
      have := nbt hk.2; subst this
      obtain ⟨e2, h2⟩ := eqSegs_spec h.2
      exact ⟨by rw [h.1, e2], h2⟩
    · exact h.elim
  | [], _ :: _, X, h => by simp [eqSegs] at h
  | .c _ :: _, [], X, h => by simp [eqSegs] at h
  | .ints _ _ _ :: _, [], X, h => by simp [eqSegs] at h
  | .c _ :: _, .ints _ _ _ :: _, X, h => by simp [eqSegs] at h
  | .ints _ _ _ :: _, .c _ :: _, X, h => by simp [eqSegs] at h
theorem eqSV_spec {x y : SV} {X : Prop} (h : eqSV x y X) : x = y ∧ X := by
  unfold eqSV at h
  split at h
  · obtain ⟨e1, h1⟩ := eqSC_spec h; exact ⟨by rw [e1], h1⟩
  · obtain ⟨e1, h1⟩ := eqSegs_spec h; exact ⟨by rw [e1], h1⟩
  · exact h
theorem eqSVs_spec : ∀ {l r : List SV} {X : Prop}, eqSVs l r X → l = r ∧ X
  | [], [], X, h => ⟨rfl, h⟩
  | x :: l, y :: r, X, h => by
    obtain ⟨e1, h1⟩ := eqSV_spec h
    obtain ⟨e2, h2⟩ := eqSVs_spec h1
    exact ⟨by rw [e1, e2], h2⟩
  | [], _ :: _, X, h => by simp [eqSVs] at h
  | _ :: _, [], X, h => by simp [eqSVs] at h
theorem eqO_spec {x y : Option AObj} {X : Prop} (h : eqO x y X) : x = y ∧ X := by
  unfold eqO at h
  split at h
  · exact ⟨rfl, h⟩
  · split at h
    · rename_i hk; have := nbt hk; subst this
      obtain ⟨e1, h1⟩ := eqSegs_spec h
      exact ⟨by rw [e1], h1⟩
    · exact h.elim
  · split at h
    · rename_i hk
      simp only [Bool.and_eq_true] at hk
      have := nbt hk.1; subst this
      have := nbt hk.2; subst this
      exact ⟨by rw [h.1], h.2⟩
    · exact h.elim
  · exact h.elim
theorem eqD_spec {x y : List ADef} {X : Prop} (h : eqD x y X) : x = y ∧ X := by
  unfold eqD at h
  split at h
  · exact ⟨rfl, h⟩
  · exact h
def SlotsM (s : St) : (l : List SlotH) → PTy (l.map SlotH.pk) → Prop
  | [], _ => True
  | .f t k :: r, x => s.get t = .c (.v (k.mk x.1)) ∧ SlotsM s r x.2
  | .row t ty sz :: r, x => s.get t = .c (.row t) ∧ look s.objs t = some (.row ty sz x.1) ∧ SlotsM s r x.2
  | .own t ty sz :: r, x => s.get t = .c (.row t) ∧ look s.objs t = some (.row ty sz x.1) ∧ SlotsM s r x.2
theorem getSlots_spec : ∀ (l : List SlotH) {K : PTy (l.map SlotH.pk) → Prop}, getSlots s l K → ∃ p, K p ∧ SlotsM s l p
  | [], K, h => ⟨(), h, trivial⟩
  | .f t k :: r, K, h => by
    simp only [getSlots] at h
    split at h
    · rename_i v hv
      obtain ⟨x, h', rfl⟩ := getK_spec k v h
      obtain ⟨p, h1, h2⟩ := getSlots_spec r h'
      exact ⟨(x, p), h1, hv, h2⟩
    · exact h.elim
  | .row t ty sz :: r, K, h => by
    simp only [getSlots] at h
    split at h
    · rename_i d ty' sz' es hd hl
      split at h
      · rename_i hb
        simp only [Bool.and_eq_true] at hb
        have := nbt hb.1.1; subst this
        have := nbt hb.1.2; subst this
        have := nbt hb.2; subst this
        obtain ⟨p, h1, h2⟩ := getSlots_spec r h
        exact ⟨(es, p), h1, hd, hl, h2⟩
      · exact h.elim
    · exact h.elim
  | .own t ty sz :: r, K, h => by
    simp only [getSlots] at h
    split at h
    · rename_i d ty' sz' es hd hl
      split at h
      · rename_i hb
        simp only [Bool.and_eq_true] at hb
        have := nbt hb.1.1; subst this
        have := nbt hb.1.2; subst this
        have := nbt hb.2; subst this
        obtain ⟨p, h1, h2⟩ := getSlots_spec r h
        exact ⟨(es, p), h1, hd, hl, h2⟩
      · exact h.elim
    · exact h.elim
theorem getSegs_spec : ∀ (l : List SegH) (sg : List Seg) {K : PTy (l.map SegH.pk) → Prop}, getSegs l sg K → ∃ p, K p ∧ sg = mkSegs l p
  | [], [], K, h => ⟨(), h, rfl⟩
  | .f k :: r, .c (.v v) :: sg, K, h => by
    simp only [getSegs] at h
    obtain ⟨x, h', rfl⟩ := getK_spec k v h
    obtain ⟨p, h1, rfl⟩ := getSegs_spec r sg h'
    exact ⟨(x, p), h1, rfl⟩
  | .ints k n :: r, .ints k' n' xs :: sg, K, h => by
    simp only [getSegs] at h
    split at h
    · rename_i hb
      simp only [Bool.and_eq_true] at hb
      have := sameK_eq hb.1; subst this
      have := nbt hb.2; subst this
      obtain ⟨p, h1, rfl⟩ := getSegs_spec r sg h
      exact ⟨(xs, p), h1, rfl⟩
    · exact h.elim
  | [], _ :: _, K, h => by simp [getSegs] at h
  | .f k :: r, [], K, h => by simp [getSegs] at h
  | .ints k n :: r, [], K, h => by simp [getSegs] at h
  | .f k :: r, .ints _ _ _ :: _, K, h => by simp [getSegs] at h
  | .ints k n :: r, .c _ :: _, K, h => by simp [getSegs] at h
  | .f k :: r, .c (.box _ _) :: _, K, h => by simp [getSegs] at h
  | .f k :: r, .c (.boxi _ _ _ _) :: _, K, h => by simp [getSegs] at h
  | .f k :: r, .c (.arr _ _ _ _ _) :: _, K, h => by simp [getSegs] at h
  | .f k :: r, .c (.row _) :: _, K, h => by simp [getSegs] at h
  | .f k :: r, .c (.sub _ _ _ _) :: _, K, h => by simp [getSegs] at h
  | .f k :: r, .c (.cell _ _ _ _) :: _, K, h => by simp [getSegs] at h
  | .f k :: r, .c (.clo _ _ _) :: _, K, h => by simp [getSegs] at h
  | .f k :: r, .c .bad :: _, K, h => by simp [getSegs] at h
theorem getObjs_spec {s0 : St} : ∀ (l : List ObjH) {K : PTy2 (l.map ObjH.pks) → Prop}, getObjs s0 s l K → ∃ p, K p ∧ ∀ d o, look (mkObjs s0 l p) d = some o → look s.objs d = some o
  | [], K, h => ⟨(), h, by simp [mkObjs, look]⟩
  | .keep d :: r, K, h => by
    obtain ⟨h0, h⟩ := eqO_spec h
    obtain ⟨p, h1, h2⟩ := getObjs_spec r h
    refine ⟨((), p), h1, ?_⟩
    intro d' o e
    simp only [mkObjs] at e
    split at e
    · rename_i o' ho'
      simp only [look] at e
      split at e
      · rename_i hb; have := nbt hb; subst this; cases e; rw [h0]; exact ho'
      · exact h2 _ _ e
    · exact h2 _ _ e
  | .box d ty l :: r, K, h => by
    simp only [getObjs] at h
    split at h
    · rename_i ty' segs hl
      split at h
      · rename_i hb
        have := nbt hb; subst this
        obtain ⟨x, h', rfl⟩ := getSegs_spec l segs h
        obtain ⟨p, h1, h2⟩ := getObjs_spec r h'
        refine ⟨(x, p), h1, ?_⟩
        intro d' o e
        simp only [mkObjs, look] at e
        split at e
        · rename_i hb; have := nbt hb; subst this; cases e; exact hl
        · exact h2 _ _ e
      · exact h.elim
    · exact h.elim
theorem set_get {s : St} {t t' : Nat} {x : SV} : ∀ y, nth (s.set t x).env t' = some y → (t = t' ∧ y = x) ∨ nth s.env t' = some y := by
  intro y hy
  simp only [St.set, nth_setNth] at hy
  by_cases h : t = t'
  · rw [if_pos h] at hy
    split at hy
    · cases hy; exact .inl ⟨h, rfl⟩
    · cases hy
  · rw [if_neg h] at hy; exact .inr hy
theorem setSlots_spec {s2 : St} : ∀ (l : List SlotH) (p : PTy (l.map SlotH.pk)) (s : St), SlotsM s2 l p → (∀ t x, nth s.env t = some x → x = .c .bad ∨ x = s2.get t) → (∀ d o, look s.objs d = some o → look s2.objs d = some o) →
    (∀ t x, nth (setSlots l p s).env t = some x → x = .c .bad ∨ x = s2.get t) ∧ (∀ d o, look (setSlots l p s).objs d = some o → look s2.objs d = some o) ∧ (setSlots l p s).env.length = s.env.length ∧ (setSlots l p s).dfr = s.dfr
  | [], p, s, _, h1, h2 => ⟨h1, h2, rfl, rfl⟩
  | .f t k :: r, p, s, hm, h1, h2 => by
    obtain ⟨hm1, hm2⟩ := hm
    simp only [setSlots]
    obtain ⟨g1, g2, g3, g4⟩ := setSlots_spec r p.2 (s.set t (.c (.v (k.mk p.1)))) hm2 (fun t' x hx => by
      rcases set_get _ hx with ⟨rfl, rfl⟩ | hx
      · exact .inr hm1.symm
      · exact h1 _ _ hx) h2
    exact ⟨g1, g2, by rw [g3]; simp [St.set, setNth_eq], by rw [g4]; rfl⟩
  | .row t ty sz :: r, p, s, hm, h1, h2 => by
    obtain ⟨hm1, hm2, hm3⟩ := hm
    simp only [setSlots]
    obtain ⟨g1, g2, g3, g4⟩ := setSlots_spec r p.2 (St.set ⟨s.env, objSet s.objs t (.row ty sz p.1), s.dfr⟩ t (.c (.row t))) hm3 (fun t' x hx => by
      rcases set_get _ hx with ⟨rfl, rfl⟩ | hx
      · exact .inr hm1.symm
      · exact h1 _ _ hx) (fun d o e => by
      simp only [St.set, look_objSet] at e
      split at e
      · rename_i hd; subst hd; cases e; exact hm2
      · exact h2 _ _ e)
    exact ⟨g1, g2, by rw [g3]; simp [St.set, setNth_eq], by rw [g4]; rfl⟩
  | .own t ty sz :: r, p, s, hm, h1, h2 => by
    obtain ⟨hm1, hm2, hm3⟩ := hm
    simp only [setSlots]
    obtain ⟨g1, g2, g3, g4⟩ := setSlots_spec r p.2 (St.set ⟨s.env, objSet s.objs t (.row ty sz p.1), s.dfr⟩ t (.c (.row t))) hm3 (fun t' x hx => by
      rcases set_get _ hx with ⟨rfl, rfl⟩ | hx
      · exact .inr hm1.symm
      · exact h1 _ _ hx) (fun d o e => by
      simp only [St.set, look_objSet] at e
      split at e
      · rename_i hd; subst hd; cases e; exact hm2
      · exact h2 _ _ e)
    exact ⟨g1, g2, by rw [g3]; simp [St.set, setNth_eq], by rw [g4]; rfl⟩
theorem sameLen_eq : ∀ {l r : List SV}, sameLen l r = true → l.length = r.length
  | [], [], _ => rfl
  | _ :: l, _ :: r, h => by simp [sameLen_eq (l := l) (r := r) (by simpa [sameLen] using h)]
  | [], _ :: _, h => by simp [sameLen] at h
  | _ :: _, [], h => by simp [sameLen] at h
theorem gets_eq {s s' : St} : ∀ {l : List Nat}, gets s l = gets s' l → ∀ t, memN l t = true → s.get t = s'.get t
  | [], _, t, h => by simp [memN] at h
  | x :: r, e, t, h => by
    simp only [gets, List.cons.injEq] at e
    simp only [memN] at h
    split at h
    · rename_i hb; have := nbt hb; subst this; exact e.1
    · exact gets_eq e.2 t h
/-- A state that is taken as one at the head. -/
theorem toHead_sound (h : Rep C V s H a w) {hh : LHint} {s0 : St} {K : hh.Par → Heap → Prop} (hk : toHead hh s0 s H K) : ∃ V' p H', K p H' ∧ Rep C V' (rebuild hh s0 p) H' a w := by
  unfold toHead at hk
  obtain ⟨V', s2, H2, hk, h2⟩ := normRows_sound _ (rep_restrict h _) hk
  split at hk
  · rename_i hlen
    obtain ⟨hfd, hk⟩ := eqD_spec hk
    obtain ⟨hfe, hk⟩ := eqSVs_spec hk
    obtain ⟨p1, hk, hm⟩ := getSlots_spec _ hk
    obtain ⟨p2, hk, ho⟩ := getObjs_spec _ hk
    have hl := sameLen_eq hlen
    refine ⟨V', (p1, p2), H2, hk, ?_⟩
    unfold rebuild
    obtain ⟨g1, g2, g3, g4⟩ := setSlots_spec hh.slots p1 ⟨restrictEnv hh.fix s0.env 0, mkObjs s0 hh.objs p2, s0.dfr⟩ hm (fun t x e => by
      simp only [nth_restrict, Nat.zero_add] at e
      cases hn : nth s0.env t with
      | none => rw [hn] at e; simp at e
      | some y =>
        rw [hn] at e
        simp only [Option.map_some, Option.some.injEq] at e
        split at e
        · rename_i hb
          subst e
          right
          rw [gets_eq hfe t hb]
          unfold St.get
          rw [hn]
        · subst e; left; rfl) ho
    exact rep_weaken h2 (by rw [g3]; simp only [restrict_len]; rw [← hl]; exact h2.len) g1 (by rw [g4]; exact hfd.symm) g2
  · exact hk.elim
end
end Sx
