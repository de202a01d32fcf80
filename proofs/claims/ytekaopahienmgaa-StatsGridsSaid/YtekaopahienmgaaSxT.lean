/- == of structs of numbers, truth values, strings, arrays of numbers, structs. -/
import Derived.Test.YtekaopahienmgaaSxS
import Derived.Laws.StructEq
set_option linter.unusedVariables false
set_option linter.unusedSimpArgs false
namespace Sx
open Go
section
variable {P : Program}
def eqB (P : Program) : Nat → TypeId → Bool
  | 0, _ => false
  | n + 1, t => match P.underlying t with
    | some (.int _) | some .bool | some .string => true
    | some (.array m e) => match P.underlying e, P.info? e with
      | some (.int _), some _ => Nat.beq (P.cellsOf e) 1
      | _, _ => false
    | some (.struct fs) => !P.stoodInHeld t && (fs.toList.foldr (fun f (r : Nat → Bool) off => f.name != "_" && Nat.beq f.offset off && eqB P n f.type && (match P.info? f.type, kindsOf P n f.type with
        | some i, some ks => Nat.beq i.size (skLen ks) && r (off + i.size)
        | _, _ => false)) (fun _ => true)) 0
    | _ => false
def eqC : Seg → Seg → Option Bool
  | .c (.v (.int k a)), .c (.v (.int k' b)) => match sameK k k' with | true => some (a == b) | false => none
  | .c (.v (.bool a)), .c (.v (.bool b)) => some (a == b)
  | .c (.v (.string a)), .c (.v (.string b)) => some (a == b)
  | .ints k _ a, .ints k' _ b => match sameK k k' with | true => some (a == b) | false => none
  | _, _ => none
theorem eqR_cons (x y : Seg) (l l' : List Seg) (acc : Option Bool) : eqR (x :: l) (y :: l') acc = match eqC x y with | some q => eqR l l' (some (andO acc q)) | none => none := by
  fun_cases eqC x y
  all_goals first
    | (simp_all [eqR, eqC]; done)
    | skip
  all_goals
    rename_i h1 h2 h3 h4
    have hn : eqC x y = none := by
      unfold eqC; split
      · exact (h1 _ _ _ _ rfl rfl).elim
      · exact (h2 _ _ rfl rfl).elim
      · exact (h3 _ _ rfl rfl).elim
      · exact (h4 _ _ _ _ _ _ rfl rfl).elim
      · rfl
    show eqR (x :: l) (y :: l') acc = none
    unfold eqR
    split
    · rename_i e1 e2; cases e1
    · rename_i e1 e2; cases e1; cases e2; exact (h1 _ _ _ _ rfl rfl).elim
    · rename_i e1 e2; cases e1; cases e2; exact (h2 _ _ rfl rfl).elim
    · rename_i e1 e2; cases e1; cases e2; exact (h3 _ _ rfl rfl).elim
    · rename_i e1 e2; cases e1; cases e2; exact (h4 _ _ _ _ _ _ rfl rfl).elim
    · rfl
def shapeC : SK → Seg → Bool
  | .c (.int k), .c (.v (.int k' _)) => sameK k k'
  | .c .bool, .c (.v (.bool _)) => true
  | .c .str, .c (.v (.string _)) => true
  | .ints k n, .ints k' m _ => sameK k k' && Nat.beq n m
  | _, _ => false
theorem shape_cons (k : SK) (x : Seg) (ks : List SK) (l : List Seg) : shapeOK (k :: ks) (x :: l) = (shapeC k x && shapeOK ks l) := by
  unfold shapeC
  split
  · rename_i k k' a; simp only [shapeOK]; cases sameK k k' <;> rfl
  · rfl
  · rfl
  · rename_i k n k' m a; simp only [shapeOK]; cases sameK k k' <;> cases Nat.beq n m <;> rfl
  · rename_i h1 h2 h3 h4
    unfold shapeOK
    split
    · rename_i e1 e2; cases e1
    · rename_i e1 e2; cases e1; cases e2; exact (h1 _ _ _ rfl rfl).elim
    · rename_i e1 e2; cases e1; cases e2; exact (h2 _ rfl rfl).elim
    · rename_i e1 e2; cases e1; cases e2; exact (h3 _ rfl rfl).elim
    · rename_i e1 e2; cases e1; cases e2; exact (h4 _ _ _ _ _ rfl rfl).elim
    · rfl
theorem shape_one {k : SK} {l : List Seg} (h : shapeOK [k] l = true) : ∃ x, l = [x] ∧ shapeC k x = true := by
  cases l with
  | nil => cases k with
    | c k => cases k <;> simp [shapeOK] at h
    | ints _ _ => simp [shapeOK] at h
  | cons x l =>
    rw [shape_cons, Bool.and_eq_true] at h
    cases l with
    | nil => exact ⟨x, rfl, h.1⟩
    | cons y l => simp [shapeOK] at h
theorem sc_int {k : IntKind} {x : Seg} (h : shapeC (.c (.int k)) x = true) : ∃ a, x = .c (.v (.int k a)) := by
  unfold shapeC at h
  split at h
  · rename_i k1 k2 a e1
    have := sameK_eq h; subst this
    cases e1
    exact ⟨a, rfl⟩
  all_goals first | (rename_i e1; cases e1; done) | exact absurd h Bool.false_ne_true
theorem sc_bool {x : Seg} (h : shapeC (.c .bool) x = true) : ∃ a, x = .c (.v (.bool a)) := by
  unfold shapeC at h
  split at h
  all_goals first | exact ⟨_, rfl⟩ | (rename_i e1; cases e1; done) | exact absurd h Bool.false_ne_true
theorem sc_str {x : Seg} (h : shapeC (.c .str) x = true) : ∃ a, x = .c (.v (.string a)) := by
  unfold shapeC at h
  split at h
  all_goals first | exact ⟨_, rfl⟩ | (rename_i e1; cases e1; done) | exact absurd h Bool.false_ne_true
theorem sc_ints {k : IntKind} {n : Nat} {x : Seg} (h : shapeC (.ints k n) x = true) : ∃ a, x = .ints k n a := by
  unfold shapeC at h
  split at h
  all_goals first | (rename_i e1; cases e1; done) | exact absurd h Bool.false_ne_true | skip
  rename_i k1 n1 k2 m2 a e1
  cases e1
  simp only [Bool.and_eq_true] at h
  have := sameK_eq h.1; subst this
  have := nbt h.2; subst this
  exact ⟨a, rfl⟩
theorem sameK_refl (k : IntKind) : sameK k k = true := by cases k <;> rfl
theorem kinds_one1 {n : Nat} {t : TypeId} {ks : List SK} (h : kindsOf P n t = some ks) (ha : isAggT P t = false) : ∃ k, ks = [.c k] := by
  cases n with
  | zero => simp [kindsOf] at h
  | succ n =>
    simp only [kindsOf] at h
    unfold isAggT at ha
    split at h
    all_goals first
      | (simp only [Option.some.injEq] at h; exact ⟨_, h.symm⟩)
      | (rename_i q; rw [q] at ha; cases ha)
      | cases h
theorem shape_nil {ks : List SK} (h : shapeOK ks [] = true) : ks = [] := by
  cases ks with
  | nil => rfl
  | cons k ks => cases k with
    | c k => cases k <;> simp [shapeOK] at h
    | ints _ _ => simp [shapeOK] at h
theorem shape_nil' {l : List Seg} (h : shapeOK [] l = true) : l = [] := by
  cases l with
  | nil => rfl
  | cons x l => simp [shapeOK] at h
theorem eqR_acc : ∀ (l l' : List Seg) (a : Bool), eqR l l' (some a) = (eqR l l' none).map (a && ·)
  | [], [], a => by simp [eqR]
  | x :: l, y :: l', a => by
    rw [eqR_cons, eqR_cons]
    cases eqC x y with
    | none => rfl
    | some q => simp only [andO]; rw [eqR_acc l l' (a && q), eqR_acc l l' q]; cases eqR l l' none <;> simp [Bool.and_assoc]
  | [], _ :: _, a => by simp [eqR]
  | x :: l, [], a => by simp [eqR]
theorem shape_split : ∀ (ks : List SK) {ks' : List SK} {l : List Seg}, shapeOK (ks ++ ks') l = true → ∃ l1 l2, l = l1 ++ l2 ∧ shapeOK ks l1 = true ∧ shapeOK ks' l2 = true
  | [], ks', l, h => ⟨[], l, rfl, rfl, h⟩
  | k :: ks, ks', [], h => by have := shape_nil h; simp at this
  | k :: ks, ks', x :: l, h => by
    rw [List.cons_append, shape_cons, Bool.and_eq_true] at h
    obtain ⟨l1, l2, rfl, h1, h2⟩ := shape_split ks h.2
    exact ⟨x :: l1, l2, rfl, by rw [shape_cons, h.1, h1]; rfl, h2⟩
theorem flat_append : ∀ (l l' : List Seg), flat (l ++ l') = match flat l, flat l' with | some a, some b => some (a ++ b) | _, _ => none
  | [], l' => by simp only [List.nil_append, flat]; cases flat l' <;> rfl
  | .c x :: l, l' => by
    cases x <;> simp only [List.cons_append, flat, flat_append l l'] <;> cases flat l <;> cases flat l' <;> rfl
  | .ints k n xs :: l, l' => by
    simp only [List.cons_append, flat, flat_append l l']
    cases flat l <;> cases flat l' <;> simp
theorem intLens_append : ∀ (l l' : List Seg), intLens (l ++ l') ↔ intLens l ∧ intLens l'
  | [], l' => by simp [intLens]
  | .c x :: l, l' => by simp only [List.cons_append, intLens]; exact intLens_append l l'
  | .ints k n xs :: l, l' => by simp only [List.cons_append, intLens, intLens_append l l', and_assoc]
theorem shape_flat : ∀ (ks : List SK) {l : List Seg}, shapeOK ks l = true → intLens l → ∃ cs, flat l = some cs ∧ cs.length = skLen ks
  | [], l, h, hl => by have := shape_nil' h; subst this; exact ⟨[], rfl, rfl⟩
  | k :: ks, [], h, hl => by have := shape_nil h; cases this
  | k :: ks, x :: l, h, hl => by
    rw [shape_cons, Bool.and_eq_true] at h
    obtain ⟨h0, h⟩ := h
    unfold shapeC at h0
    split at h0
    · obtain ⟨cs, h1, h2⟩ := shape_flat ks h hl; exact ⟨_, by simp only [flat, h1]; rfl, by simp [skLen, h2]⟩
    · obtain ⟨cs, h1, h2⟩ := shape_flat ks h hl; exact ⟨_, by simp only [flat, h1]; rfl, by simp [skLen, h2]⟩
    · obtain ⟨cs, h1, h2⟩ := shape_flat ks h hl; exact ⟨_, by simp only [flat, h1]; rfl, by simp [skLen, h2]⟩
    · rename_i k1 n1 k2 m2 xs
      simp only [Bool.and_eq_true] at h0
      have := nbt h0.2; subst this
      obtain ⟨cs, h1, h2⟩ := shape_flat ks h hl.2; exact ⟨_, by simp only [flat, h1]; rfl, by simp [skLen, h2, hl.1]⟩
    · cases h0
theorem eqC_some {k : SK} {x y : Seg} (h : shapeC k x = true) (h' : shapeC k y = true) : ∃ q, eqC x y = some q := by
  unfold shapeC at h h'
  split at h <;> split at h' <;> rename_i e <;> try (cases e)
  all_goals first
    | (have e1 := sameK_eq h; have e2 := sameK_eq h'; subst e1; subst e2; exact ⟨_, by simp only [eqC, h]; rfl⟩)
    | exact ⟨_, rfl⟩
    | (simp only [Bool.and_eq_true] at h h'; have e1 := sameK_eq h.1; have e2 := sameK_eq h'.1; subst e1; subst e2; exact ⟨_, by simp only [eqC, h.1]; rfl⟩)
    | exact absurd h Bool.false_ne_true
    | exact absurd h' Bool.false_ne_true
theorem eqR_append : ∀ (ks : List SK) {l l' m m' : List Seg} {b : Bool}, shapeOK ks l = true → shapeOK ks l' = true → eqR (l ++ m) (l' ++ m') none = some b → ∃ x y, eqR l l' none = some x ∧ eqR m m' none = some y ∧ b = (x && y)
  | [], l, l', m, m', b, h, h', e => by
    have := shape_nil' h; subst this
    have := shape_nil' h'; subst this
    exact ⟨true, b, rfl, e, by simp⟩
  | k :: ks, [], l', m, m', b, h, h', e => by have := shape_nil h; cases this
  | k :: ks, x :: l, [], m, m', b, h, h', e => by have := shape_nil h'; cases this
  | k :: ks, x :: l, y :: l', m, m', b, h, h', e => by
    rw [shape_cons, Bool.and_eq_true] at h h'
    obtain ⟨q, hq⟩ := eqC_some h.1 h'.1
    rw [List.cons_append, List.cons_append, eqR_cons, hq] at e
    simp only [andO] at e
    rw [eqR_acc] at e
    cases hr : eqR (l ++ m) (l' ++ m') none with
    | none => rw [hr] at e; cases e
    | some r =>
      rw [hr] at e
      obtain ⟨x1, y1, g1, g2, rfl⟩ := eqR_append ks h.2 h'.2 hr
      refine ⟨q && x1, y1, ?_, g2, ?_⟩
      · rw [eqR_cons, hq]; simp only [andO]; rw [eqR_acc, g1]; rfl
      · simp at e; rw [← e]; simp [Bool.and_assoc]
theorem foldr_kinds {n : Nat} : ∀ (fs : List Field) {ks : List SK}, fs.foldr (fun f r => appK (kindsOf P n f.type) r) (some []) = some ks → match fs with
    | [] => ks = []
    | f :: r => ∃ k1 k2, kindsOf P n f.type = some k1 ∧ r.foldr (fun f r => appK (kindsOf P n f.type) r) (some []) = some k2 ∧ ks = k1 ++ k2
  | [], ks, h => by simpa using h.symm
  | f :: r, ks, h => by
    simp only [List.foldr_cons] at h
    cases h1 : kindsOf P n f.type with
    | none => rw [h1] at h; simp [appK] at h
    | some k1 =>
      cases h2 : r.foldr (fun f r => appK (kindsOf P n f.type) r) (some []) with
      | none => rw [h1, h2] at h; simp [appK] at h
      | some k2 =>
        rw [h1, h2] at h
        simp only [appK, Option.some.injEq] at h
        exact ⟨k1, k2, by first | rfl | exact h1, by first | rfl | exact h2, h.symm⟩
def fieldsB (P : Program) (n : Nat) (fs : List Field) : Nat → Bool := fs.foldr (fun f (r : Nat → Bool) off => f.name != "_" && Nat.beq f.offset off && eqB P n f.type && (match P.info? f.type, kindsOf P n f.type with
        | some i, some ks => Nat.beq i.size (skLen ks) && r (off + i.size)
        | _, _ => false)) (fun _ => true)
def EqRun (P : Program) (n : Nat) : Prop := ∀ (t : TypeId), eqB P n t = true → ∀ (d : Nat) {ks : List SK}, kindsOf P n t = some ks → ∀ {l l' : List Seg} {cs cs' : List Value} {b : Bool} (w : World), shapeOK ks l = true → shapeOK ks l' = true → intLens l → intLens l' →
    flat l = some cs → flat l' = some cs' → eqR l l' none = some b → (Op.equalIn (d + n + 1) t (mkVal (isAggT P t) cs) (mkVal (isAggT P t) cs')).run P w = .ok b w
theorem fields_run {n : Nat} (ih : EqRun P n) (d : Nat) (xs ys : Array Value) : ∀ (fs : List Field) (off : Nat) {ks : List SK}, fieldsB P n fs off = true → fs.foldr (fun f r => appK (kindsOf P n f.type) r) (some []) = some ks →
    ∀ {l l' : List Seg} {cs cs' : List Value} {b : Bool} (w : World), shapeOK ks l = true → shapeOK ks l' = true → intLens l → intLens l' → flat l = some cs → flat l' = some cs' → xs.toList.drop off = cs → ys.toList.drop off = cs' →
    eqR l l' none = some b → (Op.eqFields (d + n + 1) xs ys fs).run P w = .ok b w
  | [], off, ks, hB, hk, l, l', cs, cs', b, w, hl, hl', _, _, _, _, _, _, e => by
    have := foldr_kinds _ hk
    simp only at this
    subst this
    have := shape_nil' hl; subst this
    have := shape_nil' hl'; subst this
    simp only [eqR, Option.some.injEq] at e
    subst e
    rfl
  | f :: fs, off, ks, hB, hk, l, l', cs, cs', b, w, hl, hl', hn, hn', hf, hf', hx, hy, e => by
    obtain ⟨k1, k2, hk1, hk2, rfl⟩ := foldr_kinds _ hk
    simp only [fieldsB, List.foldr_cons, Bool.and_eq_true, bne_iff_ne, ne_eq] at hB
    obtain ⟨⟨⟨hname, hoff⟩, hB1⟩, hB⟩ := hB
    have hoff := nbt hoff
    rw [hk1] at hB
    split at hB
    · rename_i i ks1 hi hks1
      cases hks1
      simp only [Bool.and_eq_true] at hB
      obtain ⟨hsz, hB2⟩ := hB
      have hsz := nbt hsz
      obtain ⟨l1, l2, rfl, s1, s2⟩ := shape_split k1 hl
      obtain ⟨l1', l2', rfl, s1', s2'⟩ := shape_split k1 hl'
      rw [intLens_append] at hn hn'
      obtain ⟨c1, f1, g1⟩ := shape_flat k1 s1 hn.1
      obtain ⟨c1', f1', g1'⟩ := shape_flat k1 s1' hn'.1
      obtain ⟨c2, f2, g2⟩ := shape_flat k2 s2 hn.2
      obtain ⟨c2', f2', g2'⟩ := shape_flat k2 s2' hn'.2
      rw [flat_append, f1, f2] at hf
      rw [flat_append, f1', f2'] at hf'
      cases hf; cases hf'
      obtain ⟨x, y, e1, e2, rfl⟩ := eqR_append k1 s1 s1' e
      have r1 := ih f.type hB1 d hk1 w s1 s1' hn.1 hn'.1 f1 f1' e1
      have part : ∀ (zs : Array Value) (c d' : List Value), c.length = i.size → zs.toList.drop off = c ++ d' → ∀ w, (part f.type zs f.offset).run P w = .ok (mkVal (isAggT P f.type) c) w := by
        intro zs c d' hc hz w
        unfold Go.part
        have hagg : ∀ w, (isAgg f.type).run P w = .ok (isAggT P f.type) w := by
          intro w
          unfold isAgg isAggT
          cases hu : P.underlying f.type with
          | none =>
            exfalso
            have : eqB P n f.type = true := hB1
            cases n with
            | zero => simp [eqB] at this
            | succ n => simp [eqB, hu] at this
          | some d => cases d <;> simp [run_underlying hu]
        simp only [Sem.run_bind, hagg, Result.andThen_ok]
        cases ha : isAggT P f.type with
        | true =>
          simp only [if_true, Sem.run_bind, run_sizeT hi, Result.andThen_ok, Sem.run_pure, mkVal]
          congr 2
          apply Array.ext'
          rw [Array.toList_extract, hoff, List.extract_eq_take_drop, hz, List.take_append_of_le_length (by omega), List.take_of_length_le (by omega)]
        | false =>
          obtain ⟨k0, rfl⟩ := kinds_one1 hk1 ha
          simp only [Bool.false_eq_true, if_false]
          have hc1 : c.length = 1 := by rw [hc, hsz]; cases k0 <;> simp [skLen] <;> rfl
          obtain ⟨v, rfl⟩ := List.length_eq_one_iff.1 hc1
          have : zs[f.offset]? = some v := by
            have := congrArg (·[0]?) hz
            rw [hoff]
            simpa using this
          rw [this]
          rfl
      have p1 := part xs c1 c2 (by rw [g1, hsz]) hx
      have p2 := part ys c1' c2' (by rw [g1', hsz]) hy
      simp only [Op.eqFields]
      rw [if_pos hname]
      simp only [Sem.run_bind, p1, p2, Result.andThen_ok, r1]
      cases x with
      | false => simp
      | true =>
        simp only [Bool.not_true, Bool.false_eq_true, if_false, Bool.true_and]
        refine fields_run ih d xs ys fs (off + i.size) hB2 hk2 w s2 s2' hn.2 hn'.2 f2 f2' ?_ ?_ e2
        · rw [← List.drop_drop, hx, List.drop_append_of_le_length (by omega), List.drop_of_length_le (by omega)]; rfl
        · rw [← List.drop_drop, hy, List.drop_append_of_le_length (by omega), List.drop_of_length_le (by omega)]; rfl
    · cases hB
theorem eqB_run : ∀ n, EqRun P n
  | 0 => by intro t h; simp [eqB] at h
  | n + 1 => by
    have ih := eqB_run n
    intro t hB d ks hk l l' cs cs' b w hl hl' hn hn' hf hf' e
    simp only [eqB] at hB
    simp only [kindsOf] at hk
    split at hB
    · rename_i k hu
      have ha : isAggT P t = false := by simp [isAggT, hu]
      simp only [hu, Option.some.injEq] at hk
      subst hk
      obtain ⟨x, rfl, hx⟩ := shape_one hl
      obtain ⟨y, rfl, hy⟩ := shape_one hl'
      obtain ⟨a, rfl⟩ := sc_int hx
      obtain ⟨c, rfl⟩ := sc_int hy
      simp only [flat, Option.some.injEq] at hf hf'
      subst hf; subst hf'
      simp only [eqR, sameK_refl, andO, Option.some.injEq] at e
      subst e
      rw [ha]
      exact run_equalIn_int w (d + (n + 1)) t _ _ a c hu
    · rename_i hu
      have ha : isAggT P t = false := by simp [isAggT, hu]
      simp only [hu, Option.some.injEq] at hk
      subst hk
      obtain ⟨x, rfl, hx⟩ := shape_one hl
      obtain ⟨y, rfl, hy⟩ := shape_one hl'
      obtain ⟨a, rfl⟩ := sc_bool hx
      obtain ⟨c, rfl⟩ := sc_bool hy
      simp only [flat, Option.some.injEq] at hf hf'
      subst hf; subst hf'
      simp only [eqR, andO, Option.some.injEq] at e
      subst e
      rw [ha]
      exact run_equalIn_bool w (d + (n + 1)) t a c hu
    · rename_i hu
      have ha : isAggT P t = false := by simp [isAggT, hu]
      simp only [hu, Option.some.injEq] at hk
      subst hk
      obtain ⟨x, rfl, hx⟩ := shape_one hl
      obtain ⟨y, rfl, hy⟩ := shape_one hl'
      obtain ⟨a, rfl⟩ := sc_str hx
      obtain ⟨c, rfl⟩ := sc_str hy
      simp only [flat, Option.some.injEq] at hf hf'
      subst hf; subst hf'
      simp only [eqR, andO, Option.some.injEq] at e
      subst e
      rw [ha]
      have := run_equalIn_string w (d + (n + 1)) t a c hu
      rw [← beq_toListBytes] at this
      exact this
    · rename_i m el hu
      have ha : isAggT P t = true := by simp [isAggT, hu]
      split at hB
      · rename_i k i he hi
        have hc := nbt hB
        simp only [hu, he, Option.some.injEq] at hk
        subst hk
        obtain ⟨x, rfl, hx⟩ := shape_one hl
        obtain ⟨y, rfl, hy⟩ := shape_one hl'
        obtain ⟨xs, rfl⟩ := sc_ints hx
        obtain ⟨ys, rfl⟩ := sc_ints hy
        simp only [flat, Option.some.injEq, List.append_nil] at hf hf'
        subst hf; subst hf'
        simp only [eqR, sameK_refl, andO, Option.some.injEq] at e
        subst e
        have hxl : xs.length = m := hn.1
        have hyl : ys.length = m := hn'.1
        rw [ha]
        simp only [mkVal]
        rw [show d + (n + 1) + 1 = (d + n + 1) + 1 from rfl, run_equalIn_array w _ _ _ hu hi, List.range_eq_range', items_run w (d + n) he hc xs ys m 0 (by omega) (by omega)]
        simp
      · cases hB
    · rename_i fs hu
      have ha : isAggT P t = true := by simp [isAggT, hu]
      simp only [hu] at hk
      simp only [Bool.and_eq_true, Bool.not_eq_true'] at hB
      have hfs : fs = P.fieldsOf t := by simp [Program.fieldsOf, hu]
      rw [ha]
      simp only [mkVal]
      rw [show d + (n + 1) + 1 = (d + n + 1) + 1 from rfl, run_equalIn_struct w _ t _ _ (by rw [← hfs]; exact hu) hB.1, ← hfs]
      exact fields_run ih d _ _ fs.toList 0 hB.2 hk w hl hl' hn hn' hf hf' (by simp) (by simp) e
    · cases hB
/-- A type of that kind may be held against itself. -/
theorem eqOK_of {t : TypeId} (hg : P.eqGuardType P.depth t = false) (hb : eqB P 40 t = true) (ha : isAggT P t = true) : EqOK P t where
  guard := hg
  run := by
    intro ks hks l l' cs cs' b w hl hl' hn hn' hf hf' hr
    have := eqB_run (P := P) 40 t hb 9959 hks w hl hl' hn hn' hf hf' hr
    rw [ha] at this
    exact this
end
end Sx
