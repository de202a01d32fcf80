/- Own texts, one behind the other: SxT, SxW, SxX, P1, K1, K2, K3, K4, A1, A2, SxSort, A3. -/
import Derived.Laws.StructEq
import Derived.IntWalk
import Derived.Sort.Statements
import Derived.Test.YtjppdkdhokbfcaaProg
import Derived.Lib.Mul64
import Derived.Shelf.SlSortCmp.NoneTotal
import Derived.Shelf.Sort.Plain
import Derived.Shelf.Slices.In.SortNone
import Derived.Shelf.Slices.CompactI
import Derived.Test.YtjppdkdhokbfcaaZ3
set_option linter.unusedVariables false
set_option linter.unusedSimpArgs false
namespace Sx
open Go
section
variable {P : Program}
def eqB (P : Program) : Nat → TypeId → Bool
  | 0, _ => false
  | n + 1, t => match P.underlying t with
    | some (.int _) | some .bool | some .string => true
    | some (.array m e) => match P.underlying e, P.info? e with
      | some (.int _), some _ => Nat.beq (P.cellsOf e) 1
      | _, _ => false
    | some (.struct fs) => !P.stoodInHeld t && (fs.toList.foldr (fun f (r : Nat → Bool) off => f.name != "_" && Nat.beq f.offset off && eqB P n f.type && (match P.info? f.type, kindsOf P n f.type with
        | some i, some ks => Nat.beq i.size (skLen ks) && r (off + i.size)
        | _, _ => false)) (fun _ => true)) 0
    | _ => false
def eqC : Seg → Seg → Option Bool
  | .c (.v (.int k a)), .c (.v (.int k' b)) => match sameK k k' with | true => some (a == b) | false => none
  | .c (.v (.bool a)), .c (.v (.bool b)) => some (a == b)
  | .c (.v (.string a)), .c (.v (.string b)) => some (a == b)
  | .ints k _ a, .ints k' _ b => match sameK k k' with | true => some (a == b) | false => none
  | _, _ => none
theorem eqR_cons (x y : Seg) (l l' : List Seg) (acc : Option Bool) : eqR (x :: l) (y :: l') acc = match eqC x y with | some q => eqR l l' (some (andO acc q)) | none => none := by
  fun_cases eqC x y
  all_goals first
    | (simp_all [eqR, eqC]; done)
    | skip
  all_goals
    rename_i h1 h2 h3 h4
    have hn : eqC x y = none := by
      unfold eqC; split
      · exact (h1 _ _ _ _ rfl rfl).elim
      · exact (h2 _ _ rfl rfl).elim
      · exact (h3 _ _ rfl rfl).elim
      · exact (h4 _ _ _ _ _ _ rfl rfl).elim
      · rfl
    show eqR (x :: l) (y :: l') acc = none
    unfold eqR
    split
    · rename_i e1 e2; cases e1
    · rename_i e1 e2; cases e1; cases e2; exact (h1 _ _ _ _ rfl rfl).elim
    · rename_i e1 e2; cases e1; cases e2; exact (h2 _ _ rfl rfl).elim
    · rename_i e1 e2; cases e1; cases e2; exact (h3 _ _ rfl rfl).elim
    · rename_i e1 e2; cases e1; cases e2; exact (h4 _ _ _ _ _ _ rfl rfl).elim
    · rfl
def shapeC : SK → Seg → Bool
  | .c (.int k), .c (.v (.int k' _)) => sameK k k'
  | .c .bool, .c (.v (.bool _)) => true
  | .c .str, .c (.v (.string _)) => true
  | .ints k n, .ints k' m _ => sameK k k' && Nat.beq n m
  | _, _ => false
theorem shape_cons (k : SK) (x : Seg) (ks : List SK) (l : List Seg) : shapeOK (k :: ks) (x :: l) = (shapeC k x && shapeOK ks l) := by
  unfold shapeC
  split
  · rename_i k k' a; simp only [shapeOK]; cases sameK k k' <;> rfl
  · rfl
  · rfl
  · rename_i k n k' m a; simp only [shapeOK]; cases sameK k k' <;> cases Nat.beq n m <;> rfl
  · rename_i h1 h2 h3 h4
    unfold shapeOK
    split
    · rename_i e1 e2; cases e1
    · rename_i e1 e2; cases e1; cases e2; exact (h1 _ _ _ rfl rfl).elim
    · rename_i e1 e2; cases e1; cases e2; exact (h2 _ rfl rfl).elim
    · rename_i e1 e2; cases e1; cases e2; exact (h3 _ rfl rfl).elim
    · rename_i e1 e2; cases e1; cases e2; exact (h4 _ _ _ _ _ rfl rfl).elim
    · rfl
theorem shape_one {k : SK} {l : List Seg} (h : shapeOK [k] l = true) : ∃ x, l = [x] ∧ shapeC k x = true := by
  cases l with
  | nil => cases k with
    | c k => cases k <;> simp [shapeOK] at h
    | ints _ _ => simp [shapeOK] at h
  | cons x l =>
    rw [shape_cons, Bool.and_eq_true] at h
    cases l with
    | nil => exact ⟨x, rfl, h.1⟩
    | cons y l => simp [shapeOK] at h
theorem sc_int {k : IntKind} {x : Seg} (h : shapeC (.c (.int k)) x = true) : ∃ a, x = .c (.v (.int k a)) := by
  unfold shapeC at h
  split at h
  · rename_i k1 k2 a e1
    have := sameK_eq h; subst this
    cases e1
    exact ⟨a, rfl⟩
  all_goals first | (rename_i e1; cases e1; done) | exact absurd h Bool.false_ne_true
theorem sc_bool {x : Seg} (h : shapeC (.c .bool) x = true) : ∃ a, x = .c (.v (.bool a)) := by
  unfold shapeC at h
  split at h
  all_goals first | exact ⟨_, rfl⟩ | (rename_i e1; cases e1; done) | exact absurd h Bool.false_ne_true
theorem sc_str {x : Seg} (h : shapeC (.c .str) x = true) : ∃ a, x = .c (.v (.string a)) := by
  unfold shapeC at h
  split at h
  all_goals first | exact ⟨_, rfl⟩ | (rename_i e1; cases e1; done) | exact absurd h Bool.false_ne_true
theorem sc_ints {k : IntKind} {n : Nat} {x : Seg} (h : shapeC (.ints k n) x = true) : ∃ a, x = .ints k n a := by
  unfold shapeC at h
  split at h
  all_goals first | (rename_i e1; cases e1; done) | exact absurd h Bool.false_ne_true | skip
  rename_i k1 n1 k2 m2 a e1
  cases e1
  simp only [Bool.and_eq_true] at h
  have := sameK_eq h.1; subst this
  have := nbt h.2; subst this
  exact ⟨a, rfl⟩
theorem sameK_refl (k : IntKind) : sameK k k = true := by cases k <;> rfl
theorem kinds_one1 {n : Nat} {t : TypeId} {ks : List SK} (h : kindsOf P n t = some ks) (ha : isAggT P t = false) : ∃ k, ks = [.c k] := by
  cases n with
  | zero => simp [kindsOf] at h
  | succ n =>
    simp only [kindsOf] at h
    unfold isAggT at ha
    split at h
    all_goals first
      | (simp only [Option.some.injEq] at h; exact ⟨_, h.symm⟩)
      | (rename_i q; rw [q] at ha; cases ha)
      | cases h
theorem shape_nil {ks : List SK} (h : shapeOK ks [] = true) : ks = [] := by
  cases ks with
  | nil => rfl
  | cons k ks => cases k with
    | c k => cases k <;> simp [shapeOK] at h
    | ints _ _ => simp [shapeOK] at h
theorem shape_nil' {l : List Seg} (h : shapeOK [] l = true) : l = [] := by
  cases l with
  | nil => rfl
  | cons x l => simp [shapeOK] at h
theorem eqR_acc : ∀ (l l' : List Seg) (a : Bool), eqR l l' (some a) = (eqR l l' none).map (a && ·)
  | [], [], a => by simp [eqR]
  | x :: l, y :: l', a => by
    rw [eqR_cons, eqR_cons]
    cases eqC x y with
    | none => rfl
    | some q => simp only [andO]; rw [eqR_acc l l' (a && q), eqR_acc l l' q]; cases eqR l l' none <;> simp [Bool.and_assoc]
  | [], _ :: _, a => by simp [eqR]
  | x :: l, [], a => by simp [eqR]
theorem shape_split : ∀ (ks : List SK) {ks' : List SK} {l : List Seg}, shapeOK (ks ++ ks') l = true → ∃ l1 l2, l = l1 ++ l2 ∧ shapeOK ks l1 = true ∧ shapeOK ks' l2 = true
  | [], ks', l, h => ⟨[], l, rfl, rfl, h⟩
  | k :: ks, ks', [], h => by have := shape_nil h; simp at this
  | k :: ks, ks', x :: l, h => by
    rw [List.cons_append, shape_cons, Bool.and_eq_true] at h
    obtain ⟨l1, l2, rfl, h1, h2⟩ := shape_split ks h.2
    exact ⟨x :: l1, l2, rfl, by rw [shape_cons, h.1, h1]; rfl, h2⟩
theorem flat_append : ∀ (l l' : List Seg), flat (l ++ l') = match flat l, flat l' with | some a, some b => some (a ++ b) | _, _ => none
  | [], l' => by simp only [List.nil_append, flat]; cases flat l' <;> rfl
  | .c x :: l, l' => by
    cases x <;> simp only [List.cons_append, flat, flat_append l l'] <;> cases flat l <;> cases flat l' <;> rfl
  | .ints k n xs :: l, l' => by
    simp only [List.cons_append, flat, flat_append l l']
    cases flat l <;> cases flat l' <;> simp
theorem intLens_append : ∀ (l l' : List Seg), intLens (l ++ l') ↔ intLens l ∧ intLens l'
  | [], l' => by simp [intLens]
  | .c x :: l, l' => by simp only [List.cons_append, intLens]; exact intLens_append l l'
  | .ints k n xs :: l, l' => by simp only [List.cons_append, intLens, intLens_append l l', and_assoc]
theorem shape_flat : ∀ (ks : List SK) {l : List Seg}, shapeOK ks l = true → intLens l → ∃ cs, flat l = some cs ∧ cs.length = skLen ks
  | [], l, h, hl => by have := shape_nil' h; subst this; exact ⟨[], rfl, rfl⟩
  | k :: ks, [], h, hl => by have := shape_nil h; cases this
  | k :: ks, x :: l, h, hl => by
    rw [shape_cons, Bool.and_eq_true] at h
    obtain ⟨h0, h⟩ := h
    unfold shapeC at h0
    split at h0
    · obtain ⟨cs, h1, h2⟩ := shape_flat ks h hl; exact ⟨_, by simp only [flat, h1]; rfl, by simp [skLen, h2]⟩
    · obtain ⟨cs, h1, h2⟩ := shape_flat ks h hl; exact ⟨_, by simp only [flat, h1]; rfl, by simp [skLen, h2]⟩
    · obtain ⟨cs, h1, h2⟩ := shape_flat ks h hl; exact ⟨_, by simp only [flat, h1]; rfl, by simp [skLen, h2]⟩
    · rename_i k1 n1 k2 m2 xs
      simp only [Bool.and_eq_true] at h0
      have := nbt h0.2; subst this
      obtain ⟨cs, h1, h2⟩ := shape_flat ks h hl.2; exact ⟨_, by simp only [flat, h1]; rfl, by simp [skLen, h2, hl.1]⟩
    · cases h0
theorem eqC_some {k : SK} {x y : Seg} (h : shapeC k x = true) (h' : shapeC k y = true) : ∃ q, eqC x y = some q := by
  unfold shapeC at h h'
  split at h <;> split at h' <;> rename_i e <;> try (cases e)
  all_goals first
    | (have e1 := sameK_eq h; have e2 := sameK_eq h'; subst e1; subst e2; exact ⟨_, by simp only [eqC, h]; rfl⟩)
    | exact ⟨_, rfl⟩
    | (simp only [Bool.and_eq_true] at h h'; have e1 := sameK_eq h.1; have e2 := sameK_eq h'.1; subst e1; subst e2; exact ⟨_, by simp only [eqC, h.1]; rfl⟩)
    | exact absurd h Bool.false_ne_true
    | exact absurd h' Bool.false_ne_true
theorem eqR_append : ∀ (ks : List SK) {l l' m m' : List Seg} {b : Bool}, shapeOK ks l = true → shapeOK ks l' = true → eqR (l ++ m) (l' ++ m') none = some b → ∃ x y, eqR l l' none = some x ∧ eqR m m' none = some y ∧ b = (x && y)
  | [], l, l', m, m', b, h, h', e => by
    have := shape_nil' h; subst this
    have := shape_nil' h'; subst this
    exact ⟨true, b, rfl, e, by simp⟩
  | k :: ks, [], l', m, m', b, h, h', e => by have := shape_nil h; cases this
  | k :: ks, x :: l, [], m, m', b, h, h', e => by have := shape_nil h'; cases this
  | k :: ks, x :: l, y :: l', m, m', b, h, h', e => by
    rw [shape_cons, Bool.and_eq_true] at h h'
    obtain ⟨q, hq⟩ := eqC_some h.1 h'.1
    rw [List.cons_append, List.cons_append, eqR_cons, hq] at e
    simp only [andO] at e
    rw [eqR_acc] at e
    cases hr : eqR (l ++ m) (l' ++ m') none with
    | none => rw [hr] at e; cases e
    | some r =>
      rw [hr] at e
      obtain ⟨x1, y1, g1, g2, rfl⟩ := eqR_append ks h.2 h'.2 hr
      refine ⟨q && x1, y1, ?_, g2, ?_⟩
      · rw [eqR_cons, hq]; simp only [andO]; rw [eqR_acc, g1]; rfl
      · simp at e; rw [← e]; simp [Bool.and_assoc]
theorem foldr_kinds {n : Nat} : ∀ (fs : List Field) {ks : List SK}, fs.foldr (fun f r => appK (kindsOf P n f.type) r) (some []) = some ks → match fs with
    | [] => ks = []
    | f :: r => ∃ k1 k2, kindsOf P n f.type = some k1 ∧ r.foldr (fun f r => appK (kindsOf P n f.type) r) (some []) = some k2 ∧ ks = k1 ++ k2
  | [], ks, h => by simpa using h.symm
  | f :: r, ks, h => by
    simp only [List.foldr_cons] at h
    cases h1 : kindsOf P n f.type with
    | none => rw [h1] at h; simp [appK] at h
    | some k1 =>
      cases h2 : r.foldr (fun f r => appK (kindsOf P n f.type) r) (some []) with
      | none => rw [h1, h2] at h; simp [appK] at h
      | some k2 =>
        rw [h1, h2] at h
        simp only [appK, Option.some.injEq] at h
        exact ⟨k1, k2, by first | rfl | exact h1, by first | rfl | exact h2, h.symm⟩
def fieldsB (P : Program) (n : Nat) (fs : List Field) : Nat → Bool := fs.foldr (fun f (r : Nat → Bool) off => f.name != "_" && Nat.beq f.offset off && eqB P n f.type && (match P.info? f.type, kindsOf P n f.type with
        | some i, some ks => Nat.beq i.size (skLen ks) && r (off + i.size)
        | _, _ => false)) (fun _ => true)
def EqRun (P : Program) (n : Nat) : Prop := ∀ (t : TypeId), eqB P n t = true → ∀ (d : Nat) {ks : List SK}, kindsOf P n t = some ks → ∀ {l l' : List Seg} {cs cs' : List Value} {b : Bool} (w : World), shapeOK ks l = true → shapeOK ks l' = true → intLens l → intLens l' →
    flat l = some cs → flat l' = some cs' → eqR l l' none = some b → (Op.equalIn (d + n + 1) t (mkVal (isAggT P t) cs) (mkVal (isAggT P t) cs')).run P w = .ok b w
theorem fields_run {n : Nat} (ih : EqRun P n) (d : Nat) (xs ys : Array Value) : ∀ (fs : List Field) (off : Nat) {ks : List SK}, fieldsB P n fs off = true → fs.foldr (fun f r => appK (kindsOf P n f.type) r) (some []) = some ks →
    ∀ {l l' : List Seg} {cs cs' : List Value} {b : Bool} (w : World), shapeOK ks l = true → shapeOK ks l' = true → intLens l → intLens l' → flat l = some cs → flat l' = some cs' → xs.toList.drop off = cs → ys.toList.drop off = cs' →
    eqR l l' none = some b → (Op.eqFields (d + n + 1) xs ys fs).run P w = .ok b w
  | [], off, ks, hB, hk, l, l', cs, cs', b, w, hl, hl', _, _, _, _, _, _, e => by
    have := foldr_kinds _ hk
    simp only at this
    subst this
    have := shape_nil' hl; subst this
    have := shape_nil' hl'; subst this
    simp only [eqR, Option.some.injEq] at e
    subst e
    rfl
  | f :: fs, off, ks, hB, hk, l, l', cs, cs', b, w, hl, hl', hn, hn', hf, hf', hx, hy, e => by
    obtain ⟨k1, k2, hk1, hk2, rfl⟩ := foldr_kinds _ hk
    simp only [fieldsB, List.foldr_cons, Bool.and_eq_true, bne_iff_ne, ne_eq] at hB
    obtain ⟨⟨⟨hname, hoff⟩, hB1⟩, hB⟩ := hB
    have hoff := nbt hoff
    rw [hk1] at hB
    split at hB
    · rename_i i ks1 hi hks1
      cases hks1
      simp only [Bool.and_eq_true] at hB
      obtain ⟨hsz, hB2⟩ := hB
      have hsz := nbt hsz
      obtain ⟨l1, l2, rfl, s1, s2⟩ := shape_split k1 hl
      obtain ⟨l1', l2', rfl, s1', s2'⟩ := shape_split k1 hl'
      rw [intLens_append] at hn hn'
      obtain ⟨c1, f1, g1⟩ := shape_flat k1 s1 hn.1
      obtain ⟨c1', f1', g1'⟩ := shape_flat k1 s1' hn'.1
      obtain ⟨c2, f2, g2⟩ := shape_flat k2 s2 hn.2
      obtain ⟨c2', f2', g2'⟩ := shape_flat k2 s2' hn'.2
      rw [flat_append, f1, f2] at hf
      rw [flat_append, f1', f2'] at hf'
      cases hf; cases hf'
      obtain ⟨x, y, e1, e2, rfl⟩ := eqR_append k1 s1 s1' e
      have r1 := ih f.type hB1 d hk1 w s1 s1' hn.1 hn'.1 f1 f1' e1
      have part : ∀ (zs : Array Value) (c d' : List Value), c.length = i.size → zs.toList.drop off = c ++ d' → ∀ w, (part f.type zs f.offset).run P w = .ok (mkVal (isAggT P f.type) c) w := by
        intro zs c d' hc hz w
        unfold Go.part
        have hagg : ∀ w, (isAgg f.type).run P w = .ok (isAggT P f.type) w := by
          intro w
          unfold isAgg isAggT
          cases hu : P.underlying f.type with
          | none =>
            exfalso
            have : eqB P n f.type = true := hB1
            cases n with
            | zero => simp [eqB] at this
            | succ n => simp [eqB, hu] at this
          | some d => cases d <;> simp [run_underlying hu]
        simp only [Sem.run_bind, hagg, Result.andThen_ok]
        cases ha : isAggT P f.type with
        | true =>
          simp only [if_true, Sem.run_bind, run_sizeT hi, Result.andThen_ok, Sem.run_pure, mkVal]
          congr 2
          apply Array.ext'
          rw [Array.toList_extract, hoff, List.extract_eq_take_drop, hz, List.take_append_of_le_length (by omega), List.take_of_length_le (by omega)]
        | false =>
          obtain ⟨k0, rfl⟩ := kinds_one1 hk1 ha
          simp only [Bool.false_eq_true, if_false]
          have hc1 : c.length = 1 := by rw [hc, hsz]; cases k0 <;> simp [skLen] <;> rfl
          obtain ⟨v, rfl⟩ := List.length_eq_one_iff.1 hc1
          have : zs[f.offset]? = some v := by
            have := congrArg (·[0]?) hz
            rw [hoff]
            simpa using this
          rw [this]
          rfl
      have p1 := part xs c1 c2 (by rw [g1, hsz]) hx
      have p2 := part ys c1' c2' (by rw [g1', hsz]) hy
      simp only [Op.eqFields]
      rw [if_pos hname]
      simp only [Sem.run_bind, p1, p2, Result.andThen_ok, r1]
      cases x with
      | false => simp
      | true =>
        simp only [Bool.not_true, Bool.false_eq_true, if_false, Bool.true_and]
        refine fields_run ih d xs ys fs (off + i.size) hB2 hk2 w s2 s2' hn.2 hn'.2 f2 f2' ?_ ?_ e2
        · rw [← List.drop_drop, hx, List.drop_append_of_le_length (by omega), List.drop_of_length_le (by omega)]; rfl
        · rw [← List.drop_drop, hy, List.drop_append_of_le_length (by omega), List.drop_of_length_le (by omega)]; rfl
    · cases hB
theorem eqB_run : ∀ n, EqRun P n
  | 0 => by intro t h; simp [eqB] at h
  | n + 1 => by
    have ih := eqB_run n
    intro t hB d ks hk l l' cs cs' b w hl hl' hn hn' hf hf' e
    simp only [eqB] at hB
    simp only [kindsOf] at hk
    split at hB
    · rename_i k hu
      have ha : isAggT P t = false := by simp [isAggT, hu]
      simp only [hu, Option.some.injEq] at hk
      subst hk
      obtain ⟨x, rfl, hx⟩ := shape_one hl
      obtain ⟨y, rfl, hy⟩ := shape_one hl'
      obtain ⟨a, rfl⟩ := sc_int hx
      obtain ⟨c, rfl⟩ := sc_int hy
      simp only [flat, Option.some.injEq] at hf hf'
      subst hf; subst hf'
      simp only [eqR, sameK_refl, andO, Option.some.injEq] at e
      subst e
      rw [ha]
      exact run_equalIn_int w (d + (n + 1)) t _ _ a c hu
    · rename_i hu
      have ha : isAggT P t = false := by simp [isAggT, hu]
      simp only [hu, Option.some.injEq] at hk
      subst hk
      obtain ⟨x, rfl, hx⟩ := shape_one hl
      obtain ⟨y, rfl, hy⟩ := shape_one hl'
      obtain ⟨a, rfl⟩ := sc_bool hx
      obtain ⟨c, rfl⟩ := sc_bool hy
      simp only [flat, Option.some.injEq] at hf hf'
      subst hf; subst hf'
      simp only [eqR, andO, Option.some.injEq] at e
      subst e
      rw [ha]
      exact run_equalIn_bool w (d + (n + 1)) t a c hu
    · rename_i hu
      have ha : isAggT P t = false := by simp [isAggT, hu]
      simp only [hu, Option.some.injEq] at hk
      subst hk
      obtain ⟨x, rfl, hx⟩ := shape_one hl
      obtain ⟨y, rfl, hy⟩ := shape_one hl'
      obtain ⟨a, rfl⟩ := sc_str hx
      obtain ⟨c, rfl⟩ := sc_str hy
      simp only [flat, Option.some.injEq] at hf hf'
      subst hf; subst hf'
      simp only [eqR, andO, Option.some.injEq] at e
      subst e
      rw [ha]
      have := run_equalIn_string w (d + (n + 1)) t a c hu
      rw [← beq_toListBytes] at this
      exact this
    · rename_i m el hu
      have ha : isAggT P t = true := by simp [isAggT, hu]
      split at hB
      · rename_i k i he hi
        have hc := nbt hB
        simp only [hu, he, Option.some.injEq] at hk
        subst hk
        obtain ⟨x, rfl, hx⟩ := shape_one hl
        obtain ⟨y, rfl, hy⟩ := shape_one hl'
        obtain ⟨xs, rfl⟩ := sc_ints hx
        obtain ⟨ys, rfl⟩ := sc_ints hy
        simp only [flat, Option.some.injEq, List.append_nil] at hf hf'
        subst hf; subst hf'
        simp only [eqR, sameK_refl, andO, Option.some.injEq] at e
        subst e
        have hxl : xs.length = m := hn.1
        have hyl : ys.length = m := hn'.1
        rw [ha]
        simp only [mkVal]
        rw [show d + (n + 1) + 1 = (d + n + 1) + 1 from rfl, run_equalIn_array w _ _ _ hu hi, List.range_eq_range', items_run w (d + n) he hc xs ys m 0 (by omega) (by omega)]
        simp
      · cases hB
    · rename_i fs hu
      have ha : isAggT P t = true := by simp [isAggT, hu]
      simp only [hu] at hk
      simp only [Bool.and_eq_true, Bool.not_eq_true'] at hB
      have hfs : fs = P.fieldsOf t := by simp [Program.fieldsOf, hu]
      rw [ha]
      simp only [mkVal]
      rw [show d + (n + 1) + 1 = (d + n + 1) + 1 from rfl, run_equalIn_struct w _ t _ _ (by rw [← hfs]; exact hu) hB.1, ← hfs]
      exact fields_run ih d _ _ fs.toList 0 hB.2 hk w hl hl' hn hn' hf hf' (by simp) (by simp) e
    · cases hB
/-- A type of that kind may be held against itself. -/
theorem eqOK_of {t : TypeId} (hg : P.eqGuardType P.depth t = false) (hb : eqB P 40 t = true) (ha : isAggT P t = true) : EqOK P t where
  guard := hg
  run := by
    intro ks hks l l' cs cs' b w hl hl' hn hn' hf hf' hr
    have := eqB_run (P := P) 40 t hb 9959 hks w hl hl' hn hn' hf hf' hr
    rw [ha] at this
    exact this
end
end Sx

set_option linter.unusedVariables false
set_option linter.unusedSimpArgs false
namespace Sx
open Go
theorem ptr {p : Option Addr} {A : Addr} {K : Addr → Prop} (e : p = some A) (h : K A) : PtrK p K := by subst e; exact h
theorem Meets.mono {P : Program} {f : FuncId} {args : List Value} {H : Heap} {R R' : Ending → Heap → Prop} (h : Meets P f args H R) (hR : ∀ e H', R e H' → R' e H') : Meets P f args H R' :=
  ⟨h.1, fun w hw => (h.2 w hw).mono fun e w' ⟨H', st, r⟩ => ⟨H', st, hR _ _ r⟩⟩
theorem has_le {H H' : Heap} {a : Addr} {l : List Value} (h : H.has a l) (hle : H ≤ H') : H'.has a l := by
  intro j x hx
  have := h j x hx
  unfold Heap.cell? at *
  split at this
  · rename_i c ty q e
    rw [hle _ _ e]
    exact this
  · cases this
theorem row_le {H H' : Heap} {v : Value} {ty sz : Nat} {es : List (List Value)} (h : RowAt H v ty sz es) (hle : ∀ b o, blockOf v = some b → H b = some o → H' b = some o) : RowAt H' v ty sz es := by
  rcases h with h | ⟨b, o, cap, c, rfl, h1, h2⟩
  · exact .inl h
  · exact .inr ⟨b, o, cap, c, rfl, hle _ _ rfl h1, h2⟩
theorem slice_len {H : Heap} {a : Option Addr} {n c sz : Nat} {es : List (List Value)} (h : SliceAt H (.slice a n c) sz es) : es.length = n ∧ n ≤ c := by
  obtain ⟨a', n', c', e, h1, h2, _⟩ := h
  cases e
  exact ⟨h1, h2⟩
theorem slice_get {H : Heap} {a : Option Addr} {n c sz : Nat} {es : List (List Value)} (h : SliceAt H (.slice a n c) sz es) {i : Nat} {e : List Value} (he : es[i]? = some e) : ∃ A, a = some A ∧ A.spot = none ∧ H.has (A.add (i * sz)) e := by
  obtain ⟨a', n', c', e1, h1, h2, h3, h4, h5⟩ := h
  cases e1
  exact h5 i e he
theorem slice_val {H : Heap} {v : Value} {sz : Nat} {es : List (List Value)} (h : SliceAt H v sz es) : ∃ a c, v = .slice a es.length c := by
  obtain ⟨a', n', c', rfl, rfl, _⟩ := h
  exact ⟨_, _, rfl⟩
theorem row_val {H : Heap} {v : Value} {ty sz : Nat} {es : List (List Value)} (h : RowAt H v ty sz es) : ∃ a c, v = .slice a es.length c := slice_val (row_slice h)
theorem row_len {H : Heap} {a : Option Addr} {n c ty sz : Nat} {es : List (List Value)} (h : RowAt H (.slice a n c) ty sz es) : es.length = n ∧ n ≤ c := slice_len (row_slice h)
/-- All else is as it was. -/
def Mod (v : Value) (H H' : Heap) : Prop := ∀ b, blockOf v ≠ some b → H' b = H b
theorem Mod.refl (v : Value) (H : Heap) : Mod v H H := fun _ _ => rfl
theorem Mod.trans {v : Value} {A B D : Heap} (h : Mod v A B) (h' : Mod v B D) : Mod v A D := fun b hb => (h' b hb).trans (h b hb)
theorem row_store {H : Heap} {a : Option Addr} {n c ty sz : Nat} {es : List (List Value)} (h : RowAt H (.slice a n c) ty sz es) {i : Nat} (hi : i < n) {cs : List Value} (hc : cs.length = sz) (h1 : ∀ x ∈ cs, one x = true) :
    ∃ A, a = some A ∧ ∃ cl, (H (A.add (i * sz)).block = some (.cells cl ty (0, 0)) ∧ (A.add (i * sz)).spot = none ∧ (A.add (i * sz)).off + sz ≤ cl.size) ∧
      RowAt (H.upd (A.add (i * sz)).block (.cells (writeCells cl (A.add (i * sz)).off cs) ty (0, 0))) (.slice a n c) ty sz (es.set i cs) ∧
      Mod (.slice a n c) H (H.upd (A.add (i * sz)).block (.cells (writeCells cl (A.add (i * sz)).off cs) ty (0, 0))) := by
  rcases h with ⟨e, rfl⟩ | ⟨b, o, cap, cl, e, hb, hcap, hsz, hes, hfl, hon⟩
  · cases e; omega
  · cases e
    refine ⟨⟨b, o, none⟩, rfl, cl, ?_⟩
    rw [add_spot rfl]
    have hm : (i + 1) * sz ≤ es.length * sz := Nat.mul_le_mul_right _ hi
    have hm2 : es.length * sz ≤ c * sz := Nat.mul_le_mul_right _ hcap
    rw [Nat.add_mul, Nat.one_mul] at hm
    refine ⟨⟨hb, rfl, by simp only; omega⟩, .inr ⟨b, o, c, writeCells cl (o + i * sz) cs, by simp, upd_same _ _ _, by simpa using hcap, ?_, ?_, ?_, ?_⟩, ?_⟩
    · rw [writeCells_size _ _ _ (by omega)]; exact hsz
    · intro x hx
      rcases List.mem_or_eq_of_mem_set hx with hx | rfl
      · exact hes x hx
      · exact hc
    · obtain ⟨e, he⟩ : ∃ e, es[i]? = some e := ⟨es[i], by simp⟩
      have hel := hes e (List.mem_of_getElem? he)
      have hsplit := flatten_split hes he
      rw [write_lw _ _ _ (by omega)]
      have hl : (cl.toList.drop o).length = cl.size - o := by simp
      have e1 : (lw cl.toList (o + i * sz) cs).drop o = lw (cl.toList.drop o) (i * sz) cs := by
        have e0 : cl.toList = cl.toList.take o ++ cl.toList.drop o := by simp
        have hlo : (cl.toList.take o).length = o := by simp; omega
        conv => lhs; rw [e0]
        have := lw_right (cl.toList.take o) (cl.toList.drop o) (i * sz) cs
        rw [hlo] at this
        rw [this, List.drop_append_of_le_length (by omega), List.drop_of_length_le (by omega), List.nil_append]
      rw [e1]
      have e2 : cl.toList.drop o = (cl.toList.drop o).take (es.length * sz) ++ (cl.toList.drop o).drop (es.length * sz) := (List.take_append_drop _ _).symm
      rw [e2, lw_left _ _ _ _ (by simp; omega)]
      have hlen1 : (lw ((cl.toList.drop o).take (es.length * sz)) (i * sz) cs).length = es.length * sz := by
        rw [lw_len _ _ _ (by simp; omega)]; simp; omega
      rw [List.length_set, List.take_append_of_le_length (by omega), List.take_of_length_le (by omega)]
      rw [hfl]
      have e3 := row_put hes he (off := 0) (cs := cs) (by omega)
      have e4 : lw e 0 cs = cs := by
        unfold lw
        rw [List.drop_of_length_le (by omega)]
        simp
      rw [Nat.add_zero, e4] at e3
      exact e3
    · intro x hx y hy
      rcases List.mem_or_eq_of_mem_set hx with hx | rfl
      · exact hon x hx y hy
      · exact h1 y hy
    · intro b' hb'
      simp [blockOf] at hb'
      exact upd_ne _ _ (fun e => hb' e.symm)
end Sx

set_option linter.unusedVariables false
set_option linter.unusedSimpArgs false
namespace Sx
open Go
section
variable {β : Type}
end
theorem flen {sz : Nat} : ∀ {es : List (List Value)}, (∀ e ∈ es, e.length = sz) → es.flatten.length = es.length * sz
  | [], _ => by simp
  | e :: r, h => by
    rw [List.flatten_cons, List.length_append, flen (fun e he => h e (List.mem_cons_of_mem _ he)), h e (List.mem_cons_self ..), List.length_cons, Nat.add_mul, Nat.one_mul, Nat.add_comm]
/-- The last ones of a row become others. -/
theorem row_fill {H : Heap} {A : Addr} {n c ty sz : Nat} {E1 E2 ws : List (List Value)} (h : RowAt H (.slice (some A) n c) ty sz (E1 ++ E2)) (hl : ws.length = E2.length) (hw : ∀ e ∈ ws, e.length = sz) (h1 : ∀ e ∈ ws, ∀ x ∈ e, one x = true) :
    ∃ cl, (H A.block = some (.cells cl ty (0, 0)) ∧ A.spot = none ∧ A.off + E1.length * sz + ws.length * sz ≤ cl.size) ∧
      RowAt (H.upd A.block (.cells (writeCells cl (A.off + E1.length * sz) ws.flatten) ty (0, 0))) (.slice (some A) n c) ty sz (E1 ++ ws) ∧
      Mod (.slice (some A) n c) H (H.upd A.block (.cells (writeCells cl (A.off + E1.length * sz) ws.flatten) ty (0, 0))) := by
  rcases h with ⟨e, _⟩ | ⟨b, o, cap, cl, e, hb, hcap, hsz, hes, hfl, hon⟩
  · cases e
  cases e
  have hwl := flen hw
  have hE1 : ∀ e ∈ E1, e.length = sz := fun e he => hes e (List.mem_append_left _ he)
  have hE2 : ∀ e ∈ E2, e.length = sz := fun e he => hes e (List.mem_append_right _ he)
  have l1 := flen hE1
  have l2 := flen hE2
  have hm : (E1 ++ E2).length * sz ≤ c * sz := Nat.mul_le_mul_right _ hcap
  rw [List.length_append, Nat.add_mul] at hm
  have hsum : o + E1.length * sz + ws.length * sz ≤ cl.size := by rw [hl]; omega
  refine ⟨cl, ⟨hb, rfl, hsum⟩, .inr ⟨b, o, c, writeCells cl (o + E1.length * sz) ws.flatten, by simp [hl], upd_same _ _ _, by simpa [hl] using hcap, ?_, ?_, ?_, ?_⟩, ?_⟩
  · rw [writeCells_size _ _ _ (by omega)]; exact hsz
  · intro x hx
    rcases List.mem_append.1 hx with hx | hx
    · exact hE1 x hx
    · exact hw x hx
  · rw [write_lw _ _ _ (by omega)]
    have hlo : (cl.toList.take o).length = o := by simp; omega
    have e1 : (lw cl.toList (o + E1.length * sz) ws.flatten).drop o = lw (cl.toList.drop o) (E1.length * sz) ws.flatten := by
      have e0 : cl.toList = cl.toList.take o ++ cl.toList.drop o := by simp
      conv => lhs; rw [e0]
      have := lw_right (cl.toList.take o) (cl.toList.drop o) (E1.length * sz) ws.flatten
      rw [hlo] at this
      rw [this, List.drop_append_of_le_length (by omega), List.drop_of_length_le (by omega), List.nil_append]
    rw [e1]
    have e2 : cl.toList.drop o = (E1 ++ E2).flatten ++ (cl.toList.drop o).drop ((E1 ++ E2).length * sz) := by
      rw [← hfl]; exact (List.take_append_drop _ _).symm
    have l3 : (E1 ++ E2).flatten.length = (E1 ++ E2).length * sz := flen hes
    rw [e2, lw_left _ _ _ _ (by rw [l3, hwl, List.length_append, Nat.add_mul, hl]; omega)]
    have e4 : lw (E1 ++ E2).flatten (E1.length * sz) ws.flatten = (E1 ++ ws).flatten := by
      rw [List.flatten_append, List.flatten_append]
      have := lw_right E1.flatten E2.flatten 0 ws.flatten
      rw [Nat.add_zero, l1] at this
      rw [this]
      congr 1
      unfold lw
      rw [List.take_zero, List.nil_append, Nat.zero_add, List.drop_of_length_le (by rw [hwl, l2, hl]; omega), List.append_nil]
    rw [e4, List.take_append_of_le_length (by rw [flen (sz := sz) (fun x hx => by rcases List.mem_append.1 hx with hx | hx; exact hE1 x hx; exact hw x hx)]; omega), List.take_of_length_le]
    rw [flen (sz := sz) (fun x hx => by rcases List.mem_append.1 hx with hx | hx; exact hE1 x hx; exact hw x hx)]; omega
  · intro x hx y hy
    rcases List.mem_append.1 hx with hx | hx
    · exact hon x (List.mem_append_left _ hx) y hy
    · exact h1 x hx y hy
  · intro b' hb'
    simp [blockOf] at hb'
    exact upd_ne _ _ (fun e => hb' e.symm)
/-- Some of a row become others. -/
theorem row_mid {H : Heap} {A : Addr} {n c ty sz : Nat} {E1 E2 E3 ws : List (List Value)} (h : RowAt H (.slice (some A) n c) ty sz (E1 ++ E2 ++ E3)) (hl : ws.length = E2.length) (hw : ∀ e ∈ ws, e.length = sz) (h1 : ∀ e ∈ ws, ∀ x ∈ e, one x = true) :
    ∃ cl, (H A.block = some (.cells cl ty (0, 0)) ∧ A.spot = none ∧ A.off + E1.length * sz + ws.length * sz ≤ cl.size) ∧
      RowAt (H.upd A.block (.cells (writeCells cl (A.off + E1.length * sz) ws.flatten) ty (0, 0))) (.slice (some A) n c) ty sz (E1 ++ ws ++ E3) ∧
      Mod (.slice (some A) n c) H (H.upd A.block (.cells (writeCells cl (A.off + E1.length * sz) ws.flatten) ty (0, 0))) := by
  rcases h with ⟨e, _⟩ | ⟨b, o, cap, cl, e, hb, hcap, hsz, hes, hfl, hon⟩
  · cases e
  cases e
  have hwl := flen hw
  have hE1 : ∀ e ∈ E1, e.length = sz := fun e he => hes e (List.mem_append_left _ (List.mem_append_left _ he))
  have hE2 : ∀ e ∈ E2, e.length = sz := fun e he => hes e (List.mem_append_left _ (List.mem_append_right _ he))
  have hE3 : ∀ e ∈ E3, e.length = sz := fun e he => hes e (List.mem_append_right _ he)
  have l1 := flen hE1
  have l2 := flen hE2
  have l3 := flen hE3
  have hm : (E1 ++ E2 ++ E3).length * sz ≤ c * sz := Nat.mul_le_mul_right _ hcap
  have hexp : (E1 ++ E2 ++ E3).length * sz = E1.length * sz + E2.length * sz + E3.length * sz := by rw [List.length_append, List.length_append, Nat.add_mul, Nat.add_mul]
  rw [hexp] at hm
  have hsum : o + E1.length * sz + ws.length * sz ≤ cl.size := by rw [hl]; omega
  have hmem : ∀ e ∈ E1 ++ ws ++ E3, e.length = sz := fun x hx => by
    rcases List.mem_append.1 hx with hx | hx
    · rcases List.mem_append.1 hx with hx | hx
      · exact hE1 x hx
      · exact hw x hx
    · exact hE3 x hx
  have hlen : (E1 ++ ws ++ E3).length = (E1 ++ E2 ++ E3).length := by simp [hl]
  refine ⟨cl, ⟨hb, rfl, hsum⟩, .inr ⟨b, o, c, writeCells cl (o + E1.length * sz) ws.flatten, by rw [hlen], upd_same _ _ _, by rw [hlen]; exact hcap, ?_, hmem, ?_, ?_⟩, ?_⟩
  · rw [writeCells_size _ _ _ (by omega)]; exact hsz
  · rw [write_lw _ _ _ (by omega)]
    have hlo : (cl.toList.take o).length = o := by simp; omega
    have e1 : (lw cl.toList (o + E1.length * sz) ws.flatten).drop o = lw (cl.toList.drop o) (E1.length * sz) ws.flatten := by
      have e0 : cl.toList = cl.toList.take o ++ cl.toList.drop o := by simp
      conv => lhs; rw [e0]
      have := lw_right (cl.toList.take o) (cl.toList.drop o) (E1.length * sz) ws.flatten
      rw [hlo] at this
      rw [this, List.drop_append_of_le_length (by omega), List.drop_of_length_le (by omega), List.nil_append]
    rw [e1]
    have e2 : cl.toList.drop o = (E1 ++ E2 ++ E3).flatten ++ (cl.toList.drop o).drop ((E1 ++ E2 ++ E3).length * sz) := by
      rw [← hfl]; exact (List.take_append_drop _ _).symm
    have l4 : (E1 ++ E2 ++ E3).flatten.length = (E1 ++ E2 ++ E3).length * sz := flen hes
    rw [e2, lw_left _ _ _ _ (by rw [l4, hwl, hexp, hl]; omega)]
    have e4 : lw (E1 ++ E2 ++ E3).flatten (E1.length * sz) ws.flatten = (E1 ++ ws ++ E3).flatten := by
      rw [List.flatten_append, List.flatten_append, List.flatten_append, List.flatten_append]
      rw [lw_left _ _ _ _ (by rw [List.length_append, l1, l2, hwl, hl]; omega)]
      have := lw_right E1.flatten E2.flatten 0 ws.flatten
      rw [Nat.add_zero, l1] at this
      rw [this]
      congr 2
      unfold lw
      rw [List.take_zero, List.nil_append, Nat.zero_add, List.drop_of_length_le (by rw [hwl, l2, hl]; omega), List.append_nil]
    rw [e4, List.take_append_of_le_length (by rw [flen hmem]; omega), List.take_of_length_le]
    rw [flen hmem]; omega
  · intro x hx y hy
    rcases List.mem_append.1 hx with hx | hx
    · rcases List.mem_append.1 hx with hx | hx
      · exact hon x (List.mem_append_left _ (List.mem_append_left _ hx)) y hy
      · exact h1 x hx y hy
    · exact hon x (List.mem_append_right _ hx) y hy
  · intro b' hb'
    simp [blockOf] at hb'
    exact upd_ne _ _ (fun e => hb' e.symm)
theorem row_prefix {H : Heap} {A : Addr} {n c ty sz : Nat} {E1 E2 : List (List Value)} (h : RowAt H (.slice (some A) n c) ty sz (E1 ++ E2)) : RowAt H (.slice (some A) E1.length c) ty sz E1 := by
  rcases h with ⟨e, _⟩ | ⟨b, o, cap, cl, e, hb, hcap, hsz, hes, hfl, hon⟩
  · cases e
  cases e
  have hE1 : ∀ e ∈ E1, e.length = sz := fun e he => hes e (List.mem_append_left _ he)
  rw [List.length_append] at hcap
  refine .inr ⟨b, o, c, cl, rfl, hb, by omega, hsz, hE1, ?_, fun x hx => hon x (List.mem_append_left _ hx)⟩
  rw [List.length_append, Nat.add_mul, List.flatten_append] at hfl
  have := congrArg (List.take (E1.length * sz)) hfl
  rw [List.take_take, Nat.min_eq_left (by omega), ← flen hE1, List.take_append_of_le_length (by omega), List.take_length] at this
  rw [flen hE1] at this
  exact this
end Sx

set_option linter.unusedVariables false
set_option linter.unusedSimpArgs false
namespace Stb
open Go.Sort (SWO)
variable {α : Type} {lt : α → α → Bool}

def eqv (lt : α → α → Bool) (x y : α) : Bool := !lt x y && !lt y x
/-- Alike elements stand in the same order. -/
def Stab (lt : α → α → Bool) (l l' : List α) : Prop := ∀ x, l'.filter (eqv lt x) = l.filter (eqv lt x)
def Srtd (lt : α → α → Bool) (l : List α) : Prop := l.Pairwise fun x y => lt y x = false
theorem Stab.refl (l : List α) : Stab lt l l := fun _ => rfl
theorem Stab.trans {a b c : List α} (h : Stab lt a b) (h' : Stab lt b c) : Stab lt a c := fun x => (h' x).trans (h x)
theorem Stab.app {a b c d : List α} (h : Stab lt a b) (h' : Stab lt c d) : Stab lt (a ++ c) (b ++ d) := fun x => by
  rw [List.filter_append, List.filter_append, h x, h' x]
theorem Stab.len {l l' : List α} (h : Stab lt l l') (hs : SWO lt) : l.length = l'.length := by
  -- by induction on the length of l, taking one class off
  suffices H : ∀ n (l l' : List α), l.length ≤ n → Stab lt l l' → l.length = l'.length from H _ l l' (Nat.le_refl _) h
  intro n
  induction n with
  | zero =>
    intro l l' hl h
    have : l = [] := List.length_eq_zero_iff.1 (by omega)
    subst this
    cases l' with
    | nil => rfl
    | cons y l' =>
      have := h y
      rw [List.filter_cons_of_pos (by simp [eqv, hs.irrefl])] at this
      simp at this
  | succ n ih =>
    intro l l' hl h
    cases l with
    | nil => cases l' with
      | nil => rfl
      | cons y l' =>
        have := h y
        rw [List.filter_cons_of_pos (by simp [eqv, hs.irrefl])] at this
        simp at this
    | cons x l =>
      have hx := h x
      have e1 : ((x :: l).filter (eqv lt x)).length + ((x :: l).filter (fun y => !eqv lt x y)).length = (x :: l).length := by
        have := List.length_eq_countP_add_countP (p := eqv lt x) (l := x :: l)
        rw [List.countP_eq_length_filter, List.countP_eq_length_filter] at this
        simp only [this]
        congr 2
        apply List.filter_congr
        intro y _
        simp
      have e2 : (l'.filter (eqv lt x)).length + (l'.filter (fun y => !eqv lt x y)).length = l'.length := by
        have := List.length_eq_countP_add_countP (p := eqv lt x) (l := l')
        rw [List.countP_eq_length_filter, List.countP_eq_length_filter] at this
        simp only [this]
        congr 2
        apply List.filter_congr
        intro y _
        simp
      have e3 : Stab lt ((x :: l).filter (fun y => !eqv lt x y)) (l'.filter (fun y => !eqv lt x y)) := by
        intro z
        rw [List.filter_filter, List.filter_filter]
        have hc : ∀ m : List α, m.filter (fun y => eqv lt z y && !eqv lt x y) = (m.filter (eqv lt z)).filter (fun y => !eqv lt x y) := by
          intro m
          rw [List.filter_filter]
          apply List.filter_congr
          intro y _
          rw [Bool.and_comm]
        rw [hc, hc, h z]
      have e4 : ((x :: l).filter (fun y => !eqv lt x y)).length ≤ n := by
        have : 1 ≤ ((x :: l).filter (eqv lt x)).length := by
          rw [List.filter_cons_of_pos (by simp [eqv, hs.irrefl])]; simp
        simp only [List.length_cons] at e1 hl
        omega
      have := ih _ _ e4 e3
      rw [← e1, ← e2, hx, this]
theorem eqv_trans (hs : SWO lt) {x y z : α} (h : eqv lt x y = true) (h' : eqv lt x z = true) : eqv lt y z = true := by
  simp only [eqv, Bool.and_eq_true, Bool.not_eq_true'] at *
  exact ⟨hs.ntrans _ _ _ h.2 h'.1, hs.ntrans _ _ _ h'.2 h.1⟩
theorem srtd_head {x : α} {l : List α} (h : Srtd lt (x :: l)) : (∀ y ∈ l, lt y x = false) ∧ Srtd lt l := List.pairwise_cons.1 h
/-- There is one sorted list with alike elements in the same order. -/
theorem sorted_one (hs : SWO lt) : ∀ {l l' : List α}, Srtd lt l → Srtd lt l' → Stab lt l l' → l' = l
  | [], l', _, _, h => by
    have := h.len hs
    exact List.length_eq_zero_iff.1 this.symm
  | x :: l, [], _, _, h => by
    have := h.len hs
    simp at this
  | x :: l, y :: l', h1, h2, h => by
    obtain ⟨a1, a2⟩ := srtd_head h1
    obtain ⟨b1, b2⟩ := srtd_head h2
    have mem : ∀ {z : α} {m m' : List α}, Stab lt m m' → z ∈ m' → ∃ u ∈ m, eqv lt z u = true := by
      intro z m m' hm hz
      have : z ∈ m'.filter (eqv lt z) := by simp [hz, eqv, hs.irrefl]
      rw [hm z] at this
      exact ⟨z, by simpa using (List.mem_filter.1 this).1, by simp [eqv, hs.irrefl]⟩
    have e : y = x := by
      -- y is alike some of the first list, x some of the second: neither is less
      obtain ⟨u, hu, hyu⟩ := mem h (List.mem_cons_self .. : y ∈ y :: l')
      have hrev : Stab lt (y :: l') (x :: l) := fun z => (h z).symm
      obtain ⟨v, hv, hxv⟩ := mem hrev (List.mem_cons_self .. : x ∈ x :: l)
      simp only [eqv, Bool.and_eq_true, Bool.not_eq_true'] at hyu hxv
      have hyx : lt y x = false := by
        have hux : lt u x = false := by
          rcases List.mem_cons.1 hu with rfl | hu
          · exact hs.irrefl _
          · exact a1 u hu
        exact hs.ntrans _ _ _ hyu.1 hux
      have hxy : lt x y = false := by
        have hvy : lt v y = false := by
          rcases List.mem_cons.1 hv with rfl | hv
          · exact hs.irrefl _
          · exact b1 v hv
        exact hs.ntrans _ _ _ hxv.1 hvy
      have hk := h x
      rw [List.filter_cons_of_pos (by simp [eqv, hxy, hyx]), List.filter_cons_of_pos (by simp [eqv, hs.irrefl])] at hk
      exact (List.cons.inj hk).1
    subst e
    congr 1
    refine sorted_one hs a2 b2 fun z => ?_
    have := h z
    simp only [List.filter_cons] at this
    split at this
    · exact (List.cons.inj this).2
    · exact this
/-! ### The insertion sort of a list -/
def insR (lt : α → α → Bool) (x : α) : List α → List α
  | [] => [x]
  | y :: l => if lt x y then x :: y :: l else y :: insR lt x l
def isort (lt : α → α → Bool) (l : List α) : List α := l.foldl (fun acc x => insR lt x acc) []
theorem insR_stab (hs : SWO lt) (x : α) : ∀ (l : List α), Srtd lt l → Srtd lt (insR lt x l) ∧ Stab lt (l ++ [x]) (insR lt x l) ∧ ∀ y ∈ insR lt x l, y = x ∨ y ∈ l
  | [], _ => by simp [insR, Srtd, Stab]
  | y :: l, h => by
    obtain ⟨h1, h2⟩ := srtd_head h
    obtain ⟨i1, i2, i3⟩ := insR_stab hs x l h2
    unfold insR
    split
    · rename_i hxy
      refine ⟨?_, ?_, by simp⟩
      · refine List.pairwise_cons.2 ⟨fun z hz => ?_, h⟩
        rcases List.mem_cons.1 hz with rfl | hz
        · cases hq : lt z x with
          | false => rfl
          | true => have := hs.trans _ _ _ hq hxy; rw [hs.irrefl] at this; cases this
        · cases hq : lt z x with
          | false => rfl
          | true => have := hs.trans _ _ _ hq hxy; rw [h1 z hz] at this; cases this
      · -- x goes ahead of all of them: each is greater
        have all : ∀ z ∈ y :: l, lt x z = true := by
          intro z hz
          rcases List.mem_cons.1 hz with rfl | hz
          · exact hxy
          · cases hq : lt x z with
            | true => rfl
            | false => have := hs.ntrans _ _ _ hq (h1 z hz); rw [hxy] at this; cases this
        intro u
        rw [List.filter_append]
        by_cases hu : eqv lt u x = true
        · have : (y :: l).filter (eqv lt u) = [] := by
            rw [List.filter_eq_nil_iff]
            intro z hz hq
            have := eqv_trans hs hu hq
            simp [eqv, all z hz] at this
          rw [this, List.filter_cons_of_pos hu, this]
          simp [hu]
        · simp only [Bool.not_eq_true] at hu
          rw [List.filter_cons_of_neg (by simp [hu])]
          simp [hu]
    · rename_i hxy
      simp only [Bool.not_eq_true] at hxy
      refine ⟨List.pairwise_cons.2 ⟨fun z hz => ?_, i1⟩, ?_, ?_⟩
      · rcases i3 z hz with rfl | hz
        · exact hxy
        · exact h1 z hz
      · exact Stab.app (a := [y]) (b := [y]) (Stab.refl _) i2
      · intro z hz
        rcases List.mem_cons.1 hz with rfl | hz
        · simp
        · rcases i3 z hz with rfl | hz <;> simp [*]
theorem isort_go (hs : SWO lt) : ∀ (l acc : List α), Srtd lt acc → Srtd lt (l.foldl (fun acc x => insR lt x acc) acc) ∧ Stab lt (acc ++ l) (l.foldl (fun acc x => insR lt x acc) acc)
  | [], acc, h => by simp [h, Stab]
  | x :: l, acc, h => by
    obtain ⟨i1, i2, _⟩ := insR_stab hs x acc h
    obtain ⟨g1, g2⟩ := isort_go hs l _ i1
    refine ⟨g1, ?_⟩
    have : Stab lt (acc ++ x :: l) (insR lt x acc ++ l) := by
      have := Stab.app i2 (Stab.refl (lt := lt) l)
      simpa using this
    exact this.trans g2
theorem isort_srtd (hs : SWO lt) (l : List α) : Srtd lt (isort lt l) := (isort_go hs l [] List.Pairwise.nil).1
theorem isort_stab (hs : SWO lt) (l : List α) : Stab lt l (isort lt l) := by
  have := (isort_go hs l [] List.Pairwise.nil).2
  rw [List.nil_append] at this
  exact this
theorem isort_eq (hs : SWO lt) {l l' : List α} (h : Srtd lt l') (h' : Stab lt l l') : l' = isort lt l :=
  sorted_one hs (isort_srtd hs l) h fun x => by rw [h' x, isort_stab hs l x]
theorem isort_snoc (l : List α) (x : α) : isort lt (l ++ [x]) = insR lt x (isort lt l) := by simp [isort, List.foldl_append]
theorem insR_len (x : α) : ∀ l : List α, (insR lt x l).length = l.length + 1
  | [] => rfl
  | y :: l => by unfold insR; split <;> simp [insR_len x l]
theorem isort_len (l : List α) : (isort lt l).length = l.length := by
  have : ∀ (l acc : List α), (l.foldl (fun acc x => insR lt x acc) acc).length = acc.length + l.length := by
    intro l
    induction l with
    | nil => simp
    | cons x l ih => intro acc; rw [List.foldl_cons, ih, insR_len, List.length_cons]; omega
  have h := this l []
  simp only [List.length_nil, Nat.zero_add] at h
  exact h
theorem insR_at (x : α) : ∀ (P Q : List α), (∀ y ∈ P, lt x y = false) → (∀ y ∈ Q, lt x y = true) → insR lt x (P ++ Q) = P ++ x :: Q
  | [], [], _, _ => rfl
  | [], y :: Q, _, h => by simp [insR, h y (List.mem_cons_self ..)]
  | y :: P, Q, h, h' => by
    have := insR_at x P Q (fun z hz => h z (List.mem_cons_of_mem _ hz)) h'
    simp [insR, h y (List.mem_cons_self ..), this]
theorem insR_mem {x z : α} : ∀ {l : List α}, z ∈ insR lt x l ↔ z = x ∨ z ∈ l
  | [] => by simp [insR]
  | y :: l => by
    unfold insR
    split
    · simp
    · simp only [List.mem_cons, insR_mem (l := l)]
      constructor
      · rintro (h | h | h) <;> simp [h]
      · rintro (h | h | h) <;> simp [h]
theorem isort_mem {z : α} {l : List α} : z ∈ isort lt l ↔ z ∈ l := by
  have : ∀ (l acc : List α), z ∈ l.foldl (fun acc x => insR lt x acc) acc ↔ z ∈ acc ∨ z ∈ l := by
    intro l
    induction l with
    | nil => simp
    | cons x l ih =>
      intro acc
      rw [List.foldl_cons, ih, insR_mem, List.mem_cons]
      constructor
      · rintro ((h | h) | h) <;> simp [h]
      · rintro (h | h | h) <;> simp [h]
  have h := this l []
  simp only [List.not_mem_nil, false_or] at h
  exact h
theorem isort_id (hs : SWO lt) {l : List α} (h : Srtd lt l) : isort lt l = l := (isort_eq hs h (Stab.refl l)).symm
/-- Two blocks, each one of the second less than each one of the first, may change places. -/
theorem stab_blocks (hs : SWO lt) {X Y : List α} (h : ∀ x ∈ X, ∀ y ∈ Y, lt y x = true) : Stab lt (X ++ Y) (Y ++ X) := by
  intro z
  rw [List.filter_append, List.filter_append]
  by_cases hx : X.filter (eqv lt z) = []
  · rw [hx]; simp
  · obtain ⟨x, hx⟩ := List.exists_mem_of_ne_nil _ hx
    obtain ⟨hx1, hx2⟩ := List.mem_filter.1 hx
    have : Y.filter (eqv lt z) = [] := by
      rw [List.filter_eq_nil_iff]
      intro y hy hq
      have := eqv_trans hs hx2 hq
      simp [eqv, h x hx1 y hy] at this
    rw [this]; simp
theorem asymm (hs : SWO lt) {x y : α} (h : lt x y = true) : lt y x = false := by
  cases hq : lt y x with
  | false => rfl
  | true => have := hs.trans _ _ _ h hq; rw [hs.irrefl] at this; cases this
/-- Merging in two halves. -/
theorem merge_halves (hs : SWO lt) {X1 X2 Y1 Y2 : List α} (h1 : Srtd lt (X1 ++ X2)) (h2 : Srtd lt (Y1 ++ Y2)) (h3 : ∀ x ∈ X1, ∀ y ∈ Y2, lt y x = false) (h4 : ∀ x ∈ X2, ∀ y ∈ Y1, lt y x = true) :
    isort lt (X1 ++ Y1) ++ isort lt (X2 ++ Y2) = isort lt (X1 ++ X2 ++ (Y1 ++ Y2)) := by
  apply isort_eq hs
  · refine List.pairwise_append.2 ⟨isort_srtd hs _, isort_srtd hs _, fun u hu v hv => ?_⟩
    rw [isort_mem, List.mem_append] at hu hv
    have p1 := List.pairwise_append.1 h1
    have p2 := List.pairwise_append.1 h2
    rcases hu with hu | hu <;> rcases hv with hv | hv
    · exact p1.2.2 u hu v hv
    · exact h3 u hu v hv
    · exact asymm hs (h4 v hv u hu)
    · exact p2.2.2 u hu v hv
  · have e1 : Stab lt (X1 ++ X2 ++ (Y1 ++ Y2)) (X1 ++ Y1 ++ (X2 ++ Y2)) := by
      have := Stab.app (Stab.app (Stab.refl (lt := lt) X1) (stab_blocks hs h4)) (Stab.refl (lt := lt) Y2)
      simpa using this
    exact e1.trans (Stab.app (isort_stab hs _) (isort_stab hs _))
/-- What is known at the borders is known of all. -/
theorem borders (hs : SWO lt) {X1 X2 Y1 Y2 : List α} (h1 : Srtd lt (X1 ++ X2)) (h2 : Srtd lt (Y1 ++ Y2)) (f1 : ∀ x y, X1.getLast? = some x → Y2.head? = some y → lt y x = false) (f2 : ∀ x y, X2.head? = some x → Y1.getLast? = some y → lt y x = true) :
    (∀ x ∈ X1, ∀ y ∈ Y2, lt y x = false) ∧ ∀ x ∈ X2, ∀ y ∈ Y1, lt y x = true := by
  have p1 := List.pairwise_append.1 h1
  have p2 := List.pairwise_append.1 h2
  have last : ∀ {l : List α}, Srtd lt l → ∀ x ∈ l, ∃ z, l.getLast? = some z ∧ lt z x = false := by
    intro l hl x hx
    obtain ⟨A, z, rfl⟩ : ∃ A z, l = A ++ [z] := by
      cases List.eq_nil_or_concat l with
      | inl h => subst h; cases hx
      | inr h => obtain ⟨A, z, h⟩ := h; exact ⟨A, z, by simpa using h⟩
    refine ⟨z, by simp, ?_⟩
    rcases List.mem_append.1 hx with hx | hx
    · exact (List.pairwise_append.1 hl).2.2 x hx z (by simp)
    · simp at hx; subst hx; exact hs.irrefl _
  have head : ∀ {l : List α}, Srtd lt l → ∀ x ∈ l, ∃ z, l.head? = some z ∧ lt x z = false := by
    intro l hl x hx
    cases l with
    | nil => cases hx
    | cons z l =>
      refine ⟨z, rfl, ?_⟩
      rcases List.mem_cons.1 hx with rfl | hx
      · exact hs.irrefl _
      · exact (srtd_head hl).1 x hx
  refine ⟨fun x hx y hy => ?_, fun x hx y hy => ?_⟩
  · obtain ⟨u, hu, hux⟩ := last p1.1 x hx
    obtain ⟨v, hv, hyv⟩ := head p2.2.1 y hy
    exact hs.ntrans _ _ _ (hs.ntrans _ _ _ hyv (f1 u v hu hv)) hux
  · obtain ⟨u, hu, hxu⟩ := head p1.2.1 x hx
    obtain ⟨v, hv, hvy⟩ := last p2.1 y hy
    have h3 := f2 u v hu hv
    cases hq : lt y x with
    | true => rfl
    | false =>
      -- v ≤ .. : lt v y = false, lt y x = false, lt x u = false gives lt v u = false
      have := hs.ntrans _ _ _ (hs.ntrans _ _ _ hvy hq) hxu
      rw [h3] at this; cases this
/-! ### Places in lists -/
theorem set_two {P Q : List α} {x y : α} {k : Nat} (hk : P.length = k) : ((P ++ y :: x :: Q).set (k + 1) y).set k x = P ++ x :: y :: Q := by
  subst hk
  rw [List.set_append_right _ _ (by omega), List.set_append_right _ _ (by omega)]
  simp
theorem get_at {P Q : List α} {x : α} {k : Nat} (hk : P.length = k) : (P ++ x :: Q)[k]? = some x := by
  subst hk; simp
theorem set_far {P Q R : List α} {x y : α} {i j : Nat} (hi : P.length = i) (hj : i + 1 + Q.length = j) : ((P ++ x :: (Q ++ y :: R)).set i y).set j x = P ++ y :: (Q ++ x :: R) := by
  subst hi; subst hj
  rw [List.set_append_right _ _ (Nat.le_refl _), Nat.sub_self, List.set_cons_zero, List.set_append_right _ _ (by omega), show P.length + 1 + Q.length - P.length = Q.length + 1 by omega, List.set_cons_succ, List.set_append_right _ _ (Nat.le_refl _), Nat.sub_self, List.set_cons_zero]
theorem ins_left (hs : SWO lt) {x : α} {Y1 Y2 : List α} (h : Srtd lt (Y1 ++ Y2)) (f1 : ∀ y, Y1.getLast? = some y → lt y x = true) (f2 : ∀ y, Y2.head? = some y → lt y x = false) : isort lt ([x] ++ (Y1 ++ Y2)) = Y1 ++ x :: Y2 := by
  have hb := borders hs (X1 := [x]) (X2 := []) (Y1 := Y1) (Y2 := Y2) (List.pairwise_singleton ..) h (fun u v hu hv => by simp at hu; subst hu; exact f2 v hv) (by simp)
  have hb2 := borders hs (X1 := []) (X2 := [x]) (Y1 := Y1) (Y2 := Y2) (List.pairwise_singleton ..) h (by simp) (fun u v hu hv => by simp at hu; subst hu; exact f1 v hv)
  have p := List.pairwise_append.1 h
  symm
  apply isort_eq hs
  · refine List.pairwise_append.2 ⟨p.1, List.pairwise_cons.2 ⟨fun y hy => hb.1 x (by simp) y hy, p.2.1⟩, fun u hu v hv => ?_⟩
    rcases List.mem_cons.1 hv with rfl | hv
    · exact asymm hs (hb2.2 _ (by simp) u hu)
    · exact p.2.2 u hu v hv
  · have := Stab.app (stab_blocks hs (X := [x]) (Y := Y1) fun u hu y hy => by simp at hu; subst hu; exact hb2.2 _ (by simp) y hy) (Stab.refl (lt := lt) Y2)
    simpa using this
theorem ins_right (hs : SWO lt) {y : α} {X1 X2 : List α} (h : Srtd lt (X1 ++ X2)) (f1 : ∀ x, X1.getLast? = some x → lt y x = false) (f2 : ∀ x, X2.head? = some x → lt y x = true) : isort lt (X1 ++ X2 ++ [y]) = X1 ++ y :: X2 := by
  have hb := borders hs (X1 := X1) (X2 := X2) (Y1 := []) (Y2 := [y]) h (List.pairwise_singleton ..) (fun u v hu hv => by simp at hv; subst hv; exact f1 u hu) (by simp)
  have hb2 := borders hs (X1 := X1) (X2 := X2) (Y1 := [y]) (Y2 := []) h (by simp [Srtd]) (by simp) (fun u v hu hv => by simp at hv; subst hv; exact f2 u hu)
  rw [isort_snoc, isort_id hs h, insR_at]
  · intro x hx; exact hb.1 x hx y (by simp)
  · intro x hx; exact hb2.2 x hx y (by simp)
theorem last_take {l : List α} {k : Nat} (hk : 0 < k) (hl : k ≤ l.length) : (l.take k).getLast? = l[k - 1]? := by
  rw [List.getLast?_eq_getElem?, List.length_take, Nat.min_eq_left hl, List.getElem?_take_of_lt (by omega)]
theorem head_drop {l : List α} {k : Nat} : (l.drop k).head? = l[k]? := by rw [List.head?_drop]
end Stb

set_option linter.unusedVariables false
set_option linter.unusedSimpArgs false
namespace Cr
open Go Sx Stb
open Go.Proofs.Try
@[simp] theorem delLs_nil (H : Heap) : delLs H [] = H := rfl
structure Pt where
  id : Int
  x : Int
  y : Int
  data : ByteArray
  deriving Inhabited, DecidableEq
@[reducible] def ptC (p : Pt) : List Value := [.int .i64 p.id, .int .u32 p.x, .int .u32 p.y, .string p.data]
abbrev ptV (p : Pt) : Value := .agg { toList := [.int .i64 p.id, .int .u32 p.x, .int .u32 p.y, .string p.data] }
abbrev tPt : Nat := 44
abbrev pts (l : List Pt) : List (List Value) := l.map ptC
abbrev vi (n : Int) : Value := .int .i64 n
/-- A comparing function. -/
def CmpOK (g : Nat) (cf : Pt → Pt → Int) : Prop := ∀ (p q : Pt) (H : Heap) (R : Ending → Heap → Prop), R (.returned (vi (cf p q))) H → Meets prog g [ptV p, ptV q] H R
def ltc (cf : Pt → Pt → Int) (p q : Pt) : Bool := decide (cf p q < 0)
theorem ptC_one (p : Pt) : ∀ x ∈ ptC p, one x = true := by intro x hx; simp at hx; rcases hx with rfl | rfl | rfl | rfl <;> rfl
theorem pr_get {H : Heap} {a : Option Addr} {n c : Nat} {l : List Pt} (h : SliceAt H (.slice a n c) 4 (pts l)) {i : Nat} {p : Pt} (he : l[i]? = some p) : ∃ A, a = some A ∧ H.has (A.add (i * 4)) (ptC p) := by
  obtain ⟨A, h1, _, h2⟩ := slice_get h (i := i) (e := ptC p) (by simp [pts, he])
  exact ⟨A, h1, h2⟩
theorem pr_put {H : Heap} {A : Addr} {n c ty : Nat} {l : List Pt} (h : RowAt H (.slice (some A) n c) ty 4 (pts l)) {i : Nat} (hi : i < n) (p : Pt) :
    ∃ cl, (H (A.add (i * 4)).block = some (.cells cl ty (0, 0)) ∧ (A.add (i * 4)).spot = none ∧ (A.add (i * 4)).off + 4 ≤ cl.size) ∧
      RowAt (H.upd (A.add (i * 4)).block (.cells (writeCells cl (A.add (i * 4)).off (ptC p)) ty (0, 0))) (.slice (some A) n c) ty 4 (pts (l.set i p)) ∧
      Mod (.slice (some A) n c) H (H.upd (A.add (i * 4)).block (.cells (writeCells cl (A.add (i * 4)).off (ptC p)) ty (0, 0))) := by
  obtain ⟨A', e, cl, h1, h2, h3⟩ := row_store h hi (cs := ptC p) rfl (ptC_one p)
  cases e
  refine ⟨cl, h1, ?_, h3⟩
  rw [pts, List.map_set]
  exact h2
theorem keep_same (G H Hl : Heap) : Keep G H Hl Hl := fun _ _ h _ => h
end Cr

set_option linter.unusedVariables false
set_option linter.unusedSimpArgs false
namespace Cr
open Go Sx Stb
open Go.Sort (SWO)
open Go.Proofs.Try
set_option maxRecDepth 100000
def h_ins : Hints := { loops := [(1, ⟨[0, 1, 2, 3], [.f 8 (.int .i64)], []⟩), (4, ⟨[0, 1, 2, 3, 8], [.f 9 (.int .i64)], []⟩)] }
def h_swr : Hints := { loops := [(1, ⟨[0, 1, 2, 3, 4], [.f 10 (.int .i64)], []⟩)] }
def h_rot : Hints := { loops := [(2, ⟨[0, 1, 2, 3, 4], [.f 10 (.int .i64), .f 11 (.int .i64)], []⟩)] }
def nf_ins (A : Addr) (n : Nat) (c : Nat) (g : Nat) (a : Int) (b : Int) (R : Ending → Heap → Prop) (H : Heap) : Prop := some A = some A ∧ n = n ∧ c = c ∧ a = a ∧ b = b ∧ Value.func (Fn.func g) { toList := [] } { toList := [] } = Value.func (Fn.func g) { toList := [] } { toList := [] } ∧ LoopP (fun (K : (Int × PUnit) × PUnit → (Nat → Option Obj) → Prop) (p : (Int × PUnit) × PUnit) (H : Nat → Option Obj) ↦ Br (decide (p.fst.fst < b)) (some A = some A ∧ n = n ∧ c = c ∧ a = a ∧ b = b ∧ Value.func (Fn.func g) { toList := [] } { toList := [] } = Value.func (Fn.func g) { toList := [] } { toList := [] } ∧ p.fst.fst = p.fst.fst ∧ LoopP (fun (K_1 : (Int × PUnit) × PUnit → (Nat → Option Obj) → Prop) (p_1 : (Int × PUnit) × PUnit) (H : Nat → Option Obj) ↦ ∃ (G : Nat → Option Obj), G ≤ H ∧ Br (decide (p_1.fst.fst > a)) (((0 : Int) ≤ p_1.fst.fst ∧ p_1.fst.fst < (↑n : Int)) ∧ PtrK (some A) fun (A_1 : Addr) ↦ PtrK (some (Addr.add A_1 (Int.toNat p_1.fst.fst * (4 : Nat)))) fun (a_1 : Addr) ↦ ∃ (n_1 : Int), ∃ (n_2 : Int), ∃ (n_3 : Int), ∃ (s : ByteArray), Heap.has G a_1 [Value.int IntKind.i64 n_1, Value.int IntKind.u32 n_2, Value.int IntKind.u32 n_3, Value.string s] ∧ ((0 : Int) ≤ IntKind.wrap IntKind.i64 (p_1.fst.fst - (1 : Int)) ∧ IntKind.wrap IntKind.i64 (p_1.fst.fst - (1 : Int)) < (↑n : Int)) ∧ PtrK (some A) fun (A_2 : Addr) ↦ PtrK (some (Addr.add A_2 (Int.toNat (IntKind.wrap IntKind.i64 (p_1.fst.fst - (1 : Int))) * (4 : Nat)))) fun (a_2 : Addr) ↦ ∃ (n_4 : Int), ∃ (n_5 : Int), ∃ (n_6 : Int), ∃ (s_1 : ByteArray), Heap.has G a_2 [Value.int IntKind.i64 n_4, Value.int IntKind.u32 n_5, Value.int IntKind.u32 n_6, Value.string s_1] ∧ Meets prog g [Value.agg { toList := [Value.int IntKind.i64 n_1, Value.int IntKind.u32 n_2, Value.int IntKind.u32 n_3, Value.string s] }, Value.agg { toList := [Value.int IntKind.i64 n_4, Value.int IntKind.u32 n_5, Value.int IntKind.u32 n_6, Value.string s_1] }] H fun (e : Ending) (H' : Nat → Option Obj) ↦ Keep G H H H' ∧ ∃ (n_7 : Int), e = Ending.returned (Value.int IntKind.i64 n_7) ∧ Br (decide (n_7 < (0 : Int))) (((0 : Int) ≤ IntKind.wrap IntKind.i64 (p_1.fst.fst - (1 : Int)) ∧ IntKind.wrap IntKind.i64 (p_1.fst.fst - (1 : Int)) < (↑n : Int)) ∧ PtrK (some A) fun (A_3 : Addr) ↦ PtrK (some (Addr.add A_3 (Int.toNat (IntKind.wrap IntKind.i64 (p_1.fst.fst - (1 : Int))) * (4 : Nat)))) fun (a_3 : Addr) ↦ ∃ (n_8 : Int), ∃ (n_9 : Int), ∃ (n_10 : Int), ∃ (s : ByteArray), Heap.has (delLs H' []) a_3 [Value.int IntKind.i64 n_8, Value.int IntKind.u32 n_9, Value.int IntKind.u32 n_10, Value.string s] ∧ ((0 : Int) ≤ p_1.fst.fst ∧ p_1.fst.fst < (↑n : Int)) ∧ PtrK (some A) fun (A_4 : Addr) ↦ PtrK (some (Addr.add A_4 (Int.toNat p_1.fst.fst * (4 : Nat)))) fun (a_4 : Addr) ↦ ∃ (n_11 : Int), ∃ (n_12 : Int), ∃ (n_13 : Int), ∃ (s_2 : ByteArray), Heap.has (delLs H' []) a_4 [Value.int IntKind.i64 n_11, Value.int IntKind.u32 n_12, Value.int IntKind.u32 n_13, Value.string s_2] ∧ ((0 : Int) ≤ p_1.fst.fst ∧ p_1.fst.fst < (↑n : Int)) ∧ PtrK (some A) fun (A_5 : Addr) ↦ PtrK (some (Addr.add A_5 (Int.toNat p_1.fst.fst * (4 : Nat)))) fun (A_6 : Addr) ↦ ∃ (c_1 : Array Value), ∃ (ty : Nat), (delLs H' [] A_6.block = some (Obj.cells c_1 ty) ∧ A_6.spot = none ∧ A_6.off + (4 : Nat) ≤ Array.size c_1) ∧ ((0 : Int) ≤ IntKind.wrap IntKind.i64 (p_1.fst.fst - (1 : Int)) ∧ IntKind.wrap IntKind.i64 (p_1.fst.fst - (1 : Int)) < (↑n : Int)) ∧ PtrK (some A) fun (A_7 : Addr) ↦ PtrK (some (Addr.add A_7 (Int.toNat (IntKind.wrap IntKind.i64 (p_1.fst.fst - (1 : Int))) * (4 : Nat)))) fun (A_8 : Addr) ↦ ∃ (c_2 : Array Value), ∃ (ty_1 : Nat), (Heap.upd (delLs H' ([] ++ ([] ++ ([] ++ ([] ++ ([] ++ []))) ++ ([] ++ ([] ++ ([] ++ ([] ++ []))) ++ [])))) A_6.block (Obj.cells (writeCells c_1 A_6.off [Value.int IntKind.i64 n_8, Value.int IntKind.u32 n_9, Value.int IntKind.u32 n_10, Value.string s]) ty) A_8.block = some (Obj.cells c_2 ty_1) ∧ A_8.spot = none ∧ A_8.off + (4 : Nat) ≤ Array.size c_2) ∧ some A = some A ∧ n = n ∧ c = c ∧ a = a ∧ b = b ∧ Value.func (Fn.func g) { toList := [] } { toList := [] } = Value.func (Fn.func g) { toList := [] } { toList := [] } ∧ p.fst.fst = p.fst.fst ∧ K_1 ((IntKind.wrap IntKind.i64 (p_1.fst.fst - (1 : Int)), PUnit.unit), PUnit.unit) (Heap.upd (Heap.upd (delLs H' []) A_6.block (Obj.cells (writeCells c_1 A_6.off [Value.int IntKind.i64 n_8, Value.int IntKind.u32 n_9, Value.int IntKind.u32 n_10, Value.string s]) ty)) A_8.block (Obj.cells (writeCells c_2 A_8.off [Value.int IntKind.i64 n_11, Value.int IntKind.u32 n_12, Value.int IntKind.u32 n_13, Value.string s_2]) ty_1))) (some A = some A ∧ n = n ∧ c = c ∧ a = a ∧ b = b ∧ Value.func (Fn.func g) { toList := [] } { toList := [] } = Value.func (Fn.func g) { toList := [] } { toList := [] } ∧ K ((IntKind.wrap IntKind.i64 (p.fst.fst + (1 : Int)), PUnit.unit), PUnit.unit) (delLs H' []))) (some A = some A ∧ n = n ∧ c = c ∧ a = a ∧ b = b ∧ Value.func (Fn.func g) { toList := [] } { toList := [] } = Value.func (Fn.func g) { toList := [] } { toList := [] } ∧ K ((IntKind.wrap IntKind.i64 (p.fst.fst + (1 : Int)), PUnit.unit), PUnit.unit) H)) ((p.fst.fst, PUnit.unit), PUnit.unit) H) (R (Ending.returned (Value.tuple { toList := [] })) H)) ((IntKind.wrap IntKind.i64 (a + (1 : Int)), PUnit.unit), PUnit.unit) H
theorem vc_ins (A : Addr) (n : Nat) (c : Nat) (g : Nat) (a : Int) (b : Int) (R : Ending → Heap → Prop) (H : Heap) : vcFun prog h_ins f56 [SV.c (SC.v (Value.slice (some A) n c)), SV.c (SC.v (Value.int IntKind.i64 a)), SV.c (SC.v (Value.int IntKind.i64 b)), SV.c (SC.v (Value.func (Fn.func g) #[] #[]))] R H = nf_ins A n c g a b R H := by kernel_rfl

def nf_swr (A : Addr) (n : Nat) (c : Nat) (g : Nat) (a : Int) (b : Int) (m : Int) (R : Ending → Heap → Prop) (H : Heap) : Prop := some A = some A ∧ n = n ∧ c = c ∧ a = a ∧ b = b ∧ m = m ∧ Value.func (Fn.func g) { toList := [] } { toList := [] } = Value.func (Fn.func g) { toList := [] } { toList := [] } ∧ LoopP (fun (K : (Int × PUnit) × PUnit → (Nat → Option Obj) → Prop) (p : (Int × PUnit) × PUnit) (H : Nat → Option Obj) ↦ Br (decide (p.fst.fst < m)) (((0 : Int) ≤ IntKind.wrap IntKind.i64 (b + p.fst.fst) ∧ IntKind.wrap IntKind.i64 (b + p.fst.fst) < (↑n : Int)) ∧ PtrK (some A) fun (A_1 : Addr) ↦ PtrK (some (Addr.add A_1 (Int.toNat (IntKind.wrap IntKind.i64 (b + p.fst.fst)) * (4 : Nat)))) fun (a_1 : Addr) ↦ ∃ (n_1 : Int), ∃ (n_2 : Int), ∃ (n_3 : Int), ∃ (s : ByteArray), Heap.has H a_1 [Value.int IntKind.i64 n_1, Value.int IntKind.u32 n_2, Value.int IntKind.u32 n_3, Value.string s] ∧ ((0 : Int) ≤ IntKind.wrap IntKind.i64 (a + p.fst.fst) ∧ IntKind.wrap IntKind.i64 (a + p.fst.fst) < (↑n : Int)) ∧ PtrK (some A) fun (A_2 : Addr) ↦ PtrK (some (Addr.add A_2 (Int.toNat (IntKind.wrap IntKind.i64 (a + p.fst.fst)) * (4 : Nat)))) fun (a_2 : Addr) ↦ ∃ (n_4 : Int), ∃ (n_5 : Int), ∃ (n_6 : Int), ∃ (s_1 : ByteArray), Heap.has H a_2 [Value.int IntKind.i64 n_4, Value.int IntKind.u32 n_5, Value.int IntKind.u32 n_6, Value.string s_1] ∧ ((0 : Int) ≤ IntKind.wrap IntKind.i64 (a + p.fst.fst) ∧ IntKind.wrap IntKind.i64 (a + p.fst.fst) < (↑n : Int)) ∧ PtrK (some A) fun (A_3 : Addr) ↦ PtrK (some (Addr.add A_3 (Int.toNat (IntKind.wrap IntKind.i64 (a + p.fst.fst)) * (4 : Nat)))) fun (A_4 : Addr) ↦ ∃ (c_1 : Array Value), ∃ (ty : Nat), (H A_4.block = some (Obj.cells c_1 ty) ∧ A_4.spot = none ∧ A_4.off + (4 : Nat) ≤ Array.size c_1) ∧ ((0 : Int) ≤ IntKind.wrap IntKind.i64 (b + p.fst.fst) ∧ IntKind.wrap IntKind.i64 (b + p.fst.fst) < (↑n : Int)) ∧ PtrK (some A) fun (A_5 : Addr) ↦ PtrK (some (Addr.add A_5 (Int.toNat (IntKind.wrap IntKind.i64 (b + p.fst.fst)) * (4 : Nat)))) fun (A_6 : Addr) ↦ ∃ (c_2 : Array Value), ∃ (ty_1 : Nat), (Heap.upd H A_4.block (Obj.cells (writeCells c_1 A_4.off [Value.int IntKind.i64 n_1, Value.int IntKind.u32 n_2, Value.int IntKind.u32 n_3, Value.string s]) ty) A_6.block = some (Obj.cells c_2 ty_1) ∧ A_6.spot = none ∧ A_6.off + (4 : Nat) ≤ Array.size c_2) ∧ some A = some A ∧ n = n ∧ c = c ∧ a = a ∧ b = b ∧ m = m ∧ Value.func (Fn.func g) { toList := [] } { toList := [] } = Value.func (Fn.func g) { toList := [] } { toList := [] } ∧ K ((IntKind.wrap IntKind.i64 (p.fst.fst + (1 : Int)), PUnit.unit), PUnit.unit) (Heap.upd (Heap.upd H A_4.block (Obj.cells (writeCells c_1 A_4.off [Value.int IntKind.i64 n_1, Value.int IntKind.u32 n_2, Value.int IntKind.u32 n_3, Value.string s]) ty)) A_6.block (Obj.cells (writeCells c_2 A_6.off [Value.int IntKind.i64 n_4, Value.int IntKind.u32 n_5, Value.int IntKind.u32 n_6, Value.string s_1]) ty_1))) (R (Ending.returned (Value.tuple { toList := [] })) H)) (((0 : Int), PUnit.unit), PUnit.unit) H
theorem vc_swr (A : Addr) (n : Nat) (c : Nat) (g : Nat) (a : Int) (b : Int) (m : Int) (R : Ending → Heap → Prop) (H : Heap) : vcFun prog h_swr f85 [SV.c (SC.v (Value.slice (some A) n c)), SV.c (SC.v (Value.int IntKind.i64 a)), SV.c (SC.v (Value.int IntKind.i64 b)), SV.c (SC.v (Value.int IntKind.i64 m)), SV.c (SC.v (Value.func (Fn.func g) #[] #[]))] R H = nf_swr A n c g a b m R H := by kernel_rfl

def nf_rot (A : Addr) (n : Nat) (c : Nat) (g : Nat) (a : Int) (m : Int) (b : Int) (R : Ending → Heap → Prop) (H : Heap) : Prop := some A = some A ∧ n = n ∧ c = c ∧ a = a ∧ m = m ∧ b = b ∧ Value.func (Fn.func g) { toList := [] } { toList := [] } = Value.func (Fn.func g) { toList := [] } { toList := [] } ∧ LoopP (fun (K : (Int × Int × PUnit) × PUnit → (Nat → Option Obj) → Prop) (p : (Int × Int × PUnit) × PUnit) (H : Nat → Option Obj) ↦ Br (p.fst.fst != p.fst.snd.fst) (Br (decide (p.fst.fst > p.fst.snd.fst)) (Meets prog (85 : Nat) [Value.slice (some A) n c, Value.int IntKind.i64 (IntKind.wrap IntKind.i64 (m - p.fst.fst)), Value.int IntKind.i64 m, Value.int IntKind.i64 p.fst.snd.fst, Value.func (Fn.func g) { toList := [] } { toList := [] }] H fun (e : Ending) (H' : Nat → Option Obj) ↦ e = Ending.returned (Value.tuple { toList := [] }) ∧ some A = some A ∧ n = n ∧ c = c ∧ a = a ∧ m = m ∧ b = b ∧ Value.func (Fn.func g) { toList := [] } { toList := [] } = Value.func (Fn.func g) { toList := [] } { toList := [] } ∧ K ((IntKind.wrap IntKind.i64 (p.fst.fst - p.fst.snd.fst), p.fst.snd.fst, PUnit.unit), PUnit.unit) H') (Meets prog (85 : Nat) [Value.slice (some A) n c, Value.int IntKind.i64 (IntKind.wrap IntKind.i64 (m - p.fst.fst)), Value.int IntKind.i64 (IntKind.wrap IntKind.i64 (IntKind.wrap IntKind.i64 (m + p.fst.snd.fst) - p.fst.fst)), Value.int IntKind.i64 p.fst.fst, Value.func (Fn.func g) { toList := [] } { toList := [] }] H fun (e : Ending) (H' : Nat → Option Obj) ↦ e = Ending.returned (Value.tuple { toList := [] }) ∧ some A = some A ∧ n = n ∧ c = c ∧ a = a ∧ m = m ∧ b = b ∧ Value.func (Fn.func g) { toList := [] } { toList := [] } = Value.func (Fn.func g) { toList := [] } { toList := [] } ∧ K ((p.fst.fst, IntKind.wrap IntKind.i64 (p.fst.snd.fst - p.fst.fst), PUnit.unit), PUnit.unit) H')) (Meets prog (85 : Nat) [Value.slice (some A) n c, Value.int IntKind.i64 (IntKind.wrap IntKind.i64 (m - p.fst.fst)), Value.int IntKind.i64 m, Value.int IntKind.i64 p.fst.fst, Value.func (Fn.func g) { toList := [] } { toList := [] }] H fun (e : Ending) (H' : Nat → Option Obj) ↦ e = Ending.returned (Value.tuple { toList := [] }) ∧ R (Ending.returned (Value.tuple { toList := [] })) H')) ((IntKind.wrap IntKind.i64 (m - a), IntKind.wrap IntKind.i64 (b - m), PUnit.unit), PUnit.unit) H
theorem vc_rot (A : Addr) (n : Nat) (c : Nat) (g : Nat) (a : Int) (m : Int) (b : Int) (R : Ending → Heap → Prop) (H : Heap) : vcFun prog h_rot f79 [SV.c (SC.v (Value.slice (some A) n c)), SV.c (SC.v (Value.int IntKind.i64 a)), SV.c (SC.v (Value.int IntKind.i64 m)), SV.c (SC.v (Value.int IntKind.i64 b)), SV.c (SC.v (Value.func (Fn.func g) #[] #[]))] R H = nf_rot A n c g a m b R H := by kernel_rfl

section
variable {R : Ending → Heap → Prop} {H : Heap} {ty : Nat}
theorem w64 {k : Int} (h : -9223372036854775808 ≤ k ∧ k ≤ 9223372036854775807) : IntKind.i64.wrap k = k := IntWalk.i64_in _ (by omega)
theorem s_ins {g : Nat} {cf : Pt → Pt → Int} (hc : CmpOK g cf) (hs : SWO (ltc cf)) {Ad : Addr} {n c : Nat} {A X B : List Pt} {a b : Int} (ha : (A.length : Int) = a) (hb : a + X.length = b)
    (hrow : RowAt H (.slice (some Ad) n c) ty 4 (pts (A ++ X ++ B))) (hn : n ≤ 1000000) (h : ∀ H', RowAt H' (.slice (some Ad) n c) ty 4 (pts (A ++ isort (ltc cf) X ++ B)) → Mod (.slice (some Ad) n c) H H' → R (.returned (.tuple #[])) H') :
    Meets prog 56 [.slice (some Ad) n c, vi a, vi b, .func (.func g) #[] #[]] H R := by
  refine spec_of func56 (by kernel_rfl) (fun t h => by cases h) ?_ (vc_ins Ad n c g a b R H) ?_
  · simp [argsR, SV.rep, SC.rep, one]
  unfold nf_ins
  simp only [true_and, delLs_nil, List.nil_append, List.append_nil]
  have hlen0 := (row_len hrow).1
  simp only [pts, List.length_map, List.length_append] at hlen0
  have hw1 : IntKind.i64.wrap (a + 1) = a + 1 := w64 (by omega)
  rw [hw1]
  refine ⟨fun p H' => ∃ t : Nat, p.1.1 = a + t ∧ 1 ≤ t ∧ (t ≤ X.length ∨ (t = 1 ∧ X = [])) ∧ RowAt H' (.slice (some Ad) n c) ty 4 (pts (A ++ isort (ltc cf) (X.take t) ++ X.drop t ++ B)) ∧ Mod (.slice (some Ad) n c) H H', fun p _ => (b + 2 - p.1.1).toNat, ⟨1, by simp, by omega, ?_, ?_, Mod.refl _ _⟩, ?_⟩
  · cases X <;> simp
  · have : isort (ltc cf) (X.take 1) = X.take 1 := by cases X <;> simp [isort, insR]
    rw [this, List.append_assoc A, List.take_append_drop]
    exact hrow
  rintro ⟨⟨i, _⟩, _⟩ H1 ⟨t, hi, ht1, ht2, hrow1, hmod1⟩
  simp only at hi ⊢
  subst hi
  refine br (fun q => ?_) fun q => ?_
  · simp only [decide_eq_true_eq] at q
    have htl : t < X.length := by omega
    obtain ⟨x, hx⟩ : ∃ x, X[t]? = some x := ⟨X[t], by simp [htl]⟩
    have htake : X.take (t + 1) = X.take t ++ [x] := by rw [List.take_add_one, hx]; rfl
    have hdrop : X.drop t = x :: X.drop (t + 1) := by
      rw [List.drop_eq_getElem_cons htl]
      congr 1
      rw [List.getElem?_eq_getElem htl] at hx
      exact Option.some.inj hx
    have hSl : (isort (ltc cf) (X.take t)).length = t := by rw [isort_len, List.length_take]; omega
    have hSs := isort_srtd hs (X.take t)
    have hstep : isort (ltc cf) (X.take (t + 1)) = insR (ltc cf) x (isort (ltc cf) (X.take t)) := by rw [htake, isort_snoc]
    have hw2 : IntKind.i64.wrap (a + t + 1) = a + ((t + 1 : Nat) : Int) := by rw [w64 (by omega)]; omega
    rw [hw2]
    have hms : (b + 2 - (a + ((t + 1 : Nat) : Int))).toNat < (b + 2 - (a + t)).toNat := by omega
    generalize isort (ltc cf) (X.take t) = S at hSl hSs hstep hrow1
    -- the inner loop
    have done : ∀ (P Q : List Pt) (H2 : Heap), S = P ++ Q → RowAt H2 (.slice (some Ad) n c) ty 4 (pts (A ++ P ++ x :: Q ++ (X.drop (t + 1) ++ B))) → Mod (.slice (some Ad) n c) H H2 → (∀ y ∈ P, ltc cf x y = false) → (∀ y ∈ Q, ltc cf x y = true) →
        (∃ t' : Nat, a + ((t + 1 : Nat) : Int) = a + t' ∧ 1 ≤ t' ∧ (t' ≤ X.length ∨ (t' = 1 ∧ X = [])) ∧ RowAt H2 (.slice (some Ad) n c) ty 4 (pts (A ++ isort (ltc cf) (X.take t') ++ X.drop t' ++ B)) ∧ Mod (.slice (some Ad) n c) H H2) ∧ (b + 2 - (a + ((t + 1 : Nat) : Int))).toNat < (b + 2 - (a + t)).toNat := by
      intro P Q H2 e hr hm h1 h2
      refine ⟨⟨t + 1, rfl, by omega, .inl (by omega), ?_, hm⟩, hms⟩
      rw [hstep, e, insR_at x P Q h1 h2]
      simpa using hr
    refine ⟨fun p H' => ∃ P Q : List Pt, S = P ++ Q ∧ p.1.1 = a + P.length ∧ RowAt H' (.slice (some Ad) n c) ty 4 (pts (A ++ P ++ x :: Q ++ (X.drop (t + 1) ++ B))) ∧ Mod (.slice (some Ad) n c) H H' ∧ (∀ y ∈ Q, ltc cf x y = true), fun p _ => (p.1.1).toNat, ⟨S, [], by simp, by simp [hSl], ?_, hmod1, by simp⟩, ?_⟩
    · rw [hdrop] at hrow1
      simpa using hrow1
    rintro ⟨⟨j, _⟩, _⟩ H2 ⟨P, Q, hPQ, hj, hrow2, hmod2, hQ⟩
    simp only at hj ⊢
    subst hj
    have hPQl : P.length + Q.length = t := by rw [← hSl, hPQ, List.length_append]
    refine ⟨H2, heap_refl _, br (fun q1 => ?_) fun q1 => ?_⟩
    · simp only [decide_eq_true_eq] at q1
      obtain ⟨P', y, rfl⟩ : ∃ P' y, P = P' ++ [y] := by
        cases List.eq_nil_or_concat P with
        | inl h => subst h; simp at q1
        | inr h => obtain ⟨A, z, h⟩ := h; exact ⟨A, z, by simpa using h⟩
      have hl2 : (P' ++ [y]).length = P'.length + 1 := by simp
      rw [hl2] at q1 hPQl ⊢
      have hw3 : IntKind.i64.wrap (a + ((P'.length + 1 : Nat) : Int) - 1) = a + P'.length := by rw [w64 (by omega)]; omega
      rw [hw3]
      have hk1 : (a + ((P'.length + 1 : Nat) : Int)).toNat = (A ++ P').length + 1 := by simp; omega
      have hk0 : (a + (P'.length : Int)).toNat = (A ++ P').length := by simp; omega
      rw [hk1, hk0]
      have hb0 : 0 ≤ a + (P'.length : Int) ∧ a + (P'.length : Int) < n := by omega
      have hb1 : 0 ≤ a + ((P'.length + 1 : Nat) : Int) ∧ a + ((P'.length + 1 : Nat) : Int) < n := by omega
      have hL : A ++ (P' ++ [y]) ++ x :: Q ++ (X.drop (t + 1) ++ B) = (A ++ P') ++ y :: x :: (Q ++ (X.drop (t + 1) ++ B)) := by simp
      rw [hL] at hrow2
      have hsl := row_slice hrow2
      obtain ⟨A1, e1, g1⟩ := pr_get hsl (i := (A ++ P').length + 1) (p := x) (by rw [List.getElem?_append_right (by omega)]; simp)
      obtain ⟨A0, e0, g0⟩ := pr_get hsl (i := (A ++ P').length) (p := y) (get_at rfl)
      cases e1; cases e0
      refine ⟨hb1, ptr rfl (ptr rfl ⟨_, _, _, _, g1, hb0, ptr rfl (ptr rfl ⟨_, _, _, _, g0, ?_⟩)⟩)⟩
      refine hc x y _ _ ⟨keep_same _ _ _, _, rfl, br (fun q2 => ?_) fun q2 => ?_⟩
      · have hlt : (A ++ P').length + 1 < n := by
          have := (row_len hrow2).1
          simp at this ⊢; omega
        obtain ⟨c1, m1, r1, d1⟩ := pr_put hrow2 (i := (A ++ P').length + 1) hlt y
        obtain ⟨c2, m2, r2, d2⟩ := pr_put r1 (i := (A ++ P').length) (by omega) x
        refine ⟨hb0, ptr rfl (ptr rfl ⟨_, _, _, _, g0, hb1, ptr rfl (ptr rfl ⟨_, _, _, _, g1, hb1, ptr rfl (ptr rfl ⟨_, _, m1, hb0, ptr rfl (ptr rfl ⟨_, _, m2, ?_⟩)⟩)⟩)⟩)⟩
        refine ⟨⟨P', y :: Q, by rw [hPQ]; simp, rfl, ?_, (hmod2.trans d1).trans d2, ?_⟩, by omega⟩
        · rw [set_two rfl] at r2
          simpa using r2
        · intro z hz
          rcases List.mem_cons.1 hz with rfl | hz
          · exact q2
          · exact hQ z hz
      · refine done (P' ++ [y]) Q H2 hPQ (by rw [hL]; exact hrow2) hmod2 ?_ hQ
        intro z hz
        rcases List.mem_append.1 hz with hz | hz
        · have h5 : ltc cf y z = false := by
            rw [hPQ] at hSs
            have := (List.pairwise_append.1 (List.pairwise_append.1 hSs).1).2.2 z hz y (by simp)
            exact this
          exact hs.ntrans _ _ _ q2 h5
        · simp at hz; subst hz; exact q2
    · simp only [decide_eq_false_iff_not] at q1
      have : P = [] := List.length_eq_zero_iff.1 (by omega)
      subst this
      exact done [] Q H2 hPQ hrow2 hmod2 (by simp) hQ
  · simp only [decide_eq_false_iff_not] at q
    have e1 : X.take t = X := List.take_of_length_le (by omega)
    have e2 : X.drop t = [] := List.drop_of_length_le (by omega)
    rw [e1, e2, List.append_nil] at hrow1
    exact h _ hrow1 hmod1
theorem split_at {α : Type} {X : List α} {k : Nat} (h : k < X.length) : ∃ x, X = X.take k ++ x :: X.drop (k + 1) ∧ (X.take k).length = k := by
  refine ⟨X[k], ?_, by rw [List.length_take]; omega⟩
  rw [← List.drop_eq_getElem_cons h, List.take_append_drop]
theorem s_swr {g : Nat} {Ad : Addr} {n c : Nat} {A U M V B : List Pt} {a b m : Int} (ha : (A.length : Int) = a) (hu : (U.length : Int) = m) (hv : (V.length : Int) = m) (hb : a + m + M.length = b)
    (hrow : RowAt H (.slice (some Ad) n c) ty 4 (pts (A ++ U ++ M ++ V ++ B))) (hn : n ≤ 1000000) (h : ∀ H', RowAt H' (.slice (some Ad) n c) ty 4 (pts (A ++ V ++ M ++ U ++ B)) → Mod (.slice (some Ad) n c) H H' → R (.returned (.tuple #[])) H') :
    Meets prog 85 [.slice (some Ad) n c, vi a, vi b, vi m, .func (.func g) #[] #[]] H R := by
  refine spec_of func85 (by kernel_rfl) (fun t h => by cases h) ?_ (vc_swr Ad n c g a b m R H) ?_
  · simp [argsR, SV.rep, SC.rep, one]
  unfold nf_swr
  simp only [true_and, delLs_nil, List.nil_append, List.append_nil]
  have hlen0 := (row_len hrow).1
  simp only [pts, List.length_map, List.length_append] at hlen0
  refine ⟨fun p H' => ∃ k : Nat, p.1.1 = k ∧ k ≤ U.length ∧ RowAt H' (.slice (some Ad) n c) ty 4 (pts (A ++ (V.take k ++ U.drop k) ++ M ++ (U.take k ++ V.drop k) ++ B)) ∧ Mod (.slice (some Ad) n c) H H', fun p _ => (m - p.1.1).toNat, ⟨0, rfl, by omega, by simpa using hrow, Mod.refl _ _⟩, ?_⟩
  rintro ⟨⟨i, _⟩, _⟩ H1 ⟨k, hi, hk, hrow1, hmod1⟩
  simp only at hi ⊢
  subst hi
  refine br (fun q => ?_) fun q => ?_
  · simp only [decide_eq_true_eq] at q
    obtain ⟨u, hU, hUl⟩ := split_at (X := U) (k := k) (by omega)
    obtain ⟨v, hV, hVl⟩ := split_at (X := V) (k := k) (by omega)
    have hUd : U.drop k = u :: U.drop (k + 1) := by
      conv => lhs; rw [hU]
      rw [List.drop_append_of_le_length (by omega), List.drop_of_length_le (by omega)]; rfl
    have hVd : V.drop k = v :: V.drop (k + 1) := by
      conv => lhs; rw [hV]
      rw [List.drop_append_of_le_length (by omega), List.drop_of_length_le (by omega)]; rfl
    have hUt : U.take (k + 1) = U.take k ++ [u] := by
      conv => lhs; rw [hU]
      rw [List.take_append, hUl, List.take_of_length_le (by omega)]; simp
    have hVt : V.take (k + 1) = V.take k ++ [v] := by
      conv => lhs; rw [hV]
      rw [List.take_append, hVl, List.take_of_length_le (by omega)]; simp
    have hL : A ++ (V.take k ++ U.drop k) ++ M ++ (U.take k ++ V.drop k) ++ B = (A ++ V.take k) ++ u :: ((U.drop (k + 1) ++ M ++ U.take k) ++ v :: (V.drop (k + 1) ++ B)) := by rw [hUd, hVd]; simp
    have hi1 : (A ++ V.take k).length = (a + k).toNat := by simp only [List.length_append, hVl]; omega
    have hj1 : (a + k).toNat + 1 + (U.drop (k + 1) ++ M ++ U.take k).length = (b + k).toNat := by
      simp only [List.length_append, hUl, List.length_drop]; omega
    rw [hL] at hrow1
    have hb1 : 0 ≤ a + (k : Int) ∧ a + (k : Int) < n := by omega
    have hb2 : 0 ≤ b + (k : Int) ∧ b + (k : Int) < n := by omega
    rw [w64 (k := b + (k : Int)) (by omega), w64 (k := a + (k : Int)) (by omega), w64 (k := (k : Int) + 1) (by omega)]
    have hsl := row_slice hrow1
    obtain ⟨A1, e1, g1⟩ := pr_get hsl (i := (a + k).toNat) (p := u) (get_at hi1)
    obtain ⟨A2, e2, g2⟩ := pr_get hsl (i := (b + k).toNat) (p := v) (by
      have := get_at (P := (A ++ V.take k) ++ u :: (U.drop (k + 1) ++ M ++ U.take k)) (Q := V.drop (k + 1) ++ B) (x := v) (k := (b + k).toNat) (by rw [List.length_append, List.length_cons, hi1]; omega)
      simpa using this)
    cases e1; cases e2
    obtain ⟨c1, m1, r1, d1⟩ := pr_put hrow1 (i := (a + k).toNat) (by omega) v
    obtain ⟨c2, m2, r2, d2⟩ := pr_put r1 (i := (b + k).toNat) (by omega) u
    refine ⟨hb2, ptr rfl (ptr rfl ⟨_, _, _, _, g2, hb1, ptr rfl (ptr rfl ⟨_, _, _, _, g1, hb1, ptr rfl (ptr rfl ⟨_, _, m1, hb2, ptr rfl (ptr rfl ⟨_, _, m2, ⟨k + 1, by omega, by omega, ?_, (hmod1.trans d1).trans d2⟩, by omega⟩)⟩)⟩)⟩)⟩
    rw [set_far hi1 hj1] at r2
    rw [hUt, hVt]
    simpa using r2
  · simp only [decide_eq_false_iff_not] at q
    have : k = U.length := by omega
    subst this
    have hl : U.length = V.length := by omega
    rw [List.drop_length, List.take_length, hl, List.take_length, List.drop_length, List.append_nil, List.append_nil] at hrow1
    exact h _ hrow1 hmod1
theorem s_rot {g : Nat} {Ad : Addr} {n c : Nat} {A X Y B : List Pt} {a m b : Int} (ha : (A.length : Int) = a) (hm : a + X.length = m) (hb : m + Y.length = b)
    (hrow : RowAt H (.slice (some Ad) n c) ty 4 (pts (A ++ X ++ Y ++ B))) (hx : 0 < X.length) (hy : 0 < Y.length) (hn : n ≤ 1000000) (h : ∀ H', RowAt H' (.slice (some Ad) n c) ty 4 (pts (A ++ Y ++ X ++ B)) → Mod (.slice (some Ad) n c) H H' → R (.returned (.tuple #[])) H') :
    Meets prog 79 [.slice (some Ad) n c, vi a, vi m, vi b, .func (.func g) #[] #[]] H R := by
  refine spec_of func79 (by kernel_rfl) (fun t h => by cases h) ?_ (vc_rot Ad n c g a m b R H) ?_
  · simp [argsR, SV.rep, SC.rep, one]
  unfold nf_rot
  simp only [true_and, delLs_nil, List.nil_append, List.append_nil]
  have hlen0 := (row_len hrow).1
  simp only [pts, List.length_map, List.length_append] at hlen0
  refine ⟨fun p H' => ∃ P X' Y' S : List Pt, p.1.1 = X'.length ∧ p.1.2.1 = Y'.length ∧ 0 < X'.length ∧ 0 < Y'.length ∧ a + P.length + X'.length = m ∧ m + Y'.length + S.length = b ∧ P ++ (Y' ++ X') ++ S = Y ++ X ∧
      RowAt H' (.slice (some Ad) n c) ty 4 (pts (A ++ P ++ X' ++ Y' ++ S ++ B)) ∧ Mod (.slice (some Ad) n c) H H', fun p _ => (p.1.1 + p.1.2.1).toNat, ⟨[], X, Y, [], ?_, ?_, hx, hy, by simp; omega, by simp; omega, by simp, by simpa using hrow, Mod.refl _ _⟩, ?_⟩
  · simp only; rw [w64 (by omega)]; omega
  · simp only; rw [w64 (by omega)]; omega
  rintro ⟨⟨i, j, _⟩, _⟩ H1 ⟨P, X', Y', S, hi, hj, hx', hy', h1, h2, h3, hrow1, hmod1⟩
  simp only at hi hj ⊢
  subst hi; subst hj
  rw [w64 (k := m - (X'.length : Int)) (by omega)]
  refine br (fun q => ?_) fun q => ?_
  · simp only [bne_iff_ne, ne_eq] at q
    refine br (fun q1 => ?_) fun q1 => ?_
    · simp only [decide_eq_true_eq] at q1
      have e : X' = X'.take Y'.length ++ X'.drop Y'.length := (List.take_append_drop _ _).symm
      have hl1 : (X'.take Y'.length).length = Y'.length := by rw [List.length_take]; omega
      have hl2 : (X'.drop Y'.length).length = X'.length - Y'.length := by simp
      refine s_swr (ty := ty) (A := A ++ P) (U := X'.take Y'.length) (M := X'.drop Y'.length) (V := Y') (B := S ++ B) (by simp; omega) (by omega) rfl (by omega) ?_ hn fun H2 hr hmd => ?_
      · rw [e] at hrow1; simpa using hrow1
      · refine ⟨rfl, ⟨P ++ Y', X'.drop Y'.length, X'.take Y'.length, S, ?_, by rw [hl1], by omega, by omega, by simp; omega, by omega, ?_, ?_, hmod1.trans hmd⟩, ?_⟩
        · rw [w64 (by omega)]; omega
        · rw [List.take_append_drop]; simpa using h3
        · simpa using hr
        · rw [w64 (by omega)]; omega
    · simp only [decide_eq_false_iff_not] at q1
      rw [w64 (k := m + (Y'.length : Int)) (by omega), w64 (k := m + (Y'.length : Int) - (X'.length : Int)) (by omega)]
      have e : Y' = Y'.take (Y'.length - X'.length) ++ Y'.drop (Y'.length - X'.length) := (List.take_append_drop _ _).symm
      have hl1 : (Y'.take (Y'.length - X'.length)).length = Y'.length - X'.length := by rw [List.length_take]; omega
      have hl2 : (Y'.drop (Y'.length - X'.length)).length = X'.length := by simp; omega
      refine s_swr (ty := ty) (A := A ++ P) (U := X') (M := Y'.take (Y'.length - X'.length)) (V := Y'.drop (Y'.length - X'.length)) (B := S ++ B) (by simp; omega) rfl (by omega) (by omega) ?_ hn fun H2 hr hmd => ?_
      · rw [e] at hrow1; simpa using hrow1
      · refine ⟨rfl, ⟨P, Y'.drop (Y'.length - X'.length), Y'.take (Y'.length - X'.length), X' ++ S, by rw [hl2], ?_, by omega, by omega, by omega, by simp; omega, ?_, ?_, hmod1.trans hmd⟩, ?_⟩
        · rw [w64 (by omega)]; omega
        · rw [List.take_append_drop]; simpa using h3
        · simpa using hr
        · rw [w64 (by omega)]; omega
  · have q : X'.length = Y'.length := by simp at q; omega
    refine s_swr (ty := ty) (A := A ++ P) (U := X') (M := []) (V := Y') (B := S ++ B) (by simp; omega) rfl (by omega) (by simp only [List.length_nil]; omega) (by simpa using hrow1) hn fun H2 hr hmd => ?_
    refine ⟨rfl, h _ ?_ (hmod1.trans hmd)⟩
    have : A ++ Y ++ X ++ B = A ++ P ++ Y' ++ [] ++ X' ++ (S ++ B) := by
      rw [List.append_assoc A Y X, ← h3]; simp
    rw [this]
    exact hr
end
end Cr

set_option linter.unusedVariables false
set_option linter.unusedSimpArgs false
namespace Cr
open Go Sx Stb
open Go.Sort (SWO)
open Go.Proofs.Try
set_option maxRecDepth 100000
def h_sym : Hints := { loops := [(3, ⟨[0, 1, 2, 3, 4], [.f 10 (.int .i64), .f 11 (.int .i64)], []⟩), (9, ⟨[0, 1, 2, 3, 4, 10], [.f 13 (.int .i64)], []⟩), (15, ⟨[0, 1, 2, 3, 4], [.f 14 (.int .i64), .f 15 (.int .i64)], []⟩), (21, ⟨[0, 1, 2, 3, 4, 14], [.f 17 (.int .i64)], []⟩), (33, ⟨[0, 1, 2, 3, 4, 18, 19, 22], [.f 20 (.int .i64), .f 21 (.int .i64)], []⟩)], cuts := [(32, ⟨[0, 1, 2, 3, 4, 18, 19], [.f 20 (.int .i64), .f 21 (.int .i64)], []⟩), (41, ⟨[0, 1, 3, 4, 18, 20, 24], [], []⟩), (43, ⟨[0, 3, 4, 18, 24], [], []⟩)] }
def h_stb : Hints := { loops := [(2, ⟨[0, 1, 2, 6], [.f 7 (.int .i64), .f 8 (.int .i64)], []⟩), (7, ⟨[0, 1, 2], [.f 6 (.int .i64)], []⟩), (9, ⟨[0, 1, 2, 6], [.f 7 (.int .i64), .f 8 (.int .i64)], []⟩)] }
def nf_sym (A : Addr) (n : Nat) (c : Nat) (g : Nat) (a : Int) (m : Int) (b : Int) (R : Ending → Heap → Prop) (H : Heap) : Prop := Br (IntKind.wrap IntKind.i64 (m - a) == (1 : Int)) (some A = some A ∧ n = n ∧ c = c ∧ a = a ∧ m = m ∧ b = b ∧ Value.func (Fn.func g) { toList := [] } { toList := [] } = Value.func (Fn.func g) { toList := [] } { toList := [] } ∧ LoopP (fun (K : (Int × Int × PUnit) × PUnit → (Nat → Option Obj) → Prop) (p : (Int × Int × PUnit) × PUnit) (H : Nat → Option Obj) ↦ Br (decide (p.fst.fst < p.fst.snd.fst)) ((0 : Int) ≤ (1 : Int) ∧ ∃ (G : Nat → Option Obj), G ≤ H ∧ ((0 : Int) ≤ IntKind.wrap IntKind.i64 (shrI IntKind.u64 (IntKind.wrap IntKind.u64 (IntKind.wrap IntKind.i64 (p.fst.fst + p.fst.snd.fst))) (1 : Int)) ∧ IntKind.wrap IntKind.i64 (shrI IntKind.u64 (IntKind.wrap IntKind.u64 (IntKind.wrap IntKind.i64 (p.fst.fst + p.fst.snd.fst))) (1 : Int)) < (↑n : Int)) ∧ PtrK (some A) fun (A_1 : Addr) ↦ PtrK (some (Addr.add A_1 (Int.toNat (IntKind.wrap IntKind.i64 (shrI IntKind.u64 (IntKind.wrap IntKind.u64 (IntKind.wrap IntKind.i64 (p.fst.fst + p.fst.snd.fst))) (1 : Int))) * (4 : Nat)))) fun (a_1 : Addr) ↦ ∃ (n_1 : Int), ∃ (n_2 : Int), ∃ (n_3 : Int), ∃ (s : ByteArray), Heap.has G a_1 [Value.int IntKind.i64 n_1, Value.int IntKind.u32 n_2, Value.int IntKind.u32 n_3, Value.string s] ∧ ((0 : Int) ≤ a ∧ a < (↑n : Int)) ∧ PtrK (some A) fun (A_2 : Addr) ↦ PtrK (some (Addr.add A_2 (Int.toNat a * (4 : Nat)))) fun (a_2 : Addr) ↦ ∃ (n_4 : Int), ∃ (n_5 : Int), ∃ (n_6 : Int), ∃ (s_1 : ByteArray), Heap.has G a_2 [Value.int IntKind.i64 n_4, Value.int IntKind.u32 n_5, Value.int IntKind.u32 n_6, Value.string s_1] ∧ Meets prog g [Value.agg { toList := [Value.int IntKind.i64 n_1, Value.int IntKind.u32 n_2, Value.int IntKind.u32 n_3, Value.string s] }, Value.agg { toList := [Value.int IntKind.i64 n_4, Value.int IntKind.u32 n_5, Value.int IntKind.u32 n_6, Value.string s_1] }] H fun (e : Ending) (H' : Nat → Option Obj) ↦ Keep G H H H' ∧ ∃ (n_7 : Int), e = Ending.returned (Value.int IntKind.i64 n_7) ∧ Br (decide (n_7 < (0 : Int))) (some A = some A ∧ n = n ∧ c = c ∧ a = a ∧ m = m ∧ b = b ∧ Value.func (Fn.func g) { toList := [] } { toList := [] } = Value.func (Fn.func g) { toList := [] } { toList := [] } ∧ K ((IntKind.wrap IntKind.i64 (IntKind.wrap IntKind.i64 (shrI IntKind.u64 (IntKind.wrap IntKind.u64 (IntKind.wrap IntKind.i64 (p.fst.fst + p.fst.snd.fst))) (1 : Int)) + (1 : Int)), p.fst.snd.fst, PUnit.unit), PUnit.unit) (delLs H' [])) (some A = some A ∧ n = n ∧ c = c ∧ a = a ∧ m = m ∧ b = b ∧ Value.func (Fn.func g) { toList := [] } { toList := [] } = Value.func (Fn.func g) { toList := [] } { toList := [] } ∧ K ((p.fst.fst, IntKind.wrap IntKind.i64 (shrI IntKind.u64 (IntKind.wrap IntKind.u64 (IntKind.wrap IntKind.i64 (p.fst.fst + p.fst.snd.fst))) (1 : Int)), PUnit.unit), PUnit.unit) (delLs H' []))) (some A = some A ∧ n = n ∧ c = c ∧ a = a ∧ m = m ∧ b = b ∧ Value.func (Fn.func g) { toList := [] } { toList := [] } = Value.func (Fn.func g) { toList := [] } { toList := [] } ∧ p.fst.fst = p.fst.fst ∧ LoopP (fun (K : (Int × PUnit) × PUnit → (Nat → Option Obj) → Prop) (p_1 : (Int × PUnit) × PUnit) (H : Nat → Option Obj) ↦ Br (decide (p_1.fst.fst < IntKind.wrap IntKind.i64 (p.fst.fst - (1 : Int)))) (((0 : Int) ≤ IntKind.wrap IntKind.i64 (p_1.fst.fst + (1 : Int)) ∧ IntKind.wrap IntKind.i64 (p_1.fst.fst + (1 : Int)) < (↑n : Int)) ∧ PtrK (some A) fun (A_1 : Addr) ↦ PtrK (some (Addr.add A_1 (Int.toNat (IntKind.wrap IntKind.i64 (p_1.fst.fst + (1 : Int))) * (4 : Nat)))) fun (a_1 : Addr) ↦ ∃ (n_1 : Int), ∃ (n_2 : Int), ∃ (n_3 : Int), ∃ (s : ByteArray), Heap.has H a_1 [Value.int IntKind.i64 n_1, Value.int IntKind.u32 n_2, Value.int IntKind.u32 n_3, Value.string s] ∧ ((0 : Int) ≤ p_1.fst.fst ∧ p_1.fst.fst < (↑n : Int)) ∧ PtrK (some A) fun (A_2 : Addr) ↦ PtrK (some (Addr.add A_2 (Int.toNat p_1.fst.fst * (4 : Nat)))) fun (a_2 : Addr) ↦ ∃ (n_4 : Int), ∃ (n_5 : Int), ∃ (n_6 : Int), ∃ (s_1 : ByteArray), Heap.has H a_2 [Value.int IntKind.i64 n_4, Value.int IntKind.u32 n_5, Value.int IntKind.u32 n_6, Value.string s_1] ∧ ((0 : Int) ≤ p_1.fst.fst ∧ p_1.fst.fst < (↑n : Int)) ∧ PtrK (some A) fun (A_3 : Addr) ↦ PtrK (some (Addr.add A_3 (Int.toNat p_1.fst.fst * (4 : Nat)))) fun (A_4 : Addr) ↦ ∃ (c_1 : Array Value), ∃ (ty : Nat), (H A_4.block = some (Obj.cells c_1 ty) ∧ A_4.spot = none ∧ A_4.off + (4 : Nat) ≤ Array.size c_1) ∧ ((0 : Int) ≤ IntKind.wrap IntKind.i64 (p_1.fst.fst + (1 : Int)) ∧ IntKind.wrap IntKind.i64 (p_1.fst.fst + (1 : Int)) < (↑n : Int)) ∧ PtrK (some A) fun (A_5 : Addr) ↦ PtrK (some (Addr.add A_5 (Int.toNat (IntKind.wrap IntKind.i64 (p_1.fst.fst + (1 : Int))) * (4 : Nat)))) fun (A_6 : Addr) ↦ ∃ (c_2 : Array Value), ∃ (ty_1 : Nat), (Heap.upd H A_4.block (Obj.cells (writeCells c_1 A_4.off [Value.int IntKind.i64 n_1, Value.int IntKind.u32 n_2, Value.int IntKind.u32 n_3, Value.string s]) ty) A_6.block = some (Obj.cells c_2 ty_1) ∧ A_6.spot = none ∧ A_6.off + (4 : Nat) ≤ Array.size c_2) ∧ some A = some A ∧ n = n ∧ c = c ∧ a = a ∧ m = m ∧ b = b ∧ Value.func (Fn.func g) { toList := [] } { toList := [] } = Value.func (Fn.func g) { toList := [] } { toList := [] } ∧ p.fst.fst = p.fst.fst ∧ K ((IntKind.wrap IntKind.i64 (p_1.fst.fst + (1 : Int)), PUnit.unit), PUnit.unit) (Heap.upd (Heap.upd H A_4.block (Obj.cells (writeCells c_1 A_4.off [Value.int IntKind.i64 n_1, Value.int IntKind.u32 n_2, Value.int IntKind.u32 n_3, Value.string s]) ty)) A_6.block (Obj.cells (writeCells c_2 A_6.off [Value.int IntKind.i64 n_4, Value.int IntKind.u32 n_5, Value.int IntKind.u32 n_6, Value.string s_1]) ty_1))) (R (Ending.returned (Value.tuple { toList := [] })) H)) ((a, PUnit.unit), PUnit.unit) H)) ((m, b, PUnit.unit), PUnit.unit) H) (Br (IntKind.wrap IntKind.i64 (b - m) == (1 : Int)) (some A = some A ∧ n = n ∧ c = c ∧ a = a ∧ m = m ∧ b = b ∧ Value.func (Fn.func g) { toList := [] } { toList := [] } = Value.func (Fn.func g) { toList := [] } { toList := [] } ∧ LoopP (fun (K : (Int × Int × PUnit) × PUnit → (Nat → Option Obj) → Prop) (p : (Int × Int × PUnit) × PUnit) (H : Nat → Option Obj) ↦ Br (decide (p.fst.fst < p.fst.snd.fst)) ((0 : Int) ≤ (1 : Int) ∧ ∃ (G : Nat → Option Obj), G ≤ H ∧ ((0 : Int) ≤ m ∧ m < (↑n : Int)) ∧ PtrK (some A) fun (A_1 : Addr) ↦ PtrK (some (Addr.add A_1 (Int.toNat m * (4 : Nat)))) fun (a_1 : Addr) ↦ ∃ (n_1 : Int), ∃ (n_2 : Int), ∃ (n_3 : Int), ∃ (s : ByteArray), Heap.has G a_1 [Value.int IntKind.i64 n_1, Value.int IntKind.u32 n_2, Value.int IntKind.u32 n_3, Value.string s] ∧ ((0 : Int) ≤ IntKind.wrap IntKind.i64 (shrI IntKind.u64 (IntKind.wrap IntKind.u64 (IntKind.wrap IntKind.i64 (p.fst.fst + p.fst.snd.fst))) (1 : Int)) ∧ IntKind.wrap IntKind.i64 (shrI IntKind.u64 (IntKind.wrap IntKind.u64 (IntKind.wrap IntKind.i64 (p.fst.fst + p.fst.snd.fst))) (1 : Int)) < (↑n : Int)) ∧ PtrK (some A) fun (A_2 : Addr) ↦ PtrK (some (Addr.add A_2 (Int.toNat (IntKind.wrap IntKind.i64 (shrI IntKind.u64 (IntKind.wrap IntKind.u64 (IntKind.wrap IntKind.i64 (p.fst.fst + p.fst.snd.fst))) (1 : Int))) * (4 : Nat)))) fun (a_2 : Addr) ↦ ∃ (n_4 : Int), ∃ (n_5 : Int), ∃ (n_6 : Int), ∃ (s_1 : ByteArray), Heap.has G a_2 [Value.int IntKind.i64 n_4, Value.int IntKind.u32 n_5, Value.int IntKind.u32 n_6, Value.string s_1] ∧ Meets prog g [Value.agg { toList := [Value.int IntKind.i64 n_1, Value.int IntKind.u32 n_2, Value.int IntKind.u32 n_3, Value.string s] }, Value.agg { toList := [Value.int IntKind.i64 n_4, Value.int IntKind.u32 n_5, Value.int IntKind.u32 n_6, Value.string s_1] }] H fun (e : Ending) (H' : Nat → Option Obj) ↦ Keep G H H H' ∧ ∃ (n_7 : Int), e = Ending.returned (Value.int IntKind.i64 n_7) ∧ Br (!decide (n_7 < (0 : Int))) (some A = some A ∧ n = n ∧ c = c ∧ a = a ∧ m = m ∧ b = b ∧ Value.func (Fn.func g) { toList := [] } { toList := [] } = Value.func (Fn.func g) { toList := [] } { toList := [] } ∧ K ((IntKind.wrap IntKind.i64 (IntKind.wrap IntKind.i64 (shrI IntKind.u64 (IntKind.wrap IntKind.u64 (IntKind.wrap IntKind.i64 (p.fst.fst + p.fst.snd.fst))) (1 : Int)) + (1 : Int)), p.fst.snd.fst, PUnit.unit), PUnit.unit) (delLs H' [])) (some A = some A ∧ n = n ∧ c = c ∧ a = a ∧ m = m ∧ b = b ∧ Value.func (Fn.func g) { toList := [] } { toList := [] } = Value.func (Fn.func g) { toList := [] } { toList := [] } ∧ K ((p.fst.fst, IntKind.wrap IntKind.i64 (shrI IntKind.u64 (IntKind.wrap IntKind.u64 (IntKind.wrap IntKind.i64 (p.fst.fst + p.fst.snd.fst))) (1 : Int)), PUnit.unit), PUnit.unit) (delLs H' []))) (some A = some A ∧ n = n ∧ c = c ∧ a = a ∧ m = m ∧ b = b ∧ Value.func (Fn.func g) { toList := [] } { toList := [] } = Value.func (Fn.func g) { toList := [] } { toList := [] } ∧ p.fst.fst = p.fst.fst ∧ LoopP (fun (K : (Int × PUnit) × PUnit → (Nat → Option Obj) → Prop) (p_1 : (Int × PUnit) × PUnit) (H : Nat → Option Obj) ↦ Br (decide (p_1.fst.fst > p.fst.fst)) (((0 : Int) ≤ IntKind.wrap IntKind.i64 (p_1.fst.fst - (1 : Int)) ∧ IntKind.wrap IntKind.i64 (p_1.fst.fst - (1 : Int)) < (↑n : Int)) ∧ PtrK (some A) fun (A_1 : Addr) ↦ PtrK (some (Addr.add A_1 (Int.toNat (IntKind.wrap IntKind.i64 (p_1.fst.fst - (1 : Int))) * (4 : Nat)))) fun (a_1 : Addr) ↦ ∃ (n_1 : Int), ∃ (n_2 : Int), ∃ (n_3 : Int), ∃ (s : ByteArray), Heap.has H a_1 [Value.int IntKind.i64 n_1, Value.int IntKind.u32 n_2, Value.int IntKind.u32 n_3, Value.string s] ∧ ((0 : Int) ≤ p_1.fst.fst ∧ p_1.fst.fst < (↑n : Int)) ∧ PtrK (some A) fun (A_2 : Addr) ↦ PtrK (some (Addr.add A_2 (Int.toNat p_1.fst.fst * (4 : Nat)))) fun (a_2 : Addr) ↦ ∃ (n_4 : Int), ∃ (n_5 : Int), ∃ (n_6 : Int), ∃ (s_1 : ByteArray), Heap.has H a_2 [Value.int IntKind.i64 n_4, Value.int IntKind.u32 n_5, Value.int IntKind.u32 n_6, Value.string s_1] ∧ ((0 : Int) ≤ p_1.fst.fst ∧ p_1.fst.fst < (↑n : Int)) ∧ PtrK (some A) fun (A_3 : Addr) ↦ PtrK (some (Addr.add A_3 (Int.toNat p_1.fst.fst * (4 : Nat)))) fun (A_4 : Addr) ↦ ∃ (c_1 : Array Value), ∃ (ty : Nat), (H A_4.block = some (Obj.cells c_1 ty) ∧ A_4.spot = none ∧ A_4.off + (4 : Nat) ≤ Array.size c_1) ∧ ((0 : Int) ≤ IntKind.wrap IntKind.i64 (p_1.fst.fst - (1 : Int)) ∧ IntKind.wrap IntKind.i64 (p_1.fst.fst - (1 : Int)) < (↑n : Int)) ∧ PtrK (some A) fun (A_5 : Addr) ↦ PtrK (some (Addr.add A_5 (Int.toNat (IntKind.wrap IntKind.i64 (p_1.fst.fst - (1 : Int))) * (4 : Nat)))) fun (A_6 : Addr) ↦ ∃ (c_2 : Array Value), ∃ (ty_1 : Nat), (Heap.upd H A_4.block (Obj.cells (writeCells c_1 A_4.off [Value.int IntKind.i64 n_1, Value.int IntKind.u32 n_2, Value.int IntKind.u32 n_3, Value.string s]) ty) A_6.block = some (Obj.cells c_2 ty_1) ∧ A_6.spot = none ∧ A_6.off + (4 : Nat) ≤ Array.size c_2) ∧ some A = some A ∧ n = n ∧ c = c ∧ a = a ∧ m = m ∧ b = b ∧ Value.func (Fn.func g) { toList := [] } { toList := [] } = Value.func (Fn.func g) { toList := [] } { toList := [] } ∧ p.fst.fst = p.fst.fst ∧ K ((IntKind.wrap IntKind.i64 (p_1.fst.fst - (1 : Int)), PUnit.unit), PUnit.unit) (Heap.upd (Heap.upd H A_4.block (Obj.cells (writeCells c_1 A_4.off [Value.int IntKind.i64 n_1, Value.int IntKind.u32 n_2, Value.int IntKind.u32 n_3, Value.string s]) ty)) A_6.block (Obj.cells (writeCells c_2 A_6.off [Value.int IntKind.i64 n_4, Value.int IntKind.u32 n_5, Value.int IntKind.u32 n_6, Value.string s_1]) ty_1))) (R (Ending.returned (Value.tuple { toList := [] })) H)) ((m, PUnit.unit), PUnit.unit) H)) ((a, m, PUnit.unit), PUnit.unit) H) ((0 : Int) ≤ (1 : Int) ∧ CutP (fun (I : (Int × Int × PUnit) × PUnit → (Nat → Option Obj) → Prop) ↦ Br (decide (m > IntKind.wrap IntKind.i64 (shrI IntKind.u64 (IntKind.wrap IntKind.u64 (IntKind.wrap IntKind.i64 (a + b))) (1 : Int)))) (some A = some A ∧ n = n ∧ c = c ∧ a = a ∧ m = m ∧ b = b ∧ Value.func (Fn.func g) { toList := [] } { toList := [] } = Value.func (Fn.func g) { toList := [] } { toList := [] } ∧ IntKind.wrap IntKind.i64 (shrI IntKind.u64 (IntKind.wrap IntKind.u64 (IntKind.wrap IntKind.i64 (a + b))) (1 : Int)) = IntKind.wrap IntKind.i64 (shrI IntKind.u64 (IntKind.wrap IntKind.u64 (IntKind.wrap IntKind.i64 (a + b))) (1 : Int)) ∧ IntKind.wrap IntKind.i64 (IntKind.wrap IntKind.i64 (shrI IntKind.u64 (IntKind.wrap IntKind.u64 (IntKind.wrap IntKind.i64 (a + b))) (1 : Int)) + m) = IntKind.wrap IntKind.i64 (IntKind.wrap IntKind.i64 (shrI IntKind.u64 (IntKind.wrap IntKind.u64 (IntKind.wrap IntKind.i64 (a + b))) (1 : Int)) + m) ∧ I ((IntKind.wrap IntKind.i64 (IntKind.wrap IntKind.i64 (IntKind.wrap IntKind.i64 (shrI IntKind.u64 (IntKind.wrap IntKind.u64 (IntKind.wrap IntKind.i64 (a + b))) (1 : Int)) + m) - b), IntKind.wrap IntKind.i64 (shrI IntKind.u64 (IntKind.wrap IntKind.u64 (IntKind.wrap IntKind.i64 (a + b))) (1 : Int)), PUnit.unit), PUnit.unit) H) (some A = some A ∧ n = n ∧ c = c ∧ a = a ∧ m = m ∧ b = b ∧ Value.func (Fn.func g) { toList := [] } { toList := [] } = Value.func (Fn.func g) { toList := [] } { toList := [] } ∧ IntKind.wrap IntKind.i64 (shrI IntKind.u64 (IntKind.wrap IntKind.u64 (IntKind.wrap IntKind.i64 (a + b))) (1 : Int)) = IntKind.wrap IntKind.i64 (shrI IntKind.u64 (IntKind.wrap IntKind.u64 (IntKind.wrap IntKind.i64 (a + b))) (1 : Int)) ∧ IntKind.wrap IntKind.i64 (IntKind.wrap IntKind.i64 (shrI IntKind.u64 (IntKind.wrap IntKind.u64 (IntKind.wrap IntKind.i64 (a + b))) (1 : Int)) + m) = IntKind.wrap IntKind.i64 (IntKind.wrap IntKind.i64 (shrI IntKind.u64 (IntKind.wrap IntKind.u64 (IntKind.wrap IntKind.i64 (a + b))) (1 : Int)) + m) ∧ I ((a, m, PUnit.unit), PUnit.unit) H)) fun (p : (Int × Int × PUnit) × PUnit) (H : Nat → Option Obj) ↦ some A = some A ∧ n = n ∧ c = c ∧ a = a ∧ m = m ∧ b = b ∧ Value.func (Fn.func g) { toList := [] } { toList := [] } = Value.func (Fn.func g) { toList := [] } { toList := [] } ∧ IntKind.wrap IntKind.i64 (shrI IntKind.u64 (IntKind.wrap IntKind.u64 (IntKind.wrap IntKind.i64 (a + b))) (1 : Int)) = IntKind.wrap IntKind.i64 (shrI IntKind.u64 (IntKind.wrap IntKind.u64 (IntKind.wrap IntKind.i64 (a + b))) (1 : Int)) ∧ IntKind.wrap IntKind.i64 (IntKind.wrap IntKind.i64 (shrI IntKind.u64 (IntKind.wrap IntKind.u64 (IntKind.wrap IntKind.i64 (a + b))) (1 : Int)) + m) = IntKind.wrap IntKind.i64 (IntKind.wrap IntKind.i64 (shrI IntKind.u64 (IntKind.wrap IntKind.u64 (IntKind.wrap IntKind.i64 (a + b))) (1 : Int)) + m) ∧ IntKind.wrap IntKind.i64 (IntKind.wrap IntKind.i64 (IntKind.wrap IntKind.i64 (shrI IntKind.u64 (IntKind.wrap IntKind.u64 (IntKind.wrap IntKind.i64 (a + b))) (1 : Int)) + m) - (1 : Int)) = IntKind.wrap IntKind.i64 (IntKind.wrap IntKind.i64 (IntKind.wrap IntKind.i64 (shrI IntKind.u64 (IntKind.wrap IntKind.u64 (IntKind.wrap IntKind.i64 (a + b))) (1 : Int)) + m) - (1 : Int)) ∧ LoopP (fun (K : (Int × Int × PUnit) × PUnit → (Nat → Option Obj) → Prop) (p : (Int × Int × PUnit) × PUnit) (H : Nat → Option Obj) ↦ Br (decide (p.fst.fst < p.fst.snd.fst)) ((0 : Int) ≤ (1 : Int) ∧ ∃ (G : Nat → Option Obj), G ≤ H ∧ ((0 : Int) ≤ IntKind.wrap IntKind.i64 (IntKind.wrap IntKind.i64 (IntKind.wrap IntKind.i64 (IntKind.wrap IntKind.i64 (shrI IntKind.u64 (IntKind.wrap IntKind.u64 (IntKind.wrap IntKind.i64 (a + b))) (1 : Int)) + m) - (1 : Int)) - IntKind.wrap IntKind.i64 (shrI IntKind.u64 (IntKind.wrap IntKind.u64 (IntKind.wrap IntKind.i64 (p.fst.fst + p.fst.snd.fst))) (1 : Int))) ∧ IntKind.wrap IntKind.i64 (IntKind.wrap IntKind.i64 (IntKind.wrap IntKind.i64 (IntKind.wrap IntKind.i64 (shrI IntKind.u64 (IntKind.wrap IntKind.u64 (IntKind.wrap IntKind.i64 (a + b))) (1 : Int)) + m) - (1 : Int)) - IntKind.wrap IntKind.i64 (shrI IntKind.u64 (IntKind.wrap IntKind.u64 (IntKind.wrap IntKind.i64 (p.fst.fst + p.fst.snd.fst))) (1 : Int))) < (↑n : Int)) ∧ PtrK (some A) fun (A_1 : Addr) ↦ PtrK (some (Addr.add A_1 (Int.toNat (IntKind.wrap IntKind.i64 (IntKind.wrap IntKind.i64 (IntKind.wrap IntKind.i64 (IntKind.wrap IntKind.i64 (shrI IntKind.u64 (IntKind.wrap IntKind.u64 (IntKind.wrap IntKind.i64 (a + b))) (1 : Int)) + m) - (1 : Int)) - IntKind.wrap IntKind.i64 (shrI IntKind.u64 (IntKind.wrap IntKind.u64 (IntKind.wrap IntKind.i64 (p.fst.fst + p.fst.snd.fst))) (1 : Int)))) * (4 : Nat)))) fun (a_1 : Addr) ↦ ∃ (n_1 : Int), ∃ (n_2 : Int), ∃ (n_3 : Int), ∃ (s : ByteArray), Heap.has G a_1 [Value.int IntKind.i64 n_1, Value.int IntKind.u32 n_2, Value.int IntKind.u32 n_3, Value.string s] ∧ ((0 : Int) ≤ IntKind.wrap IntKind.i64 (shrI IntKind.u64 (IntKind.wrap IntKind.u64 (IntKind.wrap IntKind.i64 (p.fst.fst + p.fst.snd.fst))) (1 : Int)) ∧ IntKind.wrap IntKind.i64 (shrI IntKind.u64 (IntKind.wrap IntKind.u64 (IntKind.wrap IntKind.i64 (p.fst.fst + p.fst.snd.fst))) (1 : Int)) < (↑n : Int)) ∧ PtrK (some A) fun (A_2 : Addr) ↦ PtrK (some (Addr.add A_2 (Int.toNat (IntKind.wrap IntKind.i64 (shrI IntKind.u64 (IntKind.wrap IntKind.u64 (IntKind.wrap IntKind.i64 (p.fst.fst + p.fst.snd.fst))) (1 : Int))) * (4 : Nat)))) fun (a_2 : Addr) ↦ ∃ (n_4 : Int), ∃ (n_5 : Int), ∃ (n_6 : Int), ∃ (s_1 : ByteArray), Heap.has G a_2 [Value.int IntKind.i64 n_4, Value.int IntKind.u32 n_5, Value.int IntKind.u32 n_6, Value.string s_1] ∧ Meets prog g [Value.agg { toList := [Value.int IntKind.i64 n_1, Value.int IntKind.u32 n_2, Value.int IntKind.u32 n_3, Value.string s] }, Value.agg { toList := [Value.int IntKind.i64 n_4, Value.int IntKind.u32 n_5, Value.int IntKind.u32 n_6, Value.string s_1] }] H fun (e : Ending) (H' : Nat → Option Obj) ↦ Keep G H H H' ∧ ∃ (n_7 : Int), e = Ending.returned (Value.int IntKind.i64 n_7) ∧ Br (!decide (n_7 < (0 : Int))) (some A = some A ∧ n = n ∧ c = c ∧ a = a ∧ m = m ∧ b = b ∧ Value.func (Fn.func g) { toList := [] } { toList := [] } = Value.func (Fn.func g) { toList := [] } { toList := [] } ∧ IntKind.wrap IntKind.i64 (shrI IntKind.u64 (IntKind.wrap IntKind.u64 (IntKind.wrap IntKind.i64 (a + b))) (1 : Int)) = IntKind.wrap IntKind.i64 (shrI IntKind.u64 (IntKind.wrap IntKind.u64 (IntKind.wrap IntKind.i64 (a + b))) (1 : Int)) ∧ IntKind.wrap IntKind.i64 (IntKind.wrap IntKind.i64 (shrI IntKind.u64 (IntKind.wrap IntKind.u64 (IntKind.wrap IntKind.i64 (a + b))) (1 : Int)) + m) = IntKind.wrap IntKind.i64 (IntKind.wrap IntKind.i64 (shrI IntKind.u64 (IntKind.wrap IntKind.u64 (IntKind.wrap IntKind.i64 (a + b))) (1 : Int)) + m) ∧ IntKind.wrap IntKind.i64 (IntKind.wrap IntKind.i64 (IntKind.wrap IntKind.i64 (shrI IntKind.u64 (IntKind.wrap IntKind.u64 (IntKind.wrap IntKind.i64 (a + b))) (1 : Int)) + m) - (1 : Int)) = IntKind.wrap IntKind.i64 (IntKind.wrap IntKind.i64 (IntKind.wrap IntKind.i64 (shrI IntKind.u64 (IntKind.wrap IntKind.u64 (IntKind.wrap IntKind.i64 (a + b))) (1 : Int)) + m) - (1 : Int)) ∧ K ((IntKind.wrap IntKind.i64 (IntKind.wrap IntKind.i64 (shrI IntKind.u64 (IntKind.wrap IntKind.u64 (IntKind.wrap IntKind.i64 (p.fst.fst + p.fst.snd.fst))) (1 : Int)) + (1 : Int)), p.fst.snd.fst, PUnit.unit), PUnit.unit) (delLs H' [])) (some A = some A ∧ n = n ∧ c = c ∧ a = a ∧ m = m ∧ b = b ∧ Value.func (Fn.func g) { toList := [] } { toList := [] } = Value.func (Fn.func g) { toList := [] } { toList := [] } ∧ IntKind.wrap IntKind.i64 (shrI IntKind.u64 (IntKind.wrap IntKind.u64 (IntKind.wrap IntKind.i64 (a + b))) (1 : Int)) = IntKind.wrap IntKind.i64 (shrI IntKind.u64 (IntKind.wrap IntKind.u64 (IntKind.wrap IntKind.i64 (a + b))) (1 : Int)) ∧ IntKind.wrap IntKind.i64 (IntKind.wrap IntKind.i64 (shrI IntKind.u64 (IntKind.wrap IntKind.u64 (IntKind.wrap IntKind.i64 (a + b))) (1 : Int)) + m) = IntKind.wrap IntKind.i64 (IntKind.wrap IntKind.i64 (shrI IntKind.u64 (IntKind.wrap IntKind.u64 (IntKind.wrap IntKind.i64 (a + b))) (1 : Int)) + m) ∧ IntKind.wrap IntKind.i64 (IntKind.wrap IntKind.i64 (IntKind.wrap IntKind.i64 (shrI IntKind.u64 (IntKind.wrap IntKind.u64 (IntKind.wrap IntKind.i64 (a + b))) (1 : Int)) + m) - (1 : Int)) = IntKind.wrap IntKind.i64 (IntKind.wrap IntKind.i64 (IntKind.wrap IntKind.i64 (shrI IntKind.u64 (IntKind.wrap IntKind.u64 (IntKind.wrap IntKind.i64 (a + b))) (1 : Int)) + m) - (1 : Int)) ∧ K ((p.fst.fst, IntKind.wrap IntKind.i64 (shrI IntKind.u64 (IntKind.wrap IntKind.u64 (IntKind.wrap IntKind.i64 (p.fst.fst + p.fst.snd.fst))) (1 : Int)), PUnit.unit), PUnit.unit) (delLs H' []))) (CutP (fun (I : PUnit × PUnit → (Nat → Option Obj) → Prop) ↦ Br (decide (p.fst.fst < m)) (Br (decide (m < IntKind.wrap IntKind.i64 (IntKind.wrap IntKind.i64 (IntKind.wrap IntKind.i64 (shrI IntKind.u64 (IntKind.wrap IntKind.u64 (IntKind.wrap IntKind.i64 (a + b))) (1 : Int)) + m) - p.fst.fst))) (Meets prog (79 : Nat) [Value.slice (some A) n c, Value.int IntKind.i64 p.fst.fst, Value.int IntKind.i64 m, Value.int IntKind.i64 (IntKind.wrap IntKind.i64 (IntKind.wrap IntKind.i64 (IntKind.wrap IntKind.i64 (shrI IntKind.u64 (IntKind.wrap IntKind.u64 (IntKind.wrap IntKind.i64 (a + b))) (1 : Int)) + m) - p.fst.fst)), Value.func (Fn.func g) { toList := [] } { toList := [] }] H fun (e : Ending) (H' : Nat → Option Obj) ↦ e = Ending.returned (Value.tuple { toList := [] }) ∧ some A = some A ∧ n = n ∧ c = c ∧ a = a ∧ b = b ∧ Value.func (Fn.func g) { toList := [] } { toList := [] } = Value.func (Fn.func g) { toList := [] } { toList := [] } ∧ IntKind.wrap IntKind.i64 (shrI IntKind.u64 (IntKind.wrap IntKind.u64 (IntKind.wrap IntKind.i64 (a + b))) (1 : Int)) = IntKind.wrap IntKind.i64 (shrI IntKind.u64 (IntKind.wrap IntKind.u64 (IntKind.wrap IntKind.i64 (a + b))) (1 : Int)) ∧ p.fst.fst = p.fst.fst ∧ IntKind.wrap IntKind.i64 (IntKind.wrap IntKind.i64 (IntKind.wrap IntKind.i64 (shrI IntKind.u64 (IntKind.wrap IntKind.u64 (IntKind.wrap IntKind.i64 (a + b))) (1 : Int)) + m) - p.fst.fst) = IntKind.wrap IntKind.i64 (IntKind.wrap IntKind.i64 (IntKind.wrap IntKind.i64 (shrI IntKind.u64 (IntKind.wrap IntKind.u64 (IntKind.wrap IntKind.i64 (a + b))) (1 : Int)) + m) - p.fst.fst) ∧ I (PUnit.unit, PUnit.unit) H') (some A = some A ∧ n = n ∧ c = c ∧ a = a ∧ b = b ∧ Value.func (Fn.func g) { toList := [] } { toList := [] } = Value.func (Fn.func g) { toList := [] } { toList := [] } ∧ IntKind.wrap IntKind.i64 (shrI IntKind.u64 (IntKind.wrap IntKind.u64 (IntKind.wrap IntKind.i64 (a + b))) (1 : Int)) = IntKind.wrap IntKind.i64 (shrI IntKind.u64 (IntKind.wrap IntKind.u64 (IntKind.wrap IntKind.i64 (a + b))) (1 : Int)) ∧ p.fst.fst = p.fst.fst ∧ IntKind.wrap IntKind.i64 (IntKind.wrap IntKind.i64 (IntKind.wrap IntKind.i64 (shrI IntKind.u64 (IntKind.wrap IntKind.u64 (IntKind.wrap IntKind.i64 (a + b))) (1 : Int)) + m) - p.fst.fst) = IntKind.wrap IntKind.i64 (IntKind.wrap IntKind.i64 (IntKind.wrap IntKind.i64 (shrI IntKind.u64 (IntKind.wrap IntKind.u64 (IntKind.wrap IntKind.i64 (a + b))) (1 : Int)) + m) - p.fst.fst) ∧ I (PUnit.unit, PUnit.unit) H)) (some A = some A ∧ n = n ∧ c = c ∧ a = a ∧ b = b ∧ Value.func (Fn.func g) { toList := [] } { toList := [] } = Value.func (Fn.func g) { toList := [] } { toList := [] } ∧ IntKind.wrap IntKind.i64 (shrI IntKind.u64 (IntKind.wrap IntKind.u64 (IntKind.wrap IntKind.i64 (a + b))) (1 : Int)) = IntKind.wrap IntKind.i64 (shrI IntKind.u64 (IntKind.wrap IntKind.u64 (IntKind.wrap IntKind.i64 (a + b))) (1 : Int)) ∧ p.fst.fst = p.fst.fst ∧ IntKind.wrap IntKind.i64 (IntKind.wrap IntKind.i64 (IntKind.wrap IntKind.i64 (shrI IntKind.u64 (IntKind.wrap IntKind.u64 (IntKind.wrap IntKind.i64 (a + b))) (1 : Int)) + m) - p.fst.fst) = IntKind.wrap IntKind.i64 (IntKind.wrap IntKind.i64 (IntKind.wrap IntKind.i64 (shrI IntKind.u64 (IntKind.wrap IntKind.u64 (IntKind.wrap IntKind.i64 (a + b))) (1 : Int)) + m) - p.fst.fst) ∧ I (PUnit.unit, PUnit.unit) H)) fun (p_1 : PUnit × PUnit) (H : Nat → Option Obj) ↦ CutP (fun (I : PUnit × PUnit → (Nat → Option Obj) → Prop) ↦ Br (decide (a < p.fst.fst)) (Br (decide (p.fst.fst < IntKind.wrap IntKind.i64 (shrI IntKind.u64 (IntKind.wrap IntKind.u64 (IntKind.wrap IntKind.i64 (a + b))) (1 : Int)))) (Meets prog (67 : Nat) [Value.slice (some A) n c, Value.int IntKind.i64 a, Value.int IntKind.i64 p.fst.fst, Value.int IntKind.i64 (IntKind.wrap IntKind.i64 (shrI IntKind.u64 (IntKind.wrap IntKind.u64 (IntKind.wrap IntKind.i64 (a + b))) (1 : Int))), Value.func (Fn.func g) { toList := [] } { toList := [] }] H fun (e : Ending) (H' : Nat → Option Obj) ↦ e = Ending.returned (Value.tuple { toList := [] }) ∧ some A = some A ∧ n = n ∧ c = c ∧ b = b ∧ Value.func (Fn.func g) { toList := [] } { toList := [] } = Value.func (Fn.func g) { toList := [] } { toList := [] } ∧ IntKind.wrap IntKind.i64 (shrI IntKind.u64 (IntKind.wrap IntKind.u64 (IntKind.wrap IntKind.i64 (a + b))) (1 : Int)) = IntKind.wrap IntKind.i64 (shrI IntKind.u64 (IntKind.wrap IntKind.u64 (IntKind.wrap IntKind.i64 (a + b))) (1 : Int)) ∧ IntKind.wrap IntKind.i64 (IntKind.wrap IntKind.i64 (IntKind.wrap IntKind.i64 (shrI IntKind.u64 (IntKind.wrap IntKind.u64 (IntKind.wrap IntKind.i64 (a + b))) (1 : Int)) + m) - p.fst.fst) = IntKind.wrap IntKind.i64 (IntKind.wrap IntKind.i64 (IntKind.wrap IntKind.i64 (shrI IntKind.u64 (IntKind.wrap IntKind.u64 (IntKind.wrap IntKind.i64 (a + b))) (1 : Int)) + m) - p.fst.fst) ∧ I (PUnit.unit, PUnit.unit) H') (some A = some A ∧ n = n ∧ c = c ∧ b = b ∧ Value.func (Fn.func g) { toList := [] } { toList := [] } = Value.func (Fn.func g) { toList := [] } { toList := [] } ∧ IntKind.wrap IntKind.i64 (shrI IntKind.u64 (IntKind.wrap IntKind.u64 (IntKind.wrap IntKind.i64 (a + b))) (1 : Int)) = IntKind.wrap IntKind.i64 (shrI IntKind.u64 (IntKind.wrap IntKind.u64 (IntKind.wrap IntKind.i64 (a + b))) (1 : Int)) ∧ IntKind.wrap IntKind.i64 (IntKind.wrap IntKind.i64 (IntKind.wrap IntKind.i64 (shrI IntKind.u64 (IntKind.wrap IntKind.u64 (IntKind.wrap IntKind.i64 (a + b))) (1 : Int)) + m) - p.fst.fst) = IntKind.wrap IntKind.i64 (IntKind.wrap IntKind.i64 (IntKind.wrap IntKind.i64 (shrI IntKind.u64 (IntKind.wrap IntKind.u64 (IntKind.wrap IntKind.i64 (a + b))) (1 : Int)) + m) - p.fst.fst) ∧ I (PUnit.unit, PUnit.unit) H)) (some A = some A ∧ n = n ∧ c = c ∧ b = b ∧ Value.func (Fn.func g) { toList := [] } { toList := [] } = Value.func (Fn.func g) { toList := [] } { toList := [] } ∧ IntKind.wrap IntKind.i64 (shrI IntKind.u64 (IntKind.wrap IntKind.u64 (IntKind.wrap IntKind.i64 (a + b))) (1 : Int)) = IntKind.wrap IntKind.i64 (shrI IntKind.u64 (IntKind.wrap IntKind.u64 (IntKind.wrap IntKind.i64 (a + b))) (1 : Int)) ∧ IntKind.wrap IntKind.i64 (IntKind.wrap IntKind.i64 (IntKind.wrap IntKind.i64 (shrI IntKind.u64 (IntKind.wrap IntKind.u64 (IntKind.wrap IntKind.i64 (a + b))) (1 : Int)) + m) - p.fst.fst) = IntKind.wrap IntKind.i64 (IntKind.wrap IntKind.i64 (IntKind.wrap IntKind.i64 (shrI IntKind.u64 (IntKind.wrap IntKind.u64 (IntKind.wrap IntKind.i64 (a + b))) (1 : Int)) + m) - p.fst.fst) ∧ I (PUnit.unit, PUnit.unit) H)) fun (p_2 : PUnit × PUnit) (H : Nat → Option Obj) ↦ Br (decide (IntKind.wrap IntKind.i64 (shrI IntKind.u64 (IntKind.wrap IntKind.u64 (IntKind.wrap IntKind.i64 (a + b))) (1 : Int)) < IntKind.wrap IntKind.i64 (IntKind.wrap IntKind.i64 (IntKind.wrap IntKind.i64 (shrI IntKind.u64 (IntKind.wrap IntKind.u64 (IntKind.wrap IntKind.i64 (a + b))) (1 : Int)) + m) - p.fst.fst))) (Br (decide (IntKind.wrap IntKind.i64 (IntKind.wrap IntKind.i64 (IntKind.wrap IntKind.i64 (shrI IntKind.u64 (IntKind.wrap IntKind.u64 (IntKind.wrap IntKind.i64 (a + b))) (1 : Int)) + m) - p.fst.fst) < b)) (Meets prog (67 : Nat) [Value.slice (some A) n c, Value.int IntKind.i64 (IntKind.wrap IntKind.i64 (shrI IntKind.u64 (IntKind.wrap IntKind.u64 (IntKind.wrap IntKind.i64 (a + b))) (1 : Int))), Value.int IntKind.i64 (IntKind.wrap IntKind.i64 (IntKind.wrap IntKind.i64 (IntKind.wrap IntKind.i64 (shrI IntKind.u64 (IntKind.wrap IntKind.u64 (IntKind.wrap IntKind.i64 (a + b))) (1 : Int)) + m) - p.fst.fst)), Value.int IntKind.i64 b, Value.func (Fn.func g) { toList := [] } { toList := [] }] H fun (e : Ending) (H' : Nat → Option Obj) ↦ e = Ending.returned (Value.tuple { toList := [] }) ∧ R (Ending.returned (Value.tuple { toList := [] })) H') (R (Ending.returned (Value.tuple { toList := [] })) H)) (R (Ending.returned (Value.tuple { toList := [] })) H))) ((p.fst.fst, p.fst.snd.fst, PUnit.unit), PUnit.unit) H))
theorem vc_sym (A : Addr) (n : Nat) (c : Nat) (g : Nat) (a : Int) (m : Int) (b : Int) (R : Ending → Heap → Prop) (H : Heap) : vcFun prog h_sym f67 [SV.c (SC.v (Value.slice (some A) n c)), SV.c (SC.v (Value.int IntKind.i64 a)), SV.c (SC.v (Value.int IntKind.i64 m)), SV.c (SC.v (Value.int IntKind.i64 b)), SV.c (SC.v (Value.func (Fn.func g) #[] #[]))] R H = nf_sym A n c g a m b R H := by kernel_rfl

def nf_stb (A : Addr) (n : Nat) (c : Nat) (g : Nat) (m : Int) (R : Ending → Heap → Prop) (H : Heap) : Prop := some A = some A ∧ n = n ∧ c = c ∧ m = m ∧ Value.func (Fn.func g) { toList := [] } { toList := [] } = Value.func (Fn.func g) { toList := [] } { toList := [] } ∧ (20 : Int) = (20 : Int) ∧ LoopP (fun (K : (Int × Int × PUnit) × PUnit → (Nat → Option Obj) → Prop) (p : (Int × Int × PUnit) × PUnit) (H : Nat → Option Obj) ↦ Br (decide (p.fst.snd.fst ≤ m)) (Meets prog (56 : Nat) [Value.slice (some A) n c, Value.int IntKind.i64 p.fst.fst, Value.int IntKind.i64 p.fst.snd.fst, Value.func (Fn.func g) { toList := [] } { toList := [] }] H fun (e : Ending) (H' : Nat → Option Obj) ↦ e = Ending.returned (Value.tuple { toList := [] }) ∧ some A = some A ∧ n = n ∧ c = c ∧ m = m ∧ Value.func (Fn.func g) { toList := [] } { toList := [] } = Value.func (Fn.func g) { toList := [] } { toList := [] } ∧ (20 : Int) = (20 : Int) ∧ K ((p.fst.snd.fst, IntKind.wrap IntKind.i64 (p.fst.snd.fst + (20 : Int)), PUnit.unit), PUnit.unit) H') (Meets prog (56 : Nat) [Value.slice (some A) n c, Value.int IntKind.i64 p.fst.fst, Value.int IntKind.i64 m, Value.func (Fn.func g) { toList := [] } { toList := [] }] H fun (e : Ending) (H' : Nat → Option Obj) ↦ e = Ending.returned (Value.tuple { toList := [] }) ∧ some A = some A ∧ n = n ∧ c = c ∧ m = m ∧ Value.func (Fn.func g) { toList := [] } { toList := [] } = Value.func (Fn.func g) { toList := [] } { toList := [] } ∧ LoopP (fun (K : (Int × PUnit) × PUnit → (Nat → Option Obj) → Prop) (p : (Int × PUnit) × PUnit) (H : Nat → Option Obj) ↦ Br (decide (p.fst.fst < m)) (some A = some A ∧ n = n ∧ c = c ∧ m = m ∧ Value.func (Fn.func g) { toList := [] } { toList := [] } = Value.func (Fn.func g) { toList := [] } { toList := [] } ∧ p.fst.fst = p.fst.fst ∧ LoopP (fun (K_1 : (Int × Int × PUnit) × PUnit → (Nat → Option Obj) → Prop) (p_1 : (Int × Int × PUnit) × PUnit) (H : Nat → Option Obj) ↦ Br (decide (p_1.fst.snd.fst ≤ m)) (Meets prog (67 : Nat) [Value.slice (some A) n c, Value.int IntKind.i64 p_1.fst.fst, Value.int IntKind.i64 (IntKind.wrap IntKind.i64 (p_1.fst.fst + p.fst.fst)), Value.int IntKind.i64 p_1.fst.snd.fst, Value.func (Fn.func g) { toList := [] } { toList := [] }] H fun (e : Ending) (H' : Nat → Option Obj) ↦ e = Ending.returned (Value.tuple { toList := [] }) ∧ some A = some A ∧ n = n ∧ c = c ∧ m = m ∧ Value.func (Fn.func g) { toList := [] } { toList := [] } = Value.func (Fn.func g) { toList := [] } { toList := [] } ∧ p.fst.fst = p.fst.fst ∧ K_1 ((p_1.fst.snd.fst, IntKind.wrap IntKind.i64 (p_1.fst.snd.fst + IntKind.wrap IntKind.i64 ((2 : Int) * p.fst.fst)), PUnit.unit), PUnit.unit) H') (Br (decide (IntKind.wrap IntKind.i64 (p_1.fst.fst + p.fst.fst) < m)) (Meets prog (67 : Nat) [Value.slice (some A) n c, Value.int IntKind.i64 p_1.fst.fst, Value.int IntKind.i64 (IntKind.wrap IntKind.i64 (p_1.fst.fst + p.fst.fst)), Value.int IntKind.i64 m, Value.func (Fn.func g) { toList := [] } { toList := [] }] H fun (e : Ending) (H' : Nat → Option Obj) ↦ e = Ending.returned (Value.tuple { toList := [] }) ∧ some A = some A ∧ n = n ∧ c = c ∧ m = m ∧ Value.func (Fn.func g) { toList := [] } { toList := [] } = Value.func (Fn.func g) { toList := [] } { toList := [] } ∧ K ((IntKind.wrap IntKind.i64 (p.fst.fst * (2 : Int)), PUnit.unit), PUnit.unit) H') (some A = some A ∧ n = n ∧ c = c ∧ m = m ∧ Value.func (Fn.func g) { toList := [] } { toList := [] } = Value.func (Fn.func g) { toList := [] } { toList := [] } ∧ K ((IntKind.wrap IntKind.i64 (p.fst.fst * (2 : Int)), PUnit.unit), PUnit.unit) H))) (((0 : Int), IntKind.wrap IntKind.i64 ((2 : Int) * p.fst.fst), PUnit.unit), PUnit.unit) H) (R (Ending.returned (Value.tuple { toList := [] })) H)) (((20 : Int), PUnit.unit), PUnit.unit) H')) (((0 : Int), (20 : Int), PUnit.unit), PUnit.unit) H
theorem vc_stb (A : Addr) (n : Nat) (c : Nat) (g : Nat) (m : Int) (R : Ending → Heap → Prop) (H : Heap) : vcFun prog h_stb f49 [SV.c (SC.v (Value.slice (some A) n c)), SV.c (SC.v (Value.int IntKind.i64 m)), SV.c (SC.v (Value.func (Fn.func g) #[] #[]))] R H = nf_stb A n c g m R H := by kernel_rfl

end Cr

set_option linter.unusedVariables false
set_option linter.unusedSimpArgs false
namespace Cr
open Go Sx Stb
open Go.Sort (SWO)
open Go.Proofs.Try
set_option maxRecDepth 100000
section
variable {R : Ending → Heap → Prop} {H : Heap} {ty : Nat}
theorem half64 {u : Int} (h : 0 ≤ u ∧ u ≤ 4611686018427387904) : IntKind.i64.wrap (shrI .u64 (IntKind.u64.wrap (IntKind.i64.wrap u)) 1) = u / 2 := by
  rw [w64 (k := u) (by omega), IntWalk.u64_in u (by omega)]
  have : shrI .u64 u 1 = u / 2 := by
    unfold shrI
    rw [show min (Int.toNat 1) (IntKind.u64).bits = 1 by decide, show ((2 : Int) ^ 1) = 2 by decide, Int.fdiv_eq_ediv_of_nonneg _ (by decide)]
  rw [this, w64 (by omega)]
theorem get_X {A X Y B : List Pt} {k j : Nat} (hk : k < X.length) (hj : A.length + k = j) : (A ++ X ++ Y ++ B)[j]? = some X[k] := by
  subst hj
  rw [List.append_assoc, List.append_assoc, List.getElem?_append_right (by omega), Nat.add_sub_cancel_left, List.getElem?_append_left hk, List.getElem?_eq_getElem hk]
theorem get_Y {A X Y B : List Pt} {k j : Nat} (hk : k < Y.length) (hj : A.length + X.length + k = j) : (A ++ X ++ Y ++ B)[j]? = some Y[k] := by
  subst hj
  rw [List.append_assoc, List.getElem?_append_right (by simp only [List.length_append]; omega), List.length_append, Nat.add_sub_cancel_left, List.getElem?_append_left hk, List.getElem?_eq_getElem hk]
theorem drop_cons {α : Type} {l : List α} {k : Nat} (h : k < l.length) : ∃ y, l.drop k = y :: l.drop (k + 1) ∧ l.take (k + 1) = l.take k ++ [y] ∧ l[k]? = some y :=
  ⟨l[k], List.drop_eq_getElem_cons h, by rw [List.take_add_one, List.getElem?_eq_getElem h]; rfl, List.getElem?_eq_getElem h⟩
theorem s_sym {g : Nat} {cf : Pt → Pt → Int} (hc : CmpOK g cf) (hs : SWO (ltc cf)) {Ad : Addr} {n c : Nat} (hn : n ≤ 1000000) : ∀ (N : Nat) {A X Y B : List Pt} {a m b : Int} (hN : X.length + Y.length = N) (ha : (A.length : Int) = a) (hm : a + X.length = m) (hb : m + Y.length = b) (hx : 0 < X.length) (hy : 0 < Y.length)
    (sX : Srtd (ltc cf) X) (sY : Srtd (ltc cf) Y) {R : Ending → Heap → Prop} {H : Heap}
    (hrow : RowAt H (.slice (some Ad) n c) ty 4 (pts (A ++ X ++ Y ++ B))) (h : ∀ H', RowAt H' (.slice (some Ad) n c) ty 4 (pts (A ++ isort (ltc cf) (X ++ Y) ++ B)) → Mod (.slice (some Ad) n c) H H' → R (.returned (.tuple #[])) H'),
    Meets prog 67 [.slice (some Ad) n c, vi a, vi m, vi b, .func (.func g) #[] #[]] H R := by
  intro N
  induction N using Nat.strongRecOn with
  | _ N ih =>
  intro A X Y B a m b hN ha hm hb hx hy sX sY R H hrow h
  refine spec_of func67 (by kernel_rfl) (fun t h => by cases h) ?_ (vc_sym Ad n c g a m b R H) ?_
  · simp [argsR, SV.rep, SC.rep, one]
  unfold nf_sym
  simp only [true_and, delLs_nil, List.nil_append, List.append_nil]
  have hlen0 := (row_len hrow).1
  simp only [pts, List.length_map, List.length_append] at hlen0
  have hsl := row_slice hrow
  rw [w64 (k := m - a) (by omega), w64 (k := b - m) (by omega)]
  refine br (fun q => ?_) fun q => br (fun q1 => ?_) fun q1 => ?_
  · -- one on the left
    have hx1 : X.length = 1 := by simp at q; omega
    obtain ⟨x, rfl⟩ := List.length_eq_one_iff.1 hx1
    simp only [List.length_singleton] at hm hlen0 hN
    refine ⟨fun p H' => ∃ s t : Nat, p.1.1 = m + s ∧ p.1.2.1 = m + t ∧ s ≤ t ∧ t ≤ Y.length ∧ (∀ y, 0 < s → Y[s - 1]? = some y → ltc cf y x = true) ∧ (∀ y, t < Y.length → Y[t]? = some y → ltc cf y x = false) ∧ H' = H, fun p _ => (p.1.2.1 - p.1.1).toNat, ⟨0, Y.length, by simp, by simp only; omega, by omega, by omega, by omega, by omega, rfl⟩, ?_⟩
    rintro ⟨⟨i, j, _⟩, _⟩ H1 ⟨s, t, hi, hj, hst, htl, f1, f2, rfl⟩
    simp only at hi hj ⊢
    subst hi; subst hj
    refine br (fun q2 => ?_) fun q2 => ?_
    · simp only [decide_eq_true_eq] at q2
      rw [half64 (by omega)]
      obtain ⟨k, hk⟩ : ∃ k : Nat, (m + (s : Int) + (m + (t : Int))) / 2 = m + k ∧ s ≤ k ∧ k < t := ⟨(s + t) / 2, by omega, by omega, by omega⟩
      rw [hk.1, w64 (k := m + k + 1) (by omega)]
      obtain ⟨A1, e1, g1⟩ := pr_get hsl (i := (m + k).toNat) (p := Y[k]) (get_Y (by omega) (by simp only [List.length_singleton]; omega))
      obtain ⟨A2, e2, g2⟩ := pr_get hsl (i := a.toNat) (p := x) (get_X (X := [x]) (k := 0) (by simp) (by omega))
      cases e1; cases e2
      refine ⟨by decide, _, heap_refl _, ⟨by omega, by omega⟩, ptr rfl (ptr rfl ⟨_, _, _, _, g1, ⟨by omega, by omega⟩, ptr rfl (ptr rfl ⟨_, _, _, _, g2, ?_⟩)⟩)⟩
      refine hc _ _ _ _ ⟨keep_same _ _ _, _, rfl, br (fun q3 => ?_) fun q3 => ?_⟩
      · refine ⟨⟨k + 1, t, by omega, rfl, by omega, htl, fun y _ hy => ?_, f2, rfl⟩, by omega⟩
        rw [Nat.add_sub_cancel, List.getElem?_eq_getElem (by omega)] at hy
        cases hy
        exact q3
      · refine ⟨⟨s, k, rfl, rfl, by omega, by omega, f1, fun y _ hy => ?_, rfl⟩, by omega⟩
        rw [List.getElem?_eq_getElem (by omega)] at hy
        cases hy
        exact q3
    · simp only [decide_eq_false_iff_not] at q2
      have hst' : t = s := by omega
      subst hst'
      have hins : isort (ltc cf) ([x] ++ Y) = Y.take t ++ x :: Y.drop t := by
        have := ins_left hs (x := x) (Y1 := Y.take t) (Y2 := Y.drop t) (by rw [List.take_append_drop]; exact sY) (fun y hy => ?_) (fun y hy => ?_)
        · rwa [List.take_append_drop] at this
        · rcases Nat.eq_zero_or_pos t with h0 | h0
          · subst h0; simp at hy
          · rw [last_take h0 htl] at hy
            exact f1 y h0 hy
        · rw [head_drop] at hy
          have : t < Y.length := by
            rcases Nat.lt_or_ge t Y.length with h | h
            · exact h
            · rw [List.getElem?_eq_none h] at hy; cases hy
          exact f2 y this hy
      rw [w64 (k := m + t - 1) (by omega)]
      refine ⟨fun p H' => ∃ u : Nat, p.1.1 = a + u ∧ u ≤ t ∧ RowAt H' (.slice (some Ad) n c) ty 4 (pts (A ++ Y.take u ++ x :: Y.drop u ++ B)) ∧ Mod (.slice (some Ad) n c) H1 H', fun p _ => (m + t - p.1.1).toNat, ⟨0, by simp, by omega, by simpa using hrow, Mod.refl _ _⟩, ?_⟩
      rintro ⟨⟨i, _⟩, _⟩ H2 ⟨u, hi, hut, hrow2, hmod2⟩
      simp only at hi ⊢
      subst hi
      refine br (fun q3 => ?_) fun q3 => ?_
      · simp only [decide_eq_true_eq] at q3
        obtain ⟨y, hd, ht, _⟩ := drop_cons (l := Y) (k := u) (by omega)
        rw [w64 (k := a + u + 1) (by omega)]
        have hL : A ++ Y.take u ++ x :: Y.drop u ++ B = (A ++ Y.take u) ++ x :: ([] ++ y :: (Y.drop (u + 1) ++ B)) := by rw [hd]; simp
        rw [hL] at hrow2
        have hl1 : (A ++ Y.take u).length = (a + u).toNat := by rw [List.length_append, List.length_take]; omega
        have hl2 : (a + u).toNat + 1 + ([] : List Pt).length = (a + u + 1).toNat := by simp only [List.length_nil]; omega
        have hsl2 := row_slice hrow2
        obtain ⟨A1, e1, g1⟩ := pr_get hsl2 (i := (a + u).toNat) (p := x) (get_at hl1)
        obtain ⟨A2, e2, g2⟩ := pr_get hsl2 (i := (a + u + 1).toNat) (p := y) (by
          have := get_at (P := (A ++ Y.take u) ++ [x]) (Q := Y.drop (u + 1) ++ B) (x := y) (k := (a + u + 1).toNat) (by rw [List.length_append, hl1]; simp only [List.length_singleton]; omega)
          simpa using this)
        cases e1; cases e2
        obtain ⟨c1, m1, r1, d1⟩ := pr_put hrow2 (i := (a + u).toNat) (by omega) y
        obtain ⟨c2, m2, r2, d2⟩ := pr_put r1 (i := (a + u + 1).toNat) (by omega) x
        rw [set_far hl1 hl2] at r2
        refine ⟨⟨by omega, by omega⟩, ptr rfl (ptr rfl ⟨_, _, _, _, g2, ⟨by omega, by omega⟩, ptr rfl (ptr rfl ⟨_, _, _, _, g1, ⟨by omega, by omega⟩, ptr rfl (ptr rfl ⟨_, _, m1, ⟨by omega, by omega⟩, ptr rfl (ptr rfl ⟨_, _, m2, ⟨u + 1, by omega, by omega, ?_, (hmod2.trans d1).trans d2⟩, by omega⟩)⟩)⟩)⟩)⟩
        rw [ht]
        simpa using r2
      · simp only [decide_eq_false_iff_not] at q3
        have : u = t := by omega
        subst this
        refine h _ ?_ hmod2
        rw [hins]
        simpa using hrow2
  · -- one on the right
    have hy1 : Y.length = 1 := by simp at q1; omega
    obtain ⟨y, rfl⟩ := List.length_eq_one_iff.1 hy1
    simp only [List.length_singleton] at hb hlen0 hN
    refine ⟨fun p H' => ∃ s t : Nat, p.1.1 = a + s ∧ p.1.2.1 = a + t ∧ s ≤ t ∧ t ≤ X.length ∧ (∀ x, 0 < s → X[s - 1]? = some x → ltc cf y x = false) ∧ (∀ x, t < X.length → X[t]? = some x → ltc cf y x = true) ∧ H' = H, fun p _ => (p.1.2.1 - p.1.1).toNat, ⟨0, X.length, by simp, by simp only; omega, by omega, by omega, by omega, by omega, rfl⟩, ?_⟩
    rintro ⟨⟨i, j, _⟩, _⟩ H1 ⟨s, t, hi, hj, hst, htl, f1, f2, rfl⟩
    simp only at hi hj ⊢
    subst hi; subst hj
    refine br (fun q2 => ?_) fun q2 => ?_
    · simp only [decide_eq_true_eq] at q2
      rw [half64 (by omega)]
      obtain ⟨k, hk⟩ : ∃ k : Nat, (a + (s : Int) + (a + (t : Int))) / 2 = a + k ∧ s ≤ k ∧ k < t := ⟨(s + t) / 2, by omega, by omega, by omega⟩
      rw [hk.1, w64 (k := a + k + 1) (by omega)]
      obtain ⟨A1, e1, g1⟩ := pr_get hsl (i := (a + k).toNat) (p := X[k]) (get_X (by omega) (by omega))
      obtain ⟨A2, e2, g2⟩ := pr_get hsl (i := m.toNat) (p := y) (get_Y (Y := [y]) (k := 0) (by simp) (by omega))
      cases e1; cases e2
      refine ⟨by decide, _, heap_refl _, ⟨by omega, by omega⟩, ptr rfl (ptr rfl ⟨_, _, _, _, g2, ⟨by omega, by omega⟩, ptr rfl (ptr rfl ⟨_, _, _, _, g1, ?_⟩)⟩)⟩
      refine hc _ _ _ _ ⟨keep_same _ _ _, _, rfl, br (fun q3 => ?_) fun q3 => ?_⟩
      · refine ⟨⟨k + 1, t, by omega, rfl, by omega, htl, fun x _ hx => ?_, f2, rfl⟩, by omega⟩
        rw [Nat.add_sub_cancel, List.getElem?_eq_getElem (by omega)] at hx
        cases hx
        simpa [ltc] using q3
      · refine ⟨⟨s, k, rfl, rfl, by omega, by omega, f1, fun x _ hx => ?_, rfl⟩, by omega⟩
        rw [List.getElem?_eq_getElem (by omega)] at hx
        cases hx
        simpa [ltc] using q3
    · simp only [decide_eq_false_iff_not] at q2
      have hst' : t = s := by omega
      subst hst'
      have hins : isort (ltc cf) (X ++ [y]) = X.take t ++ y :: X.drop t := by
        have := ins_right hs (y := y) (X1 := X.take t) (X2 := X.drop t) (by rw [List.take_append_drop]; exact sX) (fun x hx => ?_) (fun x hx => ?_)
        · rwa [List.take_append_drop] at this
        · rcases Nat.eq_zero_or_pos t with h0 | h0
          · subst h0; simp at hx
          · rw [last_take h0 htl] at hx
            exact f1 x h0 hx
        · rw [head_drop] at hx
          have : t < X.length := by
            rcases Nat.lt_or_ge t X.length with h | h
            · exact h
            · rw [List.getElem?_eq_none h] at hx; cases hx
          exact f2 x this hx
      refine ⟨fun p H' => ∃ u : Nat, p.1.1 = a + u ∧ t ≤ u ∧ u ≤ X.length ∧ RowAt H' (.slice (some Ad) n c) ty 4 (pts (A ++ X.take u ++ y :: X.drop u ++ B)) ∧ Mod (.slice (some Ad) n c) H1 H', fun p _ => (p.1.1).toNat, ⟨X.length, by simp only; omega, by omega, by omega, by simpa using hrow, Mod.refl _ _⟩, ?_⟩
      rintro ⟨⟨i, _⟩, _⟩ H2 ⟨u, hi, hut, hul, hrow2, hmod2⟩
      simp only at hi ⊢
      subst hi
      refine br (fun q3 => ?_) fun q3 => ?_
      · simp only [decide_eq_true_eq] at q3
        obtain ⟨v, rfl⟩ : ∃ v, u = v + 1 := ⟨u - 1, by omega⟩
        obtain ⟨x, hd, ht, _⟩ := drop_cons (l := X) (k := v) (by omega)
        rw [w64 (k := a + ((v + 1 : Nat) : Int) - 1) (by omega)]
        have hL : A ++ X.take (v + 1) ++ y :: X.drop (v + 1) ++ B = (A ++ X.take v) ++ x :: y :: (X.drop (v + 1) ++ B) := by rw [ht]; simp
        rw [hL] at hrow2
        have hl1 : (A ++ X.take v).length = (a + ((v + 1 : Nat) : Int) - 1).toNat := by rw [List.length_append, List.length_take]; omega
        have hk : (a + ((v + 1 : Nat) : Int)).toNat = (a + ((v + 1 : Nat) : Int) - 1).toNat + 1 := by omega
        rw [hk]
        have hsl2 := row_slice hrow2
        obtain ⟨A1, e1, g1⟩ := pr_get hsl2 (i := (a + ((v + 1 : Nat) : Int) - 1).toNat) (p := x) (get_at hl1)
        obtain ⟨A2, e2, g2⟩ := pr_get hsl2 (i := (a + ((v + 1 : Nat) : Int) - 1).toNat + 1) (p := y) (by
          have := get_at (P := (A ++ X.take v) ++ [x]) (Q := X.drop (v + 1) ++ B) (x := y) (k := (a + ((v + 1 : Nat) : Int) - 1).toNat + 1) (by rw [List.length_append, hl1]; simp only [List.length_singleton])
          simpa using this)
        cases e1; cases e2
        obtain ⟨c1, m1, r1, d1⟩ := pr_put hrow2 (i := (a + ((v + 1 : Nat) : Int) - 1).toNat + 1) (by omega) x
        obtain ⟨c2, m2, r2, d2⟩ := pr_put r1 (i := (a + ((v + 1 : Nat) : Int) - 1).toNat) (by omega) y
        rw [set_two hl1] at r2
        refine ⟨⟨by omega, by omega⟩, ptr rfl (ptr rfl ⟨_, _, _, _, g1, ⟨by omega, by omega⟩, ptr rfl (ptr rfl ⟨_, _, _, _, g2, ⟨by omega, by omega⟩, ptr rfl (ptr rfl ⟨_, _, m1, ⟨by omega, by omega⟩, ptr rfl (ptr rfl ⟨_, _, m2, ⟨v, by omega, by omega, by omega, ?_, (hmod2.trans d1).trans d2⟩, by omega⟩)⟩)⟩)⟩)⟩
        rw [hd]
        simpa using r2
      · simp only [decide_eq_false_iff_not] at q3
        have : u = t := by omega
        subst this
        refine h _ ?_ hmod2
        rw [hins]
        simpa using hrow2
  · -- both longer
    have hx2 : 2 ≤ X.length := by simp at q; omega
    have hy2 : 2 ≤ Y.length := by simp at q1; omega
    rw [half64 (u := a + b) (by omega)]
    generalize hmid : (a + b) / 2 = mid
    have hmb : a + 2 ≤ mid ∧ mid + 2 ≤ b := by omega
    rw [w64 (k := mid + m) (by omega), w64 (k := mid + m - b) (by omega), w64 (k := mid + m - 1) (by omega)]
    refine ⟨by decide, fun p H' => H' = H ∧ ((m > mid ∧ p.1.1 = mid + m - b ∧ p.1.2.1 = mid) ∨ (m ≤ mid ∧ p.1.1 = a ∧ p.1.2.1 = m)), br (fun q2 => ?_) fun q2 => ?_, ?_⟩
    · simp only [decide_eq_true_eq] at q2
      exact ⟨rfl, .inl ⟨q2, rfl, rfl⟩⟩
    · simp only [decide_eq_false_iff_not] at q2
      exact ⟨rfl, .inr ⟨by omega, rfl, rfl⟩⟩
    rintro ⟨⟨st0, r0, _⟩, _⟩ H1 ⟨rfl, hsr⟩
    simp only at hsr ⊢
    have hsr' : a ≤ st0 ∧ st0 ≤ r0 ∧ r0 ≤ m ∧ r0 ≤ mid ∧ mid + m - st0 ≤ b ∧ (a < st0 → mid + m - st0 = b) ∧ (r0 < m → r0 = mid) := by omega
    refine ⟨fun p H' => ∃ s t : Nat, p.1.1 = a + s ∧ p.1.2.1 = a + t ∧ s ≤ t ∧ st0 ≤ a + s ∧ a + t ≤ r0 ∧ (∀ x y, st0 < a + s → X[s - 1]? = some x → Y[(mid - a - s).toNat]? = some y → ltc cf y x = false) ∧ (∀ x y, a + t < r0 → X[t]? = some x → Y[(mid - a - t - 1).toNat]? = some y → ltc cf y x = true) ∧ H' = H1, fun p _ => (p.1.2.1 - p.1.1).toNat, ⟨(st0 - a).toNat, (r0 - a).toNat, by simp only; omega, by simp only; omega, by omega, by omega, by omega, by omega, by omega, rfl⟩, ?_⟩
    rintro ⟨⟨i, j, _⟩, _⟩ H2 ⟨s, t, hi, hj, hst, hs0, ht0, f1, f2, rfl⟩
    simp only at hi hj ⊢
    subst hi; subst hj
    refine br (fun q2 => ?_) fun q2 => ?_
    · simp only [decide_eq_true_eq] at q2
      rw [half64 (by omega)]
      obtain ⟨k, hk⟩ : ∃ k : Nat, (a + (s : Int) + (a + (t : Int))) / 2 = a + k ∧ s ≤ k ∧ k < t := ⟨(s + t) / 2, by omega, by omega, by omega⟩
      rw [hk.1, w64 (k := a + k + 1) (by omega), w64 (k := mid + m - 1 - (a + k)) (by omega)]
      have hkx : k < X.length := by omega
      have hky : (mid - a - k - 1).toNat < Y.length := by omega
      obtain ⟨A1, e1, g1⟩ := pr_get hsl (i := (a + k).toNat) (p := X[k]) (get_X hkx (by omega))
      obtain ⟨A2, e2, g2⟩ := pr_get hsl (i := (mid + m - 1 - (a + k)).toNat) (p := Y[(mid - a - k - 1).toNat]) (get_Y hky (by omega))
      cases e1; cases e2
      refine ⟨by decide, _, heap_refl _, ⟨by omega, by omega⟩, ptr rfl (ptr rfl ⟨_, _, _, _, g2, ⟨by omega, by omega⟩, ptr rfl (ptr rfl ⟨_, _, _, _, g1, ?_⟩)⟩)⟩
      refine hc _ _ _ _ ⟨keep_same _ _ _, _, rfl, br (fun q3 => ?_) fun q3 => ?_⟩
      · refine ⟨⟨k + 1, t, by omega, rfl, by omega, by omega, ht0, fun x y _ hx hy => ?_, f2, rfl⟩, by omega⟩
        rw [Nat.add_sub_cancel, List.getElem?_eq_getElem hkx] at hx
        rw [show (mid - a - ((k + 1 : Nat) : Int)).toNat = (mid - a - k - 1).toNat by omega, List.getElem?_eq_getElem hky] at hy
        cases hx; cases hy
        simpa [ltc] using q3
      · refine ⟨⟨s, k, rfl, rfl, by omega, hs0, by omega, f1, fun x y _ hx hy => ?_, rfl⟩, by omega⟩
        rw [List.getElem?_eq_getElem hkx] at hx
        rw [List.getElem?_eq_getElem hky] at hy
        cases hx; cases hy
        simpa [ltc] using q3
    · simp only [decide_eq_false_iff_not] at q2
      have hst' : t = s := by omega
      subst hst'
      -- the four parts
      obtain ⟨d, hd⟩ : ∃ d : Nat, mid = a + t + d := ⟨(mid - a - t).toNat, by omega⟩
      have hXs : X.take t ++ X.drop t = X := List.take_append_drop ..
      have hYs : Y.take d ++ Y.drop d = Y := List.take_append_drop ..
      have lX1 : (X.take t).length = t := by rw [List.length_take]; omega
      have lX2 : (X.drop t).length = X.length - t := by simp
      have lY1 : (Y.take d).length = d := by rw [List.length_take]; omega
      have lY2 : (Y.drop d).length = Y.length - d := by simp
      have hfin : isort (ltc cf) (X.take t ++ Y.take d) ++ isort (ltc cf) (X.drop t ++ Y.drop d) = isort (ltc cf) (X ++ Y) := by
        have hb1 := borders hs (X1 := X.take t) (X2 := X.drop t) (Y1 := Y.take d) (Y2 := Y.drop d) (by rw [hXs]; exact sX) (by rw [hYs]; exact sY) (fun x y hx hy => ?_) (fun x y hx hy => ?_)
        · have := merge_halves hs (X1 := X.take t) (X2 := X.drop t) (Y1 := Y.take d) (Y2 := Y.drop d) (by rw [hXs]; exact sX) (by rw [hYs]; exact sY) hb1.1 hb1.2
          rwa [hXs, hYs] at this
        · rw [head_drop] at hy
          have h3 : d < Y.length := by
            rcases Nat.lt_or_ge d Y.length with h | h
            · exact h
            · rw [List.getElem?_eq_none h] at hy; cases hy
          have h4 : 0 < t := by
            rcases Nat.eq_zero_or_pos t with h0 | h0
            · subst h0; simp at hx
            · exact h0
          rw [last_take h4 (by omega)] at hx
          refine f1 x y (by omega) hx ?_
          rw [show (mid - a - (t : Int)).toNat = d by omega]; exact hy
        · rw [head_drop] at hx
          have h3 : t < X.length := by
            rcases Nat.lt_or_ge t X.length with h | h
            · exact h
            · rw [List.getElem?_eq_none h] at hx; cases hx
          have h4 : 0 < d := by
            rcases Nat.eq_zero_or_pos d with h0 | h0
            · subst h0; simp at hy
            · exact h0
          rw [last_take h4 (by omega)] at hy
          refine f2 x y (by omega) hx ?_
          rw [show (mid - a - (t : Int) - 1).toNat = d - 1 by omega]; exact hy
      rw [← hXs] at sX
      rw [← hYs] at sY
      have pX := List.pairwise_append.1 sX
      have pY := List.pairwise_append.1 sY
      rw [← hXs, ← hYs] at hrow
      rw [hfin.symm] at h
      generalize X.take t = X1 at *
      generalize X.drop t = X2 at *
      generalize Y.take d = Y1 at *
      generalize Y.drop d = Y2 at *
      rw [w64 (k := mid + m - (a + t)) (by omega)]
      have hend : mid + m - (a + (t : Int)) = m + d := by omega
      rw [hend]
      refine ⟨fun _ H' => RowAt H' (.slice (some Ad) n c) ty 4 (pts (A ++ (X1 ++ Y1) ++ (X2 ++ Y2) ++ B)) ∧ Mod (.slice (some Ad) n c) H2 H', ?_, ?_⟩
      · refine br (fun q3 => br (fun q4 => ?_) fun q4 => ?_) fun q3 => ?_
        · simp only [decide_eq_true_eq] at q3 q4
          refine s_rot (ty := ty) (A := A ++ X1) (X := X2) (Y := Y1) (B := Y2 ++ B) (by simp; omega) (by omega) (by omega) (by simpa using hrow) (by omega) (by omega) hn fun H3 hr hmd => ⟨rfl, by simpa using hr, hmd⟩
        · simp only [decide_eq_false_iff_not] at q4
          have : Y1 = [] := List.length_eq_zero_iff.1 (by omega)
          subst this
          exact ⟨by simpa using hrow, Mod.refl _ _⟩
        · simp only [decide_eq_false_iff_not] at q3
          have : X2 = [] := List.length_eq_zero_iff.1 (by omega)
          subst this
          exact ⟨by simpa using hrow, Mod.refl _ _⟩
      rintro _ H3 ⟨hrow3, hmod3⟩
      refine ⟨fun _ H' => RowAt H' (.slice (some Ad) n c) ty 4 (pts (A ++ isort (ltc cf) (X1 ++ Y1) ++ (X2 ++ Y2) ++ B)) ∧ Mod (.slice (some Ad) n c) H2 H', ?_, ?_⟩
      · refine br (fun q3 => br (fun q4 => ?_) fun q4 => ?_) fun q3 => ?_
        · simp only [decide_eq_true_eq] at q3 q4
          refine ih (X1.length + Y1.length) (by omega) (A := A) (X := X1) (Y := Y1) (B := X2 ++ Y2 ++ B) rfl ha (by omega) (by omega) (by omega) (by omega) pX.1 pY.1 (by simpa using hrow3) fun H4 hr hmd => ⟨rfl, by simpa using hr, hmod3.trans hmd⟩
        · simp only [decide_eq_false_iff_not] at q4
          have : Y1 = [] := List.length_eq_zero_iff.1 (by omega)
          subst this
          rw [List.append_nil, isort_id hs pX.1]
          exact ⟨by simpa using hrow3, hmod3⟩
        · simp only [decide_eq_false_iff_not] at q3
          have : X1 = [] := List.length_eq_zero_iff.1 (by omega)
          subst this
          rw [List.nil_append, isort_id hs pY.1]
          exact ⟨by simpa using hrow3, hmod3⟩
      rintro _ H4 ⟨hrow4, hmod4⟩
      have hl4 : (isort (ltc cf) (X1 ++ Y1)).length = X1.length + Y1.length := by rw [isort_len, List.length_append]
      refine br (fun q3 => br (fun q4 => ?_) fun q4 => ?_) fun q3 => ?_
      · simp only [decide_eq_true_eq] at q3 q4
        refine ih (X2.length + Y2.length) (by omega) (A := A ++ isort (ltc cf) (X1 ++ Y1)) (X := X2) (Y := Y2) (B := B) rfl (by rw [List.length_append, hl4]; omega) (by omega) (by omega) (by omega) (by omega) pX.2.1 pY.2.1 (by simpa using hrow4) fun H5 hr hmd => ⟨rfl, h _ (by simpa using hr) (hmod4.trans hmd)⟩
      · simp only [decide_eq_false_iff_not] at q4
        have : Y2 = [] := List.length_eq_zero_iff.1 (by omega)
        subst this
        rw [List.append_nil] at hrow4 h
        rw [isort_id hs pX.2.1] at h
        exact h _ (by simpa using hrow4) hmod4
      · simp only [decide_eq_false_iff_not] at q3
        have : X2 = [] := List.length_eq_zero_iff.1 (by omega)
        subst this
        rw [List.nil_append] at hrow4 h
        rw [isort_id hs pY.2.1] at h
        exact h _ (by simpa using hrow4) hmod4
theorem flat_len {α : Type} {k : Nat} : ∀ {Ls : List (List α)}, (∀ l ∈ Ls, l.length = k) → Ls.flatten.length = Ls.length * k
  | [], _ => by simp
  | l :: Ls, h => by
    rw [List.flatten_cons, List.length_append, flat_len (fun l hl => h l (List.mem_cons_of_mem _ hl)), h l (List.mem_cons_self ..), List.length_cons, Nat.add_mul, Nat.one_mul, Nat.add_comm]
/-- Sorted blocks of one length, and a shorter rest. -/
structure Blk (lt : Pt → Pt → Bool) (k : Nat) (Ls : List (List Pt)) : Prop where
  len : ∀ l ∈ Ls, l.length = k
  srt : ∀ l ∈ Ls, Srtd lt l
theorem Blk.nil (lt : Pt → Pt → Bool) (k : Nat) : Blk lt k [] := ⟨by simp, by simp⟩
theorem Blk.snoc {lt : Pt → Pt → Bool} {k : Nat} {Ls : List (List Pt)} (h : Blk lt k Ls) {l : List Pt} (h1 : l.length = k) (h2 : Srtd lt l) : Blk lt k (Ls ++ [l]) :=
  ⟨fun x hx => (List.mem_append.1 hx).elim (h.len x) fun hx => by simp at hx; subst hx; exact h1, fun x hx => (List.mem_append.1 hx).elim (h.srt x) fun hx => by simp at hx; subst hx; exact h2⟩
theorem Blk.tail {lt : Pt → Pt → Bool} {k : Nat} {l : List Pt} {Ls : List (List Pt)} (h : Blk lt k (l :: Ls)) : l.length = k ∧ Srtd lt l ∧ Blk lt k Ls :=
  ⟨h.len l (List.mem_cons_self ..), h.srt l (List.mem_cons_self ..), fun x hx => h.len x (List.mem_cons_of_mem _ hx), fun x hx => h.srt x (List.mem_cons_of_mem _ hx)⟩
theorem stab_mid {lt : Pt → Pt → Bool} (hs : SWO lt) {L A X B : List Pt} (h : Stab lt L (A ++ X ++ B)) : Stab lt L (A ++ isort lt X ++ B) :=
  h.trans (Stab.app (Stab.app (Stab.refl A) (isort_stab hs X)) (Stab.refl B))
theorem s_stb {g : Nat} {cf : Pt → Pt → Int} (hc : CmpOK g cf) (hs : SWO (ltc cf)) {Ad : Addr} {n c : Nat} (hn : n ≤ 1000000) {L : List Pt} {m : Int} (hm : (L.length : Int) = m) {R : Ending → Heap → Prop} {H : Heap}
    (hrow : RowAt H (.slice (some Ad) n c) ty 4 (pts L)) (h : ∀ H', RowAt H' (.slice (some Ad) n c) ty 4 (pts (isort (ltc cf) L)) → Mod (.slice (some Ad) n c) H H' → R (.returned (.tuple #[])) H') :
    Meets prog 49 [.slice (some Ad) n c, vi m, .func (.func g) #[] #[]] H R := by
  refine spec_of func49 (by kernel_rfl) (fun t h => by cases h) ?_ (vc_stb Ad n c g m R H) ?_
  · simp [argsR, SV.rep, SC.rep, one]
  unfold nf_stb
  simp only [true_and, delLs_nil, List.nil_append, List.append_nil]
  have hlen0 := (row_len hrow).1
  simp only [pts, List.length_map] at hlen0
  refine ⟨fun p H' => ∃ (Ls : List (List Pt)) (T : List Pt), p.1.1 = Ls.flatten.length ∧ p.1.2.1 = Ls.flatten.length + 20 ∧ Blk (ltc cf) 20 Ls ∧ Stab (ltc cf) L (Ls.flatten ++ T) ∧ RowAt H' (.slice (some Ad) n c) ty 4 (pts (Ls.flatten ++ T)) ∧ Mod (.slice (some Ad) n c) H H', fun p _ => (m + 40 - p.1.2.1).toNat, ⟨[], L, by simp, by simp, Blk.nil .., Stab.refl _, hrow, Mod.refl _ _⟩, ?_⟩
  rintro ⟨⟨i, j, _⟩, _⟩ H1 ⟨Ls, T, hi, hj, hB, hS, hrow1, hmod1⟩
  simp only at hi hj ⊢
  subst hi; subst hj
  have hl1 := hS.len hs
  rw [List.length_append] at hl1
  refine br (fun q => ?_) fun q => ?_
  · simp only [decide_eq_true_eq] at q
    have e : T.take 20 ++ T.drop 20 = T := List.take_append_drop ..
    have l1 : (T.take 20).length = 20 := by rw [List.length_take]; omega
    have e2 : Ls.flatten ++ T = Ls.flatten ++ T.take 20 ++ T.drop 20 := by rw [List.append_assoc, e]
    rw [e2] at hS hrow1
    refine s_ins hc hs (A := Ls.flatten) (X := T.take 20) (B := T.drop 20) rfl (by omega) hrow1 hn fun H2 hr hmd => ⟨rfl, ⟨Ls ++ [isort (ltc cf) (T.take 20)], T.drop 20, ?_, ?_, hB.snoc (by rw [isort_len, l1]) (isort_srtd hs _), ?_, ?_, hmod1.trans hmd⟩, ?_⟩
    · simp only [List.flatten_append, List.flatten_cons, List.flatten_nil, List.append_nil, List.length_append, isort_len, l1]; omega
    · simp only [List.flatten_append, List.flatten_cons, List.flatten_nil, List.append_nil, List.length_append, isort_len, l1]; rw [w64 (by omega)]; omega
    · have := stab_mid hs hS; simpa using this
    · simpa using hr
    · rw [w64 (by omega)]; omega
  · simp only [decide_eq_false_iff_not] at q
    have e2 : Ls.flatten ++ T = Ls.flatten ++ T ++ [] := by simp
    rw [e2] at hrow1
    refine s_ins hc hs (A := Ls.flatten) (X := T) (B := []) rfl (by omega) hrow1 hn fun H2 hr hmd => ⟨rfl, ?_⟩
    refine ⟨fun p H' => ∃ (k : Nat) (Ls : List (List Pt)) (T : List Pt), p.1.1 = k ∧ 20 ≤ k ∧ k ≤ 2000000 ∧ Blk (ltc cf) k Ls ∧ T.length < k ∧ Srtd (ltc cf) T ∧ Stab (ltc cf) L (Ls.flatten ++ T) ∧ RowAt H' (.slice (some Ad) n c) ty 4 (pts (Ls.flatten ++ T)) ∧ Mod (.slice (some Ad) n c) H H', fun p _ => (4000000 - p.1.1).toNat, ⟨20, Ls, isort (ltc cf) T, rfl, by omega, by omega, hB, by rw [isort_len]; omega, isort_srtd hs _, ?_, by simpa using hr, hmod1.trans hmd⟩, ?_⟩
    · have := stab_mid hs (A := Ls.flatten) (X := T) (B := []) (by simpa using hS); simpa using this
    clear hr hmd hmod1 hrow1 e2 q hl1 hS hB
    rintro ⟨⟨i, _⟩, _⟩ H3 ⟨k, Ls, T, hi, hk, hk2, hB, hT, sT, hS, hrow1, hmod1⟩
    simp only at hi ⊢
    subst hi
    have hl1 := hS.len hs
    rw [List.length_append] at hl1
    have hfl := flat_len hB.len
    refine br (fun q => ?_) fun q => ?_
    · simp only [decide_eq_true_eq] at q
      rw [w64 (k := 2 * (k : Int)) (by omega), w64 (k := (k : Int) * 2) (by omega)]
      refine ⟨fun p H' => ∃ (Ms Ls : List (List Pt)), p.1.1 = Ms.flatten.length ∧ p.1.2.1 = Ms.flatten.length + 2 * k ∧ Blk (ltc cf) (k * 2) Ms ∧ Blk (ltc cf) k Ls ∧ Stab (ltc cf) L (Ms.flatten ++ Ls.flatten ++ T) ∧ RowAt H' (.slice (some Ad) n c) ty 4 (pts (Ms.flatten ++ Ls.flatten ++ T)) ∧ Mod (.slice (some Ad) n c) H H', fun p _ => (m + 2 * k + 2 * k - p.1.2.1).toNat, ⟨[], Ls, by simp, by simp, Blk.nil .., hB, by simpa using hS, by simpa using hrow1, hmod1⟩, ?_⟩
      clear hB hS hrow1 hmod1 hl1 hfl
      rintro ⟨⟨i, j, _⟩, _⟩ H4 ⟨Ms, Ls, hi, hj, hM, hB, hS, hrow1, hmod1⟩
      simp only at hi hj ⊢
      subst hi; subst hj
      have hl1 := hS.len hs
      rw [List.length_append, List.length_append] at hl1
      have hfl := flat_len hB.len
      rw [w64 (k := (Ms.flatten.length : Int) + k) (by omega)]
      refine br (fun q1 => ?_) fun q1 => br (fun q2 => ?_) fun q2 => ?_
      · simp only [decide_eq_true_eq] at q1
        match Ls, hB, hS, hrow1, hl1, hfl with
        | [], _, _, _, hl1, _ => rw [List.flatten_nil, List.length_nil] at hl1; omega
        | [X], _, _, _, hl1, hfl => rw [hfl] at hl1; simp only [List.length_singleton] at hl1; omega
        | X :: Y :: Ls, hB, hS, hrow1, hl1, hfl =>
          obtain ⟨lX, sX, hB⟩ := hB.tail
          obtain ⟨lY, sY, hB⟩ := hB.tail
          have e : Ms.flatten ++ (X :: Y :: Ls).flatten ++ T = Ms.flatten ++ (X ++ Y) ++ (Ls.flatten ++ T) := by simp
          rw [e] at hS hrow1
          refine s_sym hc hs hn _ (A := Ms.flatten) (X := X) (Y := Y) (B := Ls.flatten ++ T) rfl rfl (by omega) (by omega) (by omega) (by omega) sX sY (by simpa using hrow1) fun H5 hr hmd => ⟨rfl, ⟨Ms ++ [isort (ltc cf) (X ++ Y)], Ls, ?_, ?_, hM.snoc (by rw [isort_len, List.length_append]; omega) (isort_srtd hs _), hB, ?_, ?_, hmod1.trans hmd⟩, ?_⟩
          · simp only [List.flatten_append, List.flatten_cons, List.flatten_nil, List.append_nil, List.length_append, isort_len, lX, lY]; omega
          · simp only [List.flatten_append, List.flatten_cons, List.flatten_nil, List.append_nil, List.length_append, isort_len, lX, lY]; rw [w64 (by omega)]; omega
          · have := stab_mid hs hS; simpa using this
          · simpa using hr
          · rw [w64 (by omega)]; omega
      · simp only [decide_eq_false_iff_not, decide_eq_true_eq] at q1 q2
        match Ls, hB, hS, hrow1, hl1, hfl with
        | [], _, _, _, hl1, _ => rw [List.flatten_nil, List.length_nil] at hl1; omega
        | X :: Y :: Ls, _, _, _, hl1, hfl =>
          rw [hfl, List.length_cons, List.length_cons, Nat.add_mul, Nat.add_mul] at hl1; omega
        | [X], hB, hS, hrow1, hl1, hfl =>
          obtain ⟨lX, sX, hB⟩ := hB.tail
          have e : Ms.flatten ++ [X].flatten ++ T = Ms.flatten ++ (X ++ T) ++ [] := by simp
          rw [e] at hS hrow1
          rw [hfl] at hl1
          simp only [List.length_singleton] at hl1
          refine s_sym hc hs hn _ (A := Ms.flatten) (X := X) (Y := T) (B := []) rfl rfl (by omega) (by omega) (by omega) (by omega) sX sT (by simpa using hrow1) fun H5 hr hmd => ⟨rfl, ⟨k * 2, Ms, isort (ltc cf) (X ++ T), by omega, by omega, by omega, hM, by rw [isort_len, List.length_append]; omega, isort_srtd hs _, ?_, by simpa using hr, hmod1.trans hmd⟩, by omega⟩
          have := stab_mid hs hS; simpa using this
      · simp only [decide_eq_false_iff_not] at q1 q2
        match Ls, hB, hS, hrow1, hl1, hfl with
        | [], hB, hS, hrow1, _, _ =>
          exact ⟨⟨k * 2, Ms, T, by omega, by omega, by omega, hM, by omega, sT, by simpa using hS, by simpa using hrow1, hmod1⟩, by omega⟩
        | X :: Y :: Ls, _, _, _, hl1, hfl =>
          rw [hfl, List.length_cons, List.length_cons, Nat.add_mul, Nat.add_mul] at hl1; omega
        | [X], hB, hS, hrow1, hl1, hfl =>
          obtain ⟨lX, sX, hB⟩ := hB.tail
          rw [hfl] at hl1
          simp only [List.length_singleton] at hl1
          have : T = [] := List.length_eq_zero_iff.1 (by omega)
          subst this
          exact ⟨⟨k * 2, Ms, X, by omega, by omega, by omega, hM, by omega, sX, by simpa using hS, by simpa using hrow1, hmod1⟩, by omega⟩
    · simp only [decide_eq_false_iff_not] at q
      have hfin : Ls.flatten ++ T = isort (ltc cf) L := by
        refine isort_eq hs ?_ hS
        match Ls, hB, hl1, hfl with
        | [], _, _, _ => simpa using sT
        | X :: Y :: Ls, _, hl1, hfl => rw [hfl, List.length_cons, List.length_cons, Nat.add_mul, Nat.add_mul] at hl1; omega
        | [X], hB, hl1, hfl =>
          obtain ⟨lX, sX, hB⟩ := hB.tail
          rw [hfl] at hl1
          simp only [List.length_singleton] at hl1
          have : T = [] := List.length_eq_zero_iff.1 (by omega)
          subst this
          simpa using sX
      rw [hfin] at hrow1
      exact h _ hrow1 hmod1
end
end Cr

set_option linter.unusedVariables false
set_option linter.unusedSimpArgs false
namespace Cr
open Go Sx
open Go.Proofs.Try
set_option maxRecDepth 100000
def h_or : Hints := { loops := [(3, ⟨[0, 3, 6, 7], [.f 8 (.int .i64)], []⟩)] }
def h_sum : Hints := { loops := [(3, ⟨[0, 2, 3, 6, 7], [.f 8 (.int .i64)], [.keep 2, .box 3 64 [.f (.int .u64), .f (.int .u64)]]⟩)] }
def h_add : Hints := { ext := [86] }
def nf_nanu (x : Int) (R : Ending → Heap → Prop) (H : Heap) : Prop := R (Ending.returned (Value.bool (x != x))) H
theorem vc_nanu (x : Int) (R : Ending → Heap → Prop) (H : Heap) : vcFun prog { } f83 [SV.c (SC.v (Value.int IntKind.u64 x))] R H = nf_nanu x R H := by kernel_rfl

def nf_nani (x : Int) (R : Ending → Heap → Prop) (H : Heap) : Prop := R (Ending.returned (Value.bool (x != x))) H
theorem vc_nani (x : Int) (R : Ending → Heap → Prop) (H : Heap) : vcFun prog { } f50 [SV.c (SC.v (Value.int IntKind.i64 x))] R H = nf_nani x R H := by kernel_rfl

def nf_cmpu (x : Int) (y : Int) (R : Ending → Heap → Prop) (H : Heap) : Prop := Meets prog (83 : Nat) [Value.int IntKind.u64 x] H fun (e : Ending) (H' : Nat → Option Obj) ↦ ∃ (b : Bool), e = Ending.returned (Value.bool b) ∧ Meets prog (83 : Nat) [Value.int IntKind.u64 y] H' fun (e : Ending) (H' : Nat → Option Obj) ↦ ∃ (b_1 : Bool), e = Ending.returned (Value.bool b_1) ∧ Br b (Br b_1 (R (Ending.returned (Value.int IntKind.i64 (0 : Int))) H') (R (Ending.returned (Value.int IntKind.i64 (-1 : Int))) H')) (Br b_1 (R (Ending.returned (Value.int IntKind.i64 (1 : Int))) H') (Br (decide (x < y)) (R (Ending.returned (Value.int IntKind.i64 (-1 : Int))) H') (Br (decide (x > y)) (R (Ending.returned (Value.int IntKind.i64 (1 : Int))) H') (R (Ending.returned (Value.int IntKind.i64 (0 : Int))) H'))))
theorem vc_cmpu (x : Int) (y : Int) (R : Ending → Heap → Prop) (H : Heap) : vcFun prog { } f73 [SV.c (SC.v (Value.int IntKind.u64 x)), SV.c (SC.v (Value.int IntKind.u64 y))] R H = nf_cmpu x y R H := by kernel_rfl

def nf_cmpi (x : Int) (y : Int) (R : Ending → Heap → Prop) (H : Heap) : Prop := Meets prog (50 : Nat) [Value.int IntKind.i64 x] H fun (e : Ending) (H' : Nat → Option Obj) ↦ ∃ (b : Bool), e = Ending.returned (Value.bool b) ∧ Meets prog (50 : Nat) [Value.int IntKind.i64 y] H' fun (e : Ending) (H' : Nat → Option Obj) ↦ ∃ (b_1 : Bool), e = Ending.returned (Value.bool b_1) ∧ Br b (Br b_1 (R (Ending.returned (Value.int IntKind.i64 (0 : Int))) H') (R (Ending.returned (Value.int IntKind.i64 (-1 : Int))) H')) (Br b_1 (R (Ending.returned (Value.int IntKind.i64 (1 : Int))) H') (Br (decide (x < y)) (R (Ending.returned (Value.int IntKind.i64 (-1 : Int))) H') (Br (decide (x > y)) (R (Ending.returned (Value.int IntKind.i64 (1 : Int))) H') (R (Ending.returned (Value.int IntKind.i64 (0 : Int))) H'))))
theorem vc_cmpi (x : Int) (y : Int) (R : Ending → Heap → Prop) (H : Heap) : vcFun prog { } f37 [SV.c (SC.v (Value.int IntKind.i64 x)), SV.c (SC.v (Value.int IntKind.i64 y))] R H = nf_cmpi x y R H := by kernel_rfl

def nf_cor (a : Option Addr) (n : Nat) (c : Nat) (R : Ending → Heap → Prop) (H : Heap) : Prop := a = a ∧ n = n ∧ c = c ∧ (0 : Int) = (0 : Int) ∧ a = a ∧ n = n ∧ c = c ∧ (↑n : Int) = (↑n : Int) ∧ LoopP (fun (K : (Int × PUnit) × PUnit → (Nat → Option Obj) → Prop) (p : (Int × PUnit) × PUnit) (H : Nat → Option Obj) ↦ Br (decide (p.fst.fst < (↑n : Int))) (((0 : Int) ≤ p.fst.fst ∧ p.fst.fst < (↑n : Int)) ∧ PtrK a fun (A : Addr) ↦ PtrK (some (Addr.add A (Int.toNat p.fst.fst * (1 : Nat)))) fun (a_1 : Addr) ↦ ∃ (n_1 : Int), Heap.has H a_1 [Value.int IntKind.i64 n_1] ∧ Br (n_1 != (0 : Int)) (R (Ending.returned (Value.int IntKind.i64 n_1)) H) (a = a ∧ n = n ∧ c = c ∧ (0 : Int) = (0 : Int) ∧ a = a ∧ n = n ∧ c = c ∧ (↑n : Int) = (↑n : Int) ∧ K ((IntKind.wrap IntKind.i64 (p.fst.fst + (1 : Int)), PUnit.unit), PUnit.unit) H)) (R (Ending.returned (Value.int IntKind.i64 (0 : Int))) H)) (((0 : Int), PUnit.unit), PUnit.unit) H
theorem vc_cor (a : Option Addr) (n : Nat) (c : Nat) (R : Ending → Heap → Prop) (H : Heap) : vcFun prog h_or f47 [SV.c (SC.v (Value.slice a n c))] R H = nf_cor a n c R H := by kernel_rfl

def nf_wcmp (a : Int) (b : Int) (c : Int) (d : Int) (R : Ending → Heap → Prop) (H : Heap) : Prop := ∃ (G : Nat → Option Obj), G ≤ H ∧ Meets prog (73 : Nat) [Value.int IntKind.u64 a, Value.int IntKind.u64 c] H fun (e : Ending) (H' : Nat → Option Obj) ↦ Keep G H H H' ∧ ∃ (n : Int), e = Ending.returned (Value.int IntKind.i64 n) ∧ Meets prog (73 : Nat) [Value.int IntKind.u64 b, Value.int IntKind.u64 d] (delLs H' []) fun (e : Ending) (H'_1 : Nat → Option Obj) ↦ Keep G (delLs H' []) (delLs H' []) H'_1 ∧ ∃ (n_1 : Int), e = Ending.returned (Value.int IntKind.i64 n_1) ∧ ∀ (v : Value) (H' : Nat → Option Obj), delLs H'_1 [] ≤ H' → (∀ (b : Nat), blockOf v = some b → delLs H'_1 [] b = none) → (∀ (b : Nat) (o : Obj), H' b = some o → delLs H'_1 [] b = some o ∨ blockOf v = some b) → RowAt H' v (3 : Nat) (1 : Nat) [[Value.int IntKind.i64 n], [Value.int IntKind.i64 n_1]] → Meets prog (47 : Nat) [v] H' fun (e : Ending) (H'_2 : Nat → Option Obj) ↦ Keep G (delLs H'_1 []) H' H'_2 ∧ ∃ (n : Int), e = Ending.returned (Value.int IntKind.i64 n) ∧ R (Ending.returned (Value.int IntKind.i64 n)) (delLs H'_2 [{ site := (15 : Nat), val := v, kind := LK.row (3 : Nat) (1 : Nat) }])
theorem vc_wcmp (a : Int) (b : Int) (c : Int) (d : Int) (R : Ending → Heap → Prop) (H : Heap) : vcFun prog { } f55 [SV.agg [Seg.c (SC.v (Value.int IntKind.u64 a)), Seg.c (SC.v (Value.int IntKind.u64 b))], SV.agg [Seg.c (SC.v (Value.int IntKind.u64 c)), Seg.c (SC.v (Value.int IntKind.u64 d))]] R H = nf_wcmp a b c d R H := by kernel_rfl

def nf_wgap (a : Int) (b : Int) (R : Ending → Heap → Prop) (H : Heap) : Prop := R (Ending.returned (Value.int IntKind.u32 (IntKind.wrap IntKind.u32 (maxI a b - minI a b)))) H
theorem vc_wgap (a : Int) (b : Int) (R : Ending → Heap → Prop) (H : Heap) : vcFun prog { } f70 [SV.c (SC.v (Value.int IntKind.u32 a)), SV.c (SC.v (Value.int IntKind.u32 b))] R H = nf_wgap a b R H := by kernel_rfl

def nf_wsq (a : Int) (R : Ending → Heap → Prop) (H : Heap) : Prop := Meets prog (81 : Nat) [Value.int IntKind.u64 (IntKind.wrap IntKind.u64 a), Value.int IntKind.u64 (IntKind.wrap IntKind.u64 a)] H fun (e : Ending) (H' : Nat → Option Obj) ↦ ∃ (n : Int), ∃ (n_1 : Int), e = Ending.returned (Value.tuple { toList := [Value.int IntKind.u64 n, Value.int IntKind.u64 n_1] }) ∧ R (Ending.returned (Value.agg { toList := [Value.int IntKind.u64 n, Value.int IntKind.u64 n_1] })) H'
theorem vc_wsq (a : Int) (R : Ending → Heap → Prop) (H : Heap) : vcFun prog { } f69 [SV.c (SC.v (Value.int IntKind.u32 a))] R H = nf_wsq a R H := by kernel_rfl

def nf_wadd (a : Int) (b : Int) (c : Int) (d : Int) (R : Ending → Heap → Prop) (H : Heap) : Prop := ∃ (r1 : Int), ∃ (r2 : Int), CarryAt prog (86 : Nat) b d (0 : Int) r1 r2 ∧ ∃ (r1_1 : Int), ∃ (r2_1 : Int), CarryAt prog (86 : Nat) a c r2 r1_1 r2_1 ∧ R (Ending.returned (Value.agg { toList := [Value.int IntKind.u64 r1_1, Value.int IntKind.u64 r1] })) H
theorem vc_wadd (a : Int) (b : Int) (c : Int) (d : Int) (R : Ending → Heap → Prop) (H : Heap) : vcFun prog h_add f80 [SV.agg [Seg.c (SC.v (Value.int IntKind.u64 a)), Seg.c (SC.v (Value.int IntKind.u64 b))], SV.agg [Seg.c (SC.v (Value.int IntKind.u64 c)), Seg.c (SC.v (Value.int IntKind.u64 d))]] R H = nf_wadd a b c d R H := by kernel_rfl

def nf_wsum (a : Option Addr) (n : Nat) (c : Nat) (R : Ending → Heap → Prop) (H : Heap) : Prop := a = a ∧ n = n ∧ c = c ∧ (0 : Nat) = (0 : Nat) ∧ (0 : Nat) = (0 : Nat) ∧ a = a ∧ n = n ∧ c = c ∧ (↑n : Int) = (↑n : Int) ∧ (0 : Int) = (0 : Int) ∧ (0 : Int) = (0 : Int) ∧ LoopP (fun (K : (Int × PUnit) × PUnit × (Int × Int × PUnit) × PUnit → (Nat → Option Obj) → Prop) (p : (Int × PUnit) × PUnit × (Int × Int × PUnit) × PUnit) (H : Nat → Option Obj) ↦ Br (decide (p.fst.fst < (↑n : Int))) (((0 : Int) ≤ p.fst.fst ∧ p.fst.fst < (↑n : Int)) ∧ PtrK a fun (A : Addr) ↦ PtrK (some (Addr.add A (Int.toNat p.fst.fst * (2 : Nat)))) fun (a_1 : Addr) ↦ ∃ (n_1 : Int), ∃ (n_2 : Int), Heap.has H a_1 [Value.int IntKind.u64 n_1, Value.int IntKind.u64 n_2] ∧ Meets prog (80 : Nat) [Value.agg { toList := [Value.int IntKind.u64 p.snd.snd.fst.fst, Value.int IntKind.u64 p.snd.snd.fst.snd.fst] }, Value.agg { toList := [Value.int IntKind.u64 n_1, Value.int IntKind.u64 n_2] }] H fun (e : Ending) (H' : Nat → Option Obj) ↦ ∃ (n_3 : Int), ∃ (n_4 : Int), e = Ending.returned (Value.agg { toList := [Value.int IntKind.u64 n_3, Value.int IntKind.u64 n_4] }) ∧ a = a ∧ n = n ∧ c = c ∧ (0 : Nat) = (0 : Nat) ∧ (0 : Nat) = (0 : Nat) ∧ a = a ∧ n = n ∧ c = c ∧ (↑n : Int) = (↑n : Int) ∧ (0 : Int) = (0 : Int) ∧ (0 : Int) = (0 : Int) ∧ K ((IntKind.wrap IntKind.i64 (p.fst.fst + (1 : Int)), PUnit.unit), PUnit.unit, (n_3, n_4, PUnit.unit), PUnit.unit) H') (R (Ending.returned (Value.agg { toList := [Value.int IntKind.u64 p.snd.snd.fst.fst, Value.int IntKind.u64 p.snd.snd.fst.snd.fst] })) H)) (((0 : Int), PUnit.unit), PUnit.unit, ((0 : Int), (0 : Int), PUnit.unit), PUnit.unit) H
theorem vc_wsum (a : Option Addr) (n : Nat) (c : Nat) (R : Ending → Heap → Prop) (H : Heap) : vcFun prog h_sum f68 [SV.c (SC.v (Value.slice a n c))] R H = nf_wsum a n c R H := by kernel_rfl

def nf_wbet (a : Int) (b : Int) (c : Int) (d : Int) (R : Ending → Heap → Prop) (H : Heap) : Prop := Meets prog (70 : Nat) [Value.int IntKind.u32 a, Value.int IntKind.u32 c] H fun (e : Ending) (H' : Nat → Option Obj) ↦ ∃ (n : Int), e = Ending.returned (Value.int IntKind.u32 n) ∧ Meets prog (69 : Nat) [Value.int IntKind.u32 n] H' fun (e : Ending) (H' : Nat → Option Obj) ↦ ∃ (n : Int), ∃ (n_1 : Int), e = Ending.returned (Value.agg { toList := [Value.int IntKind.u64 n, Value.int IntKind.u64 n_1] }) ∧ Meets prog (70 : Nat) [Value.int IntKind.u32 b, Value.int IntKind.u32 d] H' fun (e : Ending) (H' : Nat → Option Obj) ↦ ∃ (n_2 : Int), e = Ending.returned (Value.int IntKind.u32 n_2) ∧ Meets prog (69 : Nat) [Value.int IntKind.u32 n_2] H' fun (e : Ending) (H' : Nat → Option Obj) ↦ ∃ (n_3 : Int), ∃ (n_4 : Int), e = Ending.returned (Value.agg { toList := [Value.int IntKind.u64 n_3, Value.int IntKind.u64 n_4] }) ∧ ∀ (v : Value) (H'_1 : Nat → Option Obj), H' ≤ H'_1 → (∀ (b : Nat), blockOf v = some b → H' b = none) → (∀ (b : Nat) (o : Obj), H'_1 b = some o → H' b = some o ∨ blockOf v = some b) → RowAt H'_1 v (64 : Nat) (2 : Nat) [[Value.int IntKind.u64 n, Value.int IntKind.u64 n_1], [Value.int IntKind.u64 n_3, Value.int IntKind.u64 n_4]] → Meets prog (68 : Nat) [v] H'_1 fun (e : Ending) (H' : Nat → Option Obj) ↦ ∃ (n : Int), ∃ (n_5 : Int), e = Ending.returned (Value.agg { toList := [Value.int IntKind.u64 n, Value.int IntKind.u64 n_5] }) ∧ ∃ (es : List (List Value)), RowAt H' v (64 : Nat) (2 : Nat) es ∧ R (Ending.returned (Value.agg { toList := [Value.int IntKind.u64 n, Value.int IntKind.u64 n_5] })) (Heap.delO H' (blockOf v))
theorem vc_wbet (a : Int) (b : Int) (c : Int) (d : Int) (R : Ending → Heap → Prop) (H : Heap) : vcFun prog { } f51 [SV.c (SC.v (Value.int IntKind.u32 a)), SV.c (SC.v (Value.int IntKind.u32 b)), SV.c (SC.v (Value.int IntKind.u32 c)), SV.c (SC.v (Value.int IntKind.u32 d))] R H = nf_wbet a b c d R H := by kernel_rfl

def nf_mul64 (a : Int) (b : Int) (R : Ending → Heap → Prop) (H : Heap) : Prop := (0 : Int) ≤ (32 : Int) ∧ (0 : Int) ≤ (32 : Int) ∧ (0 : Int) ≤ (32 : Int) ∧ (0 : Int) ≤ (32 : Int) ∧ (0 : Int) ≤ (32 : Int) ∧ R (Ending.returned (Value.tuple { toList := [Value.int IntKind.u64 (IntKind.wrap IntKind.u64 (IntKind.wrap IntKind.u64 (IntKind.wrap IntKind.u64 (shrI IntKind.u64 a (32 : Int) * shrI IntKind.u64 b (32 : Int)) + shrI IntKind.u64 (IntKind.wrap IntKind.u64 (IntKind.wrap IntKind.u64 (shrI IntKind.u64 a (32 : Int) * bitOp BinOp.and IntKind.u64 b (4294967295 : Int)) + shrI IntKind.u64 (IntKind.wrap IntKind.u64 (bitOp BinOp.and IntKind.u64 a (4294967295 : Int) * bitOp BinOp.and IntKind.u64 b (4294967295 : Int))) (32 : Int))) (32 : Int)) + shrI IntKind.u64 (IntKind.wrap IntKind.u64 (bitOp BinOp.and IntKind.u64 (IntKind.wrap IntKind.u64 (IntKind.wrap IntKind.u64 (shrI IntKind.u64 a (32 : Int) * bitOp BinOp.and IntKind.u64 b (4294967295 : Int)) + shrI IntKind.u64 (IntKind.wrap IntKind.u64 (bitOp BinOp.and IntKind.u64 a (4294967295 : Int) * bitOp BinOp.and IntKind.u64 b (4294967295 : Int))) (32 : Int))) (4294967295 : Int) + IntKind.wrap IntKind.u64 (bitOp BinOp.and IntKind.u64 a (4294967295 : Int) * shrI IntKind.u64 b (32 : Int)))) (32 : Int))), Value.int IntKind.u64 (IntKind.wrap IntKind.u64 (a * b))] })) H
theorem vc_mul64 (a : Int) (b : Int) (R : Ending → Heap → Prop) (H : Heap) : vcFun prog { } f81 [SV.c (SC.v (Value.int IntKind.u64 a)), SV.c (SC.v (Value.int IntKind.u64 b))] R H = nf_mul64 a b R H := by kernel_rfl

def nf_rgap (a : Int) (b : Int) (R : Ending → Heap → Prop) (H : Heap) : Prop := Br (decide (a > b)) (R (Ending.returned (Value.int IntKind.u64 (IntKind.wrap IntKind.u64 (IntKind.wrap IntKind.u32 (a - b))))) H) (R (Ending.returned (Value.int IntKind.u64 (IntKind.wrap IntKind.u64 (IntKind.wrap IntKind.u32 (b - a))))) H)
theorem vc_rgap (a : Int) (b : Int) (R : Ending → Heap → Prop) (H : Heap) : vcFun prog { } f43 [SV.c (SC.v (Value.int IntKind.u32 a)), SV.c (SC.v (Value.int IntKind.u32 b))] R H = nf_rgap a b R H := by kernel_rfl

def nf_rbet (a : Int) (b : Int) (c : Int) (d : Int) (R : Ending → Heap → Prop) (H : Heap) : Prop := Meets prog (43 : Nat) [Value.int IntKind.u32 a, Value.int IntKind.u32 c] H fun (e : Ending) (H' : Nat → Option Obj) ↦ ∃ (n : Int), e = Ending.returned (Value.int IntKind.u64 n) ∧ Meets prog (43 : Nat) [Value.int IntKind.u32 a, Value.int IntKind.u32 c] H' fun (e : Ending) (H' : Nat → Option Obj) ↦ ∃ (n_1 : Int), e = Ending.returned (Value.int IntKind.u64 n_1) ∧ Meets prog (43 : Nat) [Value.int IntKind.u32 b, Value.int IntKind.u32 d] H' fun (e : Ending) (H' : Nat → Option Obj) ↦ ∃ (n_2 : Int), e = Ending.returned (Value.int IntKind.u64 n_2) ∧ Meets prog (43 : Nat) [Value.int IntKind.u32 b, Value.int IntKind.u32 d] H' fun (e : Ending) (H' : Nat → Option Obj) ↦ ∃ (n_3 : Int), e = Ending.returned (Value.int IntKind.u64 n_3) ∧ Br (decide (IntKind.wrap IntKind.u64 (IntKind.wrap IntKind.u64 (n * n_1) + IntKind.wrap IntKind.u64 (n_2 * n_3)) < IntKind.wrap IntKind.u64 (n * n_1))) (R (Ending.returned (Value.tuple { toList := [Value.int IntKind.u64 (1 : Int), Value.int IntKind.u64 (IntKind.wrap IntKind.u64 (IntKind.wrap IntKind.u64 (n * n_1) + IntKind.wrap IntKind.u64 (n_2 * n_3)))] })) H') (R (Ending.returned (Value.tuple { toList := [Value.int IntKind.u64 (0 : Int), Value.int IntKind.u64 (IntKind.wrap IntKind.u64 (IntKind.wrap IntKind.u64 (n * n_1) + IntKind.wrap IntKind.u64 (n_2 * n_3)))] })) H')
theorem vc_rbet (a : Int) (b : Int) (c : Int) (d : Int) (R : Ending → Heap → Prop) (H : Heap) : vcFun prog { } f30 [SV.c (SC.v (Value.int IntKind.u32 a)), SV.c (SC.v (Value.int IntKind.u32 b)), SV.c (SC.v (Value.int IntKind.u32 c)), SV.c (SC.v (Value.int IntKind.u32 d))] R H = nf_rbet a b c d R H := by kernel_rfl

def nf_rless (a : Int) (b : Int) (c : Int) (d : Int) (R : Ending → Heap → Prop) (H : Heap) : Prop := Br (decide (a < c)) (R (Ending.returned (Value.bool true)) H) (Br (a == c) (R (Ending.returned (Value.bool (decide (b < d)))) H) (R (Ending.returned (Value.bool false)) H))
theorem vc_rless (a : Int) (b : Int) (c : Int) (d : Int) (R : Ending → Heap → Prop) (H : Heap) : vcFun prog { } f31 [SV.c (SC.v (Value.int IntKind.u64 a)), SV.c (SC.v (Value.int IntKind.u64 b)), SV.c (SC.v (Value.int IntKind.u64 c)), SV.c (SC.v (Value.int IntKind.u64 d))] R H = nf_rless a b c d R H := by kernel_rfl

end Cr

set_option linter.unusedVariables false
set_option linter.unusedSimpArgs false
namespace Cr
open Go Sx
open Go.Proofs.Try
set_option maxRecDepth 100000
theorem heap_trans {A B D : Heap} (h : A ≤ B) (h' : B ≤ D) : A ≤ D := fun b o e => h' b o (h b o e)
/-- What was lent is taken off again. -/
theorem lend_off {H H' : Heap} {v : Value} (hle : H ≤ H') (hf : ∀ b, blockOf v = some b → H b = none) (hb : ∀ b o, H' b = some o → H b = some o ∨ blockOf v = some b) : H'.delO (blockOf v) = H := by
  funext b
  cases e : blockOf v with
  | none =>
    show H' b = H b
    cases q : H' b with
    | none => cases q2 : H b with
      | none => rfl
      | some o => rw [hle _ _ q2] at q; cases q
    | some o =>
      rcases hb b o q with h | h
      · exact h.symm
      · rw [e] at h; cases h
  | some k =>
    show (if b = k then none else H' b) = H b
    by_cases hbk : b = k
    · subst hbk; rw [if_pos rfl, hf b e]
    · rw [if_neg hbk]
      cases q : H' b with
      | none => cases q2 : H b with
        | none => rfl
        | some o => rw [hle _ _ q2] at q; cases q
      | some o =>
        rcases hb b o q with h | h
        · exact h.symm
        · rw [e] at h; cases h; exact (hbk rfl).elim
theorem rowat_known {H : Heap} {v : Value} {ty sz : Nat} {es : List (List Value)} (h : RowAt H v ty sz es) {b : Nat} (hb : blockOf v = some b) : H b ≠ none := by
  rcases h with ⟨rfl, _⟩ | ⟨b', o, cap, c, rfl, h1, _⟩
  · cases hb
  · simp only [blockOf, Option.some.injEq] at hb
    subst hb
    rw [h1]; simp
theorem row_delO {H : Heap} {v : Value} {ty sz : Nat} {es : List (List Value)} {o : Option Nat} (h : RowAt H v ty sz es) (hn : ∀ b, blockOf v = some b → o ≠ some b) : RowAt (H.delO o) v ty sz es := by
  rcases h with h | ⟨b, off, cap, c, rfl, h1, h2⟩
  · exact .inl h
  · refine .inr ⟨b, off, cap, c, rfl, ?_, h2⟩
    cases o with
    | none => exact h1
    | some k => show (if b = k then none else H b) = _; rw [if_neg (fun e => hn b rfl (by rw [e]))]; exact h1
theorem wi64 {k : Int} (h : -9223372036854775808 ≤ k ∧ k ≤ 9223372036854775807) : IntKind.i64.wrap k = k := IntWalk.i64_in _ (by omega)
theorem wu64 {k : Int} (h : 0 ≤ k ∧ k ≤ 18446744073709551615) : IntKind.u64.wrap k = k := IntWalk.u64_in _ (by omega)
theorem wu32 {k : Int} (h : 0 ≤ k ∧ k ≤ 4294967295) : IntKind.u32.wrap k = k := IntWalk.u32_in _ (by omega)
theorem shr32 {a : Nat} : shrI .u64 (a : Int) 32 = ((a / 4294967296 : Nat) : Int) := by
  show ((a : Int).fdiv (2 ^ 32)) = _
  rw [Int.fdiv_eq_ediv_of_nonneg _ (by decide)]
  rfl
theorem mask32 {a : Nat} (h : a < 18446744073709551616) : bitOp .and .u64 (a : Int) 4294967295 = ((a % 4294967296 : Nat) : Int) := by
  have e : (BitVec.ofInt 64 (a : Int) &&& BitVec.ofInt 64 4294967295).toNat = a % 4294967296 := by
    rw [BitVec.toNat_and, BitVec.toNat_ofInt, BitVec.toNat_ofInt]
    have e1 : ((a : Int) % ((2 ^ 64 : Nat) : Int)).toNat = a := by omega
    have e2 : ((4294967295 : Int) % ((2 ^ 64 : Nat) : Int)).toNat = 2 ^ 32 - 1 := by decide
    rw [e1, e2, Nat.and_two_pow_sub_one_eq_mod]
  show IntKind.u64.wrap ((BitVec.ofInt 64 (a : Int) &&& BitVec.ofInt 64 4294967295).toNat : Int) = _
  rw [e]
  exact wu64 (by omega)
theorem wN {a : Nat} (ha : a < 18446744073709551616) : IntKind.u64.wrap (a : Int) = (a : Int) := wu64 (by omega)
theorem wM {a : Nat} : IntKind.u64.wrap (a : Int) = ((a % 18446744073709551616 : Nat) : Int) := by rw [IntKind.wrap_u64]; omega
theorem mulN (a b : Nat) : (a : Int) * (b : Int) = ((a * b : Nat) : Int) := (Int.natCast_mul a b).symm
theorem addN (a b : Nat) : (a : Int) + (b : Int) = ((a + b : Nat) : Int) := (Int.natCast_add a b).symm
/-- -1, 0, 1. -/
def sgn3 (x y : Int) : Int := if x < y then -1 else if x > y then 1 else 0
/-- The first that is not 0. -/
def orL : List Int → Int
  | [] => 0
  | x :: r => if x ≠ 0 then x else orL r
abbrev dLt (a b c d : Int) : Prop := a < c ∨ (a = c ∧ b < d)
abbrev dV (a b : Int) : Value := .agg { toList := [.int .u64 a, .int .u64 b] }
section
variable {H : Heap} {R : Ending → Heap → Prop}
theorem s_nanu {x : Int} (k : R (.returned (.bool false)) H) : Meets prog 83 [.int .u64 x] H R := by
  refine spec_of func83 (by kernel_rfl) (fun t h => by cases h) ?_ (vc_nanu x R H) ?_
  · simp [argsR, SV.rep, SC.rep, one]
  unfold nf_nanu
  rw [bne_self_eq_false]
  exact k
theorem s_nani {x : Int} (k : R (.returned (.bool false)) H) : Meets prog 50 [.int .i64 x] H R := by
  refine spec_of func50 (by kernel_rfl) (fun t h => by cases h) ?_ (vc_nani x R H) ?_
  · simp [argsR, SV.rep, SC.rep, one]
  unfold nf_nani
  rw [bne_self_eq_false]
  exact k
theorem sgn3_br {x y : Int} {Q : Int → Prop} (k : Q (sgn3 x y)) : Br (decide (x < y)) (Q (-1)) (Br (decide (x > y)) (Q 1) (Q 0)) := by
  unfold sgn3 at k
  refine br (fun q => ?_) fun q => br (fun q2 => ?_) fun q2 => ?_
  · rw [if_pos (by simpa using q)] at k; exact k
  · rw [if_neg (by simpa using q), if_pos (by simpa using q2)] at k; exact k
  · rw [if_neg (by simpa using q), if_neg (by simpa using q2)] at k; exact k
theorem s_cmpu {x y : Int} (k : R (.returned (vi (sgn3 x y))) H) : Meets prog 73 [.int .u64 x, .int .u64 y] H R := by
  refine spec_of func73 (by kernel_rfl) (fun t h => by cases h) ?_ (vc_cmpu x y R H) ?_
  · simp [argsR, SV.rep, SC.rep, one]
  unfold nf_cmpu
  refine s_nanu ⟨false, rfl, s_nanu ⟨false, rfl, br (fun q => by cases q) fun _ => br (fun q => by cases q) fun _ => ?_⟩⟩
  exact sgn3_br (Q := fun n => R (.returned (vi n)) H) k
theorem s_cmpi {x y : Int} (k : R (.returned (vi (sgn3 x y))) H) : Meets prog 37 [vi x, vi y] H R := by
  refine spec_of func37 (by kernel_rfl) (fun t h => by cases h) ?_ (vc_cmpi x y R H) ?_
  · simp [argsR, SV.rep, SC.rep, one]
  unfold nf_cmpi
  refine s_nani ⟨false, rfl, s_nani ⟨false, rfl, br (fun q => by cases q) fun _ => br (fun q => by cases q) fun _ => ?_⟩⟩
  exact sgn3_br (Q := fun n => R (.returned (vi n)) H) k
@[reducible] def cells (l : List Int) : List (List Value) := l.map fun x => [vi x]
theorem ir_get {H : Heap} {a : Option Addr} {n cp : Nat} {l : List Int} (h : SliceAt H (.slice a n cp) 1 (cells l)) {i : Nat} {x : Int} (hx : l[i]? = some x) : ∃ A, a = some A ∧ H.has (A.add (i * 1)) [vi x] := by
  obtain ⟨A, e, _, g⟩ := slice_get h (i := i) (e := [vi x]) (by simp [cells, hx])
  exact ⟨A, e, g⟩
theorem s_cor {v : Value} {l : List Int} (h : SliceAt H v 1 (cells l)) (hl : l.length ≤ 10000000000000) (k : R (.returned (vi (orL l))) H) : Meets prog 47 [v] H R := by
  obtain ⟨a, n, c, e, hn⟩ := h
  subst e
  have h : SliceAt H (.slice a n c) 1 (cells l) := ⟨a, n, c, rfl, hn⟩
  have hln : l.length = n := by simpa [cells] using hn.1
  refine spec_of func47 (by kernel_rfl) (fun t h => by cases h) ?_ (vc_cor a n c R H) ?_
  · simp [argsR, SV.rep, SC.rep, one]
  unfold nf_cor
  simp only [true_and]
  refine ⟨fun p H' => ∃ t : Nat, p.1.1 = (t : Int) ∧ t ≤ n ∧ orL l = orL (l.drop t) ∧ H' = H, fun p _ => (n - p.1.1).toNat, ⟨0, rfl, by omega, by simp, rfl⟩, ?_⟩
  rintro ⟨⟨i, _⟩, _⟩ H1 ⟨t, hi, ht, f, rfl⟩
  simp only at hi ⊢
  subst hi
  refine br (fun q1 => ?_) fun q1 => ?_
  · simp only [decide_eq_true_eq] at q1
    obtain ⟨y, hd, htk, hx⟩ := drop_cons (l := l) (k := t) (by omega)
    obtain ⟨A, e, g1⟩ := ir_get h (i := t) hx
    subst e
    refine ⟨⟨by omega, by omega⟩, ptr rfl (ptr rfl ⟨_, g1, br (fun q2 => ?_) fun q2 => ?_⟩)⟩
    · rw [f, hd, orL, if_pos (by simpa using q2)] at k
      exact k
    · rw [wi64 (by omega)]
      refine ⟨⟨t + 1, by omega, by omega, ?_, by trivial⟩, by omega⟩
      rw [f, hd, orL, if_neg (by simpa using q2)]
  · simp only [decide_eq_false_iff_not] at q1
    rw [f, List.drop_of_length_le (by omega)] at k
    exact k
def cmpD (a b c d : Int) : Int := orL [sgn3 a c, sgn3 b d]
theorem s_wcmp {a b c d : Int} (k : R (.returned (vi (cmpD a b c d))) H) : Meets prog 55 [dV a b, dV c d] H R := by
  refine spec_of func55 (by kernel_rfl) (fun t h => by cases h) ?_ (vc_wcmp a b c d R H) ?_
  · simp [argsR, SV.rep, SC.rep, one, SegsRep]
  unfold nf_wcmp
  refine ⟨H, fun _ _ e => e, s_cmpu ⟨keep_same _ _ _, _, rfl, s_cmpu ⟨keep_same _ _ _, _, rfl, fun v H' hle hf hb hrow => ?_⟩⟩⟩
  simp only [delLs_nil] at hle hf hb ⊢
  refine s_cor (l := [sgn3 a c, sgn3 b d]) (row_slice hrow) (by simp) ⟨keep_same _ _ _, _, rfl, ?_⟩
  show R _ (Heap.delO H' (blockOf v))
  rw [lend_off hle hf hb]
  exact k
theorem maxI_eq (a b : Int) : maxI a b = max a b := by unfold maxI; split <;> omega
theorem minI_eq (a b : Int) : minI a b = min a b := by unfold minI; split <;> omega
abbrev U32 (x : Int) : Prop := 0 ≤ x ∧ x ≤ 4294967295
def gapI (a b : Int) : Int := max a b - min a b
theorem gap_in {a b : Int} (ha : U32 a) (hb : U32 b) : U32 (gapI a b) := by unfold gapI; omega
theorem s_wgap {a b : Int} (ha : U32 a) (hb : U32 b) (k : R (.returned (.int .u32 (gapI a b))) H) : Meets prog 70 [.int .u32 a, .int .u32 b] H R := by
  refine spec_of func70 (by kernel_rfl) (fun t h => by cases h) ?_ (vc_wgap a b R H) ?_
  · simp [argsR, SV.rep, SC.rep, one]
  unfold nf_wgap
  have := gap_in ha hb; unfold gapI at this k
  rw [maxI_eq, minI_eq, wu32 this]
  exact k
theorem s_mul64 {a b : Nat} (ha : a < 18446744073709551616) (hb : b < 18446744073709551616) (k : R (.returned (.tuple #[.int .u64 ((a * b / 18446744073709551616 : Nat) : Int), .int .u64 ((a * b % 18446744073709551616 : Nat) : Int)])) H) :
    Meets prog 81 [.int .u64 (a : Int), .int .u64 (b : Int)] H R := by
  refine spec_of func81 (by kernel_rfl) (fun t h => by cases h) ?_ (vc_mul64 (a : Int) (b : Int) R H) ?_
  · simp [argsR, SV.rep, SC.rep, one]
  unfold nf_mul64
  obtain ⟨bd, bt, bw, hhi⟩ := Go.Lib.mul64_hi a b ha hb
  have ba := Go.Lib.half_mul_le (a := a / 4294967296) (b := b / 4294967296) (by omega) (by omega)
  have bb := Go.Lib.half_mul_le (a := a / 4294967296) (b := b % 4294967296) (by omega) (by omega)
  have bc := Go.Lib.half_mul_le (a := a % 4294967296) (b := b / 4294967296) (by omega) (by omega)
  have ba' : a / 4294967296 * (b / 4294967296) < 18446744073709551616 := by omega
  have bb' : a / 4294967296 * (b % 4294967296) < 18446744073709551616 := by omega
  have bc' : a % 4294967296 * (b / 4294967296) < 18446744073709551616 := by omega
  have bh1 : a / 4294967296 * (b / 4294967296) + (a / 4294967296 * (b % 4294967296) + a % 4294967296 * (b % 4294967296) / 4294967296) / 4294967296 < 18446744073709551616 := by omega
  have bh : a / 4294967296 * (b / 4294967296) + (a / 4294967296 * (b % 4294967296) + a % 4294967296 * (b % 4294967296) / 4294967296) / 4294967296 + ((a / 4294967296 * (b % 4294967296) + a % 4294967296 * (b % 4294967296) / 4294967296) % 4294967296 + a % 4294967296 * (b / 4294967296)) / 4294967296 < 18446744073709551616 := by omega
  refine ⟨by decide, by decide, by decide, by decide, by decide, ?_⟩
  simp only [mask32 ha, mask32 hb, shr32, mulN, addN, wN bd, wN bb', wN bt, mask32 bt, wN bc', wN bw, wN ba', wN bh1, wN bh, wM (a := a * b)]
  rw [hhi]
  exact k
theorem s_wsq {a : Int} (ha : U32 a) (k : R (.returned (dV 0 (a * a))) H) : Meets prog 69 [.int .u32 a] H R := by
  refine spec_of func69 (by kernel_rfl) (fun t h => by cases h) ?_ (vc_wsq a R H) ?_
  · simp [argsR, SV.rep, SC.rep, one]
  unfold nf_wsq
  obtain ⟨n, rfl⟩ := Int.eq_ofNat_of_zero_le ha.1
  have hn : n ≤ 4294967295 := by omega
  rw [wN (by omega)]
  have hm : n * n ≤ 4294967295 * 4294967295 := Nat.mul_le_mul hn hn
  refine s_mul64 (by omega) (by omega) ⟨_, _, rfl, ?_⟩
  rw [Nat.div_eq_of_lt (by omega), Nat.mod_eq_of_lt (by omega), ← mulN]
  exact k
theorem extAdd : ExtOK prog 86 add64Entry := ⟨f86, func86, by kernel_rfl, by kernel_rfl, by kernel_rfl, by kernel_rfl⟩
theorem s_wadd {a b c d : Int} (ha : 0 ≤ a) (hb : 0 ≤ b) (hc : 0 ≤ c) (hd : 0 ≤ d) (hb2 : b ≤ 18446744073709551615) (hd2 : d ≤ 18446744073709551615)
    (k : R (.returned (dV ((a + c + (b + d) / 18446744073709551616) % 18446744073709551616) ((b + d) % 18446744073709551616))) H) : Meets prog 80 [dV a b, dV c d] H R := by
  refine spec_of func80 (by kernel_rfl) (fun t h => by cases h) ?_ (vc_wadd a b c d R H) ?_
  · simp [argsR, SV.rep, SC.rep, one, SegsRep]
  unfold nf_wadd
  have e : b + d + 0 = b + d := by omega
  refine ⟨_, _, .inl ⟨extAdd, hb, hd, by decide, by decide, rfl, rfl⟩, ?_⟩
  rw [e]
  exact ⟨_, _, .inl ⟨extAdd, ha, hc, by omega, by omega, rfl, rfl⟩, k⟩
/-- A distance. -/
abbrev dOf (n : Int) : Value := dV (n / 18446744073709551616) (n % 18446744073709551616)
@[reducible] def dC (n : Int) : List Value := [.int .u64 (n / 18446744073709551616), .int .u64 (n % 18446744073709551616)]
theorem wadd_of {m n : Int} (hm : 0 ≤ m) (hn : 0 ≤ n) (hs : m + n < 340282366920938463463374607431768211456) (k : R (.returned (dOf (m + n))) H) : Meets prog 80 [dOf m, dOf n] H R := by
  refine s_wadd (by omega) (by omega) (by omega) (by omega) (by omega) (by omega) ?_
  have e1 : (m % 18446744073709551616 + n % 18446744073709551616) % 18446744073709551616 = (m + n) % 18446744073709551616 := by omega
  have e2 : (m / 18446744073709551616 + n / 18446744073709551616 + (m % 18446744073709551616 + n % 18446744073709551616) / 18446744073709551616) % 18446744073709551616 = (m + n) / 18446744073709551616 := by omega
  rw [e1, e2]
  exact k
theorem s_wsum {v : Value} {m n : Int} (h : SliceAt H v 2 [dC m, dC n]) (hm : 0 ≤ m ∧ m < 18446744073709551616) (hn : 0 ≤ n ∧ n < 18446744073709551616) (k : R (.returned (dOf (m + n))) H) : Meets prog 68 [v] H R := by
  obtain ⟨a, w, c, e, hn'⟩ := h
  subst e
  have h : SliceAt H (.slice a w c) 2 [dC m, dC n] := ⟨a, w, c, rfl, hn'⟩
  obtain rfl : 2 = w := by simpa using hn'.1
  refine spec_of func68 (by kernel_rfl) (fun t h => by cases h) ?_ (vc_wsum a 2 c R H) ?_
  · simp [argsR, SV.rep, SC.rep, one]
  unfold nf_wsum
  simp only [true_and]
  refine ⟨fun p H' => H' = H ∧ ((p.1.1 = 0 ∧ p.2.2.1.1 = 0 ∧ p.2.2.1.2.1 = 0) ∨ (p.1.1 = 1 ∧ p.2.2.1.1 = m / 18446744073709551616 ∧ p.2.2.1.2.1 = m % 18446744073709551616) ∨ (p.1.1 = 2 ∧ p.2.2.1.1 = (m + n) / 18446744073709551616 ∧ p.2.2.1.2.1 = (m + n) % 18446744073709551616)), fun p _ => (2 - p.1.1).toNat, ⟨rfl, .inl ⟨rfl, rfl, rfl⟩⟩, ?_⟩
  rintro ⟨⟨i, _⟩, _, ⟨x, y, _⟩, _⟩ H1 ⟨rfl, hq⟩
  simp only at hq ⊢
  rcases hq with ⟨rfl, rfl, rfl⟩ | ⟨rfl, rfl, rfl⟩ | ⟨rfl, rfl, rfl⟩
  · refine br (fun _ => ?_) fun q => by simp at q
    obtain ⟨A, e, _, g⟩ := slice_get h (i := 0) (e := dC m) rfl
    subst e
    refine ⟨by decide, ptr rfl (ptr rfl ⟨_, _, g, ?_⟩)⟩
    refine wadd_of (m := 0) (n := m) (by omega) (by omega) (by omega) ?_
    rw [Int.zero_add]
    refine ⟨_, _, rfl, ?_⟩
    exact ⟨⟨rfl, .inr (.inl ⟨rfl, rfl, rfl⟩)⟩, by decide⟩
  · refine br (fun _ => ?_) fun q => by simp at q
    obtain ⟨A, e, _, g⟩ := slice_get h (i := 1) (e := dC n) rfl
    subst e
    refine ⟨by decide, ptr rfl (ptr rfl ⟨_, _, g, ?_⟩)⟩
    refine wadd_of (m := m) (n := n) (by omega) (by omega) (by omega) ⟨_, _, rfl, ?_⟩
    exact ⟨⟨rfl, .inr (.inr ⟨rfl, rfl, rfl⟩)⟩, by decide⟩
  · exact br (fun q => by simp at q) fun _ => k
/-- The squared distance. -/
def sqd (a b c d : Int) : Int := gapI a c * gapI a c + gapI b d * gapI b d
theorem sq_in {a : Int} (h : U32 a) : 0 ≤ a * a ∧ a * a ≤ 18446744065119617025 :=
  ⟨Int.mul_nonneg h.1 h.1, by have := Int.mul_le_mul h.2 h.2 h.1 (by decide); exact this⟩
theorem s_wbet {a b c d : Int} (ha : U32 a) (hb : U32 b) (hc : U32 c) (hd : U32 d) (k : R (.returned (dOf (sqd a b c d))) H) : Meets prog 51 [.int .u32 a, .int .u32 b, .int .u32 c, .int .u32 d] H R := by
  refine spec_of func51 (by kernel_rfl) (fun t h => by cases h) ?_ (vc_wbet a b c d R H) ?_
  · simp [argsR, SV.rep, SC.rep, one]
  unfold nf_wbet
  have h1 := sq_in (gap_in ha hc)
  have h2 := sq_in (gap_in hb hd)
  refine s_wgap ha hc ⟨_, rfl, s_wsq (gap_in ha hc) ⟨_, _, rfl, s_wgap hb hd ⟨_, rfl, s_wsq (gap_in hb hd) ⟨_, _, rfl, fun v H' hle hf hb' hrow => ?_⟩⟩⟩⟩
  have e1 : dC (gapI a c * gapI a c) = [.int .u64 0, .int .u64 (gapI a c * gapI a c)] := by
    unfold dC; rw [Int.ediv_eq_zero_of_lt h1.1 (by omega), Int.emod_eq_of_lt h1.1 (by omega)]
  have e2 : dC (gapI b d * gapI b d) = [.int .u64 0, .int .u64 (gapI b d * gapI b d)] := by
    unfold dC; rw [Int.ediv_eq_zero_of_lt h2.1 (by omega), Int.emod_eq_of_lt h2.1 (by omega)]
  rw [← e1, ← e2] at hrow
  refine s_wsum (row_slice hrow) ⟨h1.1, by omega⟩ ⟨h2.1, by omega⟩ ⟨_, _, rfl, _, hrow, ?_⟩
  rw [lend_off hle hf hb']
  exact k
theorem s_rgap {a b : Int} (ha : U32 a) (hb : U32 b) (k : R (.returned (.int .u64 (gapI a b))) H) : Meets prog 43 [.int .u32 a, .int .u32 b] H R := by
  refine spec_of func43 (by kernel_rfl) (fun t h => by cases h) ?_ (vc_rgap a b R H) ?_
  · simp [argsR, SV.rep, SC.rep, one]
  unfold nf_rgap
  unfold gapI at k
  refine br (fun q => ?_) fun q => ?_
  · simp at q
    rw [wu32 (by omega), wu64 (by omega), show a - b = max a b - min a b by omega]
    exact k
  · simp at q
    rw [wu32 (by omega), wu64 (by omega), show b - a = max a b - min a b by omega]
    exact k
theorem s_rbet {a b c d : Int} (ha : U32 a) (hb : U32 b) (hc : U32 c) (hd : U32 d) (k : R (.returned (.tuple #[.int .u64 (sqd a b c d / 18446744073709551616), .int .u64 (sqd a b c d % 18446744073709551616)])) H) :
    Meets prog 30 [.int .u32 a, .int .u32 b, .int .u32 c, .int .u32 d] H R := by
  refine spec_of func30 (by kernel_rfl) (fun t h => by cases h) ?_ (vc_rbet a b c d R H) ?_
  · simp [argsR, SV.rep, SC.rep, one]
  unfold nf_rbet
  have h1 := sq_in (gap_in ha hc)
  have h2 := sq_in (gap_in hb hd)
  refine s_rgap ha hc ⟨_, rfl, s_rgap ha hc ⟨_, rfl, s_rgap hb hd ⟨_, rfl, s_rgap hb hd ⟨_, rfl, ?_⟩⟩⟩⟩
  unfold sqd at k
  rw [wu64 (k := gapI a c * gapI a c) (by omega), wu64 (k := gapI b d * gapI b d) (by omega)]
  generalize gapI a c * gapI a c = x at *
  generalize gapI b d * gapI b d = y at *
  have e : IntKind.u64.wrap (x + y) = (x + y) % 18446744073709551616 := by rw [IntKind.wrap_u64]
  rw [e]
  refine br (fun q => ?_) fun q => ?_
  · simp at q
    rw [show (x + y) / 18446744073709551616 = 1 by omega] at k
    exact k
  · simp at q
    rw [show (x + y) / 18446744073709551616 = 0 by omega] at k
    exact k
theorem s_rless {a b c d : Int} (k : R (.returned (.bool (decide (dLt a b c d)))) H) : Meets prog 31 [.int .u64 a, .int .u64 b, .int .u64 c, .int .u64 d] H R := by
  refine spec_of func31 (by kernel_rfl) (fun t h => by cases h) ?_ (vc_rless a b c d R H) ?_
  · simp [argsR, SV.rep, SC.rep, one]
  unfold nf_rless
  refine br (fun q => ?_) fun q => br (fun q2 => ?_) fun q2 => ?_
  · simp at q
    rw [decide_eq_true (by omega)] at k; exact k
  · simp at q q2
    have e : decide (b < d) = decide (dLt a b c d) := by
      by_cases h : b < d
      · rw [decide_eq_true h, decide_eq_true (by omega)]
      · rw [decide_eq_false h, decide_eq_false (by omega)]
    rw [e]; exact k
  · simp at q q2
    rw [decide_eq_false (by omega)] at k; exact k
end
end Cr

set_option linter.unusedVariables false
set_option linter.unusedSimpArgs false
namespace Sx
open Go Go.Proofs Go.Shelf Go.RowKit Go.Lib Go.Sort
/-- A row's block holds other cells: what is known then. -/
theorem put_row {β : Type} [Inhabited β] {H : Heap} {w : World} {b o cap ty sz : Nat} {c : Array Value} {es es' : List (List Value)} (hs : H.sub w)
    (hb : H b = some (.cells c ty (0, 0))) (hcap : es.length ≤ cap) (hsz : o + cap * sz ≤ c.size)
    (e : β → Value) (d : Array β) (rest : List Value) (hd : d.toList.map e = es'.flatten ++ rest) (hlen : es'.length ≤ es.length) (hds : d.size = es.length * sz)
    (h1 : ∀ x ∈ es', x.length = sz) (h2 : ∀ x ∈ es', ∀ y ∈ x, one y = true) (m : Nat) (os : Array Obj) :
    ∃ H', Step H w H' (grow (putRow e (Sort.ahead w m) b o d) os) ∧ RowAt H' (.slice (some ⟨b, o, none⟩) es'.length cap) ty sz es' ∧ Mod (.slice (some ⟨b, o, none⟩) es'.length cap) H H' := by
  have hwb := hs b _ hb
  have hlt : b < w.heap.size := (Array.getElem?_eq_some_iff.1 hwb).1
  have hm2 : es.length * sz ≤ cap * sz := Nat.mul_le_mul_right _ hcap
  have hc' : (putCells e o d c).size = c.size := by simp [putCells]
  have hheap : (grow (putRow e (Sort.ahead w m) b o d) os).heap = (w.heap.modify b (onCells (putCells e o d))) ++ os := rfl
  have hat : ∀ b', b' < w.heap.size → (grow (putRow e (Sort.ahead w m) b o d) os).heap[b']? = if b = b' then some (.cells (putCells e o d c) ty (0, 0)) else w.heap[b']? := by
    intro b' hb'
    rw [hheap, Array.getElem?_append_left (by simpa using hb'), Array.getElem?_modify]
    by_cases q : b = b'
    · subst q
      rw [if_pos rfl, if_pos rfl, hwb]
      rfl
    · rw [if_neg q, if_neg q]
  refine ⟨H.upd b (.cells (putCells e o d c) ty (0, 0)), ⟨?_, rfl, ⟨rfl, Nat.le_add_right _ _⟩, rfl, ?_, ?_, ?_⟩, .inr ⟨b, o, cap, putCells e o d c, rfl, upd_same _ _ _, by omega, by rw [hc']; exact hsz, h1, ?_, h2⟩, ?_⟩
  · intro b' ob hb'
    by_cases q : b' = b
    · subst q
      rw [upd_same] at hb'
      rw [hat _ hlt, if_pos rfl]
      exact hb'
    · rw [upd_ne _ _ q] at hb'
      have := hs b' ob hb'
      rw [hat b' (Array.getElem?_eq_some_iff.1 this).1, if_neg (Ne.symm q)]
      exact this
  · rw [hheap]; simp
  · intro b' hb' e'
    rw [hat b' hb', if_neg (by rintro rfl; rw [hb] at e'; cases e')]
  · intro b' hb' e'
    rw [upd_ne _ _ (by rintro rfl; rw [hb] at e'; cases e')]
    exact e'
  · have hfl : es'.flatten.length = es'.length * sz := by
      have : ∀ (l : List (List Value)), (∀ x ∈ l, x.length = sz) → l.flatten.length = l.length * sz := by
        intro l
        induction l with
        | nil => intro _; simp
        | cons x r ih =>
          intro h
          rw [List.flatten_cons, List.length_append, ih fun y hy => h y (List.mem_cons_of_mem _ hy), h x List.mem_cons_self, List.length_cons, Nat.add_mul, Nat.one_mul, Nat.add_comm]
      exact this es' h1
    have hml : es'.length * sz ≤ es.length * sz := Nat.mul_le_mul_right _ hlen
    refine List.ext_getElem? fun j => ?_
    by_cases hj : j < es'.length * sz
    · rw [List.getElem?_take_of_lt hj, List.getElem?_drop, Array.getElem?_toList]
      have hjc : o + j < c.size := by omega
      have e1 : (putCells e o d c)[o + j]? = some (e d[j]!) := by
        unfold putCells
        rw [Array.getElem?_mapIdx, Array.getElem?_eq_getElem hjc]
        simp only [Option.map_some]
        rw [if_pos ⟨by omega, by omega⟩]
        congr 3
        omega
      rw [e1]
      have hjd : j < d.size := by omega
      have e2 : (d.toList.map e)[j]? = some (e d[j]!) := by
        rw [List.getElem?_map, Array.getElem?_toList, Array.getElem?_eq_getElem hjd, getElem!_pos d j hjd]
        rfl
      rw [hd, List.getElem?_append_left (by omega)] at e2
      exact e2.symm
    · rw [List.getElem?_eq_none (by rw [List.length_take]; omega), List.getElem?_eq_none (by omega)]
  · intro b' hb'
    simp [blockOf] at hb'
    exact upd_ne _ _ (fun e => hb' e.symm)
section
variable {P : Program} {ρ : Ren} {α : Type} [Inhabited α]
theorem grow_of {w w' : World} (st : Step (full w) w (full w) w') : ∃ q os, w' = grow (w.drewN q) os := by
  refine ⟨w'.drawn - w.drawn, w'.heap.extract w.heap.size w'.heap.size, ?_⟩
  have e1 : w'.heap = w.heap ++ w'.heap.extract w.heap.size w'.heap.size := by
    apply Array.ext_getElem?
    intro i
    by_cases hi : i < w.heap.size
    · rw [Array.getElem?_append_left hi]
      have : full w i = some w.heap[i] := Array.getElem?_eq_getElem hi
      rw [st.sub i _ this, Array.getElem?_eq_getElem hi]
    · rw [Array.getElem?_append_right (by omega), Array.getElem?_extract]
      have := st.size
      split
      · congr 1; omega
      · rw [Array.getElem?_eq_none (by omega)]
  have e2 := st.tape.dr
  cases w; cases w'
  have h1 := st.os; have h2 := st.tape.eq; have h3 := st.output
  simp only at h1 h2 h3 e1 e2
  subst h1 h2 h3
  simp only [grow, World.drewN]
  congr 1
  omega
theorem flatK_list {enc : α → List Value} {k : Nat} (hk : ∀ x, (enc x).length = k) (d : Array α) : (flatK enc k d).toList.map id = (d.toList.map enc).flatten ++ [] := by
  rw [List.map_id, List.append_nil]
  have hfl : ∀ l : List α, (l.map enc).flatten.length = l.length * k := by
    intro l
    induction l with
    | nil => simp
    | cons x r ih => rw [List.map_cons, List.flatten_cons, List.length_append, ih, hk, List.length_cons, Nat.add_mul, Nat.one_mul, Nat.add_comm]
  refine List.ext_getElem? fun j => ?_
  by_cases hj : j < d.size * k
  · have hk0 : 0 < k := by cases k with | zero => simp at hj | succ n => omega
    have e0 := get_flatK enc k d j hj
    have hs : j < (flatK enc k d).size := by simpa using hj
    rw [Array.getElem?_toList, Array.getElem?_eq_getElem hs, ← getElem!_pos _ j hs, e0]
    have hq : j / k < d.size := (Nat.div_lt_iff_lt_mul hk0).2 hj
    have hes : ∀ e ∈ d.toList.map enc, e.length = k := by intro e he; simp at he; obtain ⟨x, _, rfl⟩ := he; exact hk x
    have he : (d.toList.map enc)[j / k]? = some (enc d[j / k]!) := by
      rw [List.getElem?_map, Array.getElem?_toList, Array.getElem?_eq_getElem hq, getElem!_pos d _ hq]; rfl
    have := flatten_get hes he (q := j % k) (Nat.mod_lt _ hk0)
    rw [Nat.div_add_mod' j k] at this
    rw [this, List.getElem!_eq_getElem?_getD, List.getElem?_eq_getElem (by rw [hk]; exact Nat.mod_lt _ hk0)]
    rfl
  · rw [List.getElem?_eq_none (by simpa using hj), List.getElem?_eq_none (by rw [hfl]; simpa using hj)]
theorem holds_row {H : Heap} {w : World} {b o cap ty sz : Nat} {c : Array Value} {es : List (List Value)} {β : Type} [Inhabited β] (hs : H.sub w)
    (hb : H b = some (.cells c ty (0, 0))) (hcap : es.length ≤ cap) (hsz : o + cap * sz ≤ c.size) (hes : ∀ x ∈ es, x.length = sz) (hfl : (c.toList.drop o).take (es.length * sz) = es.flatten)
    (e : β → Value) (d : Array β) (hd : d.toList.map e = es.flatten) (hds : d.size = es.length * sz) : Holds e w b o d := by
  intro j hj
  have hwb := hs b _ hb
  have hm2 : es.length * sz ≤ cap * sz := Nat.mul_le_mul_right _ hcap
  refine ⟨?_, ?_⟩
  · unfold World.cell?
    rw [show (⟨b, o + j, none⟩ : Addr).block = b from rfl, hwb]
    show (if (none : Option _).isSome then none else c[o + j]?) = _
    rw [if_neg (by simp)]
    have e1 : (es.flatten)[j]? = c[o + j]? := by
      rw [← hfl, List.getElem?_take_of_lt (by omega), List.getElem?_drop, Array.getElem?_toList]
    rw [← e1, ← hd, List.getElem?_map, Array.getElem?_toList, Array.getElem?_eq_getElem hj, getElem!_pos d j hj]
    rfl
  · unfold World.frozen?
    rw [show (⟨b, o + j, none⟩ : Addr).block = b from rfl, hwb]
    show (decide (0 ≤ o + j) && decide (o + j < 0)) = false
    simp
theorem callable_enters {g : Nat} (h : callable P g = true) : ∀ args w, (callFunc g args).run P w = .ok (.enter g args) w := fun args w => callable_run h args
end
end Sx

set_option linter.unusedVariables false
set_option linter.unusedSimpArgs false
set_option maxRecDepth 100000
namespace Go.Proofs
def sortPt_ren : Go.Shelf.Ren := ⟨fun | 6 => 33 | 15 => 45 | 14 => 44 | 28 => 64 | 29 => 65 | 20 => 56 | 21 => 57 | 22 => 58 | 23 => 59 | 24 => 60 | 25 => 61 | 26 => 62 | 27 => 63 | 46 => 74 | 47 => 75 | 48 => 76 | 49 => 77 | 50 => 78 | 57 => 84 | n => n, fun | 22 => 22 | 24 => 44 | 25 => 71 | 3 => 3 | 39 => 83 | 0 => 0 | 53 => 34 | 55 => 62 | 4 => 4 | 46 => 96 | 45 => 95 | 50 => 89 | 5 => 5 | 9 => 9 | 66 => 110 | 70 => 114 | 76 => 120 | 77 => 121 | n => n, fun | n => n⟩
theorem sortPt : Go.Proofs.SlLaysF0.n6 Try.prog sortPt_ren := {
  mixed := by kernel_rfl,
  f6 := ⟨Try.f33.name, by decide, Try.func33.trans (congrArg some (by kernel_rfl))⟩,
  f14 := ⟨Try.f44.name, by decide, Try.func44.trans (congrArg some (by kernel_rfl))⟩,
  f15 := Try.func45.trans (congrArg some (by kernel_rfl)),
  f20 := ⟨Try.f56.name, by decide, Try.func56.trans (congrArg some (by kernel_rfl))⟩,
  f21 := ⟨Try.f57.name, by decide, Try.func57.trans (congrArg some (by kernel_rfl))⟩,
  f22 := ⟨Try.f58.name, by decide, Try.func58.trans (congrArg some (by kernel_rfl))⟩,
  f23 := ⟨Try.f59.name, by decide, Try.func59.trans (congrArg some (by kernel_rfl))⟩,
  f24 := ⟨Try.f60.name, by decide, Try.func60.trans (congrArg some (by kernel_rfl))⟩,
  f25 := ⟨Try.f61.name, by decide, Try.func61.trans (congrArg some (by kernel_rfl))⟩,
  f26 := ⟨Try.f62.name, by decide, Try.func62.trans (congrArg some (by kernel_rfl))⟩,
  f27 := ⟨Try.f63.name, by decide, Try.func63.trans (congrArg some (by kernel_rfl))⟩,
  f28 := Try.func64.trans (congrArg some (by kernel_rfl)),
  f29 := Try.func65.trans (congrArg some (by kernel_rfl)),
  f46 := ⟨Try.f74.name, by decide, Try.func74.trans (congrArg some (by kernel_rfl))⟩,
  f47 := Try.func75.trans (congrArg some (by kernel_rfl)),
  f48 := Try.func76.trans (congrArg some (by kernel_rfl)),
  f49 := ⟨Try.f77.name, by decide, Try.func77.trans (congrArg some (by kernel_rfl))⟩,
  f50 := ⟨Try.f78.name, by decide, Try.func78.trans (congrArg some (by kernel_rfl))⟩,
  f57 := ⟨Try.f84.name, by decide, Try.func84.trans (congrArg some (by kernel_rfl))⟩,
  t0 := Try.underlying0,
  a0 := Try.isAgg0,
  z0 := Try.sizeOf0,
  v0 := Try.zeroValue0,
  t3 := Try.underlying3,
  a3 := Try.isAgg3,
  z3 := Try.sizeOf3,
  v3 := Try.zeroValue3,
  t4 := Try.underlying4,
  a4 := Try.isAgg4,
  z4 := Try.sizeOf4,
  v4 := Try.zeroValue4,
  t5 := Try.underlying5,
  a5 := Try.isAgg5,
  z5 := Try.sizeOf5,
  v5 := Try.zeroValue5,
  t9 := Try.underlying9,
  a9 := Try.isAgg9,
  z9 := Try.sizeOf9,
  v9 := Try.zeroValue9,
  t22 := Try.underlying22,
  a22 := Try.isAgg22,
  z22 := Try.sizeOf22,
  v22 := Try.zeroValue22,
  t25 := Try.underlying71,
  a25 := Try.isAgg71,
  z25 := Try.sizeOf71,
  v25 := Try.zeroValue71,
  t39 := Try.underlying83,
  a39 := Try.isAgg83,
  z39 := Try.sizeOf83,
  v39 := Try.zeroValue83,
  t45 := Try.underlying95,
  a45 := Try.isAgg95,
  z45 := Try.sizeOf95,
  v45 := Try.zeroValue95,
  t46 := Try.underlying96,
  a46 := Try.isAgg96,
  z46 := Try.sizeOf96,
  v46 := Try.zeroValue96,
  t50 := Try.underlying89,
  a50 := Try.isAgg89,
  z50 := Try.sizeOf89,
  v50 := Try.zeroValue89,
  t53 := Try.underlying34,
  a53 := Try.isAgg34,
  z53 := Try.sizeOf34,
  v53 := Try.zeroValue34,
  t55 := Try.underlying62,
  a55 := Try.isAgg62,
  z55 := Try.sizeOf62,
  v55 := Try.zeroValue62,
  t66 := Try.underlying110,
  a66 := Try.isAgg110,
  z66 := Try.sizeOf110,
  v66 := Try.zeroValue110,
  t70 := Try.underlying114,
  a70 := Try.isAgg114,
  z70 := Try.sizeOf114,
  v70 := Try.zeroValue114,
  t76 := Try.underlying120,
  a76 := Try.isAgg120,
  z76 := Try.sizeOf120,
  v76 := Try.zeroValue120,
  t77 := Try.underlying121,
  a77 := Try.isAgg121,
  z77 := Try.sizeOf121,
  v77 := Try.zeroValue121 }

-- not laid sortInt
-- not laid compInt
end Go.Proofs
