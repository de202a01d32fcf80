/- Values of operations: all; what looks into memory. -/
import Derived.Test.YtekaopahienmgaaSxD
set_option linter.unusedVariables false
set_option linter.unusedSimpArgs false
namespace Sx
open Go
section
variable {P : Program} {C : Ctx} {V : Vl} {s : St} {H : Heap} {a : Act} {w : World}

theorem parse_rep {V : Vl} : ∀ {ks : List SK} {cs : List Value} {l : List Seg}, parse ks cs = some l → (∀ x ∈ cs, one x = true) → SegsRep V l cs
  | [], [], l, h, _ => by simp [parse] at h; subst h; rfl
  | [], _ :: _, l, h, _ => by simp [parse] at h
  | .c k :: r, [], l, h, _ => by simp [parse] at h
  | .c k :: r, x :: cs, l, h, ho => by
    simp only [parse] at h
    split at h
    · rename_i l' hl'; cases h
      exact ⟨x, cs, rfl, ⟨rfl, ho x (by simp)⟩, parse_rep hl' fun y hy => ho y (by simp [hy])⟩
    · cases h
  | .ints k n :: r, cs, l, h, ho => by
    simp only [parse] at h
    split at h
    · rename_i xs l1 ht
      split at h
      · rename_i l' hl'; cases h
        have : ∀ (n : Nat) (cs : List Value) (xs : List Int) (l1 : List Value), takeInts k n cs = some (xs, l1) → xs.length = n ∧ cs = xs.map (.int k) ++ l1 := by
          intro n
          induction n with
          | zero => intro cs xs l1 h; simp [takeInts] at h; obtain ⟨rfl, rfl⟩ := h; simp
          | succ n ih =>
            intro cs xs l1 h
            cases cs with
            | nil => simp [takeInts] at h
            | cons c cs =>
              cases c with
              | int k' v =>
                simp only [takeInts] at h
                split at h
                · rename_i hk
                  have := sameK_eq hk
                  subst this
                  split at h
                  · rename_i xs' r' h'
                    cases h
                    obtain ⟨h1, h2⟩ := ih _ _ _ h'
                    exact ⟨by simp [h1], by simp [h2]⟩
                  · cases h
                · cases h
              | _ => simp [takeInts] at h
        obtain ⟨h1, rfl⟩ := this _ _ _ _ ht
        exact ⟨h1, l1, rfl, parse_rep hl' fun y hy => ho y (by simp [hy])⟩
      · cases h
    · cases h
theorem oneAll_mem : ∀ {l : List Value}, oneAll l = true → ∀ x ∈ l, one x = true
  | [], _, x, h => by simp at h
  | y :: r, ho, x, h => by
    simp only [oneAll, Bool.and_eq_true] at ho
    rcases List.mem_cons.1 h with rfl | h
    · exact ho.1
    · exact oneAll_mem ho.2 x h
theorem foldK_sound {f : Int → Int → Int} {k : IntKind} {f2 : Value → Value → Sem Value} (hf : ∀ x y, (f2 (.int k x) (.int k y)).run P w = .ok (.int k (f x y)) w) (hf' : ∀ x k' y, (f2 (.int k x) (.int k' y)).run P w = .ok (.int k (f x y)) w) :
    ∀ (r : List SV) (ys : List Value) (x : Int) {K : SV → Prop}, ys.length = r.length → (∀ (i : Nat) (z : SV) (y : Value), r[i]? = some z → ys[i]? = some y → z.rep V y) → foldK f k x r K →
      ∃ z v, K z ∧ z.rep V v ∧ (ys.foldlM f2 (.int k x)).run P w = .ok v w
  | [], ys, x, K, hl, hr, hk => by
    have : ys = [] := by simpa using hl
    subst this
    exact ⟨_, _, hk, ⟨rfl, rfl⟩, by simp⟩
  | z :: r, ys, x, K, hl, hr, hk => by
    obtain ⟨y, ys, rfl⟩ : ∃ y ys', ys = y :: ys' := by cases ys <;> simp_all
    have hz := hr 0 z y rfl rfl
    obtain ⟨k', v, rfl, hk'⟩ : ∃ k' v, z = .c (.v (.int k' v)) ∧ foldK f k (f x v) r K := by
      unfold foldK at hk
      split at hk
      · rename_i h; cases h
      · rename_i h; cases h; exact ⟨_, _, rfl, hk⟩
      · exact hk.elim
    obtain ⟨rfl, -⟩ := hz
    obtain ⟨z, v', h1, h2, h3⟩ := foldK_sound hf hf' r ys (f x v) (by simpa using hl) (fun i z y h h' => hr (i + 1) z y (by simpa using h) (by simpa using h')) hk'
    exact ⟨z, v', h1, h2, by simp [hf', h3]⟩
theorem fieldOf_eq {t : TypeId} {f : Nat} {fd : Field} (h : fieldOf P t f = some fd) : ∃ fs, P.underlying t = some (.struct fs) ∧ fs[f]? = some fd := by
  unfold fieldOf at h
  split at h
  · exact ⟨_, by assumption, h⟩
  · cases h
theorem comps_nth {V : Vl} : ∀ {l : List Comp} {ys : List Value} {i : Nat} {c : Comp}, CompsRep V l ys → nth l i = some c → ∃ y, ys[i]? = some y ∧ (compSV c).rep V y
  | [], ys, i, c, h, e => by simp [nth] at e
  | x :: r, ys, 0, c, h, e => by
    obtain ⟨y, l', rfl, hx, hr⟩ := h
    simp [nth] at e
    subst e
    refine ⟨y, rfl, ?_⟩
    cases x <;> exact hx
  | x :: r, ys, i + 1, c, h, e => by
    obtain ⟨y, l', rfl, hx, hr⟩ := h
    simp only [nth] at e
    obtain ⟨y', h1, h2⟩ := comps_nth hr e
    exact ⟨y', by simpa using h1, h2⟩

theorem zeroT_eq {t : TypeId} {z : List Value} (h : zeroT P t = some z) : ∃ i v, P.info? t = some i ∧ i.zero = some v ∧ v.cells.toList = z ∧ ∀ x ∈ z, one x = true := by
  unfold zeroT zeroV at h
  split at h
  · rename_i v hv
    split at hv
    · rename_i i hi
      split at h
      · rename_i ho; cases h; exact ⟨i, v, hi, hv, rfl, oneAll_mem ho⟩
      · cases h
    · cases hv
  · cases h
theorem run_zero {t : TypeId} {i : TypeInfo} {v : Value} (hi : P.info? t = some i) (hz : i.zero = some v) : (zeroValue t).run P w = .ok v w := by
  simp [zeroValue, typeInfo, hi, hz]
/-- A run of stores into an array of cells. -/
theorem foldl_set (off : Nat) : ∀ (vs : List Value) (j : Nat) (cs : Array Value), (vs.zipIdx j).foldl (fun cs (c, j) => cs.setIfInBounds (off + j) c) cs = writeCells cs (off + j) vs
  | [], j, cs => rfl
  | v :: vs, j, cs => by
    simp only [List.zipIdx_cons, List.foldl_cons, writeCells]
    rw [foldl_set off vs (j + 1)]
    rfl
theorem writeCells_list : ∀ (vs : List Value) (cs : Array Value) (off : Nat), off + vs.length ≤ cs.size → (writeCells cs off vs).toList = cs.toList.take off ++ vs ++ cs.toList.drop (off + vs.length)
  | [], cs, off, _ => by simp [writeCells]
  | v :: vs, cs, off, h => by
    simp only [writeCells, List.length_cons] at h ⊢
    rw [writeCells_list vs (cs.setIfInBounds off v) (off + 1) (by simp; omega)]
    simp only [Array.toList_setIfInBounds]
    apply List.ext_getElem?
    intro n
    have hsz : cs.toList.length = cs.size := by simp
    rcases Nat.lt_trichotomy n off with h1 | h1 | h1
    · rw [List.append_assoc, List.append_assoc, List.getElem?_append_left (by simp; omega), List.getElem?_append_left (by simp; omega)]
      rw [List.getElem?_take_of_lt (by omega), List.getElem?_take_of_lt (by omega), List.getElem?_set_ne (by omega)]
    · subst h1
      rw [List.append_assoc, List.append_assoc, List.getElem?_append_left (by simp; omega), List.getElem?_append_right (by simp; omega)]
      rw [List.getElem?_take_of_lt (by omega), List.getElem?_set_self (by omega)]
      simp [Nat.min_eq_left (show n ≤ cs.size by omega)]
    · by_cases h2 : n < off + 1 + vs.length
      · rw [List.append_assoc, List.append_assoc, List.getElem?_append_right (by simp; omega), List.getElem?_append_left (by simp; omega), List.getElem?_append_right (by simp; omega), List.getElem?_append_left (by simp; omega)]
        simp only [List.length_take, List.length_set, hsz]
        rw [show n - min off cs.size = (n - (off + 1)) + 1 by omega, List.getElem?_cons_succ]
        congr 1; omega
      · rw [List.getElem?_append_right (by simp; omega), List.getElem?_append_right (by simp; omega)]
        simp only [List.length_append, List.length_take, List.length_set, List.length_cons, List.getElem?_drop, hsz]
        rw [List.getElem?_set_ne (by omega)]
        congr 1; omega
theorem fill_cons {place : Nat → Option (Nat × Nat)} {cells : Array Value} {i : Nat} {v : Value} {rest : List (Nat × Value)} {off size : Nat} (hp : place i = some (off, size))
    (hv : v.cells.size = size) (ho : off + size ≤ cells.size) : Instr.fill place cells ((i, v) :: rest) = Instr.fill place (writeCells cells off v.cells.toList) rest := by
  simp only [Instr.fill, hp]
  rw [if_neg (by simp [hv]; omega)]
  congr 1
  rw [← Array.foldl_toList, Array.toList_zipIdx]
  exact foldl_set off _ 0 cells
theorem placeOf_struct {t : TypeId} {fs : Array Field} (hu : P.underlying t = some (.struct fs)) {i off z : Nat} (hp : placeOf P t i = some (off, z)) :
    ∃ f inf, fs[i]? = some f ∧ f.offset = off ∧ P.info? f.type = some inf ∧ inf.size = z := by
  unfold placeOf at hp
  rw [hu] at hp
  simp only at hp
  split at hp
  · rename_i f hf
    split at hp
    · rename_i z' hz
      cases hp
      obtain ⟨inf, h1, h2⟩ := sizeT_eq hz
      exact ⟨f, inf, hf, rfl, h1, h2⟩
    · cases hp
  · cases hp
theorem buildSegs_sound (h : Rep C V s H a w) {t : TypeId} {place : Nat → Option (Nat × Nat)} (hpl : ∀ i x, placeOf P t i = some x → place i = some x) :
    ∀ (parts : List (Nat × Operand)) (l l' : List Seg) (cells : Array Value), SegsRep V l cells.toList → buildSegs P t s parts l = some l' →
      ∃ cs, Instr.fill place cells (parts.map fun (i, x) => (i, a.eval x)) = some cs ∧ SegsRep V l' cs.toList
  | [], l, l', cells, hl, e => by
    simp [buildSegs] at e
    subst e
    exact ⟨cells, rfl, hl⟩
  | (i, x) :: r, l, l', cells, hl, e => by
    simp only [buildSegs] at e
    split at e
    · rename_i off z new hp hn
      split at e
      · rename_i hb
        split at e
        · rename_i l1 hl1
          have hrep := segs_rep (h.ev x) hn
          obtain ⟨h1, h2⟩ := segPut_rep hl hrep hl1
          have hlen := segsRep_len hrep
          have hz : (a.eval x).cells.size = z := by have := nbt hb; simp at hlen; omega
          rw [List.map_cons, fill_cons (hpl _ _ hp) hz (by simp at h2; omega)]
          refine buildSegs_sound h hpl r l1 l' _ ?_ e
          rw [writeCells_list _ _ _ (by simpa using h2)]
          exact h1
        · cases e
      · cases e
    · cases e
theorem mapM_places {fs : Array Field} (hfs : ∀ f : Field, f ∈ fs → ∃ i, P.info? f.type = some i) : ∃ l : Array (Nat × Nat), ((fs.mapM fun f : Field => do pure (f.offset, ← Go.sizeOf f.type) : Sem (Array (Nat × Nat)))).run P w = .ok l w ∧
    ∀ (i : Nat) (f : Field) (inf : TypeInfo), fs[i]? = some f → P.info? f.type = some inf → l[i]? = some (f.offset, inf.size) := by
  rw [Array.mapM_eq_mapM_toList]
  have : ∀ (fl : List Field), (∀ f : Field, f ∈ fl → ∃ i, P.info? f.type = some i) → ∃ l : List (Nat × Nat), ((fl.mapM fun f : Field => do pure (f.offset, ← Go.sizeOf f.type) : Sem (List (Nat × Nat)))).run P w = .ok l w ∧
      ∀ (i : Nat) (f : Field) (inf : TypeInfo), fl[i]? = some f → P.info? f.type = some inf → l[i]? = some (f.offset, inf.size) := by
    intro fl
    induction fl with
    | nil => intro _; exact ⟨[], by simp, by simp⟩
    | cons f fl ih =>
      intro hf
      obtain ⟨i, hi⟩ := hf f (by simp)
      obtain ⟨l, h1, h2⟩ := ih fun f h => hf f (by simp [h])
      refine ⟨(f.offset, i.size) :: l, ?_, ?_⟩
      · rw [List.mapM_cons]
        simp only [Sem.run_bind, run_sizeT hi, Result.andThen_ok, h1, Sem.run_pure]
      · intro j g inf hj hinf
        cases j with
        | zero => simp at hj; subst hj; rw [hi] at hinf; cases hinf; rfl
        | succ j => simp at hj ⊢; exact h2 j g inf hj hinf
  obtain ⟨l, h1, h2⟩ := this fs.toList (by simpa using hfs)
  refine ⟨l.toArray, by rw [Sem.run_map, h1]; rfl, ?_⟩
  intro i f inf hf hi
  simpa using h2 i f inf (by simpa using hf) hi

theorem und_info {t : TypeId} {d : TypeDesc} (h : P.underlying t = some d) : ∃ i, P.info? t = some i := by
  unfold Program.underlying at h
  split at h
  · exact ⟨_, by assumption⟩
  · exact ⟨_, by assumption⟩
  · cases h
theorem appK_some {x y : Option (List SK)} {l : List SK} (h : appK x y = some l) : ∃ a b, x = some a ∧ y = some b := by
  cases x <;> cases y <;> simp [appK] at h ⊢
theorem kinds_fields {t : TypeId} {ks : List SK} {fs : Array Field} (h : kinds P t = some ks) (hu : P.underlying t = some (.struct fs)) : ∀ f : Field, f ∈ fs → ∃ i, P.info? f.type = some i := by
  unfold kinds kindsOf at h
  rw [hu] at h
  simp only at h
  have : ∀ (n : Nat) (fl : List Field) (l : List SK), fl.foldr (fun f r => appK (kindsOf P n f.type) r) (some []) = some l → ∀ f : Field, f ∈ fl → ∃ i, P.info? f.type = some i := by
    intro n fl
    induction fl with
    | nil => intro l _ f hf; simp at hf
    | cons g fl ih =>
      intro l h f hf
      simp only [List.foldr_cons] at h
      obtain ⟨x, y, h1, h2⟩ := appK_some h
      rcases List.mem_cons.1 hf with rfl | hf
      · cases n with
        | zero => simp [kindsOf] at h1
        | succ n =>
          unfold kindsOf at h1
          cases hu : P.underlying f.type with
          | none => rw [hu] at h1; cases h1
          | some d => exact und_info hu
      · exact ih y h2 f hf
  intro f hf
  exact this _ _ _ h f (by simpa using hf)
theorem buildInts_sound (h : Rep C V s H a w) {k : IntKind} {n : Nat} : ∀ (parts : List (Nat × Operand)) (xs xs' : List Int) (cells : Array Value), xs.length = n → cells.toList = xs.map (.int k) → buildInts s k parts xs = some xs' →
    ∃ cs, Instr.fill (fun i => some (i * 1, 1)) cells (parts.map fun (i, x) => (i, a.eval x)) = some cs ∧ xs'.length = n ∧ cs.toList = xs'.map (.int k)
  | [], xs, xs', cells, hn, hc, e => by
    simp [buildInts] at e
    subst e
    exact ⟨cells, rfl, hn, hc⟩
  | (i, x) :: r, xs, xs', cells, hn, hc, e => by
    simp only [buildInts] at e
    have hx := h.ev x
    split at e
    · rename_i k' v hv
      split at e
      · rename_i hk hnth
        have := sameK_eq hk
        subst this
        rw [hv] at hx
        obtain ⟨hx, -⟩ := hx
        rw [nth_eq] at hnth
        have hlt := (List.getElem?_eq_some_iff.1 hnth).1
        have hsz : cells.size = n := by have := congrArg List.length hc; simpa [hn] using this
        rw [List.map_cons, fill_cons (off := i) (size := 1) (by simp) (by rw [hx]; rfl) (by omega)]
        refine buildInts_sound h r _ xs' _ (by rw [setNth_eq]; simpa using hn) ?_ e
        rw [hx]
        simp [Value.cells, writeCells, hc, setNth_eq, List.map_set]
      · cases e
    · cases e
theorem oneAll_eq : ∀ {l : List Value}, oneAll l = true → ∀ x ∈ l, one x = true
  | [], _, x, hx => by cases hx
  | y :: l, h, x, hx => by
    simp only [oneAll, Bool.and_eq_true] at h
    rcases List.mem_cons.1 hx with rfl | hx
    · exact h.1
    · exact oneAll_eq h.2 x hx
theorem taZero_sound {V : Vl} {xt as : TypeId} {x : Value} {K : SV → Prop} (hx : (x = .nilIface ∨ ∃ t v, x = .iface t v ∧ t ≠ as)) (hu : ∃ u, P.underlying as = some u ∧ ∀ w, u ≠ .interface w) (hk : taZero P as K) :
    ∃ z r, K z ∧ z.rep V r ∧ (Instr.typeAssert x xt as true).run P w = .ok r w := by
  unfold taZero at hk
  split at hk
  · rename_i ks c hks hz ha
    split at hk
    · rename_i l hl hone
      obtain ⟨i, hi, hzi⟩ : ∃ i, P.info? as = some i ∧ i.zero = some (.agg c) := by
        unfold zeroV at hz
        split at hz
        · exact ⟨_, by assumption, hz⟩
        · cases hz
      refine ⟨_, .tuple #[.agg c, .bool false], hk, ⟨[.agg c, .bool false], rfl, ⟨_, _, rfl, ⟨c.toList, by simp, parse_rep hl (oneAll_eq hone)⟩, ⟨_, _, rfl, ⟨rfl, rfl⟩, rfl⟩⟩⟩, ?_⟩
      obtain ⟨u, hu, hni⟩ := hu
      have hrz := run_zero (P := P) (w := w) hi hzi
      rcases hx with rfl | ⟨t, v, rfl, hne⟩
      · unfold Instr.typeAssert
        simp only [Sem.run_bind, run_underlying hu, Result.andThen_ok]
        cases u <;> first | (exact absurd rfl (hni _)) | simp [Sem.run_bind, hrz]
      · unfold Instr.typeAssert
        simp only [Sem.run_bind, run_underlying hu, Result.andThen_ok]
        cases u <;> first | (exact absurd rfl (hni _)) | simp [Sem.run_bind, hrz, hne]
    · exact hk.elim
  · exact hk.elim
theorem taK_sound {V : Vl} {xt as : TypeId} {sx : SV} {x : Value} {K : SV → Prop} (hx : sx.rep V x) (hk : taK P as sx K) :
    ∃ z r, K z ∧ z.rep V r ∧ (Instr.typeAssert x xt as true).run P w = .ok r w := by
  unfold taK at hk
  split at hk
  · exact hk.elim
  · rename_i u t v hni hu
    obtain ⟨rfl, -⟩ := hx
    split at hk
    · rename_i hb
      have := nbt hb; subst this
      split at hk
      · rename_i ks c hks ha
        split at hk
        · rename_i l hl hone
          refine ⟨_, .tuple #[.agg c, .bool true], hk, ⟨[.agg c, .bool true], rfl, ⟨_, _, rfl, ⟨c.toList, by simp, parse_rep hl (oneAll_eq hone)⟩, ⟨_, _, rfl, ⟨rfl, rfl⟩, rfl⟩⟩⟩, ?_⟩
          unfold Instr.typeAssert
          simp only [Sem.run_bind, run_underlying hu, Result.andThen_ok]
          cases u <;> first | (exact absurd rfl (hni _)) | simp [Sem.run_bind]
        · exact hk.elim
      · exact hk.elim
    · rename_i hb
      have hne : t ≠ as := by rintro rfl; simp at hb
      exact taZero_sound (.inr ⟨t, v, rfl, hne⟩) ⟨u, hu, fun w e => hni w (by rw [e])⟩ hk
  · rename_i u hni hu
    obtain ⟨rfl, -⟩ := hx
    exact taZero_sound (.inl rfl) ⟨u, hu, fun w e => hni w (by rw [e])⟩ hk
  · exact hk.elim
theorem valK_sound (h : Rep C V s H a w) {cfg : Cfg} (hE : ∀ t, memN cfg.eqs t = true → EqOK P t) (o : Oper) {K : SV → Prop} (hk : valK P cfg o.op s K) :
    ∃ z r, K z ∧ z.rep V r ∧ (execOp a.eval o).run P w = .ok (.value r) w := by
  unfold valK at hk
  unfold execOp
  split at hk
  · rename_i x ho; rw [ho]; exact ⟨_, _, hk, h.ev _, rfl⟩
  · rename_i x ho; rw [ho]; exact ⟨_, _, hk, h.ev _, rfl⟩
  · rename_i c x y ho; rw [ho]
    have hc := h.ev c
    split at hk
    · rename_i p hp
      rw [hp] at hc
      obtain ⟨hc, -⟩ := hc
      cases p with
      | true => exact ⟨_, _, hk, h.ev x, by simp [hc, asBool]⟩
      | false => exact ⟨_, _, hk, h.ev y, by simp [hc, asBool]⟩
    · exact hk.elim
  · rename_i x ho; rw [ho]
    have hx := h.ev x
    split at hk
    · rename_i p hp
      rw [hp] at hx
      obtain ⟨hx, -⟩ := hx
      obtain ⟨A, rfl, hK⟩ := ptrK hk
      exact ⟨_, _, hK, ⟨rfl, rfl⟩, by simp [hx]⟩
    · rename_i b o' hp
      rw [hp] at hx
      exact ⟨_, _, hk, rfl, by simp [show a.eval x = _ from hx]⟩
    · rename_i b o' n i hp
      rw [hp] at hx
      obtain ⟨h1, h2⟩ := hx
      exact ⟨_, _, hk, ⟨h1, rfl⟩, by simp [h2]⟩
    · rename_i b o' n i hp
      rw [hp] at hx
      obtain ⟨A, n, cap, h1, h2, h3⟩ := hx
      exact ⟨_, _, hk, ⟨A, n, cap, h1, h2, rfl⟩, by simp [h3]⟩
    · exact hk.elim
  · rename_i op t x y ty ho; rw [ho]
    obtain ⟨z, r, h1, h2, h3⟩ := binK_sound (w := w) (x := x) (y := y) hE (h.ev x) (h.ev y) hk
    exact ⟨z, r, h1, h2, exec_v h3⟩
  · rename_i t x ho; rw [ho]
    have hx := h.ev x
    split at hk
    · rename_i b hb
      rw [hb] at hx
      obtain ⟨hx, -⟩ := hx
      exact ⟨_, _, hk, ⟨rfl, rfl⟩, by simp [hx, Op.unary]⟩
    · exact hk.elim
  · rename_i t x ho; rw [ho]
    have hx := h.ev x
    split at hk
    · rename_i k n hb
      rw [hb] at hx
      obtain ⟨hx, -⟩ := hx
      exact ⟨_, _, hk, ⟨rfl, rfl⟩, by simp [hx, Op.unary, Op.intArith]⟩
    · exact hk.elim
  · rename_i src dst x ho; rw [ho]
    have hx := h.ev x
    split at hk
    · rename_i d k k' n h1 h2 h3
      rw [h3] at hx
      obtain ⟨hx, -⟩ := hx
      refine ⟨_, _, hk, ⟨rfl, rfl⟩, exec_v ?_⟩
      rw [hx]
      simp [convert, run_underlying h1, run_underlying h2, Conv.intToInt]
    · rename_i d b h1 h2 h3
      rw [h3] at hx
      obtain ⟨hx, -⟩ := hx
      refine ⟨_, _, hk, ⟨rfl, rfl⟩, exec_v ?_⟩
      rw [hx]
      simp [convert, run_underlying h1, run_underlying h2]
    · exact hk.elim
  · rename_i t x f ho; rw [ho]
    have hx := h.ev x
    split at hk
    · rename_i fd hf
      obtain ⟨fs, hu, hfs⟩ := fieldOf_eq hf
      split at hk
      · rename_i z hz
        obtain ⟨i, hi, hz'⟩ := sizeT_eq hz
        have run : ∀ A : Addr, (Instr.fieldAt t (.pointer (some A)) f).run P w = .ok (.pointer (some (A.add fd.offset))) w := by
          intro A
          simp [Instr.fieldAt, run_underlying hu, hfs, Instr.sureAddr, fieldPlace, run_sizeT hi, hz']
        split at hk
        · rename_i b o' hp
          rw [hp] at hx
          refine ⟨_, _, hk, rfl, exec_v ?_⟩
          rw [show a.eval x = _ from hx, run, add_spot rfl]
        · rename_i r z' i' o' hp
          rw [hp] at hx
          obtain ⟨A, n, cap, h1, h2, h3⟩ := hx
          refine ⟨_, _, hk, ⟨A, n, cap, h1, h2, rfl⟩, exec_v ?_⟩
          rw [h3, run, add_spot rfl]
          simp [Nat.add_assoc]
        · rename_i p hp
          rw [hp] at hx
          obtain ⟨hx, -⟩ := hx
          obtain ⟨A, rfl, hK⟩ := ptrK hk
          exact ⟨_, _, hK, ⟨rfl, rfl⟩, exec_v (by rw [hx, run])⟩
        · exact hk.elim
      · exact hk.elim
    · exact hk.elim
  · rename_i t x i ho; rw [ho]
    have hi := h.ev i
    split at hk
    · rename_i k n hn
      rw [hn] at hi
      obtain ⟨hi, -⟩ := hi
      obtain ⟨z, r, h1, h2, h3⟩ := indexK_sound (k := k) h t x hk
      exact ⟨z, r, h1, h2, exec_v (by rw [hi]; exact h3)⟩
    · exact hk.elim
  · rename_i t x i ho; rw [ho]
    have hx := h.ev x
    have hi := h.ev i
    split at hk
    · rename_i b k n hu h1 h2
      rw [h1] at hx
      rw [h2] at hi
      obtain ⟨hx, -⟩ := hx
      obtain ⟨hi, -⟩ := hi
      obtain ⟨⟨h0, hlt⟩, hK⟩ := hk
      refine ⟨_, _, hK, ⟨rfl, rfl⟩, exec_v ?_⟩
      rw [hx, hi]
      have hlt' : n.toNat < b.size := by omega
      have e1 : b[n.toNat]? = some (b.data.toList.getD n.toNat 0) := by
        rw [getElem?_pos b n.toNat hlt', List.getD_eq_getElem?_getD, List.getElem?_eq_getElem (show n.toNat < b.data.toList.length from hlt')]
        rfl
      simp [Instr.index, asIntOf, run_underlying hu, h0, e1]
    · rename_i len e k m xs k' n hu h1 h2
      rw [h1] at hx
      rw [h2] at hi
      obtain ⟨hi, -⟩ := hi
      split at hk
      · rename_i kk hm hz hue
        have := nbt hm; subst this
        obtain ⟨⟨h0, hlt⟩, hK⟩ := hk
        obtain ⟨inf, hinf, h1'⟩ := sizeT_eq hz
        refine ⟨_, _, hK, ⟨rfl, rfl⟩, exec_v ?_⟩
        obtain ⟨cs, hx, hn, l', rfl, hl'⟩ := hx
        simp only [SegsRep] at hl'
        subst hl'
        rw [hx, hi]
        have hlt' : n.toNat < xs.length := by omega
        have e1 : (xs.map (Value.int k) ++ [])[n.toNat]? = some (.int k (xs.getD n.toNat 0)) := by
          simp [hlt']
        have ha : isAggT P e = false := by simp [isAggT, hue]
        simp only [Instr.index, Sem.run_bind, asIntOf, Sem.run_pure, Result.andThen_ok, run_underlying hu]
        rw [if_pos ⟨h0, hlt⟩]
        simp only [Sem.run_bind, run_sizeT hinf, h1', Nat.mul_one, Result.andThen_ok, part, isAgg_run hue, ha, Bool.false_eq_true, if_false, List.getElem?_toArray, e1]
        rfl
      · exact hk.elim
    · exact hk.elim
  · rename_i t x f ho; rw [ho]
    have hx := h.ev x
    split at hk
    · rename_i fd l hf hl
      rw [hl] at hx
      obtain ⟨cs, hx, hcs⟩ := hx
      obtain ⟨fs, hu, hfs⟩ := fieldOf_eq hf
      split at hk
      · rename_i z r d hz hr hd
        obtain ⟨i, hi, rfl⟩ := sizeT_eq hz
        obtain ⟨h1, h2⟩ := segFrom_rep _ _ hcs hr
        split at hk
        · rename_i l2 hl2
          obtain ⟨h3, h4⟩ := segTake_rep _ _ h1 hl2
          unfold mkK at hk
          split at hk
          · rename_i ha
            refine ⟨_, _, hk, ⟨_, rfl, h3⟩, exec_v ?_⟩
            rw [hx]
            simp only [Instr.field, Sem.run_bind, run_underlying hu, Result.andThen_ok, hfs, asAgg, Sem.run_pure, part, isAgg_run hd, ha, if_true, run_sizeT hi]
            congr 3
            apply Array.ext'
            simp [List.take_drop, Nat.add_comm]
          · rename_i ha
            split at hk
            · rename_i x'
              obtain ⟨y, l', e, hy, hl'⟩ := h3
              refine ⟨_, y, hk, hy, exec_v ?_⟩
              rw [hx]
              have hy0 : cs[fd.offset]? = some y := by
                have h5 : ((cs.drop fd.offset).take i.size)[0]? = some y := by rw [e]; rfl
                have h6 : 0 < i.size := by
                  rcases Nat.eq_zero_or_pos i.size with h0 | h0
                  · rw [h0] at h5; simp at h5
                  · exact h0
                rw [List.getElem?_take_of_lt h6, List.getElem?_drop] at h5
                simpa using h5
              simp only [Instr.field, Sem.run_bind, run_underlying hu, Result.andThen_ok, hfs, asAgg, Sem.run_pure, part, isAgg_run hd, ha, Bool.false_eq_true, if_false, List.getElem?_toArray, hy0]
            · exact hk.elim
        · exact hk.elim
      · exact hk.elim
    · exact hk.elim
  · rename_i x i ho; rw [ho]
    have hx := h.ev x
    split at hk
    · rename_i l hl
      rw [hl] at hx
      obtain ⟨ys, hx, hys⟩ := hx
      split at hk
      · rename_i c hc
        obtain ⟨y, h1, h2⟩ := comps_nth hys hc
        refine ⟨_, y, hk, h2, exec_v ?_⟩
        rw [hx]
        simp [Instr.extract, h1]
      · exact hk.elim
    · exact hk.elim
  · rename_i t x lo hi ho; rw [ho]
    obtain ⟨z, r, h1, h2, h3⟩ := sliceK_sound h t x lo hi hk
    exact ⟨z, r, h1, h2, exec_v (h3 _)⟩
  · rename_i t x lo hi mx ho; rw [ho]
    have hx := h.ev x
    have hlo := h.ev lo
    have hhi := h.ev hi
    have hmx := h.ev mx
    split at hk
    · rename_i e e2 sz b n c k1 l k2 hh k3 m hu he e1 q1 q2 q3
      rw [e1] at hx; rw [q1] at hlo; rw [q2] at hhi; rw [q3] at hmx
      obtain ⟨hx, -⟩ := hx
      obtain ⟨hlo, -⟩ := hlo
      obtain ⟨hhi, -⟩ := hhi
      obtain ⟨hmx, -⟩ := hmx
      obtain ⟨b1, b2, b3, hK⟩ := hk
      obtain ⟨hu', i, hi', rfl⟩ := elemOf_eq he
      have : e2 = e := by
        rcases hu' with h1 | ⟨m, h1⟩
        · rw [hu] at h1; cases h1; rfl
        · rw [hu] at h1; cases h1
      subst this
      refine ⟨_, _, hK, ⟨rfl, rfl⟩, exec_v ?_⟩
      have hr : (Instr.sliceBounds true n c (some (Value.int k1 l)) (some (Value.int k2 hh)) (some (Value.int k3 m))).run P w = .ok (l.toNat, hh.toNat, m.toNat) w := by
        simp only [Instr.sliceBounds]
        rw [Sem.run_bind]
        rw [sliceBound_ok b1]
        simp only [Result.andThen_ok, Sem.run_bind]
        rw [sliceBound_ok ⟨b2.1, by omega⟩]
        simp only [Result.andThen_ok]
        rw [sliceBound_ok ⟨b3.1, by omega⟩]
        rfl
      simp [hx, hlo, hhi, hmx, Instr.sliceAt, run_underlying hu, Instr.slice, hr, run_sizeT hi', subAddr]
    · exact hk.elim
  · rename_i t parts ho; rw [ho]
    split at hk
    · rename_i z ks hz hks
      obtain ⟨inf, v, hi, hv, rfl, hone⟩ := zeroT_eq hz
      split at hk
      · rename_i l hl
        have hrep := parse_rep (V := V) hl hone
        split at hk
        · rename_i fs hu
          split at hk
          · rename_i l' hl'
            obtain ⟨pl, hpl, hpl2⟩ := mapM_places (P := P) (w := w) (kinds_fields hks hu)
            obtain ⟨cs, h1, h2⟩ := buildSegs_sound h (place := (pl[·]?)) (t := t) (fun i x hx => by
              obtain ⟨f, inf, h1, h2, h3, h4⟩ := placeOf_struct hu (i := i) (off := x.1) (z := x.2) hx
              show pl[i]? = some x
              rw [hpl2 i f inf h1 h3, h2, h4]) parts.toList l l' v.cells hrep hl'
            refine ⟨_, _, hk, ⟨cs.toList, rfl, h2⟩, exec_v ?_⟩
            simp only [Instr.build, Sem.run_bind, run_zero hi hv, Result.andThen_ok, run_underlying hu, hpl, Array.toList_map]
            rw [h1]
            simp
          · exact hk.elim
        · rename_i m e hu
          split at hk
          · rename_i k n xs
            split at hk
            · rename_i xs' hb hz1
              obtain ⟨inf', hi', h1'⟩ := sizeT_eq hz1
              obtain ⟨hn, l', hc, hl'⟩ := hrep
              simp only [SegsRep] at hl'
              subst hl'
              obtain ⟨cs, h1, h2, h3⟩ := buildInts_sound h (k := k) (n := n) parts.toList xs xs' v.cells hn (by simpa using hc) hb
              refine ⟨_, _, hk, ⟨cs.toList, rfl, h2, [], by simpa using h3, rfl⟩, exec_v ?_⟩
              simp only [Instr.build, Sem.run_bind, run_zero hi hv, Result.andThen_ok, run_underlying hu, run_sizeT hi', h1', Array.toList_map]
              rw [h1]
              simp
            · exact hk.elim
          · exact hk.elim
        · exact hk.elim
      · exact hk.elim
    · exact hk.elim
  · rename_i t x ho; rw [ho]
    split at hk
    · rename_i d v hif hu hv
      refine ⟨_, _, hk, ⟨rfl, rfl⟩, exec_v ?_⟩
      rw [val_rep (h.ev x) hv]
      unfold isIfaceT at hif
      simp only [Instr.makeInterface, Sem.run_bind, run_underlying hu, Result.andThen_ok]
      split
      · simp_all
      · rfl
    · exact hk.elim
  · rename_i fn first cap ho; rw [ho]
    split at hk
    · rename_i x y h1 h2
      refine ⟨_, _, hk, ⟨rfl, rfl⟩, exec_v ?_⟩
      have e1 := vals_rep h _ h1
      have e2 := vals_rep h _ h2
      have f1 : (first.map a.eval) = x.toArray := by apply Array.ext'; simp [e1]
      have f2 : (cap.map a.eval) = y.toArray := by apply Array.ext'; simp [e2]
      rw [f1, f2]
      rfl
    · rename_i x y h1 h2 h3
      refine ⟨_, _, hk, rfl, exec_v ?_⟩
      have e1 := vals_rep h _ h1
      have e2 := caps_rep h _ h3
      have f1 : (first.map a.eval) = x.toArray := by apply Array.ext'; simp [e1]
      have f2 : (cap.map a.eval) = (y.map (Cap.real V)).toArray := by apply Array.ext'; simp [e2]
      rw [f1, f2]
      rfl
    · exact hk.elim
  · rename_i t x ho; rw [ho]
    obtain ⟨z, r, h1, h2, h3⟩ := loadK_sound h t x hk
    exact ⟨z, r, h1, h2, exec_v h3⟩
  · rename_i x xt as ho; rw [ho]
    obtain ⟨z, r, h1, h2, h3⟩ := taK_sound (w := w) (xt := xt) (h.ev x) hk
    exact ⟨z, r, h1, h2, exec_v h3⟩
  · rename_i args ats ho; rw [ho]
    split at hk
    · rename_i t x h1 h2
      obtain ⟨z, r, h3, h4, h5⟩ := lenK_sound h t x o.type hk
      refine ⟨z, r, h3, h4, ?_⟩
      have e1 : ats = #[t] := by apply Array.ext'; simpa using h1
      have e2 : args = #[x] := by apply Array.ext'; simpa using h2
      subst e1; subst e2
      simp only [resolve, Sem.run_bind, Sem.run_pure, Result.andThen_ok, invoke, builtin, List.map_toArray, List.map_cons, List.map_nil, h5]
    · exact hk.elim
  · rename_i args ats ho; rw [ho]
    split at hk
    · rename_i k x r hr
      obtain ⟨A, R, hA⟩ : ∃ A R, args.toList = A :: R := by
        cases hA : args.toList with
        | nil => rw [hA] at hr; cases hr
        | cons A R => exact ⟨A, R, rfl⟩
      rw [hA] at hr
      simp only [List.map_cons, List.cons.injEq] at hr
      obtain ⟨h1, rfl⟩ := hr
      have hA' := h.ev A
      rw [h1] at hA'
      obtain ⟨hA', -⟩ := hA'
      obtain ⟨z, v, h2, h3, h4⟩ := foldK_sound (P := P) (w := w) (V := V) (f := maxI) (k := k) (f2 := Builtin.max2) (by simp [Builtin.max2, maxI]) (by simp [Builtin.max2, maxI]) (R.map (ev s)) (R.map a.eval) x (by simp)
        (fun i z y hz hy => by
          simp at hz hy
          obtain ⟨q, hq, rfl⟩ := hz
          obtain ⟨q', hq', rfl⟩ := hy
          rw [hq] at hq'; cases hq'
          exact h.ev q) hk
      refine ⟨z, v, h2, h3, ?_⟩
      simp only [resolve, Sem.run_bind, Sem.run_pure, Result.andThen_ok, invoke, builtin, Builtin.max_, Array.toList_map, hA, List.map_cons, hA', h4]
    · exact hk.elim
  · rename_i args ats ho; rw [ho]
    split at hk
    · rename_i k x r hr
      obtain ⟨A, R, hA⟩ : ∃ A R, args.toList = A :: R := by
        cases hA : args.toList with
        | nil => rw [hA] at hr; cases hr
        | cons A R => exact ⟨A, R, rfl⟩
      rw [hA] at hr
      simp only [List.map_cons, List.cons.injEq] at hr
      obtain ⟨h1, rfl⟩ := hr
      have hA' := h.ev A
      rw [h1] at hA'
      obtain ⟨hA', -⟩ := hA'
      obtain ⟨z, v, h2, h3, h4⟩ := foldK_sound (P := P) (w := w) (V := V) (f := minI) (k := k) (f2 := Builtin.min2) (by simp [Builtin.min2, minI]) (by simp [Builtin.min2, minI]) (R.map (ev s)) (R.map a.eval) x (by simp)
        (fun i z y hz hy => by
          simp at hz hy
          obtain ⟨q, hq, rfl⟩ := hz
          obtain ⟨q', hq', rfl⟩ := hy
          rw [hq] at hq'; cases hq'
          exact h.ev q) hk
      refine ⟨z, v, h2, h3, ?_⟩
      simp only [resolve, Sem.run_bind, Sem.run_pure, Result.andThen_ok, invoke, builtin, Builtin.min_, Array.toList_map, hA, List.map_cons, hA', h4]
    · exact hk.elim
  · exact hk.elim

/-! ### What looks into memory -/
theorem has_cell {A : Addr} {l : List Value} (hH : H.sub w) (h : H.has A l) : ∀ j x, l[j]? = some x → w.cell? (A.add j) = some x := by
  intro j x hj
  have h1 := h j x hj
  unfold Heap.cell? at h1
  split at h1
  · rename_i c ty fz hb
    simp only [World.cell?, hH _ _ hb]
    exact h1
  · cases h1
theorem le_sub {H' : Heap} (h : H ≤ H') (hs : H'.sub w) : H.sub w := fun b o e => hs b o (h b o e)
theorem findNow_int {k : IntKind} {x : Int} : ∀ (es : List MapEntry) (i : Nat), IntKeys k es →
    ∃ r, Instr.findNow (.int k) (.int k x) es i = some r ∧ r.map (·.2) = keyAt es x
  | [], i, _ => ⟨none, rfl, rfl⟩
  | e :: es, i, h => by
    obtain ⟨n, hn⟩ := h e (by simp)
    simp only [Instr.findNow, hn, Instr.sameNow, if_true, keyAt]
    by_cases hx : x = n
    · subst hx; simp
    · have : (x == n) = false := by simpa using hx
      simp only [this, hx, if_false]
      exact findNow_int es (i + 1) fun e he => h e (by simp [he])
theorem run_getObj {r : Nat} {o : Obj} (h : w.heap[r]? = some o) (hc : ∀ c e f, o ≠ .cells c e f) : (getObj r).run P w = .ok o w := by
  simp only [getObj, Sem.run, h]
theorem checkKey_int {b : Bool} {n : Nat} {kt : TypeId} {k k' : IntKind} {x : Int} (h : P.underlying kt = some (.int k')) : (Instr.checkKey b (n + 1) kt (.int k x)).run P w = .ok () w := by
  simp [Instr.checkKey, run_underlying h]
theorem readK_sound (h : Rep C V s H a w) {Hr : Heap} (hr : Hr ≤ H) (o : Oper) {K : SV → Prop} (hk : readK P o.op s Hr K) :
    ∃ z r, K z ∧ z.rep V r ∧ (execOp a.eval o).run P w = .ok (.value r) w := by
  have hsub := le_sub hr h.sub
  unfold readK at hk
  unfold execOp
  split at hk
  · rename_i t x ho; rw [ho]
    have hx := h.ev x
    split at hk
    · rename_i p ks z hp hks hz
      rw [hp] at hx
      obtain ⟨hx, -⟩ := hx
      split at hk
      · rename_i hb
        have hsk := nbt hb
        obtain ⟨i, hi, rfl⟩ := sizeT_eq hz
        obtain ⟨A, rfl, hK⟩ := ptrK hk
        obtain ⟨l, ⟨h1, h2⟩, hf⟩ := exSegs_fits hK
        obtain ⟨r, h3, h4, _⟩ := loadVar_fits (V := V) hks hi hf (fun _ => by rw [fits_len hf, hsk]) (has_cell hsub h1)
        refine ⟨_, r, h2, h3, exec_v ?_⟩
        rw [hx]
        simp only [Instr.loadAt, Sem.run_bind, Instr.sureAddr, Sem.run_pure, Result.andThen_ok, h4]
      · exact hk.elim
    · exact hk.elim
  · rename_i t x ix ok ho; rw [ho]
    have hx := h.ev x
    have hi := h.ev ix
    split at hk
    · rename_i kt et r k n hu h1 h2
      rw [h1] at hx
      rw [h2] at hi
      obtain ⟨hx, -⟩ := hx
      obtain ⟨hi, -⟩ := hi
      split at hk
      · rename_i k' ks z hkt hks hz
        split at hk
        · rename_i hsk
          have := sameK_eq hsk
          subst this
          obtain ⟨inf, hinf, hz'⟩ : ∃ inf, P.info? et = some inf ∧ inf.zero = some z := by
            unfold zeroV at hz
            split at hz
            · exact ⟨_, by assumption, hz⟩
            · cases hz
          obtain ⟨l, hl, hf⟩ := exSegs_fits hk
          have key : ∀ b, LookAt Hr r k n z (mkVal (isAggT P et) (flatD l)) b → (Instr.lookup t (a.eval x) (a.eval ix) ok).run P w = .ok (if ok then .tuple #[mkVal (isAggT P et) (flatD l), .bool b] else mkVal (isAggT P et) (flatD l)) w := by
            intro b hL
            rw [hx, hi]
            cases r with
            | none =>
              obtain ⟨h3, rfl⟩ := hL
              simp only [Instr.lookup, Sem.run_bind, run_underlying hu, Result.andThen_ok, Sem.run_pure]
              rw [show (10000 : Nat) = 9999 + 1 from rfl, checkKey_int hkt]
              simp only [Result.andThen_ok, Instr.findKey, Sem.run_bind, run_underlying hkt, Instr.findNow, Sem.run_pure, run_zero hinf hz', h3]
            | some r =>
              obtain ⟨es, clk, hb, hik, hm⟩ := hL
              obtain ⟨q, hq1, hq2⟩ := findNow_int es.toList 0 hik (x := n)
              simp only [Instr.lookup, Sem.run_bind, run_underlying hu, Result.andThen_ok, run_getObj (hsub _ _ hb) (by simp), Sem.run_pure]
              rw [show (10000 : Nat) = 9999 + 1 from rfl, checkKey_int hkt]
              simp only [Result.andThen_ok, Instr.findKey, Sem.run_bind, run_underlying hkt, hq1, Sem.run_pure]
              cases q with
              | none =>
                simp only [Option.map_none] at hq2
                rw [← hq2] at hm
                obtain ⟨h3, rfl⟩ := hm
                simp only [Sem.run_bind, run_zero hinf hz', Result.andThen_ok, Sem.run_pure, h3]
              | some q =>
                obtain ⟨qi, qv⟩ := q
                simp only [Option.map_some] at hq2
                rw [← hq2] at hm
                obtain ⟨h3, rfl⟩ := hm
                simp only [Sem.run_bind, Sem.run_pure, Result.andThen_ok, h3]
          have hrep : ∀ (c : Comp), c = mkComp (isAggT P et) l → c.rep V (mkVal (isAggT P et) (flatD l)) := by
            intro c hc
            subst hc
            cases ha : isAggT P et with
            | true => exact ⟨_, rfl, fits_rep hf⟩
            | false =>
              obtain ⟨k1, rfl⟩ := kinds_one hks ha
              obtain ⟨y, rfl, h1⟩ := fits_one hf
              exact ⟨rfl, h1⟩
          split at hl
          · obtain ⟨b, hL, hK⟩ := hl
            exact ⟨_, _, hK, ⟨[_, _], rfl, _, _, rfl, hrep _ rfl, _, _, rfl, ⟨rfl, rfl⟩, rfl⟩, exec_v (key b hL)⟩
          · obtain ⟨⟨b, hL⟩, hK⟩ := hl
            refine ⟨_, _, hK, ?_, exec_v (key b hL)⟩
            simp only [Bool.false_eq_true, if_false]
            have := hrep _ rfl
            cases ha : isAggT P et with
            | true => rw [ha] at this; exact this
            | false =>
              rw [ha] at this
              obtain ⟨k1, rfl⟩ := kinds_one hks ha
              obtain ⟨y, rfl, h1⟩ := fits_one hf
              exact ⟨rfl, h1⟩
        · exact hk.elim
      · exact hk.elim
    · exact hk.elim
  · rename_i args ats ho; rw [ho]
    split at hk
    · rename_i t x h1 h2
      have hx := h.ev x
      split at hk
      · rename_i kt et r hu hr
        rw [hr] at hx
        obtain ⟨hx, -⟩ := hx
        obtain ⟨es, clk, hb, hK⟩ := hk
        have e1 : ats = #[t] := by apply Array.ext'; simpa using h1
        have e2 : args = #[x] := by apply Array.ext'; simpa using h2
        subst e1; subst e2
        refine ⟨_, _, hK, ⟨rfl, rfl⟩, ?_⟩
        simp only [resolve, Sem.run_bind, Sem.run_pure, Result.andThen_ok, invoke, builtin, List.map_toArray, List.map_cons, List.map_nil, hx]
        have : (Builtin.len_ #[t] o.type #[.map (some r)]).run P w = .ok (.int .i64 (es.size : Int)) w := by
          simp only [Builtin.len_, List.getElem?_toArray, List.getElem?_cons_zero, Sem.run_bind, run_underlying hu, Result.andThen_ok, run_getObj (hsub _ _ hb) (by simp), Sem.run_pure, goInt]
        rw [this]
        rfl
      · exact hk.elim
    · exact hk.elim
  · exact hk.elim
end
end Sx
