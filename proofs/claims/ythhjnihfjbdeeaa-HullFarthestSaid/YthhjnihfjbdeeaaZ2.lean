/- Own texts, one behind the other: SxE, SxF, SxG, SxU, SxH, SxI. -/
import Derived.Conc.LoneSelectN
import Derived.Test.YthhjnihfjbdeeaaZ1
set_option linter.unusedVariables false
set_option linter.unusedSimpArgs false
namespace Sx
open Go
set_option linter.unusedSectionVars false
variable [Dr]
section
variable {P : Program} {C : Ctx} {V : Vl} {s : St} {H : Heap} {a : Act} {w : World}

theorem parse_rep {V : Vl} : ∀ {ks : List SK} {cs : List Value} {l : List Seg}, parse ks cs = some l → (∀ x ∈ cs, one x = true) → SegsRep V l cs
  | [], [], l, h, _ => by simp [parse] at h; subst h; rfl
  | [], _ :: _, l, h, _ => by simp [parse] at h
  | .c k :: r, [], l, h, _ => by simp [parse] at h
  | .c k :: r, x :: cs, l, h, ho => by
    simp only [parse] at h
    split at h
    · rename_i l' hl'; cases h
      exact ⟨x, cs, rfl, ⟨rfl, ho x (by simp)⟩, parse_rep hl' fun y hy => ho y (by simp [hy])⟩
    · cases h
  | .ints k n :: r, cs, l, h, ho => by
    simp only [parse] at h
    split at h
    · rename_i xs l1 ht
      split at h
      · rename_i l' hl'; cases h
        have : ∀ (n : Nat) (cs : List Value) (xs : List Int) (l1 : List Value), takeInts k n cs = some (xs, l1) → xs.length = n ∧ cs = xs.map (.int k) ++ l1 := by
          intro n
          induction n with
          | zero => intro cs xs l1 h; simp [takeInts] at h; obtain ⟨rfl, rfl⟩ := h; simp
          | succ n ih =>
            intro cs xs l1 h
            cases cs with
            | nil => simp [takeInts] at h
            | cons c cs =>
              cases c with
              | int k' v =>
                simp only [takeInts] at h
                split at h
                · rename_i hk
                  have := sameK_eq hk
                  subst this
                  split at h
                  · rename_i xs' r' h'
                    cases h
                    obtain ⟨h1, h2⟩ := ih _ _ _ h'
                    exact ⟨by simp [h1], by simp [h2]⟩
                  · cases h
                · cases h
              | _ => simp [takeInts] at h
        obtain ⟨h1, rfl⟩ := this _ _ _ _ ht
        exact ⟨h1, l1, rfl, parse_rep hl' fun y hy => ho y (by simp [hy])⟩
      · cases h
    · cases h
theorem oneAll_mem : ∀ {l : List Value}, oneAll l = true → ∀ x ∈ l, one x = true
  | [], _, x, h => by simp at h
  | y :: r, ho, x, h => by
    simp only [oneAll, Bool.and_eq_true] at ho
    rcases List.mem_cons.1 h with rfl | h
    · exact ho.1
    · exact oneAll_mem ho.2 x h
theorem foldK_sound {f : Int → Int → Int} {k : IntKind} {f2 : Value → Value → Sem Value} (hf : ∀ x y, (f2 (.int k x) (.int k y)).run P w = .ok (.int k (f x y)) w) (hf' : ∀ x k' y, (f2 (.int k x) (.int k' y)).run P w = .ok (.int k (f x y)) w) :
    ∀ (r : List SV) (ys : List Value) (x : Int) {K : SV → Prop}, ys.length = r.length → (∀ (i : Nat) (z : SV) (y : Value), r[i]? = some z → ys[i]? = some y → z.rep V y) → foldK f k x r K →
      ∃ z v, K z ∧ z.rep V v ∧ (ys.foldlM f2 (.int k x)).run P w = .ok v w
  | [], ys, x, K, hl, hr, hk => by
    have : ys = [] := by simpa using hl
    subst this
    exact ⟨_, _, hk, ⟨rfl, rfl⟩, by simp⟩
  | z :: r, ys, x, K, hl, hr, hk => by
    obtain ⟨y, ys, rfl⟩ : ∃ y ys', ys = y :: ys' := by cases ys <;> simp_all
    have hz := hr 0 z y rfl rfl
    obtain ⟨k', v, rfl, hk'⟩ : ∃ k' v, z = .c (.v (.int k' v)) ∧ foldK f k (f x v) r K := by
      unfold foldK at hk
      split at hk
      · rename_i h; cases h
      · rename_i h; cases h; exact ⟨_, _, rfl, hk⟩
      · exact hk.elim
    obtain ⟨rfl, -⟩ := hz
    obtain ⟨z, v', h1, h2, h3⟩ := foldK_sound hf hf' r ys (f x v) (by simpa using hl) (fun i z y h h' => hr (i + 1) z y (by simpa using h) (by simpa using h')) hk'
    exact ⟨z, v', h1, h2, by simp [hf', h3]⟩
theorem fieldOf_eq {t : TypeId} {f : Nat} {fd : Field} (h : fieldOf P t f = some fd) : ∃ fs, P.underlying t = some (.struct fs) ∧ fs[f]? = some fd := by
  unfold fieldOf at h
  split at h
  · exact ⟨_, by assumption, h⟩
  · cases h
theorem comps_nth {V : Vl} : ∀ {l : List Comp} {ys : List Value} {i : Nat} {c : Comp}, CompsRep V l ys → nth l i = some c → ∃ y, ys[i]? = some y ∧ (compSV c).rep V y
  | [], ys, i, c, h, e => by simp [nth] at e
  | x :: r, ys, 0, c, h, e => by
    obtain ⟨y, l', rfl, hx, hr⟩ := h
    simp [nth] at e
    subst e
    refine ⟨y, rfl, ?_⟩
    cases x <;> exact hx
  | x :: r, ys, i + 1, c, h, e => by
    obtain ⟨y, l', rfl, hx, hr⟩ := h
    simp only [nth] at e
    obtain ⟨y', h1, h2⟩ := comps_nth hr e
    exact ⟨y', by simpa using h1, h2⟩

theorem zeroT_eq {t : TypeId} {z : List Value} (h : zeroT P t = some z) : ∃ i v, P.info? t = some i ∧ i.zero = some v ∧ v.cells.toList = z ∧ ∀ x ∈ z, one x = true := by
  unfold zeroT zeroV at h
  split at h
  · rename_i v hv
    split at hv
    · rename_i i hi
      split at h
      · rename_i ho; cases h; exact ⟨i, v, hi, hv, rfl, oneAll_mem ho⟩
      · cases h
    · cases hv
  · cases h
theorem run_zero {t : TypeId} {i : TypeInfo} {v : Value} (hi : P.info? t = some i) (hz : i.zero = some v) : (zeroValue t).run P w = .ok v w := by
  simp [zeroValue, typeInfo, hi, hz]
/-- A run of stores into an array of cells. -/
theorem foldl_set (off : Nat) : ∀ (vs : List Value) (j : Nat) (cs : Array Value), (vs.zipIdx j).foldl (fun cs (c, j) => cs.setIfInBounds (off + j) c) cs = writeCells cs (off + j) vs
  | [], j, cs => rfl
  | v :: vs, j, cs => by
    simp only [List.zipIdx_cons, List.foldl_cons, writeCells]
    rw [foldl_set off vs (j + 1)]
    rfl
theorem writeCells_list : ∀ (vs : List Value) (cs : Array Value) (off : Nat), off + vs.length ≤ cs.size → (writeCells cs off vs).toList = cs.toList.take off ++ vs ++ cs.toList.drop (off + vs.length)
  | [], cs, off, _ => by simp [writeCells]
  | v :: vs, cs, off, h => by
    simp only [writeCells, List.length_cons] at h ⊢
    rw [writeCells_list vs (cs.setIfInBounds off v) (off + 1) (by simp; omega)]
    simp only [Array.toList_setIfInBounds]
    apply List.ext_getElem?
    intro n
    have hsz : cs.toList.length = cs.size := by simp
    rcases Nat.lt_trichotomy n off with h1 | h1 | h1
    · rw [List.append_assoc, List.append_assoc, List.getElem?_append_left (by simp; omega), List.getElem?_append_left (by simp; omega)]
      rw [List.getElem?_take_of_lt (by omega), List.getElem?_take_of_lt (by omega), List.getElem?_set_ne (by omega)]
    · subst h1
      rw [List.append_assoc, List.append_assoc, List.getElem?_append_left (by simp; omega), List.getElem?_append_right (by simp; omega)]
      rw [List.getElem?_take_of_lt (by omega), List.getElem?_set_self (by omega)]
      simp [Nat.min_eq_left (show n ≤ cs.size by omega)]
    · by_cases h2 : n < off + 1 + vs.length
      · rw [List.append_assoc, List.append_assoc, List.getElem?_append_right (by simp; omega), List.getElem?_append_left (by simp; omega), List.getElem?_append_right (by simp; omega), List.getElem?_append_left (by simp; omega)]
        simp only [List.length_take, List.length_set, hsz]
        rw [show n - min off cs.size = (n - (off + 1)) + 1 by omega, List.getElem?_cons_succ]
        congr 1; omega
      · rw [List.getElem?_append_right (by simp; omega), List.getElem?_append_right (by simp; omega)]
        simp only [List.length_append, List.length_take, List.length_set, List.length_cons, List.getElem?_drop, hsz]
        rw [List.getElem?_set_ne (by omega)]
        congr 1; omega
theorem fill_cons {place : Nat → Option (Nat × Nat)} {cells : Array Value} {i : Nat} {v : Value} {rest : List (Nat × Value)} {off size : Nat} (hp : place i = some (off, size))
    (hv : v.cells.size = size) (ho : off + size ≤ cells.size) : Instr.fill place cells ((i, v) :: rest) = Instr.fill place (writeCells cells off v.cells.toList) rest := by
  simp only [Instr.fill, hp]
  rw [if_neg (by simp [hv]; omega)]
  congr 1
  rw [← Array.foldl_toList, Array.toList_zipIdx]
  exact foldl_set off _ 0 cells
theorem placeOf_struct {t : TypeId} {fs : Array Field} (hu : P.underlying t = some (.struct fs)) {i off z : Nat} (hp : placeOf P t i = some (off, z)) :
    ∃ f inf, fs[i]? = some f ∧ f.offset = off ∧ P.info? f.type = some inf ∧ inf.size = z := by
  unfold placeOf at hp
  rw [hu] at hp
  simp only at hp
  split at hp
  · rename_i f hf
    split at hp
    · rename_i z' hz
      cases hp
      obtain ⟨inf, h1, h2⟩ := sizeT_eq hz
      exact ⟨f, inf, hf, rfl, h1, h2⟩
    · cases hp
  · cases hp
theorem buildSegs_sound (h : Rep C V s H a w) {t : TypeId} {place : Nat → Option (Nat × Nat)} (hpl : ∀ i x, placeOf P t i = some x → place i = some x) :
    ∀ (parts : List (Nat × Operand)) (l l' : List Seg) (cells : Array Value), SegsRep V l cells.toList → buildSegs P t s parts l = some l' →
      ∃ cs, Instr.fill place cells (parts.map fun (i, x) => (i, a.eval x)) = some cs ∧ SegsRep V l' cs.toList
  | [], l, l', cells, hl, e => by
    simp [buildSegs] at e
    subst e
    exact ⟨cells, rfl, hl⟩
  | (i, x) :: r, l, l', cells, hl, e => by
    simp only [buildSegs] at e
    split at e
    · rename_i off z new hp hn
      split at e
      · rename_i hb
        split at e
        · rename_i l1 hl1
          have hrep := segs_rep (h.ev x) hn
          obtain ⟨h1, h2⟩ := segPut_rep hl hrep hl1
          have hlen := segsRep_len hrep
          have hz : (a.eval x).cells.size = z := by have := nbt hb; simp at hlen; omega
          rw [List.map_cons, fill_cons (hpl _ _ hp) hz (by simp at h2; omega)]
          refine buildSegs_sound h hpl r l1 l' _ ?_ e
          rw [writeCells_list _ _ _ (by simpa using h2)]
          exact h1
        · cases e
      · cases e
    · cases e
theorem mapM_places {fs : Array Field} (hfs : ∀ f : Field, f ∈ fs → ∃ i, P.info? f.type = some i) : ∃ l : Array (Nat × Nat), ((fs.mapM fun f : Field => do pure (f.offset, ← Go.sizeOf f.type) : Sem (Array (Nat × Nat)))).run P w = .ok l w ∧
    ∀ (i : Nat) (f : Field) (inf : TypeInfo), fs[i]? = some f → P.info? f.type = some inf → l[i]? = some (f.offset, inf.size) := by
  rw [Array.mapM_eq_mapM_toList]
  have : ∀ (fl : List Field), (∀ f : Field, f ∈ fl → ∃ i, P.info? f.type = some i) → ∃ l : List (Nat × Nat), ((fl.mapM fun f : Field => do pure (f.offset, ← Go.sizeOf f.type) : Sem (List (Nat × Nat)))).run P w = .ok l w ∧
      ∀ (i : Nat) (f : Field) (inf : TypeInfo), fl[i]? = some f → P.info? f.type = some inf → l[i]? = some (f.offset, inf.size) := by
    intro fl
    induction fl with
    | nil => intro _; exact ⟨[], by simp, by simp⟩
    | cons f fl ih =>
      intro hf
      obtain ⟨i, hi⟩ := hf f (by simp)
      obtain ⟨l, h1, h2⟩ := ih fun f h => hf f (by simp [h])
      refine ⟨(f.offset, i.size) :: l, ?_, ?_⟩
      · rw [List.mapM_cons]
        simp only [Sem.run_bind, run_sizeT hi, Result.andThen_ok, h1, Sem.run_pure]
      · intro j g inf hj hinf
        cases j with
        | zero => simp at hj; subst hj; rw [hi] at hinf; cases hinf; rfl
        | succ j => simp at hj ⊢; exact h2 j g inf hj hinf
  obtain ⟨l, h1, h2⟩ := this fs.toList (by simpa using hfs)
  refine ⟨l.toArray, by rw [Sem.run_map, h1]; rfl, ?_⟩
  intro i f inf hf hi
  simpa using h2 i f inf (by simpa using hf) hi

theorem und_info {t : TypeId} {d : TypeDesc} (h : P.underlying t = some d) : ∃ i, P.info? t = some i := by
  unfold Program.underlying at h
  split at h
  · exact ⟨_, by assumption⟩
  · exact ⟨_, by assumption⟩
  · cases h
theorem appK_some {x y : Option (List SK)} {l : List SK} (h : appK x y = some l) : ∃ a b, x = some a ∧ y = some b := by
  cases x <;> cases y <;> simp [appK] at h ⊢
theorem kinds_fields {t : TypeId} {ks : List SK} {fs : Array Field} (h : kinds P t = some ks) (hu : P.underlying t = some (.struct fs)) : ∀ f : Field, f ∈ fs → ∃ i, P.info? f.type = some i := by
  unfold kinds kindsOf at h
  rw [hu] at h
  simp only at h
  have : ∀ (n : Nat) (fl : List Field) (l : List SK), fl.foldr (fun f r => appK (kindsOf P n f.type) r) (some []) = some l → ∀ f : Field, f ∈ fl → ∃ i, P.info? f.type = some i := by
    intro n fl
    induction fl with
    | nil => intro l _ f hf; simp at hf
    | cons g fl ih =>
      intro l h f hf
      simp only [List.foldr_cons] at h
      obtain ⟨x, y, h1, h2⟩ := appK_some h
      rcases List.mem_cons.1 hf with rfl | hf
      · cases n with
        | zero => simp [kindsOf] at h1
        | succ n =>
          unfold kindsOf at h1
          cases hu : P.underlying f.type with
          | none => rw [hu] at h1; cases h1
          | some d => exact und_info hu
      · exact ih y h2 f hf
  intro f hf
  exact this _ _ _ h f (by simpa using hf)
theorem buildInts_sound (h : Rep C V s H a w) {k : IntKind} {n : Nat} : ∀ (parts : List (Nat × Operand)) (xs xs' : List Int) (cells : Array Value), xs.length = n → cells.toList = xs.map (.int k) → buildInts s k parts xs = some xs' →
    ∃ cs, Instr.fill (fun i => some (i * 1, 1)) cells (parts.map fun (i, x) => (i, a.eval x)) = some cs ∧ xs'.length = n ∧ cs.toList = xs'.map (.int k)
  | [], xs, xs', cells, hn, hc, e => by
    simp [buildInts] at e
    subst e
    exact ⟨cells, rfl, hn, hc⟩
  | (i, x) :: r, xs, xs', cells, hn, hc, e => by
    simp only [buildInts] at e
    have hx := h.ev x
    split at e
    · rename_i k' v hv
      split at e
      · rename_i hk hnth
        have := sameK_eq hk
        subst this
        rw [hv] at hx
        obtain ⟨hx, -⟩ := hx
        rw [nth_eq] at hnth
        have hlt := (List.getElem?_eq_some_iff.1 hnth).1
        have hsz : cells.size = n := by have := congrArg List.length hc; simpa [hn] using this
        rw [List.map_cons, fill_cons (off := i) (size := 1) (by simp) (by rw [hx]; rfl) (by omega)]
        refine buildInts_sound h r _ xs' _ (by rw [setNth_eq]; simpa using hn) ?_ e
        rw [hx]
        simp [Value.cells, writeCells, hc, setNth_eq, List.map_set]
      · cases e
    · cases e
theorem oneAll_eq : ∀ {l : List Value}, oneAll l = true → ∀ x ∈ l, one x = true
  | [], _, x, hx => by cases hx
  | y :: l, h, x, hx => by
    simp only [oneAll, Bool.and_eq_true] at h
    rcases List.mem_cons.1 hx with rfl | hx
    · exact h.1
    · exact oneAll_eq h.2 x hx
theorem taZero_sound {V : Vl} {xt as : TypeId} {x : Value} {K : SV → Prop} (hx : (x = .nilIface ∨ ∃ t v, x = .iface t v ∧ t ≠ as)) (hu : ∃ u, P.underlying as = some u ∧ ∀ w, u ≠ .interface w) (hk : taZero P as K) :
    ∃ z r, K z ∧ z.rep V r ∧ (Instr.typeAssert x xt as true).run P w = .ok r w := by
  unfold taZero at hk
  split at hk
  · rename_i ks c hks hz ha
    split at hk
    · rename_i l hl hone
      obtain ⟨i, hi, hzi⟩ : ∃ i, P.info? as = some i ∧ i.zero = some (.agg c) := by
        unfold zeroV at hz
        split at hz
        · exact ⟨_, by assumption, hz⟩
        · cases hz
      refine ⟨_, .tuple #[.agg c, .bool false], hk, ⟨[.agg c, .bool false], rfl, ⟨_, _, rfl, ⟨c.toList, by simp, parse_rep hl (oneAll_eq hone)⟩, ⟨_, _, rfl, ⟨rfl, rfl⟩, rfl⟩⟩⟩, ?_⟩
      obtain ⟨u, hu, hni⟩ := hu
      have hrz := run_zero (P := P) (w := w) hi hzi
      rcases hx with rfl | ⟨t, v, rfl, hne⟩
      · unfold Instr.typeAssert
        simp only [Sem.run_bind, run_underlying hu, Result.andThen_ok]
        cases u <;> first | (exact absurd rfl (hni _)) | simp [Sem.run_bind, hrz]
      · unfold Instr.typeAssert
        simp only [Sem.run_bind, run_underlying hu, Result.andThen_ok]
        cases u <;> first | (exact absurd rfl (hni _)) | simp [Sem.run_bind, hrz, hne]
    · exact hk.elim
  · exact hk.elim
theorem taK_sound {V : Vl} {xt as : TypeId} {sx : SV} {x : Value} {K : SV → Prop} (hx : sx.rep V x) (hk : taK P as sx K) :
    ∃ z r, K z ∧ z.rep V r ∧ (Instr.typeAssert x xt as true).run P w = .ok r w := by
  unfold taK at hk
  split at hk
  · exact hk.elim
  · rename_i u t v hni hu
    obtain ⟨rfl, -⟩ := hx
    split at hk
    · rename_i hb
      have := nbt hb; subst this
      split at hk
      · rename_i ks c hks ha
        split at hk
        · rename_i l hl hone
          refine ⟨_, .tuple #[.agg c, .bool true], hk, ⟨[.agg c, .bool true], rfl, ⟨_, _, rfl, ⟨c.toList, by simp, parse_rep hl (oneAll_eq hone)⟩, ⟨_, _, rfl, ⟨rfl, rfl⟩, rfl⟩⟩⟩, ?_⟩
          unfold Instr.typeAssert
          simp only [Sem.run_bind, run_underlying hu, Result.andThen_ok]
          cases u <;> first | (exact absurd rfl (hni _)) | simp [Sem.run_bind]
        · exact hk.elim
      · exact hk.elim
    · rename_i hb
      have hne : t ≠ as := by rintro rfl; simp at hb
      exact taZero_sound (.inr ⟨t, v, rfl, hne⟩) ⟨u, hu, fun w e => hni w (by rw [e])⟩ hk
  · rename_i u hni hu
    obtain ⟨rfl, -⟩ := hx
    exact taZero_sound (.inl rfl) ⟨u, hu, fun w e => hni w (by rw [e])⟩ hk
  · exact hk.elim
theorem byteV_flat (bs : List UInt8) : (bs.map byteV).flatten = bs.map fun b => Value.int .u8 (b.toNat : Int) := by
  induction bs with
  | nil => rfl
  | cons x r ih => simp [byteV, ih]
/-- A row of octets, as a string. -/
theorem row_string {v : Value} {ty : TypeId} {bs : List UInt8} {src dst e : TypeId} (h : RowIn w v ty 1 (bs.map byteV)) (h1 : P.underlying src = some (.slice e)) (he : P.underlying e = some (.int .u8)) (hd : P.underlying dst = some .string) :
    (convert src dst v).run P w = .ok (.string ⟨bs.toArray⟩) w := by
  rcases h with ⟨rfl, h⟩ | ⟨b, o, cap, c, rfl, hb, h2, h3, h4, h5, h6⟩
  · have : bs = [] := by cases bs with | nil => rfl | cons x r => cases h
    subst this
    rw [run_convert_bytes_string w src dst e none 0 0 h1 he hd]
    rfl
  · have q := run_convert_bytes_back (P := P) w src dst e ⟨b, o, none⟩ cap bs h1 he hd (fun j hj => by
      have hl : (bs.map byteV).length = bs.length := by simp
      rw [byteV_flat, hl, Nat.mul_one] at h5
      have : (c.toList.drop o)[j]? = some (.int .u8 (bs[j].toNat : Int)) := by
        have e1 := congrArg (fun l => l[j]?) h5
        simp only [List.getElem?_take_of_lt hj, List.getElem?_map, List.getElem?_eq_getElem hj, Option.map_some] at e1
        exact e1
      rw [List.getElem?_drop] at this
      rw [add_spot (A := ⟨b, o, none⟩) rfl]
      simp only [World.cell?, hb]
      simpa using this)
    simpa using q
theorem valK_sound (h : Rep C V s H a w) {cfg : Cfg} (hE : ∀ t, memN cfg.eqs t = true → EqOK P t) (o : Oper) {K : SV → Prop} (hk : valK P cfg o.op s K) :
    ∃ z r, K z ∧ z.rep V r ∧ (execOp a.eval o).run P w = .ok (.value r) w := by
  unfold valK at hk
  unfold execOp
  split at hk
  · rename_i x ho; rw [ho]; exact ⟨_, _, hk, h.ev _, rfl⟩
  · rename_i x ho; rw [ho]; exact ⟨_, _, hk, h.ev _, rfl⟩
  · rename_i c x y ho; rw [ho]
    have hc := h.ev c
    split at hk
    · rename_i p hp
      rw [hp] at hc
      obtain ⟨hc, -⟩ := hc
      cases p with
      | true => exact ⟨_, _, hk, h.ev x, by simp [hc, asBool]⟩
      | false => exact ⟨_, _, hk, h.ev y, by simp [hc, asBool]⟩
    · exact hk.elim
  · rename_i x ho; rw [ho]
    have hx := h.ev x
    split at hk
    · rename_i p hp
      rw [hp] at hx
      obtain ⟨hx, -⟩ := hx
      obtain ⟨A, rfl, hK⟩ := ptrK hk
      exact ⟨_, _, hK, ⟨rfl, rfl⟩, by simp [hx]⟩
    · rename_i b o' hp
      rw [hp] at hx
      exact ⟨_, _, hk, rfl, by simp [show a.eval x = _ from hx]⟩
    · rename_i b o' n i hp
      rw [hp] at hx
      obtain ⟨h1, h2⟩ := hx
      exact ⟨_, _, hk, ⟨h1, rfl⟩, by simp [h2]⟩
    · rename_i b o' n i hp
      rw [hp] at hx
      obtain ⟨A, n, cap, h1, h2, h3⟩ := hx
      exact ⟨_, _, hk, ⟨A, n, cap, h1, h2, rfl⟩, by simp [h3]⟩
    · exact hk.elim
  · rename_i op t x y ty ho; rw [ho]
    obtain ⟨z, r, h1, h2, h3⟩ := binK_sound (w := w) (x := x) (y := y) hE (h.ev x) (h.ev y) hk
    exact ⟨z, r, h1, h2, exec_v h3⟩
  · rename_i t x ho; rw [ho]
    have hx := h.ev x
    split at hk
    · rename_i b hb
      rw [hb] at hx
      obtain ⟨hx, -⟩ := hx
      exact ⟨_, _, hk, ⟨rfl, rfl⟩, by simp [hx, Op.unary]⟩
    · exact hk.elim
  · rename_i t x ho; rw [ho]
    have hx := h.ev x
    split at hk
    · rename_i k n hb
      rw [hb] at hx
      obtain ⟨hx, -⟩ := hx
      exact ⟨_, _, hk, ⟨rfl, rfl⟩, by simp [hx, Op.unary, Op.intArith]⟩
    · exact hk.elim
  · rename_i src dst x ho; rw [ho]
    have hx := h.ev x
    split at hk
    · rename_i d k k' n h1 h2 h3
      rw [h3] at hx
      obtain ⟨hx, -⟩ := hx
      refine ⟨_, _, hk, ⟨rfl, rfl⟩, exec_v ?_⟩
      rw [hx]
      simp [convert, run_underlying h1, run_underlying h2, Conv.intToInt]
    · rename_i d b h1 h2 h3
      rw [h3] at hx
      obtain ⟨hx, -⟩ := hx
      refine ⟨_, _, hk, ⟨rfl, rfl⟩, exec_v ?_⟩
      rw [hx]
      simp [convert, run_underlying h1, run_underlying h2]
    · rename_i e r h1 h2 h3
      rw [h3] at hx
      split at hk
      · rename_i ty sz es he hob
        split at hk
        · rename_i hsz
          have := nbt hsz; subst this
          obtain ⟨bs, rfl, hK⟩ := hk
          refine ⟨_, _, hK, ⟨rfl, rfl⟩, exec_v ?_⟩
          have hrow := h.objs r _ hob
          obtain ⟨hx, -⟩ := hx
          rw [hx]
          exact row_string hrow h1 he h2
        · exact hk.elim
      · exact hk.elim
    · exact hk.elim
  · rename_i t x f ho; rw [ho]
    have hx := h.ev x
    split at hk
    · rename_i fd hf
      obtain ⟨fs, hu, hfs⟩ := fieldOf_eq hf
      split at hk
      · rename_i z hz
        obtain ⟨i, hi, hz'⟩ := sizeT_eq hz
        have run : ∀ A : Addr, (Instr.fieldAt t (.pointer (some A)) f).run P w = .ok (.pointer (some (A.add fd.offset))) w := by
          intro A
          simp [Instr.fieldAt, run_underlying hu, hfs, Instr.sureAddr, fieldPlace, run_sizeT hi, hz']
        split at hk
        · rename_i b o' hp
          rw [hp] at hx
          refine ⟨_, _, hk, rfl, exec_v ?_⟩
          rw [show a.eval x = _ from hx, run, add_spot rfl]
        · rename_i r z' i' o' hp
          rw [hp] at hx
          obtain ⟨A, n, cap, h1, h2, h3⟩ := hx
          refine ⟨_, _, hk, ⟨A, n, cap, h1, h2, rfl⟩, exec_v ?_⟩
          rw [h3, run, add_spot rfl]
          simp [Nat.add_assoc]
        · rename_i p hp
          rw [hp] at hx
          obtain ⟨hx, -⟩ := hx
          obtain ⟨A, rfl, hK⟩ := ptrK hk
          exact ⟨_, _, hK, ⟨rfl, rfl⟩, exec_v (by rw [hx, run])⟩
        · exact hk.elim
      · exact hk.elim
    · exact hk.elim
  · rename_i t x i ho; rw [ho]
    have hi := h.ev i
    split at hk
    · rename_i k n hn
      rw [hn] at hi
      obtain ⟨hi, -⟩ := hi
      obtain ⟨z, r, h1, h2, h3⟩ := indexK_sound (k := k) h t x hk
      exact ⟨z, r, h1, h2, exec_v (by rw [hi]; exact h3)⟩
    · exact hk.elim
  · rename_i t x i ho; rw [ho]
    have hx := h.ev x
    have hi := h.ev i
    split at hk
    · rename_i b k n hu h1 h2
      rw [h1] at hx
      rw [h2] at hi
      obtain ⟨hx, -⟩ := hx
      obtain ⟨hi, -⟩ := hi
      obtain ⟨⟨h0, hlt⟩, hK⟩ := hk
      refine ⟨_, _, hK, ⟨rfl, rfl⟩, exec_v ?_⟩
      rw [hx, hi]
      have hlt' : n.toNat < b.size := by omega
      have e1 : b[n.toNat]? = some (b.data.toList.getD n.toNat 0) := by
        rw [getElem?_pos b n.toNat hlt', List.getD_eq_getElem?_getD, List.getElem?_eq_getElem (show n.toNat < b.data.toList.length from hlt')]
        rfl
      simp [Instr.index, asIntOf, run_underlying hu, h0, e1]
    · rename_i len e k m xs k' n hu h1 h2
      rw [h1] at hx
      rw [h2] at hi
      obtain ⟨hi, -⟩ := hi
      split at hk
      · rename_i kk hm hz hue
        have := nbt hm; subst this
        obtain ⟨⟨h0, hlt⟩, hK⟩ := hk
        obtain ⟨inf, hinf, h1'⟩ := sizeT_eq hz
        refine ⟨_, _, hK, ⟨rfl, rfl⟩, exec_v ?_⟩
        obtain ⟨cs, hx, hn, l', rfl, hl'⟩ := hx
        simp only [SegsRep] at hl'
        subst hl'
        rw [hx, hi]
        have hlt' : n.toNat < xs.length := by omega
        have e1 : (xs.map (Value.int k) ++ [])[n.toNat]? = some (.int k (xs.getD n.toNat 0)) := by
          simp [hlt']
        have ha : isAggT P e = false := by simp [isAggT, hue]
        simp only [Instr.index, Sem.run_bind, asIntOf, Sem.run_pure, Result.andThen_ok, run_underlying hu]
        rw [if_pos ⟨h0, hlt⟩]
        simp only [Sem.run_bind, run_sizeT hinf, h1', Nat.mul_one, Result.andThen_ok, part, isAgg_run hue, ha, Bool.false_eq_true, if_false, List.getElem?_toArray, e1]
        rfl
      · exact hk.elim
    · exact hk.elim
  · rename_i t x f ho; rw [ho]
    have hx := h.ev x
    split at hk
    · rename_i fd l hf hl
      rw [hl] at hx
      obtain ⟨cs, hx, hcs⟩ := hx
      obtain ⟨fs, hu, hfs⟩ := fieldOf_eq hf
      split at hk
      · rename_i z r d hz hr hd
        obtain ⟨i, hi, rfl⟩ := sizeT_eq hz
        obtain ⟨h1, h2⟩ := segFrom_rep _ _ hcs hr
        split at hk
        · rename_i l2 hl2
          obtain ⟨h3, h4⟩ := segTake_rep _ _ h1 hl2
          unfold mkK at hk
          split at hk
          · rename_i ha
            refine ⟨_, _, hk, ⟨_, rfl, h3⟩, exec_v ?_⟩
            rw [hx]
            simp only [Instr.field, Sem.run_bind, run_underlying hu, Result.andThen_ok, hfs, asAgg, Sem.run_pure, part, isAgg_run hd, ha, if_true, run_sizeT hi]
            congr 3
            apply Array.ext'
            simp [List.take_drop, Nat.add_comm]
          · rename_i ha
            split at hk
            · rename_i x'
              obtain ⟨y, l', e, hy, hl'⟩ := h3
              refine ⟨_, y, hk, hy, exec_v ?_⟩
              rw [hx]
              have hy0 : cs[fd.offset]? = some y := by
                have h5 : ((cs.drop fd.offset).take i.size)[0]? = some y := by rw [e]; rfl
                have h6 : 0 < i.size := by
                  rcases Nat.eq_zero_or_pos i.size with h0 | h0
                  · rw [h0] at h5; simp at h5
                  · exact h0
                rw [List.getElem?_take_of_lt h6, List.getElem?_drop] at h5
                simpa using h5
              simp only [Instr.field, Sem.run_bind, run_underlying hu, Result.andThen_ok, hfs, asAgg, Sem.run_pure, part, isAgg_run hd, ha, Bool.false_eq_true, if_false, List.getElem?_toArray, hy0]
            · exact hk.elim
        · exact hk.elim
      · exact hk.elim
    · exact hk.elim
  · rename_i x i ho; rw [ho]
    have hx := h.ev x
    split at hk
    · rename_i l hl
      rw [hl] at hx
      obtain ⟨ys, hx, hys⟩ := hx
      split at hk
      · rename_i c hc
        obtain ⟨y, h1, h2⟩ := comps_nth hys hc
        refine ⟨_, y, hk, h2, exec_v ?_⟩
        rw [hx]
        simp [Instr.extract, h1]
      · exact hk.elim
    · exact hk.elim
  · rename_i t x lo hi ho; rw [ho]
    obtain ⟨z, r, h1, h2, h3⟩ := sliceK_sound h t x lo hi hk
    exact ⟨z, r, h1, h2, exec_v (h3 _)⟩
  · rename_i t x lo hi mx ho; rw [ho]
    have hx := h.ev x
    have hlo := h.ev lo
    have hhi := h.ev hi
    have hmx := h.ev mx
    split at hk
    · rename_i e e2 sz b n c k1 l k2 hh k3 m hu he e1 q1 q2 q3
      rw [e1] at hx; rw [q1] at hlo; rw [q2] at hhi; rw [q3] at hmx
      obtain ⟨hx, -⟩ := hx
      obtain ⟨hlo, -⟩ := hlo
      obtain ⟨hhi, -⟩ := hhi
      obtain ⟨hmx, -⟩ := hmx
      obtain ⟨b1, b2, b3, hK⟩ := hk
      obtain ⟨hu', i, hi', rfl⟩ := elemOf_eq he
      have : e2 = e := by
        rcases hu' with h1 | ⟨m, h1⟩
        · rw [hu] at h1; cases h1; rfl
        · rw [hu] at h1; cases h1
      subst this
      refine ⟨_, _, hK, ⟨rfl, rfl⟩, exec_v ?_⟩
      have hr : (Instr.sliceBounds true n c (some (Value.int k1 l)) (some (Value.int k2 hh)) (some (Value.int k3 m))).run P w = .ok (l.toNat, hh.toNat, m.toNat) w := by
        simp only [Instr.sliceBounds]
        rw [Sem.run_bind]
        rw [sliceBound_ok b1]
        simp only [Result.andThen_ok, Sem.run_bind]
        rw [sliceBound_ok ⟨b2.1, by omega⟩]
        simp only [Result.andThen_ok]
        rw [sliceBound_ok ⟨b3.1, by omega⟩]
        rfl
      simp [hx, hlo, hhi, hmx, Instr.sliceAt, run_underlying hu, Instr.slice, hr, run_sizeT hi', subAddr]
    · exact hk.elim
  · rename_i t parts ho; rw [ho]
    split at hk
    · rename_i z ks hz hks
      obtain ⟨inf, v, hi, hv, rfl, hone⟩ := zeroT_eq hz
      split at hk
      · rename_i l hl
        have hrep := parse_rep (V := V) hl hone
        split at hk
        · rename_i fs hu
          split at hk
          · rename_i l' hl'
            obtain ⟨pl, hpl, hpl2⟩ := mapM_places (P := P) (w := w) (kinds_fields hks hu)
            obtain ⟨cs, h1, h2⟩ := buildSegs_sound h (place := (pl[·]?)) (t := t) (fun i x hx => by
              obtain ⟨f, inf, h1, h2, h3, h4⟩ := placeOf_struct hu (i := i) (off := x.1) (z := x.2) hx
              show pl[i]? = some x
              rw [hpl2 i f inf h1 h3, h2, h4]) parts.toList l l' v.cells hrep hl'
            refine ⟨_, _, hk, ⟨cs.toList, rfl, h2⟩, exec_v ?_⟩
            simp only [Instr.build, Sem.run_bind, run_zero hi hv, Result.andThen_ok, run_underlying hu, hpl, Array.toList_map]
            rw [h1]
            simp
          · exact hk.elim
        · rename_i m e hu
          split at hk
          · rename_i k n xs
            split at hk
            · rename_i xs' hb hz1
              obtain ⟨inf', hi', h1'⟩ := sizeT_eq hz1
              obtain ⟨hn, l', hc, hl'⟩ := hrep
              simp only [SegsRep] at hl'
              subst hl'
              obtain ⟨cs, h1, h2, h3⟩ := buildInts_sound h (k := k) (n := n) parts.toList xs xs' v.cells hn (by simpa using hc) hb
              refine ⟨_, _, hk, ⟨cs.toList, rfl, h2, [], by simpa using h3, rfl⟩, exec_v ?_⟩
              simp only [Instr.build, Sem.run_bind, run_zero hi hv, Result.andThen_ok, run_underlying hu, run_sizeT hi', h1', Array.toList_map]
              rw [h1]
              simp
            · exact hk.elim
          · exact hk.elim
        · exact hk.elim
      · exact hk.elim
    · exact hk.elim
  · rename_i t x ho; rw [ho]
    split at hk
    · rename_i d v hif hu hv
      refine ⟨_, _, hk, ⟨rfl, rfl⟩, exec_v ?_⟩
      rw [val_rep (h.ev x) hv]
      unfold isIfaceT at hif
      simp only [Instr.makeInterface, Sem.run_bind, run_underlying hu, Result.andThen_ok]
      split
      · simp_all
      · rfl
    · exact hk.elim
  · rename_i fn first cap ho; rw [ho]
    split at hk
    · rename_i x y h1 h2
      refine ⟨_, _, hk, ⟨rfl, rfl⟩, exec_v ?_⟩
      have e1 := vals_rep h _ h1
      have e2 := vals_rep h _ h2
      have f1 : (first.map a.eval) = x.toArray := by apply Array.ext'; simp [e1]
      have f2 : (cap.map a.eval) = y.toArray := by apply Array.ext'; simp [e2]
      rw [f1, f2]
      rfl
    · rename_i x y h1 h2 h3
      refine ⟨_, _, hk, rfl, exec_v ?_⟩
      have e1 := vals_rep h _ h1
      have e2 := caps_rep h _ h3
      have f1 : (first.map a.eval) = x.toArray := by apply Array.ext'; simp [e1]
      have f2 : (cap.map a.eval) = (y.map (Cap.real V)).toArray := by apply Array.ext'; simp [e2]
      rw [f1, f2]
      rfl
    · exact hk.elim
  · rename_i t x ho; rw [ho]
    obtain ⟨z, r, h1, h2, h3⟩ := loadK_sound h t x hk
    exact ⟨z, r, h1, h2, exec_v h3⟩
  · rename_i x xt as ho; rw [ho]
    obtain ⟨z, r, h1, h2, h3⟩ := taK_sound (w := w) (xt := xt) (h.ev x) hk
    exact ⟨z, r, h1, h2, exec_v h3⟩
  · rename_i args ats ho; rw [ho]
    split at hk
    · rename_i t x h1 h2
      obtain ⟨z, r, h3, h4, h5⟩ := lenK_sound h t x o.type hk
      refine ⟨z, r, h3, h4, ?_⟩
      have e1 : ats = #[t] := by apply Array.ext'; simpa using h1
      have e2 : args = #[x] := by apply Array.ext'; simpa using h2
      subst e1; subst e2
      simp only [resolve, Sem.run_bind, Sem.run_pure, Result.andThen_ok, invoke, builtin, List.map_toArray, List.map_cons, List.map_nil, h5]
    · exact hk.elim
  · rename_i args ats ho; rw [ho]
    split at hk
    · rename_i t x h1 h2
      obtain ⟨z, r, h3, h4, h5⟩ := capK_sound h t x o.type hk
      refine ⟨z, r, h3, h4, ?_⟩
      have e1 : ats = #[t] := by apply Array.ext'; simpa using h1
      have e2 : args = #[x] := by apply Array.ext'; simpa using h2
      subst e1; subst e2
      simp only [resolve, Sem.run_bind, Sem.run_pure, Result.andThen_ok, invoke, builtin, List.map_toArray, List.map_cons, List.map_nil, h5]
    · exact hk.elim
  · rename_i args ats ho; rw [ho]
    split at hk
    · rename_i k x r hr
      obtain ⟨A, R, hA⟩ : ∃ A R, args.toList = A :: R := by
        cases hA : args.toList with
        | nil => rw [hA] at hr; cases hr
        | cons A R => exact ⟨A, R, rfl⟩
      rw [hA] at hr
      simp only [List.map_cons, List.cons.injEq] at hr
      obtain ⟨h1, rfl⟩ := hr
      have hA' := h.ev A
      rw [h1] at hA'
      obtain ⟨hA', -⟩ := hA'
      obtain ⟨z, v, h2, h3, h4⟩ := foldK_sound (P := P) (w := w) (V := V) (f := maxI) (k := k) (f2 := Builtin.max2) (by simp [Builtin.max2, maxI]) (by simp [Builtin.max2, maxI]) (R.map (ev s)) (R.map a.eval) x (by simp)
        (fun i z y hz hy => by
          simp at hz hy
          obtain ⟨q, hq, rfl⟩ := hz
          obtain ⟨q', hq', rfl⟩ := hy
          rw [hq] at hq'; cases hq'
          exact h.ev q) hk
      refine ⟨z, v, h2, h3, ?_⟩
      simp only [resolve, Sem.run_bind, Sem.run_pure, Result.andThen_ok, invoke, builtin, Builtin.max_, Array.toList_map, hA, List.map_cons, hA', h4]
    · exact hk.elim
  · rename_i args ats ho; rw [ho]
    split at hk
    · rename_i k x r hr
      obtain ⟨A, R, hA⟩ : ∃ A R, args.toList = A :: R := by
        cases hA : args.toList with
        | nil => rw [hA] at hr; cases hr
        | cons A R => exact ⟨A, R, rfl⟩
      rw [hA] at hr
      simp only [List.map_cons, List.cons.injEq] at hr
      obtain ⟨h1, rfl⟩ := hr
      have hA' := h.ev A
      rw [h1] at hA'
      obtain ⟨hA', -⟩ := hA'
      obtain ⟨z, v, h2, h3, h4⟩ := foldK_sound (P := P) (w := w) (V := V) (f := minI) (k := k) (f2 := Builtin.min2) (by simp [Builtin.min2, minI]) (by simp [Builtin.min2, minI]) (R.map (ev s)) (R.map a.eval) x (by simp)
        (fun i z y hz hy => by
          simp at hz hy
          obtain ⟨q, hq, rfl⟩ := hz
          obtain ⟨q', hq', rfl⟩ := hy
          rw [hq] at hq'; cases hq'
          exact h.ev q) hk
      refine ⟨z, v, h2, h3, ?_⟩
      simp only [resolve, Sem.run_bind, Sem.run_pure, Result.andThen_ok, invoke, builtin, Builtin.min_, Array.toList_map, hA, List.map_cons, hA', h4]
    · exact hk.elim
  · exact hk.elim

/-! ### What looks into memory -/
theorem has_cell {A : Addr} {l : List Value} (hH : H.sub w) (h : H.has A l) : ∀ j x, l[j]? = some x → w.cell? (A.add j) = some x := by
  intro j x hj
  have h1 := h j x hj
  unfold Heap.cell? at h1
  split at h1
  · rename_i c ty fz hb
    simp only [World.cell?, hH _ _ hb]
    exact h1
  · cases h1
theorem le_sub {H' : Heap} (h : H ≤ H') (hs : H'.sub w) : H.sub w := fun b o e => hs b o (h b o e)
theorem findNow_int {k : IntKind} {x : Int} : ∀ (es : List MapEntry) (i : Nat), IntKeys k es →
    ∃ r, Instr.findNow (.int k) (.int k x) es i = some r ∧ r.map (·.2) = keyAt es x
  | [], i, _ => ⟨none, rfl, rfl⟩
  | e :: es, i, h => by
    obtain ⟨n, hn⟩ := h e (by simp)
    simp only [Instr.findNow, hn, Instr.sameNow, if_true, keyAt]
    by_cases hx : x = n
    · subst hx; simp
    · have : (x == n) = false := by simpa using hx
      simp only [this, hx, if_false]
      exact findNow_int es (i + 1) fun e he => h e (by simp [he])
theorem run_getObj {r : Nat} {o : Obj} (h : w.heap[r]? = some o) (hc : ∀ c e f, o ≠ .cells c e f) : (getObj r).run P w = .ok o w := by
  simp only [getObj, Sem.run, h]
theorem checkKey_int {b : Bool} {n : Nat} {kt : TypeId} {k k' : IntKind} {x : Int} (h : P.underlying kt = some (.int k')) : (Instr.checkKey b (n + 1) kt (.int k x)).run P w = .ok () w := by
  simp [Instr.checkKey, run_underlying h]
/-- A known slice of octets, as a string. -/
theorem slice_string {Hr : Heap} (hsub : Hr.sub w) {a : Option Addr} {n c : Nat} {bs : List UInt8} {src dst e : TypeId} (h : SliceAt Hr (.slice a n c) 1 (bs.map byteV)) (h1 : P.underlying src = some (.slice e)) (he : P.underlying e = some (.int .u8)) (hd : P.underlying dst = some .string) :
    (convert src dst (.slice a n c)).run P w = .ok (.string ⟨bs.toArray⟩) w := by
  obtain ⟨a0, n0, c0, hv, hl, hle, hes, hon, hA⟩ := h
  cases hv
  have hl' : bs.length = n := by simpa using hl
  subst hl'
  cases a with
  | none =>
    cases bs with
    | nil => rw [run_convert_bytes_string w src dst e none _ c h1 he hd]; rfl
    | cons x r => obtain ⟨A, h, _⟩ := hA 0 _ rfl; cases h
  | some A =>
    refine run_convert_bytes_back w src dst e A c bs h1 he hd ?_
    intro j hj
    obtain ⟨A', hA', hs, hh⟩ := hA j (byteV bs[j]) (by simp [hj])
    cases hA'
    have := has_cell hsub hh 0 (.int .u8 (bs[j].toNat : Int)) rfl
    rw [Nat.mul_one] at this
    simpa [Addr.add, add_spot] using this
theorem readK_sound (h : Rep C V s H a w) {Hr : Heap} (hr : Hr ≤ H) (o : Oper) {K : SV → Prop} (hk : readK P o.op s Hr K) :
    ∃ z r, K z ∧ z.rep V r ∧ (execOp a.eval o).run P w = .ok (.value r) w := by
  have hsub := le_sub hr h.sub
  unfold readK at hk
  unfold execOp
  split at hk
  · rename_i t x ho; rw [ho]
    have hx := h.ev x
    split at hk
    · rename_i p ks z hp hks hz
      rw [hp] at hx
      obtain ⟨hx, -⟩ := hx
      split at hk
      · rename_i hb
        have hsk := nbt hb
        obtain ⟨i, hi, rfl⟩ := sizeT_eq hz
        obtain ⟨A, rfl, hK⟩ := ptrK hk
        obtain ⟨l, ⟨h1, h2⟩, hf⟩ := exSegs_fits hK
        obtain ⟨r, h3, h4, _⟩ := loadVar_fits (V := V) hks hi hf (fun _ => by rw [fits_len hf, hsk]) (has_cell hsub h1)
        refine ⟨_, r, h2, h3, exec_v ?_⟩
        rw [hx]
        simp only [Instr.loadAt, Sem.run_bind, Instr.sureAddr, Sem.run_pure, Result.andThen_ok, h4]
      · exact hk.elim
    · exact hk.elim
  · rename_i t x ix ok ho; rw [ho]
    have hx := h.ev x
    have hi := h.ev ix
    split at hk
    · rename_i kt et r k n hu h1 h2
      rw [h1] at hx
      rw [h2] at hi
      obtain ⟨hx, -⟩ := hx
      obtain ⟨hi, -⟩ := hi
      split at hk
      · rename_i k' ks z hkt hks hz
        split at hk
        · rename_i hsk
          have := sameK_eq hsk
          subst this
          obtain ⟨inf, hinf, hz'⟩ : ∃ inf, P.info? et = some inf ∧ inf.zero = some z := by
            unfold zeroV at hz
            split at hz
            · exact ⟨_, by assumption, hz⟩
            · cases hz
          obtain ⟨l, hl, hf⟩ := exSegs_fits hk
          have key : ∀ b, LookAt Hr r k n z (mkVal (isAggT P et) (flatD l)) b → (Instr.lookup t (a.eval x) (a.eval ix) ok).run P w = .ok (if ok then .tuple #[mkVal (isAggT P et) (flatD l), .bool b] else mkVal (isAggT P et) (flatD l)) w := by
            intro b hL
            rw [hx, hi]
            cases r with
            | none =>
              obtain ⟨h3, rfl⟩ := hL
              simp only [Instr.lookup, Sem.run_bind, run_underlying hu, Result.andThen_ok, Sem.run_pure]
              rw [show (10000 : Nat) = 9999 + 1 from rfl, checkKey_int hkt]
              simp only [Result.andThen_ok, Instr.findKey, Sem.run_bind, run_underlying hkt, Instr.findNow, Sem.run_pure, run_zero hinf hz', h3]
            | some r =>
              obtain ⟨es, clk, hb, hik, hm⟩ := hL
              obtain ⟨q, hq1, hq2⟩ := findNow_int es.toList 0 hik (x := n)
              simp only [Instr.lookup, Sem.run_bind, run_underlying hu, Result.andThen_ok, run_getObj (hsub _ _ hb) (by simp), Sem.run_pure]
              rw [show (10000 : Nat) = 9999 + 1 from rfl, checkKey_int hkt]
              simp only [Result.andThen_ok, Instr.findKey, Sem.run_bind, run_underlying hkt, hq1, Sem.run_pure]
              cases q with
              | none =>
                simp only [Option.map_none] at hq2
                rw [← hq2] at hm
                obtain ⟨h3, rfl⟩ := hm
                simp only [Sem.run_bind, run_zero hinf hz', Result.andThen_ok, Sem.run_pure, h3]
              | some q =>
                obtain ⟨qi, qv⟩ := q
                simp only [Option.map_some] at hq2
                rw [← hq2] at hm
                obtain ⟨h3, rfl⟩ := hm
                simp only [Sem.run_bind, Sem.run_pure, Result.andThen_ok, h3]
          have hrep : ∀ (c : Comp), c = mkComp (isAggT P et) l → c.rep V (mkVal (isAggT P et) (flatD l)) := by
            intro c hc
            subst hc
            cases ha : isAggT P et with
            | true => exact ⟨_, rfl, fits_rep hf⟩
            | false =>
              obtain ⟨k1, rfl⟩ := kinds_one hks ha
              obtain ⟨y, rfl, h1⟩ := fits_one hf
              exact ⟨rfl, h1⟩
          split at hl
          · obtain ⟨b, hL, hK⟩ := hl
            exact ⟨_, _, hK, ⟨[_, _], rfl, _, _, rfl, hrep _ rfl, _, _, rfl, ⟨rfl, rfl⟩, rfl⟩, exec_v (key b hL)⟩
          · obtain ⟨⟨b, hL⟩, hK⟩ := hl
            refine ⟨_, _, hK, ?_, exec_v (key b hL)⟩
            simp only [Bool.false_eq_true, if_false]
            have := hrep _ rfl
            cases ha : isAggT P et with
            | true => rw [ha] at this; exact this
            | false =>
              rw [ha] at this
              obtain ⟨k1, rfl⟩ := kinds_one hks ha
              obtain ⟨y, rfl, h1⟩ := fits_one hf
              exact ⟨rfl, h1⟩
        · exact hk.elim
      · exact hk.elim
    · exact hk.elim
  · rename_i args ats ho; rw [ho]
    split at hk
    · rename_i t x h1 h2
      have hx := h.ev x
      split at hk
      · rename_i kt et r hu hr
        rw [hr] at hx
        obtain ⟨hx, -⟩ := hx
        obtain ⟨r, rfl⟩ : ∃ r', r = some r' := by
          cases r with
          | none => exact hk.elim
          | some r' => exact ⟨r', rfl⟩
        obtain ⟨es, clk, hb, hK⟩ := hk
        have e1 : ats = #[t] := by apply Array.ext'; simpa using h1
        have e2 : args = #[x] := by apply Array.ext'; simpa using h2
        subst e1; subst e2
        refine ⟨_, _, hK, ⟨rfl, rfl⟩, ?_⟩
        simp only [resolve, Sem.run_bind, Sem.run_pure, Result.andThen_ok, invoke, builtin, List.map_toArray, List.map_cons, List.map_nil, hx]
        have : (Builtin.len_ #[t] o.type #[.map (some r)]).run P w = .ok (.int .i64 (es.size : Int)) w := by
          simp only [Builtin.len_, List.getElem?_toArray, List.getElem?_cons_zero, Sem.run_bind, run_underlying hu, Result.andThen_ok, run_getObj (hsub _ _ hb) (by simp), Sem.run_pure, goInt]
        rw [this]
        rfl
      · rename_i kt et r hu hr
        rw [hr] at hx
        obtain ⟨hx, -⟩ := hx
        obtain ⟨r, rfl⟩ : ∃ r', r = some r' := by
          cases r with
          | none => exact hk.elim
          | some r' => exact ⟨r', rfl⟩
        obtain ⟨cap, buf, cl, sd, rc, hb, hK⟩ := hk
        have e1 : ats = #[t] := by apply Array.ext'; simpa using h1
        have e2 : args = #[x] := by apply Array.ext'; simpa using h2
        subst e1; subst e2
        refine ⟨_, _, hK, ⟨rfl, rfl⟩, ?_⟩
        simp only [resolve, Sem.run_bind, Sem.run_pure, Result.andThen_ok, invoke, builtin, List.map_toArray, List.map_cons, List.map_nil, hx]
        rw [Go.Conc.run_len_chan t o.type hu (hsub _ _ hb)]
        rfl
      · exact hk.elim
    · exact hk.elim
  · rename_i src dst x ho; rw [ho]
    have hx := h.ev x
    split at hk
    · rename_i e a1 n1 c1 h1 h2 h3
      rw [h3] at hx
      obtain ⟨hx, -⟩ := hx
      split at hk
      · rename_i he
        obtain ⟨bs, hsl, hK⟩ := hk
        refine ⟨_, _, hK, ⟨rfl, rfl⟩, exec_v ?_⟩
        rw [hx]
        exact slice_string hsub hsl h1 he h2
      · exact hk.elim
    · exact hk.elim
  · exact hk.elim
end
end Sx

set_option linter.unusedVariables false
set_option linter.unusedSimpArgs false
namespace Sx
open Go
set_option linter.unusedSectionVars false
variable [Dr]
section
variable {P : Program} {C : Ctx} {V : Vl} {s : St} {H : Heap} {a : Act} {w : World}

/-- Alike but at one name. -/
def Off (d : Nat) (V V' : Vl) : Prop := ∀ s, s ≠ d → V'.blk s = V.blk s ∧ V'.row s = V.row s
theorem sc_off {d : Nat} {V V' : Vl} (hV : Off d V V') {x : SC} {y : Value} (hx : x.refs d = false) (h : x.rep V y) : x.rep V' y := by
  have ne : ∀ {n : Nat}, Nat.beq n d = false → n ≠ d := fun h e => by subst e; simp at h
  cases x with
  | v z => exact h
  | box s off => simp only [SC.refs] at hx; simp only [SC.rep] at h ⊢; rw [(hV s (ne hx)).1]; exact h
  | boxi s off n i => simp only [SC.refs] at hx; simp only [SC.rep] at h ⊢; rw [(hV s (ne hx)).1]; exact h
  | arr s off n lo hi => simp only [SC.refs] at hx; simp only [SC.rep] at h ⊢; rw [(hV s (ne hx)).1]; exact h
  | row s => simp only [SC.refs] at hx; simp only [SC.rep] at h ⊢; rw [(hV s (ne hx)).2]; exact h
  | sub s sz lo hi => simp only [SC.refs] at hx; simp only [SC.rep] at h ⊢; rw [(hV s (ne hx)).2]; exact h
  | cell s sz i off => simp only [SC.refs] at hx; simp only [SC.rep] at h ⊢; rw [(hV s (ne hx)).2]; exact h
  | clo fn first caps =>
    simp only [SC.refs] at hx; simp only [SC.rep] at h ⊢
    rw [h]
    congr 2
    refine List.map_congr_left fun c hc => ?_
    rw [List.any_eq_false] at hx
    have := hx c hc
    cases c with
    | b s => simp only [Bool.not_eq_true] at this; simp only [Cap.real]; rw [(hV s (ne this)).1]
    | v x => rfl
  | bad => trivial
theorem segs_off {d : Nat} {V V' : Vl} (hV : Off d V V') : ∀ {l : List Seg} {cs : List Value}, l.any (Seg.refs d) = false → SegsRep V l cs → SegsRep V' l cs
  | [], cs, _, h => h
  | .c x :: r, cs, hl, h => by
    simp only [List.any_cons, Bool.or_eq_false_iff] at hl
    obtain ⟨y, l', rfl, hx, hr⟩ := h
    exact ⟨y, l', rfl, sc_off hV hl.1 hx, segs_off hV hl.2 hr⟩
  | .ints k n xs :: r, cs, hl, h => by
    simp only [List.any_cons, Bool.or_eq_false_iff] at hl
    obtain ⟨hn, l', rfl, hr⟩ := h
    exact ⟨hn, l', rfl, segs_off hV hl.2 hr⟩
theorem comps_off {d : Nat} {V V' : Vl} (hV : Off d V V') : ∀ {l : List Comp} {cs : List Value}, l.any (Comp.refs d) = false → CompsRep V l cs → CompsRep V' l cs
  | [], cs, _, h => h
  | x :: r, cs, hl, h => by
    simp only [List.any_cons, Bool.or_eq_false_iff] at hl
    obtain ⟨y, l', rfl, hx, hr⟩ := h
    refine ⟨y, l', rfl, ?_, comps_off hV hl.2 hr⟩
    cases x with
    | c x => exact sc_off hV hl.1 hx
    | agg l => obtain ⟨cs, h1, h2⟩ := hx; exact ⟨cs, h1, segs_off hV hl.1 h2⟩
theorem sv_off {d : Nat} {V V' : Vl} (hV : Off d V V') {x : SV} {y : Value} (hx : x.refs d = false) (h : x.rep V y) : x.rep V' y := by
  cases x with
  | c x => exact sc_off hV hx h
  | agg l => obtain ⟨cs, h1, h2⟩ := h; exact ⟨cs, h1, segs_off hV hx h2⟩
  | tup l => obtain ⟨cs, h1, h2⟩ := h; exact ⟨cs, h1, comps_off hV hx h2⟩
theorem look_mem : ∀ {l : List (Nat × AObj)} {d : Nat} {o : AObj}, look l d = some o → (d, o) ∈ l
  | [], d, o, h => by simp [look] at h
  | (k, x) :: r, d, o, h => by
    simp only [look] at h
    split at h
    · rename_i hb; cases h; have := nbt hb; subst this; simp
    · exact List.mem_cons_of_mem _ (look_mem h)
theorem free_env {d : Nat} (h : s.free d = true) : ∀ t x, nth s.env t = some x → x.refs d = false := by
  intro t x hx
  simp only [St.free, Bool.and_eq_true, Bool.not_eq_true'] at h
  rw [nth_eq] at hx
  have := h.1
  rw [List.any_eq_false] at this
  simpa using this x (List.mem_of_getElem? hx)
theorem free_obj {d : Nat} (h : s.free d = true) : ∀ d' o, look s.objs d' = some o → d' ≠ d ∧ o.refs d = false := by
  intro d' o ho
  simp only [St.free, Bool.and_eq_true, Bool.not_eq_true'] at h
  have := h.2.1
  rw [List.any_eq_false] at this
  have h1 := this (d', o) (look_mem ho)
  simp only [Bool.or_eq_true, not_or, Bool.not_eq_true] at h1
  exact ⟨fun e => by subst e; simp at h1, h1.2⟩
theorem free_dfr {d : Nat} {V V' : Vl} (hV : Off d V V') (h : s.free d = true) : s.dfr.map (ADef.real V') = s.dfr.map (ADef.real V) := by
  simp only [St.free, Bool.and_eq_true, Bool.not_eq_true'] at h
  have := h.2.2
  rw [List.any_eq_false] at this
  refine List.map_congr_left fun x hx => ?_
  have h1 := this x hx
  simp only [Bool.not_eq_true, List.any_eq_false] at h1
  simp only [ADef.real]
  congr 2
  refine List.map_congr_left fun k hk => ?_
  rw [(hV k (fun e => by subst e; have := h1 k hk; simp at this)).1]
theorem base_no {C : Ctx} {b : Nat} (h : C.w0.heap.size ≤ b ∨ C.H0 b ≠ none) (h1 : b < C.w0.heap.size) (h2 : C.H0 b = none) : False := by
  rcases h with h | h
  · omega
  · exact h h2
theorem privB_off {d d' : Nat} {V V' : Vl} (hV : Off d V V') (h : d' ≠ d) (o : AObj) : privB V' d' o = privB V d' o := by
  cases o with
  | box ty l => simp [privB, (hV d' h).1]
  | row ty sz es => simp [privB, (hV d' h).2]
theorem rowIn_same {w w' : World} {v : Value} {ty sz : Nat} {es : List (List Value)} (h : RowIn w v ty sz es) (hb : ∀ b, blockOf v = some b → w'.heap[b]? = w.heap[b]?) : RowIn w' v ty sz es := by
  rcases h with h | ⟨b, o, cap, c, hv, h1, h2⟩
  · exact .inl h
  · exact .inr ⟨b, o, cap, c, hv, by rw [hb b (by rw [hv]; rfl)]; exact h1, h2⟩
theorem objRep_same {d d' : Nat} {V V' : Vl} {w w' : World} (hV : Off d V V') (h : d' ≠ d) {o : AObj} (hr : o.refs d = false) (ho : ObjRep V w d' o) (hb : ∀ b, privB V d' o = some b → w'.heap[b]? = w.heap[b]?) :
    ObjRep V' w' d' o := by
  cases o with
  | box ty l =>
    obtain ⟨cs, h1, h2⟩ := ho
    exact ⟨cs, segs_off hV hr h1, by rw [(hV d' h).1, hb _ rfl]; exact h2⟩
  | row ty sz es =>
    simp only [ObjRep, (hV d' h).2]
    exact rowIn_same ho fun b e => hb b e
/-- Nothing else of memory has turned. -/
structure Only (w w' : World) (B : Nat → Prop) : Prop where
  os : w'.os = w.os
  tape : Tp w' w
  output : w'.output = w.output
  size : w.heap.size ≤ w'.heap.size
  block : ∀ b, ¬ B b → b < w.heap.size → w'.heap[b]? = w.heap[b]?
theorem delO_look {l : List (Nat × AObj)} {base : Option Nat} {d' : Nat} {o : AObj} (h : look (delO l base) d' = some o) : look l d' = some o ∧ base ≠ some d' := by
  cases base with
  | none => exact ⟨h, by simp⟩
  | some r =>
    simp only [delO, look_objDel] at h
    split at h
    · cases h
    · exact ⟨h, by simpa using by assumption⟩
theorem rep_objs (h : Rep C V s H a w) {d : Nat} {obj : AObj} {base : Option Nat} {V' : Vl} {w' : World} (hf : s.free d = true) (hV : Off d V V')
    (ho : Only w w' fun b => ∃ r o, base = some r ∧ look s.objs r = some o ∧ privB V r o = some b) (hobj : ObjRep V' w' d obj)
    (hb : ∀ b, privB V' d obj = some b → (w.heap.size ≤ b ∧ b < w'.heap.size) ∨ ∃ r o, base = some r ∧ look s.objs r = some o ∧ privB V r o = some b) :
    Rep C V' ⟨s.env, objSet (delO s.objs base) d obj, s.dfr⟩ H a w' := by
  have other : ∀ d' o, look s.objs d' = some o → base ≠ some d' → ∀ b, privB V d' o = some b → w'.heap[b]? = w.heap[b]? := by
    intro d' o h1 h2 b h3
    refine ho.block b ?_ (h.priv _ _ _ h1 h3).2.2
    rintro ⟨r, o', e, h4, h5⟩
    exact h2 (by rw [e, h.dist _ _ _ _ _ h4 h1 h5 h3])
  have known : ∀ b o, H b = some o → w'.heap[b]? = some o := by
    intro b o hbo
    rw [ho.block b ?_ ?_]
    · exact h.sub b o hbo
    · rintro ⟨r, o', e, h4, h5⟩
      rw [(h.priv _ _ _ h4 h5).1] at hbo; cases hbo
    · have := h.sub b o hbo
      exact (Array.getElem?_eq_some_iff.1 this).1
  refine { env := ?_, len := h.len, dfr := h.dfr.eq (free_dfr hV hf).symm, sub := known, objs := ?_, priv := ?_, dist := ?_, os := ho.os.trans h.os, tape := ho.tape.trans h.tape, output := ho.output.trans h.output, size := Nat.le_trans h.size ho.size, other := ?_ }
  · intro t x hx
    exact sv_off hV (free_env hf t x hx) (h.env t x hx)
  · intro d' o hd
    rw [look_objSet] at hd
    split at hd
    · rename_i e; subst e; cases hd; exact hobj
    · obtain ⟨h1, h2⟩ := delO_look hd
      obtain ⟨h3, h4⟩ := free_obj hf _ _ h1
      exact objRep_same hV h3 h4 (h.objs _ _ h1) fun b e => other _ _ h1 h2 b e
  · intro d' o b hd hp
    rw [look_objSet] at hd
    split at hd
    · rename_i e; subst e; cases hd
      rcases hb b hp with ⟨h1, h2⟩ | ⟨r, o', h1, h2, h3⟩
      · refine ⟨?_, .inl (Nat.le_trans h.size h1), h2⟩
        cases hbb : H b with
        | none => rfl
        | some ob => have := h.sub b ob hbb; have := (Array.getElem?_eq_some_iff.1 this).1; omega
      · obtain ⟨h4, h5, h6⟩ := h.priv _ _ _ h2 h3
        exact ⟨h4, h5, Nat.lt_of_lt_of_le h6 ho.size⟩
    · obtain ⟨h1, h2⟩ := delO_look hd
      obtain ⟨h3, h4⟩ := free_obj hf _ _ h1
      rw [privB_off hV h3] at hp
      obtain ⟨h4, h5, h6⟩ := h.priv _ _ _ h1 hp
      exact ⟨h4, h5, Nat.lt_of_lt_of_le h6 ho.size⟩
  · have main : ∀ d' o' b, d' ≠ d → look (delO s.objs base) d' = some o' → privB V' d' o' = some b → privB V' d obj = some b → False := by
      intro d' o' b hne hd hp hp'
      obtain ⟨h1, h2⟩ := delO_look hd
      rw [privB_off hV hne] at hp
      rcases hb b hp' with ⟨h3, h4⟩ | ⟨r, o'', h3, h4, h5⟩
      · have := (h.priv _ _ _ h1 hp).2.2; omega
      · exact h2 (by rw [h3, h.dist _ _ _ _ _ h4 h1 h5 hp])
    intro d1 o1 d2 o2 b hd1 hd2 hp1 hp2
    rw [look_objSet] at hd1 hd2
    split at hd1
    · rename_i e1; subst e1; cases hd1
      split at hd2
      · rename_i e2; exact e2
      · rename_i e2; exact (main d2 o2 b (fun e => e2 e.symm) hd2 hp2 hp1).elim
    · rename_i e1
      split at hd2
      · rename_i e2; subst e2; cases hd2
        exact (main d1 o1 b (fun e => e1 e.symm) hd1 hp1 hp2).elim
      · rename_i e2
        obtain ⟨h1, _⟩ := delO_look hd1
        obtain ⟨h2, _⟩ := delO_look hd2
        rw [privB_off hV (fun e => e1 e.symm)] at hp1
        rw [privB_off hV (fun e => e2 e.symm)] at hp2
        exact h.dist _ _ _ _ _ h1 h2 hp1 hp2
  · intro b hb1 hb2
    obtain ⟨h1, h2⟩ := h.other b hb1 hb2
    refine ⟨?_, h2⟩
    rw [ho.block b ?_ (Nat.lt_of_lt_of_le hb1 h.size), h1]
    rintro ⟨r, o', e, h4, h5⟩
    exact base_no (h.priv _ _ _ h4 h5).2.1 hb1 hb2
/-- A variable's content is written. -/
theorem rep_mod (h : Rep C V s H a w) {d : Nat} {old obj : AObj} {b0 : Nat} {w' : World} (hd : look s.objs d = some old) (hp : privB V d old = some b0) (hp' : privB V d obj = some b0)
    (ho : Only w w' fun b => b = b0) (hobj : ObjRep V w' d obj) : Rep C V ⟨s.env, objSet s.objs d obj, s.dfr⟩ H a w' := by
  obtain ⟨hn, hbase, hlt⟩ := h.priv _ _ _ hd hp
  have other : ∀ d' o, look s.objs d' = some o → d ≠ d' → ∀ b, privB V d' o = some b → w'.heap[b]? = w.heap[b]? := by
    intro d' o h1 h2 b h3
    refine ho.block b ?_ (h.priv _ _ _ h1 h3).2.2
    intro e; subst e
    exact h2 (h.dist _ _ _ _ _ hd h1 hp h3)
  refine { env := h.env, len := h.len, dfr := h.dfr, sub := ?_, objs := ?_, priv := ?_, dist := ?_, os := ho.os.trans h.os, tape := ho.tape.trans h.tape, output := ho.output.trans h.output, size := Nat.le_trans h.size ho.size, other := ?_ }
  · intro b o hbo
    have h1 := h.sub b o hbo
    rw [ho.block b (by intro e; subst e; rw [hn] at hbo; cases hbo) (Array.getElem?_eq_some_iff.1 h1).1]
    exact h1
  · intro d' o hd'
    rw [look_objSet] at hd'
    split at hd'
    · rename_i e; subst e; cases hd'; exact hobj
    · rename_i e
      cases o with
      | box ty l =>
        obtain ⟨cs, h1, h2⟩ := h.objs _ _ hd'
        exact ⟨cs, h1, by rw [other _ _ hd' e _ rfl]; exact h2⟩
      | row ty sz es => exact rowIn_same (h.objs _ _ hd') fun b hb => other _ _ hd' e b hb
  · intro d' o b hd' hpb
    rw [look_objSet] at hd'
    split at hd'
    · rename_i e; subst e; cases hd'
      rw [hp'] at hpb; cases hpb
      exact ⟨hn, hbase, Nat.lt_of_lt_of_le hlt ho.size⟩
    · obtain ⟨h4, h5, h6⟩ := h.priv _ _ _ hd' hpb
      exact ⟨h4, h5, Nat.lt_of_lt_of_le h6 ho.size⟩
  · intro d1 o1 d2 o2 b hd1 hd2 hp1 hp2
    rw [look_objSet] at hd1 hd2
    split at hd1
    · rename_i e1; subst e1; cases hd1
      rw [hp'] at hp1; cases hp1
      split at hd2
      · rename_i e2; exact e2
      · exact h.dist _ _ _ _ _ hd hd2 hp hp2
    · split at hd2
      · rename_i e2; subst e2; cases hd2
        rw [hp'] at hp2; cases hp2
        exact h.dist _ _ _ _ _ hd1 hd hp1 hp
      · exact h.dist _ _ _ _ _ hd1 hd2 hp1 hp2
  · intro b hb1 hb2
    obtain ⟨h1, h2⟩ := h.other b hb1 hb2
    refine ⟨?_, h2⟩
    rw [ho.block b (by intro e; subst e; exact base_no hbase hb1 hb2) (Nat.lt_of_lt_of_le hb1 h.size), h1]

theorem sc_one {x : SC} {y : Value} (hb : x ≠ .bad) (h : x.rep V y) : one y = true := by
  cases x with
  | v z => obtain ⟨h1, h2⟩ := h; rw [h1]; exact h2
  | box _ _ => rw [show y = _ from h]; rfl
  | boxi _ _ _ _ => rw [show y = _ from h.2]; rfl
  | arr _ _ _ _ _ => obtain ⟨a', h1, _⟩ := h; rw [h1]; rfl
  | row d => obtain ⟨h1, h2⟩ := h; rw [h1]; exact h2
  | sub _ _ _ _ => obtain ⟨a, n, c, a', h1, h2, _⟩ := h; rw [h2]; rfl
  | cell _ _ _ _ => obtain ⟨A, n, c, h1, h2, h3⟩ := h; rw [h3]; rfl
  | clo _ _ _ => rw [show y = _ from h]; rfl
  | bad => exact absurd rfl hb
theorem segs_one : ∀ {l : List Seg} {cs : List Value}, noBad l = true → SegsRep V l cs → ∀ x ∈ cs, one x = true
  | [], cs, _, h => by simp only [SegsRep] at h; subst h; simp
  | .c x :: r, cs, hn, h => by
    obtain ⟨y, l', rfl, hx, hr⟩ := h
    have : x ≠ .bad ∧ noBad r = true := by cases x <;> simp [noBad] at hn ⊢ <;> exact hn
    intro z hz
    rcases List.mem_cons.1 hz with rfl | hz
    · exact sc_one this.1 hx
    · exact segs_one this.2 hr z hz
  | .ints k n xs :: r, cs, hn, h => by
    obtain ⟨_, l', rfl, hr⟩ := h
    intro z hz
    rcases List.mem_append.1 hz with hz | hz
    · simp at hz; obtain ⟨m, _, rfl⟩ := hz; rfl
    · exact segs_one (by simpa [noBad] using hn) hr z hz
/-- A world with another block. -/
def setB (w : World) (b : Nat) (o : Obj) : World := { w with heap := w.heap.setIfInBounds b o }
theorem setB_only (b : Nat) (o : Obj) : Only w (setB w b o) fun x => x = b := by
  refine ⟨rfl, ⟨rfl, fun _ => Nat.le_refl _⟩, rfl, by simp [setB], fun x hx _ => ?_⟩
  simp only [setB, Array.getElem?_setIfInBounds]
  rw [if_neg (fun e => hx e.symm)]
theorem setB_at {b : Nat} {o o' : Obj} (h : w.heap[b]? = some o') : (setB w b o).heap[b]? = some o := by
  have := (Array.getElem?_eq_some_iff.1 h).1
  simp [setB, this]
theorem setB_setB (b : Nat) (o o' : Obj) : setB (setB w b o) b o' = setB w b o' := by
  simp only [setB]
  congr 1
  apply Array.ext'
  simp
theorem setCell_eq {b off : Nat} {v : Value} {c : Array Value} {ty : TypeId} (h : w.heap[b]? = some (.cells c ty (0, 0))) :
    w.setCell ⟨b, off, none⟩ v = setB w b (.cells (c.setIfInBounds off v) ty (0, 0)) := by
  unfold World.setCell setB
  congr 1
  have hlt := (Array.getElem?_eq_some_iff.1 h).1
  apply Array.ext_getElem?
  intro i
  rw [Array.getElem?_modify, Array.getElem?_setIfInBounds]
  by_cases hi : b = i
  · subst hi
    have h' := (Array.getElem?_eq_some_iff.1 h).2
    simp [hlt, h']
  · simp [hi]
theorem store_run {b off : Nat} {v : Value} {c : Array Value} {ty : TypeId} (h : w.heap[b]? = some (.cells c ty (0, 0))) (ho : off < c.size) (h1 : one v = true) :
    (store ⟨b, off, none⟩ v).run P w = .ok () (setB w b (.cells (c.setIfInBounds off v) ty (0, 0))) := by
  rw [← setCell_eq h]
  have hc : w.cell? ⟨b, off, none⟩ = some c[off] := by rw [cell_block h rfl]; simp [ho]
  have hf : w.frozen? ⟨b, off, none⟩ = false := by simp [World.frozen?, h]
  unfold store
  cases v <;> simp [one] at h1 <;> simp [Sem.run, hc, hf]
theorem storeCells_run {b off : Nat} : ∀ (vs : List Value) (i : Nat) (w : World) {c : Array Value} {ty : TypeId}, w.heap[b]? = some (.cells c ty (0, 0)) → off + i + vs.length ≤ c.size → (∀ x ∈ vs, one x = true) →
    (storeCells ⟨b, off, none⟩ vs i).run P w = .ok () (setB w b (.cells (writeCells c (off + i) vs) ty (0, 0)))
  | [], i, w, c, ty, h, _, _ => by
    simp only [storeCells, Sem.run_pure, writeCells]
    congr 1
    unfold setB
    have hlt := (Array.getElem?_eq_some_iff.1 h).1
    have : w.heap.setIfInBounds b (.cells c ty (0, 0)) = w.heap := by
      apply Array.ext_getElem?
      intro j
      rw [Array.getElem?_setIfInBounds]
      by_cases hj : b = j
      · subst hj
        have h' := (Array.getElem?_eq_some_iff.1 h).2
        simp [hlt, h']
      · simp [hj]
    rw [this]
  | v :: vs, i, w, c, ty, h, hl, h1 => by
    simp only [storeCells, Sem.run_bind, add_spot]
    simp only [List.length_cons] at hl
    rw [store_run h (by omega) (h1 v (by simp))]
    simp only [Result.andThen_ok]
    rw [storeCells_run vs (i + 1) _ (setB_at h) (by simp; omega) fun x hx => h1 x (by simp [hx])]
    rw [setB_setB]
    rfl
theorem storeVar_run {t : TypeId} {i : TypeInfo} {b off : Nat} {v : Value} {c : Array Value} {ty : TypeId} (hi : P.info? t = some i) (hv : v.cells.size = i.size) (h : w.heap[b]? = some (.cells c ty (0, 0)))
    (hl : off + i.size ≤ c.size) (h1 : ∀ x ∈ v.cells.toList, one x = true) : (storeVar t ⟨b, off, none⟩ v).run P w = .ok () (setB w b (.cells (writeCells c off v.cells.toList) ty (0, 0))) := by
  unfold storeVar
  simp only [Sem.run_bind, run_sizeT hi, Result.andThen_ok]
  rw [if_neg (by simp [hv])]
  exact storeCells_run _ 0 w h (by simp [hv]; omega) h1
theorem exec_u {s : Sem Unit} {w' : World} (h : s.run P w = .ok () w') : ((do s; pure Next.skip : Sem Next)).run P w = .ok .skip w' := by
  rw [Sem.run_bind, h]; rfl
/-- What an operation that makes or writes private variables comes to. -/
def Goes (P : Program) (C : Ctx) (o : Oper) (a : Act) (w : World) (K : St → Prop) (H : Heap) : Prop :=
  ∃ V s' y w', K s' ∧ Rep C V s' H (a.put o.dst y) w' ∧ ((execOp a.eval o).run P w = .ok (.value y) w' ∨ ((execOp a.eval o).run P w = .ok .skip w' ∧ y = undef))
theorem rep_set (h : Rep C V s H a w) {x : SV} {y : Value} (hx : x.rep V y) {d : Nat} : Rep C V (s.set d x) H (a.put (some d) y) w := h.put hx (some d)

def Vl.box (V : Vl) (d b : Nat) : Vl := ⟨fun s => if s = d then b else V.blk s, V.row⟩
def Vl.rows (V : Vl) (d : Nat) (v : Value) : Vl := ⟨V.blk, fun s => if s = d then v else V.row s⟩
theorem box_off (V : Vl) (d b : Nat) : Off d V (V.box d b) := fun s h => ⟨by simp [Vl.box, h], rfl⟩
theorem rows_off (V : Vl) (d : Nat) (v : Value) : Off d V (V.rows d v) := fun s h => ⟨rfl, by simp [Vl.rows, h]⟩
theorem alloc_only (o : Obj) (B : Nat → Prop) : Only w { w with heap := w.heap.push o } B :=
  ⟨rfl, ⟨rfl, fun _ => Nat.le_refl _⟩, rfl, by simp, fun b _ hb => by simp [Array.getElem?_push, Nat.ne_of_lt hb]⟩
theorem newRow_run {t : TypeId} {c : Array Value} : (newRow t c).run P w = .ok ⟨w.heap.size, 0, none⟩ { w with heap := w.heap.push (.cells c t) } := by
  rfl
/-- A new variable. -/
theorem new_box (h : Rep C V s H a w) {d : Nat} (hf : s.free d = true) {l : List Seg} {cs : List Value} (t : TypeId) (hs : SegsRep V l cs) (hr : l.any (Seg.refs d) = false) :
    ∃ V', Off d V V' ∧ Rep C V' (St.set ⟨s.env, objSet s.objs d (.box t l), s.dfr⟩ d (.c (.box d 0))) H (a.put (some d) (.pointer (some ⟨w.heap.size, 0, none⟩))) { w with heap := w.heap.push (.cells cs.toArray t) } ∧ V'.blk d = w.heap.size := by
  have hoff := box_off V d w.heap.size
  refine ⟨V.box d w.heap.size, hoff, rep_set (s := ⟨s.env, objSet (delO s.objs none) d (.box t l), s.dfr⟩) (rep_objs h hf hoff (alloc_only _ _) (obj := .box t l) ⟨cs, segs_off hoff hr hs, ?_⟩ ?_) ?_, by simp [Vl.box]⟩
  · simp [Vl.box]
  · intro b hb
    simp [privB, Vl.box] at hb
    subst hb
    exact .inl ⟨Nat.le_refl _, by simp⟩
  · simp [SV.rep, SC.rep, Vl.box]
theorem ev_refs {d : Nat} (hf : s.free d = true) (x : Operand) : (ev s x).refs d = false := by
  cases x with
  | tmp t =>
    simp only [ev]
    rcases get_nth (s := s) (t := t) with ⟨e, _⟩ | e
    · rw [e]; rfl
    · exact free_env hf t _ e
  | const v => cases v <;> rfl
  | global g => rfl
  | func f => rfl
theorem segs_refs {x : SV} {d : Nat} {l : List Seg} (h : x.refs d = false) (e : x.segs = some l) : l.any (Seg.refs d) = false := by
  cases x with
  | c x => cases x <;> simp [SV.segs] at e <;> subst e <;> simpa [Seg.refs, SV.refs] using h
  | agg l' => simp [SV.segs] at e; subst e; exact h
  | tup l => simp [SV.segs] at e
theorem parse_refs {d : Nat} : ∀ {ks : List SK} {cs : List Value} {l : List Seg}, parse ks cs = some l → l.any (Seg.refs d) = false
  | [], [], l, h => by simp [parse] at h; subst h; rfl
  | [], _ :: _, l, h => by simp [parse] at h
  | .c k :: r, [], l, h => by simp [parse] at h
  | .c k :: r, x :: cs, l, h => by
    simp only [parse] at h
    split at h
    · rename_i l' hl'; cases h
      simp only [List.any_cons, Seg.refs, SC.refs, Bool.false_or]
      exact parse_refs hl'
    · cases h
  | .ints k n :: r, cs, l, h => by
    simp only [parse] at h
    split at h
    · split at h
      · rename_i l' hl'; cases h
        simp only [List.any_cons, Seg.refs, Bool.false_or]
        exact parse_refs hl'
      · cases h
    · cases h
/-- A new row of its own block. -/
theorem new_row (h : Rep C V s H a w) {d : Nat} (hf : s.free d = true) {es : List (List Value)} {ty sz cap : Nat} {c : Array Value} (base : Option Nat) {w' : World}
    (hw : Only w w' fun b => ∃ r o, base = some r ∧ look s.objs r = some o ∧ privB V r o = some b) (hb : w'.heap[w.heap.size]? = some (.cells c ty (0, 0)))
    (hcap : es.length ≤ cap) (hc : cap * sz ≤ c.size) (hes : ∀ e ∈ es, e.length = sz) (hfl : c.toList.take (es.length * sz) = es.flatten) (hon : ∀ e ∈ es, ∀ x ∈ e, one x = true) :
    ∃ V', Off d V V' ∧ Rep C V' (St.set ⟨s.env, objSet (delO s.objs base) d (.row ty sz es), s.dfr⟩ d (.c (.row d))) H (a.put (some d) (.slice (some ⟨w.heap.size, 0, none⟩) es.length cap)) w' ∧
      V'.row d = .slice (some ⟨w.heap.size, 0, none⟩) es.length cap := by
  have hoff := rows_off V d (.slice (some ⟨w.heap.size, 0, none⟩) es.length cap)
  have hsz := (Array.getElem?_eq_some_iff.1 hb).1
  refine ⟨V.rows d (.slice (some ⟨w.heap.size, 0, none⟩) es.length cap), hoff, rep_set (s := ⟨s.env, objSet (delO s.objs base) d (.row ty sz es), s.dfr⟩) (rep_objs h hf hoff hw (obj := .row ty sz es) ?_ ?_) ?_, by simp [Vl.rows]⟩
  · exact .inr ⟨w.heap.size, 0, cap, c, by simp [Vl.rows], hb, hcap, by omega, hes, by simpa using hfl, hon⟩
  · intro b hb'
    simp [privB, Vl.rows, blockOf] at hb'
    subst hb'
    exact .inl ⟨Nat.le_refl _, hsz⟩
  · simp [SV.rep, SC.rep, Vl.rows, one]
end
end Sx

set_option linter.unusedVariables false
set_option linter.unusedSimpArgs false
namespace Sx
open Go
set_option linter.unusedSectionVars false
variable [Dr]
section
variable {P : Program} {C : Ctx} {V : Vl} {s : St} {H : Heap} {a : Act} {w : World}

/-- Cells written over others. -/
def lw (l : List Value) (p : Nat) (cs : List Value) : List Value := l.take p ++ cs ++ l.drop (p + cs.length)
theorem lw_right (A l : List Value) (p : Nat) (cs : List Value) : lw (A ++ l) (A.length + p) cs = A ++ lw l p cs := by
  simp only [lw, List.append_assoc]
  rw [List.take_append, List.take_of_length_le (by omega), Nat.add_sub_cancel_left, List.append_assoc]
  congr 2
  rw [List.drop_append, List.drop_eq_nil_of_le (by omega), List.nil_append]
  congr 2; omega
theorem lw_left (l B : List Value) (p : Nat) (cs : List Value) (h : p + cs.length ≤ l.length) : lw (l ++ B) p cs = lw l p cs ++ B := by
  simp only [lw, List.append_assoc]
  rw [List.take_append_of_le_length (by omega), List.drop_append_of_le_length h]
theorem lw_len (l : List Value) (p : Nat) (cs : List Value) (h : p + cs.length ≤ l.length) : (lw l p cs).length = l.length := by
  simp [lw]; omega
theorem write_lw (c : Array Value) (p : Nat) (cs : List Value) (h : p + cs.length ≤ c.size) : (writeCells c p cs).toList = lw c.toList p cs := writeCells_list cs c p h
theorem writeCells_size (c : Array Value) (p : Nat) (cs : List Value) (h : p + cs.length ≤ c.size) : (writeCells c p cs).size = c.size := by
  rw [← Array.length_toList, write_lw c p cs h, lw_len _ _ _ (by simpa using h), Array.length_toList]
theorem flatten_split {sz i : Nat} {es : List (List Value)} {e : List Value} (hes : ∀ e ∈ es, e.length = sz) (he : es[i]? = some e) :
    es.flatten = (es.take i).flatten ++ (e ++ (es.drop (i + 1)).flatten) ∧ (es.take i).flatten.length = i * sz := by
  have hlt := (List.getElem?_eq_some_iff.1 he).1
  refine ⟨?_, ?_⟩
  · conv => lhs; rw [← List.take_append_drop i es]
    rw [List.flatten_append, List.drop_eq_getElem_cons hlt, List.flatten_cons]
    rw [(List.getElem?_eq_some_iff.1 he).2]
  · have : ∀ (l : List (List Value)), (∀ e ∈ l, e.length = sz) → l.flatten.length = l.length * sz := by
      intro l
      induction l with
      | nil => simp
      | cons x l ih => intro h; simp [h x (by simp), ih fun e he => h e (by simp [he]), Nat.succ_mul, Nat.add_comm]
    rw [this _ fun e he => hes e (List.mem_of_mem_take he), List.length_take, Nat.min_eq_left (by omega)]
theorem flatten_len {sz : Nat} : ∀ {l : List (List Value)}, (∀ e ∈ l, e.length = sz) → l.flatten.length = l.length * sz
  | [], _ => by simp
  | x :: l, h => by
    have h1 := flatten_len (l := l) fun e he => h e (by simp [he])
    rw [List.flatten_cons, List.length_append, h1, h x (by simp), List.length_cons, Nat.succ_mul, Nat.add_comm]
/-- An element of a row, written. -/
theorem row_put {sz i off : Nat} {es : List (List Value)} {e cs : List Value} (hes : ∀ e ∈ es, e.length = sz) (he : es[i]? = some e) (hl : off + cs.length ≤ sz) :
    lw es.flatten (i * sz + off) cs = (es.set i (lw e off cs)).flatten := by
  obtain ⟨h1, h2⟩ := flatten_split hes he
  have hel : e.length = sz := hes e (List.mem_of_getElem? he)
  have hlt := (List.getElem?_eq_some_iff.1 he).1
  rw [h1, ← h2, lw_right, lw_left _ _ _ _ (by omega)]
  rw [List.set_eq_take_append_cons_drop]
  simp [hlt]
theorem modify_eq {es : List (List Value)} {i off : Nat} {e cs : List Value} (he : es[i]? = some e) : cellPut es i off cs = es.set i (lw e off cs) := by
  have hlt := (List.getElem?_eq_some_iff.1 he).1
  have h2 := (List.getElem?_eq_some_iff.1 he).2
  unfold cellPut lw
  apply List.ext_getElem?
  intro j
  rw [List.getElem?_modify, List.getElem?_set]
  by_cases hj : i = j
  · subst hj; simp [hlt, h2]
  · simp [hj]
theorem flat_noBad : ∀ {l : List Seg} {cs : List Value}, flat l = some cs → noBad l = true
  | [], _, _ => rfl
  | .c x :: r, cs, h => by
    cases x <;> simp [flat] at h
    split at h
    · rename_i l hl; exact flat_noBad (l := r) hl
    · cases h
  | .ints k n xs :: r, cs, h => by
    simp only [flat] at h
    split at h
    · rename_i l hl; exact flat_noBad (l := r) hl
    · cases h
theorem elemsOf_rep (h : Rep C V s H a w) {sz : Nat} : ∀ (parts : List (Nat × Operand)) (j n : Nat) {es : List (List Value)}, elemsOf P sz s parts j n = some es →
    es.length = n ∧ (∀ e ∈ es, e.length = sz) ∧ (∀ e ∈ es, ∀ x ∈ e, one x = true) ∧ ∀ (cells : Array Value) (pre : List Value), pre.length = j * sz → cells.size = (j + n) * sz → cells.toList.take (j * sz) = pre →
        ∃ cs, Instr.fill (fun i => some (i * sz, sz)) cells (parts.map fun (i, x) => (i, a.eval x)) = some cs ∧ cs.toList = pre ++ es.flatten
  | [], j, 0, es, e => by
    simp [elemsOf] at e
    subst e
    refine ⟨rfl, by simp, by simp, fun cells pre hp hc ht => ⟨cells, rfl, ?_⟩⟩
    rw [← ht, List.flatten_nil, List.append_nil, List.take_of_length_le (by simp [hc])]
  | _ :: _, j, 0, es, e => by simp [elemsOf] at e
  | [], j, n + 1, es, e => by simp [elemsOf] at e
  | (i, x) :: r, j, n + 1, es, e => by
    simp only [elemsOf] at e
    split at e
    · rename_i l hb hl
      split at e
      · rename_i cs hcs
        split at e
        · rename_i es' hsz hes'
          cases e
          have := nbt hb; subst this
          have hsz' := nbt hsz
          obtain ⟨h1, h2, h2', h3⟩ := elemsOf_rep h r (i + 1) n hes'
          refine ⟨by simp [h1], ?_, ?_, ?_⟩
          · intro e he
            rcases List.mem_cons.1 he with rfl | he
            · exact hsz'
            · exact h2 e he
          · intro e he
            rcases List.mem_cons.1 he with rfl | he
            · have hrep := segs_rep (h.ev x) hl
              have hv := flat_rep hrep hcs
              rw [← hv]
              exact segs_one (flat_noBad hcs) hrep
            · exact h2' e he
          · intro cells pre hp hc ht
            have hrep := segs_rep (h.ev x) hl
            have hv := flat_rep hrep hcs
            have hvl : (a.eval x).cells.size = sz := by have := congrArg List.length hv; simp at this; omega
            have hroom : i * sz + sz ≤ cells.size := by
              rw [hc, ← Nat.succ_mul]; exact Nat.mul_le_mul_right _ (by omega)
            rw [List.map_cons, fill_cons rfl hvl hroom]
            have hw := write_lw cells (i * sz) (a.eval x).cells.toList (by simp [hvl]; omega)
            obtain ⟨cs2, h4, h5⟩ := h3 (writeCells cells (i * sz) (a.eval x).cells.toList) (pre ++ cs) (by simp [hp, hsz', Nat.succ_mul]) (by rw [writeCells_size _ _ _ (by simp [hvl]; omega), hc]; congr 1; omega) (by
              rw [hw, lw, ht, hv, Nat.succ_mul]
              exact List.take_left' (by simp [hp, hsz']))
            exact ⟨cs2, h4, by rw [h5]; simp⟩
        · cases e
      · cases e
    · cases e
theorem sliceElem_eq {t e : TypeId} {sz : Nat} (he : sliceElem P t = some (e, sz)) : P.underlying t = some (.slice e) ∧ ∃ i, P.info? e = some i ∧ i.size = sz := by
  unfold sliceElem at he
  split at he
  · split at he
    · rename_i hz; cases he
      exact ⟨by assumption, sizeT_eq hz⟩
    · cases he
  · cases he
theorem zeros_list {z : Array Value} (n : Nat) : ((Array.range (n * z.size)).map (z[· % z.size]!)).toList = (List.replicate n z.toList).flatten := by
  induction n with
  | zero => simp
  | succ n ih =>
    rw [List.replicate_succ', List.flatten_append, ← ih]
    apply List.ext_getElem?
    intro i
    simp only [Array.toList_map, Array.toList_range, List.getElem?_map, List.flatten_cons, List.flatten_nil, List.append_nil]
    by_cases hi : i < n * z.size
    · rw [List.getElem?_append_left (by simpa using hi)]
      have hi2 : i < (n + 1) * z.size := by rw [Nat.succ_mul]; omega
      simp [hi, hi2]
    · rw [List.getElem?_append_right (by simpa using hi)]
      simp only [List.length_map, List.length_range]
      by_cases hi2 : i < (n + 1) * z.size
      · have hlt : i - n * z.size < z.size := by rw [Nat.succ_mul] at hi2; omega
        have hmod : i % z.size = i - n * z.size := by
          have e1 : i = (i - n * z.size) + z.size * n := by have := Nat.mul_comm n z.size; omega
          conv => lhs; rw [e1]
          rw [Nat.add_mul_mod_self_left, Nat.mod_eq_of_lt hlt]
        rw [List.getElem?_range hi2]
        simp [hmod, hlt]
      · rw [List.getElem?_eq_none (by simp; omega), List.getElem?_eq_none (by simp; rw [Nat.succ_mul] at hi2; omega)]
        rfl
theorem loadCells_run {A : Addr} {l : List Value} (hc : ∀ j x, l[j]? = some x → w.cell? (A.add j) = some x) : (loadCells A l.length).run P w = .ok l.toArray w := by
  unfold loadCells
  rw [loadCellsFrom_run l.length 0 #[] l rfl (by simpa using hc)]
  simp
structure SrcRep (P : Program) (w : World) (v : Value) (sz : Nat) (es : List (List Value)) : Prop where
  len : ∃ xb xc, v = .slice xb es.length xc
  el : ∀ e ∈ es, e.length = sz
  run : (Builtin.firstCells sz es.length v).run P w = .ok es.flatten.toArray w
  on : ∀ e ∈ es, ∀ x ∈ e, one x = true
theorem flat_cell {A : Addr} (hs : A.spot = none) {sz : Nat} {es : List (List Value)} (hes : ∀ e ∈ es, e.length = sz)
    (h : ∀ i e, es[i]? = some e → ∀ q x, e[q]? = some x → w.cell? (A.add (i * sz + q)) = some x) : ∀ j x, es.flatten[j]? = some x → w.cell? (A.add j) = some x := by
  intro j x hj
  have hlt := (List.getElem?_eq_some_iff.1 hj).1
  rw [flatten_len hes] at hlt
  have hsz : 0 < sz := by
    rcases Nat.eq_zero_or_pos sz with h0 | h0
    · rw [h0] at hlt; simp at hlt
    · exact h0
  have hi : j / sz < es.length := Nat.div_lt_of_lt_mul (by rw [Nat.mul_comm]; exact hlt)
  have he : es[j / sz]? = some es[j / sz] := List.getElem?_eq_getElem hi
  have hj2 : j = j / sz * sz + j % sz := by have := Nat.div_add_mod j sz; rw [Nat.mul_comm] at this; omega
  have hq := Nat.mod_lt j hsz
  rw [hj2] at hj ⊢
  rw [flatten_get hes he hq] at hj
  exact h _ _ he _ _ hj
theorem src_row {v : Value} {ty sz : Nat} {es : List (List Value)} (h : RowIn w v ty sz es) : SrcRep P w v sz es := by
  rcases h with ⟨hv, rfl⟩ | ⟨b, o, cap, c, hv, hb, hcap, hc, hes, hfl, hon⟩
  · exact ⟨⟨none, 0, hv⟩, by simp, by rw [hv]; rfl, by simp⟩
  · refine ⟨⟨_, _, hv⟩, hes, ?_, hon⟩
    rw [hv]
    simp only [Builtin.firstCells]
    rw [← flatten_len hes]
    refine loadCells_run ?_
    intro j x hj
    rw [add_spot rfl, cell_block hb rfl]
    have hlt := (List.getElem?_eq_some_iff.1 hj).1
    rw [← hfl] at hj
    rw [List.getElem?_take_of_lt (by rw [flatten_len hes] at hlt; exact hlt), List.getElem?_drop] at hj
    simpa using hj
theorem sub_flat {sz lo hi : Nat} {es : List (List Value)} (hes : ∀ e ∈ es, e.length = sz) (h1 : lo ≤ hi) (h2 : hi ≤ es.length) :
    ((es.flatten).drop (lo * sz)).take ((hi - lo) * sz) = ((es.drop lo).take (hi - lo)).flatten ∧ ((es.drop lo).take (hi - lo)).length = hi - lo := by
  refine ⟨?_, by simp; omega⟩
  have e1 : es = es.take lo ++ (((es.drop lo).take (hi - lo)) ++ (es.drop lo).drop (hi - lo)) := by rw [List.take_append_drop, List.take_append_drop]
  conv => lhs; rw [e1]
  rw [List.flatten_append, List.flatten_append]
  have l1 : (es.take lo).flatten.length = lo * sz := by rw [flatten_len fun e he => hes e (List.mem_of_mem_take he), List.length_take, Nat.min_eq_left (by omega)]
  have l2 : ((es.drop lo).take (hi - lo)).flatten.length = (hi - lo) * sz := by
    rw [flatten_len fun e he => hes e (List.mem_of_mem_drop (List.mem_of_mem_take he))]
    congr 1; simp; omega
  rw [List.drop_left' l1, List.take_left' l2]
theorem src_sub {v y : Value} {ty sz lo hi : Nat} {es : List (List Value)} (h : RowIn w v ty sz es) (hy : SubRep v sz lo hi y) : SrcRep P w y sz ((es.drop lo).take (hi - lo)) := by
  obtain ⟨a0, n, cap, a', hv, rfl, hle, hn, hcap, ha0, hA⟩ := hy
  rcases h with ⟨hv', rfl⟩ | ⟨b, o, cap', c, hv', hb, hcap', hc, hes, hfl, hon⟩
  · rw [hv'] at hv
    cases hv
    have : hi = 0 := by omega
    subst this
    have : lo = 0 := by omega
    subst this
    obtain ⟨_, _, rfl⟩ := ha0 rfl
    exact ⟨⟨none, 0, by simp⟩, by simp, by simp [Builtin.firstCells], by simp⟩
  · rw [hv'] at hv
    cases hv
    obtain ⟨hs, o', rfl, ho', hroom⟩ := hA _ rfl
    obtain ⟨hf1, hf2⟩ := sub_flat hes hle hn
    have hes' : ∀ e ∈ (es.drop lo).take (hi - lo), e.length = sz := fun e he => hes e (List.mem_of_mem_drop (List.mem_of_mem_take he))
    refine ⟨⟨_, _, by rw [hf2]⟩, hes', ?_, fun e he => hon e (List.mem_of_mem_drop (List.mem_of_mem_take he))⟩
    simp only [Builtin.firstCells]
    rw [hf2]
    rw [show (hi - lo) * sz = ((es.drop lo).take (hi - lo)).flatten.length by rw [flatten_len hes', hf2]]
    refine loadCells_run ?_
    intro j x hj
    have hlt := (List.getElem?_eq_some_iff.1 hj).1
    rw [flatten_len hes', hf2] at hlt
    have hlo : lo < cap := by
      rcases Nat.lt_or_ge lo hi with h | h
      · omega
      · have : hi - lo = 0 := by omega
        rw [this] at hlt; simp at hlt
    rw [add_spot rfl, cell_block hb rfl, ho' hlo]
    rw [← hf1, List.getElem?_take_of_lt hlt, List.getElem?_drop, ← hfl] at hj
    have hle2 : lo * sz + j < es.length * sz := by
      have : lo * sz + (hi - lo) * sz = hi * sz := by rw [← Nat.add_mul]; congr 1; omega
      have : hi * sz ≤ es.length * sz := Nat.mul_le_mul_right _ hn
      omega
    rw [List.getElem?_take_of_lt hle2, List.getElem?_drop] at hj
    simpa [Nat.add_assoc] using hj
theorem src_real {Hr : Heap} (hsub : Hr.sub w) {v : Value} {sz : Nat} {es : List (List Value)} (h : SliceAt Hr v sz es) : SrcRep P w v sz es := by
  obtain ⟨a0, n, c, rfl, rfl, hle, hes, hon, hA⟩ := h
  refine ⟨⟨_, _, rfl⟩, hes, ?_, hon⟩
  cases es with
  | nil => cases a0 <;> simp [Builtin.firstCells, loadCells, loadCellsFrom]
  | cons e0 r =>
    obtain ⟨A, rfl, hs, _⟩ := hA 0 e0 rfl
    simp only [Builtin.firstCells]
    rw [← flatten_len hes]
    refine loadCells_run (flat_cell hs hes ?_)
    intro i e he q x hq
    obtain ⟨A', hA', _, hh⟩ := hA i e he
    cases hA'
    have := has_cell hsub hh q x hq
    rwa [add_spot hs, add_spot rfl, Nat.add_assoc, ← add_spot hs] at this
structure BaseRep (V : Vl) (s : St) (w : World) (vb : Value) (ty sz : Nat) (base : Option Nat) (es : List (List Value)) (ab : Option Addr) (cap : Nat) (g : Prop) : Prop where
  val : vb = .slice ab es.length cap
  room : es.length ≤ cap
  el : ∀ e ∈ es, e.length = sz
  on : ∀ e ∈ es, ∀ x ∈ e, one x = true
  blk : (ab = none ∧ cap = 0) ∨ ∃ b o c ty', ab = some ⟨b, o, none⟩ ∧ w.heap[b]? = some (.cells c ty' (0, 0)) ∧ o + cap * sz ≤ c.size ∧ (c.toList.drop o).take (es.length * sz) = es.flatten ∧
    ((ty' = ty ∧ ∃ r ob, base = some r ∧ look s.objs r = some ob ∧ privB V r ob = some b) ∨ (g ∧ cap = es.length))
theorem base_rep (h : Rep C V s H a w) {x : SV} {vb : Value} {ty sz : Nat} {base : Option Nat} {es : List (List Value)} (hx : x.rep V vb) (hb : baseOf s ty sz x = some (base, es)) :
    ∃ ab cap, BaseRep V s w vb ty sz base es ab cap False := by
  unfold baseOf at hb
  split at hb
  · obtain ⟨hx, -⟩ := hx
    split at hb
    · rename_i r _ ty' sz' es' hl
      split at hb
      · rename_i h1 h2
        cases hb
        have := nbt h1; subst this
        have := nbt h2; subst this
        have ho := h.objs _ _ hl
        have ho' := ho
        rcases ho with ⟨hv, rfl⟩ | ⟨b, o, cap, c, hv, hb, hcap, hc, hes, hfl, hon⟩
        · exact ⟨none, 0, by rw [hx, hv]; rfl, Nat.le_refl _, by simp, by simp, .inl ⟨rfl, rfl⟩⟩
        · exact ⟨_, _, by rw [hx, hv], hcap, hes, hon, .inr ⟨b, o, c, _, rfl, hb, hc, hfl, .inl ⟨rfl, r, _, rfl, hl, by simp [privB, hv, blockOf]⟩⟩⟩
      · cases hb
    · cases hb
  · split at hb
    · rename_i r z lo hi _ ty' sz' es' hl
      split at hb
      · rename_i h1 h2 h3
        cases hb
        have := nbt h1; subst this
        have := nbt h2; subst this
        have := nbt h3; subst this
        obtain ⟨a0, n, cap, a', hv, rfl, hle, hn, hcap, ha0, hA⟩ := hx
        rcases h.objs _ _ hl with ⟨hv', rfl⟩ | ⟨b, o, cap', c, hv', hb, hcap', hc, hes, hfl, hon⟩
        · rw [hv'] at hv
          cases hv
          have : hi = 0 := by omega
          subst this
          have : lo = 0 := by omega
          subst this
          obtain ⟨_, _, rfl⟩ := ha0 rfl
          exact ⟨none, 0, by simp, by simp, by simp, by simp, .inl ⟨rfl, rfl⟩⟩
        · rw [hv'] at hv
          cases hv
          obtain ⟨hs, o', rfl, ho', hroom⟩ := hA _ rfl
          obtain ⟨hf1, hf2⟩ := sub_flat hes hle hn
          simp only at hroom
          refine ⟨some ⟨b, o', none⟩, cap - lo, by rw [hf2], by rw [hf2]; omega, fun e he => hes e (List.mem_of_mem_drop (List.mem_of_mem_take he)), fun e he => hon e (List.mem_of_mem_drop (List.mem_of_mem_take he)), .inr ⟨b, o', c, _, rfl, hb, by omega, ?_, .inl ⟨rfl, r, _, rfl, hl, by simp [privB, hv', blockOf]⟩⟩⟩
          rw [hf2, ← hf1]
          rcases Nat.lt_or_ge lo cap with hlo | hlo
          · rw [ho' hlo, ← hfl, ← List.drop_drop, List.drop_take, List.take_take]
            congr 1
            have : lo * z + (hi - lo) * z = hi * z := by rw [← Nat.add_mul]; congr 1; omega
            have : hi * z ≤ es'.length * z := Nat.mul_le_mul_right _ hn
            omega
          · have : hi - lo = 0 := by omega
            rw [this]; simp
      · cases hb
    · cases hb
  · cases hb
    obtain ⟨rfl, -⟩ := hx
    exact ⟨none, 0, rfl, Nat.le_refl _, by simp, by simp, .inl ⟨rfl, rfl⟩⟩
  · cases hb
theorem askRoom_run (n : Nat) : (askRoom n).run P w = .ok () w := by unfold askRoom; split <;> rfl
theorem nextcap_le {need cap : Nat} (h : cap < need) : Builtin.nextslicecap need cap ≤ 2 * need := by
  unfold Builtin.nextslicecap
  split
  · omega
  · split
    · omega
    · have : ∀ (r c : Nat), 256 ≤ c → c ≤ 2 * need → Builtin.growBy need r c ≤ 2 * need := by
        intro r
        induction r with
        | zero => intro c _ hc; exact hc
        | succ r ih =>
          intro c h1 hc
          unfold Builtin.growBy
          split
          · exact hc
          · exact ih _ (by omega) (by omega)
      exact this 4 cap (by omega) (by omega)
theorem append_run {t t2 e e2 : TypeId} {i : TypeInfo} {z : Value} {ty : TypeId} (hu : P.underlying t = some (.slice e)) (hu2 : P.underlying t2 = some (.slice e2)) (hi : P.info? e = some i) (hz : i.zero = some z)
    (hzs : z.cells.size = i.size) {base : Option Nat} {es es2 : List (List Value)} {vb v : Value} {ab : Option Addr} {cap : Nat} {g : Prop} (hg : g → es2 ≠ []) (hb : BaseRep V s w vb ty i.size base es ab cap g) (hsrc' : ∀ w' : World, w'.heap = w.heap → SrcRep P w' v i.size es2)
    (hroom : (es ++ es2).length * i.bytes ≤ roomMax) (hby : 0 < i.bytes) (rt : TypeId) :
    (∃ b o c, ab = some ⟨b, o, none⟩ ∧ w.heap[b]? = some (.cells c ty (0, 0)) ∧ o + cap * i.size ≤ c.size ∧ (c.toList.drop o).take (es.length * i.size) = es.flatten ∧ (∃ r ob, base = some r ∧ look s.objs r = some ob ∧ privB V r ob = some b) ∧ (es ++ es2).length ≤ cap ∧
      (Builtin.append_ #[t, t2] rt #[vb, v]).run P w = .ok (.slice ab (es ++ es2).length cap) (setB w b (.cells (writeCells c (o + es.length * i.size) es2.flatten) ty (0, 0)))) ∨
    (es ++ es2 = [] ∧ (Builtin.append_ #[t, t2] rt #[vb, v]).run P w = .ok (.slice none 0 0) w) ∨
    ∃ cap' c, (es ++ es2).length ≤ cap' ∧ cap' * i.size ≤ c.size ∧ c.toList.take ((es ++ es2).length * i.size) = (es ++ es2).flatten ∧
      (Builtin.append_ #[t, t2] rt #[vb, v]).run P w = .ok (.slice (some ⟨w.heap.size, 0, none⟩) (es ++ es2).length cap') { w with drawn := w.drawn + 1, heap := w.heap.push (.cells c e) } := by
  obtain ⟨⟨xb, xc, rfl⟩, hel2, hfc, hon2⟩ := hsrc' w rfl
  have hone : ∀ x ∈ es2.flatten, one x = true := by
    intro x hx
    obtain ⟨e, h1, h2⟩ := List.mem_flatten.1 hx
    exact hon2 e h1 x h2
  have hlen : (es ++ es2).length = es.length + es2.length := by simp
  rw [hb.val]
  have hbi : (typeInfo e).run P w = .ok i w := by simp [typeInfo, hi]
  by_cases hcap : es.length + es2.length ≤ cap
  · have run0 : (Builtin.append_ #[t, t2] rt #[.slice ab es.length cap, .slice xb es2.length xc]).run P w =
        (match ab with
          | some a => (do storeCells (a.add (es.length * i.size)) es2.flatten; pure (.slice ab (es.length + es2.length) cap) : Sem Value)
          | none => pure (.slice ab (es.length + es2.length) cap)).run P w := by
      simp only [Builtin.append_, List.getElem?_toArray, List.getElem?_cons_zero, List.getElem?_cons_succ, Sem.run_bind, run_underlying hu, Result.andThen_ok, run_sizeT hi, run_underlying hu2, Sem.run_pure,
        Bool.false_eq_true, if_false, Builtin.lenOf, Bool.not_false, if_true]
      rw [if_pos hcap]
      simp only [Sem.run_bind, hfc, Result.andThen_ok]
      cases ab <;> rfl
    rcases hb.blk with ⟨rfl, rfl⟩ | ⟨b, o, c, ty', rfl, hblk, hc, hfl, hbase⟩
    · have h1 : es = [] := List.length_eq_zero_iff.1 (by omega)
      have h2 : es2 = [] := List.length_eq_zero_iff.1 (by omega)
      subst h1; subst h2
      exact .inr (.inl ⟨rfl, by rw [run0]; rfl⟩)
    · have hfit : o + es.length * i.size + es2.flatten.length ≤ c.size := by
        rw [flatten_len hel2]
        have : (es.length + es2.length) * i.size ≤ cap * i.size := Nat.mul_le_mul_right _ hcap
        rw [Nat.add_mul] at this; omega
      obtain ⟨hty, hbase'⟩ : ty' = ty ∧ ∃ r ob, base = some r ∧ look s.objs r = some ob ∧ privB V r ob = some b := by
        rcases hbase with hbase | ⟨h1, h2⟩
        · exact hbase
        · exact absurd (List.length_eq_zero_iff.1 (by omega)) (hg h1)
      subst hty
      refine .inl ⟨b, o, c, rfl, hblk, hc, hfl, hbase', by omega, ?_⟩
      rw [run0]
      simp only [Sem.run_bind, add_spot]
      rw [storeCells_run es2.flatten 0 w hblk (by omega) hone]
      simp only [Result.andThen_ok, Sem.run_pure, Nat.add_zero, hlen]
  · have hn2 : Builtin.nextslicecap (es.length + es2.length) cap * i.bytes ≤ 2 ^ 48 := by
      have h1 := nextcap_le (need := es.length + es2.length) (cap := cap) (by omega)
      have h2 : Builtin.nextslicecap (es.length + es2.length) cap * i.bytes ≤ 2 * (es.length + es2.length) * i.bytes := Nat.mul_le_mul_right _ h1
      rw [hlen] at hroom
      unfold roomMax at hroom
      rw [Nat.mul_assoc] at h2
      omega
    have hold : (Builtin.firstCells i.size es.length (.slice ab es.length cap)).run P { w with drawn := w.drawn + 1 } = .ok es.flatten.toArray { w with drawn := w.drawn + 1 } := by
      rcases hb.blk with ⟨rfl, rfl⟩ | ⟨b, o, c, ty', rfl, hblk, hc, hfl, hbase⟩
      · have h1 : es = [] := List.length_eq_zero_iff.1 (by have := hb.room; omega)
        subst h1; rfl
      · simp only [Builtin.firstCells]
        rw [← flatten_len hb.el]
        refine loadCells_run ?_
        intro j x hj
        have hlt := (List.getElem?_eq_some_iff.1 hj).1
        rw [flatten_len hb.el] at hlt
        rw [add_spot rfl]
        show w.cell? _ = _
        rw [cell_block hblk rfl]
        rw [← hfl, List.getElem?_take_of_lt hlt, List.getElem?_drop] at hj
        simpa using hj
    have hnew : (Builtin.firstCells i.size es2.length (.slice xb es2.length xc)).run P { w with drawn := w.drawn + 1 } = .ok es2.flatten.toArray { w with drawn := w.drawn + 1 } := (hsrc' { w with drawn := w.drawn + 1 } rfl).run
    have hq : (choose (.appendCap (es.length + es2.length) cap e)).run P w = .ok (es.length + es2.length + w.tape w.drawn (.appendCap (es.length + es2.length) cap e) % (2 ^ 63 - (es.length + es2.length))) { w with drawn := w.drawn + 1 } := rfl
    generalize hg : es.length + es2.length + w.tape w.drawn (.appendCap (es.length + es2.length) cap e) % (2 ^ 63 - (es.length + es2.length)) = nc at hq
    have hnc : es.length + es2.length ≤ nc := by omega
    refine .inr (.inr ⟨nc, es.flatten.toArray ++ es2.flatten.toArray ++ Builtin.zeroCells z.cells (nc - (es.length + es2.length)), by omega, ?_, ?_, ?_⟩)
    · simp only [Array.size_append, List.size_toArray, flatten_len hb.el, flatten_len hel2, Builtin.zeroCells, Array.size_map, Array.size_range, hzs]
      rw [← Nat.add_mul, ← Nat.add_mul]
      exact Nat.mul_le_mul_right _ (by omega)
    · simp only [Array.toList_append, List.flatten_append]
      exact List.take_left' (by simp [flatten_len hb.el, flatten_len hel2, Nat.add_mul])
    · simp only [Builtin.append_, List.getElem?_toArray, List.getElem?_cons_zero, List.getElem?_cons_succ, Sem.run_bind, run_underlying hu, Result.andThen_ok, run_sizeT hi, run_underlying hu2, Sem.run_pure,
        Bool.false_eq_true, if_false, Builtin.lenOf, Bool.not_false, if_true]
      rw [if_neg hcap]
      simp only [Sem.run_bind, hbi, Result.andThen_ok]
      rw [if_neg (by simp; omega)]
      simp only [Sem.run_bind, hbi, Result.andThen_ok]
      rw [if_neg (by omega)]
      simp only [Sem.run_bind, hq, Result.andThen_ok]
      have hbi' : (typeInfo e).run P { w with drawn := w.drawn + 1 } = .ok i { w with drawn := w.drawn + 1 } := by simp [typeInfo, hi]
      simp only [hbi', Result.andThen_ok, Sem.run_bind, askRoom_run, hold, hnew, run_zero hi hz, newRow_run, Sem.run_pure, hlen]
theorem rowIn_heap {w w' : World} (e : w'.heap = w.heap) {v : Value} {ty sz : Nat} {es : List (List Value)} (h : RowIn w v ty sz es) : RowIn w' v ty sz es := by
  unfold RowIn at *
  rw [e]; exact h
theorem sub_heap {w w' : World} (e : w'.heap = w.heap) {H : Heap} (h : H.sub w) : H.sub w' := by
  intro b o hb
  rw [e]; exact h b o hb
/-- A block that an object had that goes. -/
def Was (V : Vl) (s : St) (base : Option Nat) (b : Nat) : Prop := ∃ r ob, base = some r ∧ look s.objs r = some ob ∧ privB V r ob = some b
/-- What an append comes to: what it leaves alone. -/
def GoesB (P : Program) (C : Ctx) (V : Vl) (s : St) (o : Oper) (a : Act) (w : World) (K : St → Prop) (H : Heap) (base : Option Nat) : Prop :=
  ∃ d, o.dst = some d ∧ ∃ V' s' y w', K s' ∧ Rep C V' s' H (a.put o.dst y) w' ∧ Off d V V' ∧ Only w w' (Was V s base) ∧ (∀ x ob, look s'.objs x = some ob → x = d ∨ look s.objs x = some ob) ∧
    (∀ x ob, look s.objs x = some ob → base ≠ some x → x ≠ d → look s'.objs x = some ob) ∧ (∀ ob b, look s'.objs d = some ob → privB V' d ob = some b → w.heap.size ≤ b ∨ Was V s base b) ∧ (execOp a.eval o).run P w = .ok (.value y) w'
theorem GoesB.goes {o : Oper} {K : St → Prop} {base : Option Nat} (h : GoesB P C V s o a w K H base) : Goes P C o a w K H := by
  obtain ⟨d, _, V', s', y, w', h1, h2, _, _, _, _, _, h3⟩ := h
  exact ⟨V', s', y, w', h1, h2, .inl h3⟩
theorem delO_keep {l : List (Nat × AObj)} {base : Option Nat} {x : Nat} {o : AObj} (h : look l x = some o) (hb : base ≠ some x) : look (delO l base) x = some o := by
  cases base with
  | none => exact h
  | some r => simp only [delO]; rw [look_objDel, if_neg (fun e => hb (by rw [e]))]; exact h
theorem base_site {ty sz : Nat} {x : SV} {base : Option Nat} {es : List (List Value)} (h : baseOf s ty sz x = some (base, es)) {r : Nat} (e : base = some r) : x.site = some r := by
  subst e
  unfold baseOf at h
  split at h
  · split at h
    · split at h
      · cases h; rfl
      · cases h
    · cases h
  · split at h
    · split at h
      · cases h; rfl
      · cases h
    · cases h
  · cases h
  · cases h
/-- An append, with what it makes told. -/
theorem append_goes (h : Rep C V s H a w) {o : Oper} {d : Nat} (hd : o.dst = some d) (hf : s.free d = true) {t t2 e e2 : TypeId} {i : TypeInfo} {z : Value} (hu : P.underlying t = some (.slice e)) (hu2 : P.underlying t2 = some (.slice e2)) (hi : P.info? e = some i) (hz : i.zero = some z)
    (hzs : z.cells.size = i.size) {base : Option Nat} {es es2 : List (List Value)} {x y : Operand} {ab : Option Addr} {cap : Nat} {g : Prop} (hg : g → es2 ≠ []) (hb : BaseRep V s w (a.eval x) e i.size base es ab cap g) (hsrc : ∀ w' : World, w'.heap = w.heap → SrcRep P w' (a.eval y) i.size es2)
    (hby : 0 < i.bytes) {K : St → Prop} (hk : rowK s d e i.size i.bytes base (es ++ es2) K)
    (hex : ∀ r w', (Builtin.append_ #[t, t2] o.type #[a.eval x, a.eval y]).run P w = .ok r w' → (execOp a.eval o).run P w = .ok (.value r) w') : GoesB P C V s o a w K H base := by
  obtain ⟨hroom, hK⟩ := hk
  have hel2 := (hsrc w rfl).el
  have hall : ∀ e ∈ es ++ es2, e.length = i.size := by
    intro e he
    rcases List.mem_append.1 he with he | he
    · exact hb.el e he
    · exact hel2 e he
  have hallon : ∀ e ∈ es ++ es2, ∀ x ∈ e, one x = true := by
    intro e he
    rcases List.mem_append.1 he with he | he
    · exact hb.on e he
    · exact (hsrc w rfl).on e he
  have hl1 : ∀ (ob0 : AObj) x ob, look (objSet (delO s.objs base) d ob0) x = some ob → x = d ∨ look s.objs x = some ob := by
    intro ob0 x ob hx
    rw [look_objSet] at hx
    split at hx
    · rename_i e; exact .inl e.symm
    · exact .inr (delO_look hx).1
  have hl2 : ∀ (ob0 : AObj) x ob, look s.objs x = some ob → base ≠ some x → x ≠ d → look (objSet (delO s.objs base) d ob0) x = some ob := by
    intro ob0 x ob hx hb hne
    rw [look_objSet, if_neg (Ne.symm hne)]
    exact delO_keep hx hb
  have hl3 : ∀ (ob0 ob : AObj), look (objSet (delO s.objs base) d ob0) d = some ob → ob = ob0 := by
    intro ob0 ob hx
    rw [look_objSet, if_pos rfl] at hx
    exact (Option.some.inj hx).symm
  unfold GoesB
  rw [hd]
  refine ⟨d, rfl, ?_⟩
  rcases append_run hu hu2 hi hz hzs hg hb hsrc hroom hby o.type with ⟨b, off, c, rfl, hblk, hc, hfl, hbase, hle, hrun⟩ | ⟨hnil, hrun⟩ | ⟨cap', c, hle, hc, hfl, hrun⟩
  · have hoff := rows_off V d (.slice (some ⟨b, off, none⟩) (es ++ es2).length cap)
    have hfit : off + es.length * i.size + es2.flatten.length ≤ c.size := by
      rw [flatten_len hel2]
      have : (es.length + es2.length) * i.size ≤ cap * i.size := Nat.mul_le_mul_right _ (by simpa using hle)
      rw [Nat.add_mul] at this; omega
    obtain ⟨r, ob, hr1, hr2, hr3⟩ := hbase
    have honly : Only w (setB w b (.cells (writeCells c (off + es.length * i.size) es2.flatten) e (0, 0))) (Was V s base) := by
      have := setB_only (w := w) b (.cells (writeCells c (off + es.length * i.size) es2.flatten) e (0, 0))
      exact ⟨this.os, this.tape, this.output, this.size, fun b' hb' hlt => this.block b' (fun eb => hb' ⟨r, ob, hr1, hr2, by rw [hr3, eb]⟩) hlt⟩
    refine ⟨V.rows d (.slice (some ⟨b, off, none⟩) (es ++ es2).length cap), _, _, _, hK, rep_set (s := ⟨s.env, objSet (delO s.objs base) d (.row e i.size (es ++ es2)), s.dfr⟩) (rep_objs h hf hoff (obj := .row e i.size (es ++ es2)) honly ?_ ?_) ?_, hoff, honly, hl1 _, hl2 _, ?_, hex _ _ hrun⟩
    · refine .inr ⟨b, off, cap, _, by simp [Vl.rows], setB_at hblk, hle, by rw [writeCells_size _ _ _ hfit]; exact hc, hall, ?_, hallon⟩
      rw [write_lw _ _ _ hfit]
      have e0 : c.toList = c.toList.take off ++ c.toList.drop off := (List.take_append_drop _ _).symm
      have l0 : (c.toList.take off).length = off := by simp; omega
      conv => lhs; rw [e0]
      have e1 : off + es.length * i.size = (c.toList.take off).length + es.length * i.size := by omega
      rw [e1, lw_right, List.drop_left' l0, lw, hfl, List.flatten_append]
      rw [List.take_left' (by simp [flatten_len hb.el, flatten_len hel2, Nat.add_mul])]
    · intro b' hb'
      simp [privB, Vl.rows, blockOf] at hb'
      subst hb'
      exact .inr ⟨r, ob, hr1, hr2, hr3⟩
    · simp [SV.rep, SC.rep, Vl.rows, one]
    · intro ob' b' h1 h2
      rw [hl3 _ _ h1] at h2
      simp [privB, Vl.rows, blockOf] at h2
      subst h2
      exact .inr ⟨r, ob, hr1, hr2, hr3⟩
  · have hoff := rows_off V d (.slice none 0 0)
    refine ⟨V.rows d (.slice none 0 0), _, _, _, hK, rep_set (s := ⟨s.env, objSet (delO s.objs base) d (.row e i.size (es ++ es2)), s.dfr⟩) (rep_objs h hf hoff (obj := .row e i.size (es ++ es2)) ⟨rfl, ⟨rfl, by first | exact fun _ => Nat.le_refl _ | exact fun _ => Nat.le_succ _⟩, rfl, Nat.le_refl _, fun _ _ _ => rfl⟩ ?_ ?_) ?_, hoff, ⟨rfl, ⟨rfl, by first | exact fun _ => Nat.le_refl _ | exact fun _ => Nat.le_succ _⟩, rfl, Nat.le_refl _, fun _ _ _ => rfl⟩, hl1 _, hl2 _, ?_, hex _ _ hrun⟩
    · exact .inl ⟨by simp [Vl.rows], hnil⟩
    · intro b' hb'
      simp [privB, Vl.rows, blockOf] at hb'
    · simp [SV.rep, SC.rep, Vl.rows, one]
    · intro ob' b' h1 h2
      rw [hl3 _ _ h1] at h2
      simp [privB, Vl.rows, blockOf] at h2
  · obtain ⟨V', hoff, hrep, hnb⟩ := new_row h hf (es := es ++ es2) (ty := e) (sz := i.size) (cap := cap') (c := c) base (w' := { w with drawn := w.drawn + 1, heap := w.heap.push (.cells c e) })
      ⟨rfl, ⟨rfl, by first | exact fun _ => Nat.le_refl _ | exact fun _ => Nat.le_succ _⟩, rfl, by simp, fun b _ hb => by simp [Array.getElem?_push, Nat.ne_of_lt hb]⟩ (by simp) hle hc hall hfl hallon
    refine ⟨V', _, _, _, hK, hrep, hoff, ⟨rfl, ⟨rfl, by first | exact fun _ => Nat.le_refl _ | exact fun _ => Nat.le_succ _⟩, rfl, by simp, fun b _ hb => by simp [Array.getElem?_push, Nat.ne_of_lt hb]⟩, hl1 _, hl2 _, ?_, hex _ _ hrun⟩
    intro ob' b' h1 h2
    rw [hl3 _ _ h1] at h2
    simp only [privB, hnb, blockOf, Option.some.injEq] at h2
    exact .inl (by omega)
theorem src_arr {V : Vl} {b off n lo hi : Nat} {y : Value} (hy : (SC.arr b off n lo hi).rep V y) {cs : List Value} {ty : TypeId} {fr : Nat × Nat} (hblk : w.heap[V.blk b]? = some (.cells cs.toArray ty fr)) {k : IntKind} {xs : List Int} {l' : List Value}
    (e0 : cs.drop off = xs.map (Value.int k) ++ l') (hn : xs.length = n) (hoff : off ≤ cs.length) : SrcRep P w y 1 (((xs.drop lo).take (hi - lo)).map fun v => [Value.int k v]) := by
  obtain ⟨a', rfl, hle, hm, hA⟩ := hy
  have hlen : (((xs.drop lo).take (hi - lo)).map fun v => [Value.int k v]).length = hi - lo := by simp; omega
  have hone : ∀ e ∈ ((xs.drop lo).take (hi - lo)).map (fun v => [Value.int k v]), e.length = 1 := fun e he => by
    obtain ⟨q, _, rfl⟩ := List.mem_map.1 he; rfl
  refine ⟨⟨a', n - lo, by rw [hlen]⟩, hone, ?_, ?_⟩
  · rcases Nat.lt_or_ge lo n with hlt | hge
    · rw [hA hlt]
      simp only [Builtin.firstCells]
      rw [← flatten_len hone]
      refine loadCells_run (flat_cell rfl hone ?_)
      intro i e he q x hq
      rw [List.getElem?_map] at he
      obtain ⟨v, hv, rfl⟩ := Option.map_eq_some_iff.1 he
      have hi' : i < hi - lo := by
        have := (List.getElem?_eq_some_iff.1 hv).1
        simp at this; omega
      have hq0 : q = 0 := by
        have := (List.getElem?_eq_some_iff.1 hq).1
        simp at this; omega
      subst hq0
      simp at hq
      subst hq
      rw [List.getElem?_take_of_lt hi', List.getElem?_drop] at hv
      rw [add_spot rfl, cell_block hblk rfl]
      have h1 : (cs.drop off)[lo + i]? = some (Value.int k v) := by
        rw [e0, List.getElem?_append_left (by simp; omega), List.getElem?_map, hv]; rfl
      rw [List.getElem?_drop] at h1
      simpa [Nat.add_assoc] using h1
    · have h0 : hi - lo = 0 := by omega
      rw [h0]
      cases a' <;> simp [Builtin.firstCells, loadCells, loadCellsFrom]
  · intro e he x hx
    obtain ⟨q, _, rfl⟩ := List.mem_map.1 he
    simp at hx
    subst hx
    rfl
theorem src_of (h : Rep C V s H a w) {x : SV} {y : Value} {es : List (List Value)} {sz : Nat} (hx : x.rep V y) (hs : srcOf s sz x = some es) {w' : World} (e : w'.heap = w.heap) : SrcRep P w' y sz es := by
  unfold srcOf at hs
  split at hs
  · obtain ⟨hx, -⟩ := hx
    split at hs
    · rename_i hl
      split at hs
      · rename_i hb
        have := nbt hb; subst this
        cases hs
        rw [hx]
        exact src_row (rowIn_heap e (h.objs _ _ hl))
      · cases hs
    · cases hs
  · split at hs
    · rename_i hl
      split at hs
      · rename_i hb hb2
        have := nbt hb; subst this
        have := nbt hb2; subst this
        cases hs
        exact src_sub (rowIn_heap e (h.objs _ _ hl)) hx
      · cases hs
    · cases hs
  · rename_i b off n lo hi
    split at hs
    · rename_i ty l hl hb
      have hsz := nbt hb; subst hsz
      split at hs
      · rename_i k m xs rest hseg
        split at hs
        · rename_i hmn
          have hmn := nbt hmn
          subst hmn
          cases hs
          obtain ⟨cs, hcs, hblk⟩ := h.objs _ _ hl
          obtain ⟨⟨hn, l', e0, _⟩, hoff⟩ := segFrom_rep _ _ hcs hseg
          rw [← e] at hblk
          exact src_arr hx hblk e0 hn hoff
        · cases hs
      · cases hs
    · cases hs
  · cases hs
theorem appK_sound (h : Rep C V s H a w) {Hr : Heap} (hr : Hr ≤ H) (o : Oper) {args : Array Operand} {ats : Array TypeId} (ho : o.op = .call { callee := .builtin .append, args := args, argTypes := ats }) {K : St → Prop} (hk : objK P o s Hr K) :
    ∃ base, GoesB P C V s o a w K H base ∧ ∀ r, base = some r → appSite s o = some r := by
  have hsub := le_sub hr h.sub
  cases hd : o.dst with
  | none => unfold objK at hk; rw [ho, hd] at hk; exact hk.elim
  | some d =>
    unfold objK at hk
    rw [ho, hd] at hk
    simp only at hk
    split at hk
    · rename_i t t2 x y hf h1 h2
      have e1 : ats = #[t, t2] := by apply Array.ext'; simpa using h1
      have e2 : args = #[x, y] := by apply Array.ext'; simpa using h2
      subst e1; subst e2
      have hex : ∀ r w', (Builtin.append_ #[t, t2] o.type #[a.eval x, a.eval y]).run P w = .ok r w' → (execOp a.eval o).run P w = .ok (.value r) w' := by
        intro r w' hr
        unfold execOp
        rw [ho]
        simp only [resolve, Sem.run_bind, Sem.run_pure, Result.andThen_ok, invoke, builtin, List.map_toArray, List.map_cons, List.map_nil, hr]
      split at hk
      · rename_i e2 e sz hu2 he
        obtain ⟨hu, i, hi, rfl⟩ := sliceElem_eq he
        split at hk
        · rename_i by_ z hby hz
          obtain ⟨i', v, hi', hv, rfl, hone⟩ := zeroT_eq hz
          rw [hi] at hi'; cases hi'
          have hby' : i.bytes = by_ + 1 := by simp [bytesT, hi] at hby; exact hby
          split at hk
          · rename_i hzl
            have hzs : v.cells.size = i.size := by have := nbt hzl; simpa using this
            have hx := h.ev x
            have hy := h.ev y
            split at hk
            · rename_i b off n hi' harr
              rw [harr] at hx
              obtain ⟨a', hxv, hle, hm, hA⟩ := hx
              split at hk
              · rename_i ty l x1 es2 hl hsrc hsz1 hfull
                simp only [Bool.and_eq_true] at hfull
                have hn1 := Nat.le_of_ble_eq_true hfull.2
                have hfull := nbt hfull.1
                have hsz1 := nbt hsz1
                split at hk
                · rename_i k m xs rest hseg
                  split at hk
                  · rename_i hmn
                    have hmn := nbt hmn
                    subst hmn
                    subst hfull
                    obtain ⟨cs, hcs, hblk⟩ := h.objs _ _ hl
                    obtain ⟨h3, h4⟩ := segFrom_rep _ _ hcs hseg
                    obtain ⟨hn, l', e0, hl'⟩ := h3
                    rw [← hby'] at hk
                    have hA' := hA (by omega)
                    rw [hA'] at hxv
                    have hfl : ∀ xs : List Int, (xs.map fun v => [Value.int k v]).flatten = xs.map (Value.int k) := by
                      intro xs
                      induction xs with
                      | nil => rfl
                      | cons x r ih => simp [ih]
                    refine ⟨none, append_goes (g := True) (base := none) (es := xs.map fun v => [Value.int k v]) (ab := some ⟨V.blk b, off, none⟩) (cap := xs.length) h hd hf hu hu2 hi hv hzs (by simp) ⟨?_, ?_, ?_, ?_, .inr ⟨V.blk b, off, cs.toArray, ty, rfl, hblk, ?_, ?_, .inr ⟨trivial, by simp⟩⟩⟩ (fun w' e => src_of h hy hsrc e) (by omega) hk hex, by simp⟩
                    · rw [hxv]; simp [hn]
                    · simp
                    · intro e he
                      obtain ⟨q, _, rfl⟩ := List.mem_map.1 he
                      simpa using hsz1.symm
                    · intro e he x hx
                      obtain ⟨q, _, rfl⟩ := List.mem_map.1 he
                      simp at hx
                      subst hx
                      rfl
                    · have := congrArg List.length e0
                      simp at this
                      rw [hsz1]
                      simp
                      omega
                    · rw [hsz1, hfl]
                      simp only [List.length_map, Nat.mul_one]
                      rw [e0]
                      exact List.take_left' (by simp)
                  · exact hk.elim
                · exact hk.elim
              · exact hk.elim
            · split at hk
              · rename_i base es hb
                obtain ⟨ab, cap, hbr⟩ := base_rep h hx hb
                split at hk
                · rename_i a0 n c hreal
                  rw [hreal] at hy
                  obtain ⟨hy, -⟩ := hy
                  obtain ⟨es2, hs, hk⟩ := hk
                  rw [← hby'] at hk
                  refine ⟨base, append_goes h hd hf hu hu2 hi hv hzs (by simp) hbr (fun w' e => by rw [hy]; exact src_real (sub_heap e hsub) hs) (by omega) hk hex, fun r e => ?_⟩
                  simp only [appSite, ho]; exact base_site hb e
                · split at hk
                  · rename_i es2 hsrc _
                    rw [← hby'] at hk
                    refine ⟨base, append_goes h hd hf hu hu2 hi hv hzs (by simp) hbr (fun w' e => ?_) (by omega) hk hex, fun r e => ?_⟩
                    · exact src_of h hy hsrc e
                    · simp only [appSite, ho]; exact base_site hb e
                  · exact hk.elim
              · exact hk.elim
          · exact hk.elim
        · exact hk.elim
      · exact hk.elim
    · exact hk.elim
/-- A store into a private variable, or into a row: what it changes. -/
theorem storeK_sound (h : Rep C V s H a w) {Hr : Heap} (o : Oper) {t : TypeId} {x y : Operand} (ho : o.op = .store t x y) (hd : o.dst = none) {K : St → Prop} (hk : objK P o s Hr K) :
    ∃ d old obj b0 w', look s.objs d = some old ∧ privB V d old = some b0 ∧ privB V d obj = some b0 ∧ storeSite (ev s x) = some d ∧ K ⟨s.env, objSet s.objs d obj, s.dfr⟩ ∧
      Rep C V ⟨s.env, objSet s.objs d obj, s.dfr⟩ H a w' ∧ Only w w' (fun b => b = b0) ∧ (execOp a.eval o).run P w = .ok .skip w' := by
  unfold objK at hk
  unfold execOp
  rw [ho, hd] at hk
  rw [ho]
  simp only at hk
  have hx := h.ev x
  split at hk
  · rename_i b off hb
    rw [hb] at hx
    simp only [SV.rep, SC.rep] at hx
    split at hk
    · rename_i ty l new z hl hn hz
      split at hk
      · rename_i l' hbn hl'
        simp only [Bool.and_eq_true] at hbn
        obtain ⟨i, hi, rfl⟩ := sizeT_eq hz
        obtain ⟨cs, hcs, hblk⟩ := h.objs _ _ hl
        have hrep := segs_rep (h.ev y) hn
        have hlen := segsRep_len hrep
        have hsz := nbt hbn.1
        obtain ⟨h1, h2⟩ := segPut_rep hcs hrep hl'
        have hrun := storeVar_run (P := P) (off := off) hi (by simp at hlen; omega) hblk (by simp at h2 ⊢; simp at hlen; omega) (segs_one hbn.2 hrep)
        refine ⟨_, _, _, _, _, hl, rfl, rfl, by rw [hb]; rfl, hk, rep_mod h hl rfl rfl (setB_only _ _) ?_, setB_only _ _, exec_u (by simp only [Instr.storeAt, Sem.run_bind, hx, Instr.sureAddr, Sem.run_pure, Result.andThen_ok]; exact hrun)⟩
        refine ⟨_, h1, ?_⟩
        rw [setB_at hblk, show (writeCells cs.toArray off (a.eval y).cells.toList) = (cs.take off ++ (a.eval y).cells.toList ++ cs.drop (off + (a.eval y).cells.toList.length)).toArray by
          apply Array.ext'; rw [writeCells_list _ _ _ (by simpa using h2)]]
      · exact hk.elim
    · exact hk.elim
  · rename_i b off n i hb
    rw [hb] at hx
    obtain ⟨hin, hx⟩ := hx
    split at hk
    · rename_i ty l k v hl hy hz
      have hy' := h.ev y
      rw [hy] at hy'
      obtain ⟨hy', -⟩ := hy'
      obtain ⟨inf, hi, h1'⟩ := sizeT_eq hz
      obtain ⟨cs, hcs, hblk⟩ := h.objs _ _ hl
      split at hk
      · rename_i k' m xs rest hr'
        split at hk
        · rename_i l' hm hkk hl'
          have := nbt hm; subst this
          have := sameK_eq hkk; subst this
          obtain ⟨h1, h2⟩ := segFrom_rep _ _ hcs hr'
          obtain ⟨hn, l1, e1, hl1⟩ := h1
          have hrep : SegsRep V [.ints k m (xs.set i v)] ((xs.set i v).map (.int k)) := ⟨by simpa using hn, [], by simp, rfl⟩
          obtain ⟨h3, h4⟩ := segPut_rep hcs hrep hl'
          simp only [List.length_map, List.length_set] at h3 h4
          have hrun := storeVar_run (P := P) (v := .int k v) (off := off + i) hi (by rw [h1']; rfl) hblk (by simp; omega) (by simp [Value.cells, one])
          refine ⟨_, _, _, _, _, hl, rfl, rfl, by rw [hb]; rfl, hk, rep_mod h hl rfl rfl (setB_only _ _) ?_, setB_only _ _, exec_u (by simp only [Instr.storeAt, Sem.run_bind, hx, Instr.sureAddr, Sem.run_pure, Result.andThen_ok, hy']; exact hrun)⟩
          refine ⟨_, h3, ?_⟩
          rw [setB_at hblk]
          congr 2
          apply Array.ext'
          simp only [Value.cells, writeCells, Array.toList_setIfInBounds]
          apply List.ext_getElem?
          intro j
          have hsplit : cs = cs.take off ++ (xs.map (Value.int k) ++ l1) := by rw [← e1, List.take_append_drop]
          have hl1' : cs.drop (off + xs.length) = l1 := by
            rw [← List.drop_drop, e1, List.drop_append_of_le_length (by simp), List.drop_eq_nil_of_le (by simp)]
            simp
          rw [hl1']
          conv => lhs; rw [hsplit]
          have htk : (cs.take off).length = off := by simp; omega
          rw [List.append_assoc, List.set_append_right _ _ (by omega), htk, Nat.add_sub_cancel_left, List.set_append_left _ _ (by simp; omega), List.map_set]
        · exact hk.elim
      · exact hk.elim
    · exact hk.elim
  · rename_i r sz' i off hb
    rw [hb] at hx
    obtain ⟨A, n, cap, hv, hs, hx⟩ := hx
    split at hk
    · rename_i ty sz es new z hl hn hz
      split at hk
      · rename_i cs hcs
        split at hk
        · rename_i hb1 hb2 hb3
          have := nbt hb3; subst this
          have hcl := nbt hb1
          have hle := Nat.le_of_ble_eq_true hb2
          obtain ⟨hi, hK⟩ := hk
          obtain ⟨inf, hinf, rfl⟩ := sizeT_eq hz
          have hrep := segs_rep (h.ev y) hn
          have hval := flat_rep hrep hcs
          have hvs : (a.eval y).cells.size = inf.size := by have := congrArg List.length hval; simp at this; omega
          have hone : ∀ x ∈ (a.eval y).cells.toList, one x = true := by
            exact segs_one (flat_noBad hcs) hrep
          rcases h.objs _ _ hl with ⟨hv', rfl⟩ | ⟨b, o', cap', c, hv', hblk, hcap, hc1, hes, hfl, hon⟩
          · simp at hi
          · rw [hv'] at hv
            cases hv
            have he : es[i]? = some es[i] := List.getElem?_eq_getElem hi
            have hroom : i * sz + off + inf.size ≤ es.length * sz := by
              have : (i + 1) * sz ≤ es.length * sz := Nat.mul_le_mul_right _ hi
              rw [Nat.succ_mul] at this; omega
            have hroom2 : es.length * sz ≤ cap * sz := Nat.mul_le_mul_right _ hcap
            have hrun := storeVar_run (P := P) (off := o' + i * sz + off) hinf hvs hblk (by omega) hone
            have hes' : (match Nat.beq inf.size sz with | true => es.set i cs | false => cellPut es i off cs) = es.set i (lw es[i] off cs) := by
              split
              · rename_i hbb
                have hbb := nbt hbb
                have h0 : off = 0 := by omega
                subst h0
                have hel := hes es[i] (List.getElem_mem hi)
                rw [lw, List.take_zero, List.nil_append, List.drop_eq_nil_of_le (by omega), List.append_nil]
              · exact modify_eq he
            have hK' : K ⟨s.env, objSet s.objs r (.row ty sz (es.set i (lw es[i] off cs))), s.dfr⟩ := by rw [← hes']; exact hK
            refine ⟨_, _, _, _, _, hl, by simp [privB, hv', blockOf], by simp [privB, hv', blockOf], by rw [hb]; rfl, hK', rep_mod h hl (by simp [privB, hv', blockOf]) (by simp [privB, hv', blockOf]) (setB_only b _) (.inr ⟨b, o', cap, writeCells c (o' + i * sz + off) cs, ?_, ?_, ?_, ?_, ?_, ?_, ?_⟩), setB_only b _, exec_u (by simp only [Instr.storeAt, Sem.run_bind, hx, Instr.sureAddr, Sem.run_pure, Result.andThen_ok]; exact hrun)⟩
            · rw [hv']; simp
            · rw [setB_at hblk, hval]
            · simpa using hcap
            · rw [writeCells_size _ _ _ (by omega)]; exact hc1
            · intro e he'
              rcases List.mem_or_eq_of_mem_set he' with he' | rfl
              · exact hes e he'
              · have hel := hes es[i] (List.getElem_mem hi)
                rw [lw_len _ _ _ (by omega), hel]
            · rw [write_lw _ _ _ (by omega), ← row_put hes he (by omega), ← hfl, List.length_set]
              have e0 : c.toList = c.toList.take o' ++ ((c.toList.drop o').take (es.length * sz) ++ (c.toList.drop o').drop (es.length * sz)) := by
                rw [List.take_append_drop, List.take_append_drop]
              have l0 : (c.toList.take o').length = o' := by simp; omega
              have l1 : ((c.toList.drop o').take (es.length * sz)).length = es.length * sz := by simp; omega
              conv => lhs; rw [e0]
              have e1 : o' + i * sz + off = (c.toList.take o').length + (i * sz + off) := by omega
              rw [e1, lw_right, lw_left _ _ _ _ (by omega), List.drop_left' l0, List.take_left' (by rw [lw_len _ _ _ (by omega), l1])]
            · intro e he'
              rcases List.mem_or_eq_of_mem_set he' with he' | rfl
              · exact hon e he'
              · intro x hx
                rw [lw] at hx
                rcases List.mem_append.1 hx with hx | hx
                · rcases List.mem_append.1 hx with hx | hx
                  · exact hon _ (List.getElem_mem hi) x (List.mem_of_mem_take hx)
                  · exact hone x (by rw [hval]; exact hx)
                · exact hon _ (List.getElem_mem hi) x (List.mem_of_mem_drop hx)
        · exact hk.elim
      · exact hk.elim
    · exact hk.elim
  · exact hk.elim
theorem objK_sound (h : Rep C V s H a w) {Hr : Heap} (hr : Hr ≤ H) (o : Oper) {K : St → Prop} (hk : objK P o s Hr K) : Goes P C o a w K H := by
  have hsub := le_sub hr h.sub
  unfold objK at hk
  unfold Goes execOp
  split at hk
  · -- alloc
    rename_i t d ho hd
    rw [ho, hd]
    split at hk
    · rename_i z ks hf hz hks
      obtain ⟨i, v, hi, hv, rfl, hone⟩ := zeroT_eq hz
      split at hk
      · rename_i l hl
        obtain ⟨V', hoff, hrep, hnb⟩ := new_box h hf t (parse_rep (V := V) hl hone) (parse_refs hl)
        refine ⟨V', _, _, _, hk, hrep, .inl (exec_v ?_)⟩
        simp only [Instr.alloc, Sem.run_bind, run_zero hi hv, Result.andThen_ok, newVar, newRow_run, Sem.run_pure]
      · exact hk.elim
    · exact hk.elim
  · -- box
    rename_i t x d ho hd
    rw [ho, hd]
    split at hk
    · rename_i l hf hl
      obtain ⟨V', hoff, hrep, hnb⟩ := new_box h hf t (segs_rep (h.ev x) hl) (segs_refs (ev_refs hf x) hl)
      refine ⟨V', _, _, _, hk, hrep, .inl (exec_v ?_)⟩
      simp only [Instr.box, Sem.run_bind, newVar, newRow_run, Result.andThen_ok, Sem.run_pure]
    · exact hk.elim
  · -- store
    rename_i t x y ho hd
    rw [ho, hd]
    have hx := h.ev x
    split at hk
    · rename_i b off hb
      rw [hb] at hx
      simp only [SV.rep, SC.rep] at hx
      split at hk
      · rename_i ty l new z hl hn hz
        split at hk
        · rename_i l' hbn hl'
          simp only [Bool.and_eq_true] at hbn
          obtain ⟨i, hi, rfl⟩ := sizeT_eq hz
          obtain ⟨cs, hcs, hblk⟩ := h.objs _ _ hl
          have hrep := segs_rep (h.ev y) hn
          have hlen := segsRep_len hrep
          have hsz := nbt hbn.1
          obtain ⟨h1, h2⟩ := segPut_rep hcs hrep hl'
          have hrun := storeVar_run (P := P) (off := off) hi (by simp at hlen; omega) hblk (by simp at h2 ⊢; simp at hlen; omega) (segs_one hbn.2 hrep)
          refine ⟨V, _, undef, _, hk, rep_mod h hl rfl rfl (setB_only _ _) ?_, .inr ⟨exec_u (by simp only [Instr.storeAt, Sem.run_bind, hx, Instr.sureAddr, Sem.run_pure, Result.andThen_ok]; exact hrun), rfl⟩⟩
          refine ⟨_, h1, ?_⟩
          rw [setB_at hblk, show (writeCells cs.toArray off (a.eval y).cells.toList) = (cs.take off ++ (a.eval y).cells.toList ++ cs.drop (off + (a.eval y).cells.toList.length)).toArray by
            apply Array.ext'; rw [writeCells_list _ _ _ (by simpa using h2)]]
        · exact hk.elim
      · exact hk.elim
    · rename_i b off n i hb
      rw [hb] at hx
      obtain ⟨hin, hx⟩ := hx
      split at hk
      · rename_i ty l k v hl hy hz
        have hy' := h.ev y
        rw [hy] at hy'
        obtain ⟨hy', -⟩ := hy'
        obtain ⟨inf, hi, h1'⟩ := sizeT_eq hz
        obtain ⟨cs, hcs, hblk⟩ := h.objs _ _ hl
        split at hk
        · rename_i k' m xs rest hr'
          split at hk
          · rename_i l' hm hkk hl'
            have := nbt hm; subst this
            have := sameK_eq hkk; subst this
            obtain ⟨h1, h2⟩ := segFrom_rep _ _ hcs hr'
            obtain ⟨hn, l1, e1, hl1⟩ := h1
            have hrep : SegsRep V [.ints k m (xs.set i v)] ((xs.set i v).map (.int k)) := ⟨by simpa using hn, [], by simp, rfl⟩
            obtain ⟨h3, h4⟩ := segPut_rep hcs hrep hl'
            simp only [List.length_map, List.length_set] at h3 h4
            have hrun := storeVar_run (P := P) (v := .int k v) (off := off + i) hi (by rw [h1']; rfl) hblk (by simp; omega) (by simp [Value.cells, one])
            refine ⟨V, _, undef, _, hk, rep_mod h hl rfl rfl (setB_only _ _) ?_, .inr ⟨exec_u (by simp only [Instr.storeAt, Sem.run_bind, hx, Instr.sureAddr, Sem.run_pure, Result.andThen_ok, hy']; exact hrun), rfl⟩⟩
            refine ⟨_, h3, ?_⟩
            rw [setB_at hblk]
            congr 2
            apply Array.ext'
            simp only [Value.cells, writeCells, Array.toList_setIfInBounds]
            apply List.ext_getElem?
            intro j
            have hsplit : cs = cs.take off ++ (xs.map (Value.int k) ++ l1) := by rw [← e1, List.take_append_drop]
            have hl1' : cs.drop (off + xs.length) = l1 := by
              rw [← List.drop_drop, e1, List.drop_append_of_le_length (by simp), List.drop_eq_nil_of_le (by simp)]
              simp
            rw [hl1']
            conv => lhs; rw [hsplit]
            have htk : (cs.take off).length = off := by simp; omega
            rw [List.append_assoc, List.set_append_right _ _ (by omega), htk, Nat.add_sub_cancel_left, List.set_append_left _ _ (by simp; omega), List.map_set]
          · exact hk.elim
        · exact hk.elim
      · exact hk.elim
    · rename_i r sz' i off hb
      rw [hb] at hx
      obtain ⟨A, n, cap, hv, hs, hx⟩ := hx
      split at hk
      · rename_i ty sz es new z hl hn hz
        split at hk
        · rename_i cs hcs
          split at hk
          · rename_i hb1 hb2 hb3
            have := nbt hb3; subst this
            have hcl := nbt hb1
            have hle := Nat.le_of_ble_eq_true hb2
            obtain ⟨hi, hK⟩ := hk
            obtain ⟨inf, hinf, rfl⟩ := sizeT_eq hz
            have hrep := segs_rep (h.ev y) hn
            have hval := flat_rep hrep hcs
            have hvs : (a.eval y).cells.size = inf.size := by have := congrArg List.length hval; simp at this; omega
            have hone : ∀ x ∈ (a.eval y).cells.toList, one x = true := by
              exact segs_one (flat_noBad hcs) hrep
            rcases h.objs _ _ hl with ⟨hv', rfl⟩ | ⟨b, o', cap', c, hv', hblk, hcap, hc1, hes, hfl, hon⟩
            · simp at hi
            · rw [hv'] at hv
              cases hv
              have he : es[i]? = some es[i] := List.getElem?_eq_getElem hi
              have hroom : i * sz + off + inf.size ≤ es.length * sz := by
                have : (i + 1) * sz ≤ es.length * sz := Nat.mul_le_mul_right _ hi
                rw [Nat.succ_mul] at this; omega
              have hroom2 : es.length * sz ≤ cap * sz := Nat.mul_le_mul_right _ hcap
              have hrun := storeVar_run (P := P) (off := o' + i * sz + off) hinf hvs hblk (by omega) hone
              have hes' : (match Nat.beq inf.size sz with | true => es.set i cs | false => cellPut es i off cs) = es.set i (lw es[i] off cs) := by
                split
                · rename_i hbb
                  have hbb := nbt hbb
                  have h0 : off = 0 := by omega
                  subst h0
                  have hel := hes es[i] (List.getElem_mem hi)
                  rw [lw, List.take_zero, List.nil_append, List.drop_eq_nil_of_le (by omega), List.append_nil]
                · exact modify_eq he
              have hK' : K ⟨s.env, objSet s.objs r (.row ty sz (es.set i (lw es[i] off cs))), s.dfr⟩ := by rw [← hes']; exact hK
              refine ⟨V, _, undef, _, hK', rep_mod h hl (by simp [privB, hv', blockOf]) (by simp [privB, hv', blockOf]) (setB_only b _) (.inr ⟨b, o', cap, writeCells c (o' + i * sz + off) cs, ?_, ?_, ?_, ?_, ?_, ?_, ?_⟩), .inr ⟨exec_u (by simp only [Instr.storeAt, Sem.run_bind, hx, Instr.sureAddr, Sem.run_pure, Result.andThen_ok]; exact hrun), rfl⟩⟩
              · rw [hv']; simp
              · rw [setB_at hblk, hval]
              · simpa using hcap
              · rw [writeCells_size _ _ _ (by omega)]; exact hc1
              · intro e he'
                rcases List.mem_or_eq_of_mem_set he' with he' | rfl
                · exact hes e he'
                · have hel := hes es[i] (List.getElem_mem hi)
                  rw [lw_len _ _ _ (by omega), hel]
              · rw [write_lw _ _ _ (by omega), ← row_put hes he (by omega), ← hfl, List.length_set]
                have e0 : c.toList = c.toList.take o' ++ ((c.toList.drop o').take (es.length * sz) ++ (c.toList.drop o').drop (es.length * sz)) := by
                  rw [List.take_append_drop, List.take_append_drop]
                have l0 : (c.toList.take o').length = o' := by simp; omega
                have l1 : ((c.toList.drop o').take (es.length * sz)).length = es.length * sz := by simp; omega
                conv => lhs; rw [e0]
                have e1 : o' + i * sz + off = (c.toList.take o').length + (i * sz + off) := by omega
                rw [e1, lw_right, lw_left _ _ _ _ (by omega), List.drop_left' l0, List.take_left' (by rw [lw_len _ _ _ (by omega), l1])]
              · intro e he'
                rcases List.mem_or_eq_of_mem_set he' with he' | rfl
                · exact hon e he'
                · intro x hx
                  rw [lw] at hx
                  rcases List.mem_append.1 hx with hx | hx
                  · rcases List.mem_append.1 hx with hx | hx
                    · exact hon _ (List.getElem_mem hi) x (List.mem_of_mem_take hx)
                    · exact hone x (by rw [hval]; exact hx)
                  · exact hon _ (List.getElem_mem hi) x (List.mem_of_mem_drop hx)
          · exact hk.elim
        · exact hk.elim
      · exact hk.elim
    · exact hk.elim
  · -- buildSlice
    rename_i t n parts d ho hd
    rw [ho, hd]
    split at hk
    · rename_i e sz hf he
      split at hk
      · rename_i es hes hn
        obtain ⟨hu, i, hi, rfl⟩ := sliceElem_eq he
        have hn' := Nat.le_of_ble_eq_true hn
        obtain ⟨h1, h2, h2', h3⟩ := elemsOf_rep h _ _ _ hes
        split at hk
        · rename_i z hz
          obtain ⟨i', v, hi', hv, rfl, hone⟩ := zeroT_eq hz
          have hz1 : (if n * i.size = 0 then (pure #[] : Sem (Array Value)) else do pure (← zeroValue e).cells).run P w = .ok (if n * i.size = 0 then #[] else v.cells) w := by
            split
            · rfl
            · simp only [Sem.run_bind, run_zero hi' hv, Result.andThen_ok, Sem.run_pure]
          generalize hq : (if n * i.size = 0 then #[] else v.cells) = zq at hz1
          generalize hcells : (Array.range (n * i.size)).map (zq[· % zq.size]!) = cells
          have hcl : cells.size = n * i.size := by rw [← hcells]; simp
          obtain ⟨cs, h4, h5⟩ := h3 cells [] (by simp) (by simpa using hcl) (by simp)
          have hcs : cs.size = n * i.size := by rw [← Array.length_toList, h5, List.nil_append, flatten_len h2, h1]
          obtain ⟨V', hoff, hrep, hnb⟩ := new_row h hf (es := es) (ty := e) (sz := i.size) (cap := n) (c := cs) none (w' := { w with heap := w.heap.push (.cells cs e) }) (alloc_only _ _) (by simp) (by omega) (by omega) h2
            (by rw [h5, List.nil_append, List.take_of_length_le (by rw [flatten_len h2]; exact Nat.le_refl _)]) h2'
          rw [h1] at hrep
          refine ⟨V', _, _, _, hk, hrep, .inl (exec_v ?_)⟩
          simp only [Instr.buildSlice, Sem.run_bind, run_underlying hu, Result.andThen_ok, run_sizeT hi]
          rw [if_neg (by omega)]
          by_cases hzero : n * i.size = 0
          · rw [if_pos hzero] at hq ⊢
            subst hq
            simp only [Sem.run_bind, Sem.run_pure, Result.andThen_ok, Array.toList_map]
            rw [hcells, h4]
            simp only [Sem.run_bind, newRow_run, Result.andThen_ok, Sem.run_pure]
          · rw [if_neg hzero] at hq ⊢
            subst hq
            simp only [Sem.run_bind, run_zero hi' hv, Sem.run_pure, Result.andThen_ok, Array.toList_map]
            rw [hcells, h4]
            simp only [Sem.run_bind, newRow_run, Result.andThen_ok, Sem.run_pure]
        · exact hk.elim
      · exact hk.elim
    · exact hk.elim
  · -- makeSlice
    rename_i t n c d ho hd
    rw [ho, hd]
    have hn := h.ev n
    have hc := h.ev c
    split at hk
    · rename_i e sz hf he
      split at hk
      · rename_i n' c' z by_ hn1 hc1 hz hby
        rw [hn1] at hn
        rw [hc1] at hc
        obtain ⟨hn, -⟩ := hn
        obtain ⟨hc, -⟩ := hc
        split at hk
        · rename_i hzl
          have hzl := nbt hzl
          obtain ⟨⟨h0, rfl, hroom⟩, hK⟩ := hk
          obtain ⟨hu, i, hi, rfl⟩ := sliceElem_eq he
          obtain ⟨i', v, hi', hv, rfl, hone⟩ := zeroT_eq hz
          rw [hi] at hi'; cases hi'
          have hby' : i.bytes = by_ + 1 := by simp [bytesT, hi] at hby; exact hby
          have hle : c' ≤ roomMax := by
            refine Int.le_trans ?_ hroom
            have : c' * 1 ≤ c' * ((by_ + 1 : Nat) : Int) := Int.mul_le_mul_of_nonneg_left (by omega) h0
            simpa using this
          have hwrap : IntKind.i64.wrap c' = c' := IntWalk.i64_in c' (by unfold roomMax at hle; omega)
          have hzs : v.cells.size = i.size := by simpa using hzl
          have hz1 : (if c'.toNat * i.size = 0 then (pure #[] : Sem (Array Value)) else do pure (← zeroValue e).cells).run P w = .ok (if c'.toNat * i.size = 0 then #[] else v.cells) w := by
            split
            · rfl
            · simp only [Sem.run_bind, run_zero hi hv, Result.andThen_ok, Sem.run_pure]
          generalize hq : (if c'.toNat * i.size = 0 then #[] else v.cells) = zq at hz1
          have hcells : ((Array.range (c'.toNat * i.size)).map (zq[· % zq.size]!)).toList = (List.replicate c'.toNat v.cells.toList).flatten := by
            by_cases hzero : c'.toNat * i.size = 0
            · rw [hzero]
              have : (List.replicate c'.toNat v.cells.toList).flatten = [] := by
                apply List.eq_nil_of_length_eq_zero
                rw [flatten_len (sz := i.size) (by intro e he; rw [List.eq_of_mem_replicate he]; simpa using hzl)]
                simpa using hzero
              rw [this]; simp
            · rw [if_neg hzero] at hq
              subst hq
              rw [← hzs]
              exact zeros_list _
          have hrepl : ∀ e ∈ List.replicate c'.toNat v.cells.toList, e.length = i.size := by
            intro e he; rw [List.eq_of_mem_replicate he]; simpa using hzl
          obtain ⟨V', hoff, hrep, hnb⟩ := new_row h hf (es := List.replicate c'.toNat v.cells.toList) (ty := e) (sz := i.size) (cap := c'.toNat) (c := (Array.range (c'.toNat * i.size)).map (zq[· % zq.size]!)) none (w' := { w with heap := w.heap.push (.cells ((Array.range (c'.toNat * i.size)).map (zq[· % zq.size]!)) e) }) (alloc_only _ _) (by simp) (by simp) (by simp) hrepl
            (by rw [hcells, List.take_of_length_le (by rw [flatten_len hrepl]; exact Nat.le_refl _)]) (by intro e he; rw [List.eq_of_mem_replicate he]; exact hone)
          rw [List.length_replicate] at hrep
          refine ⟨V', _, _, _, hK, hrep, .inl (exec_v ?_)⟩
          rw [hn, hc]
          have hb48 : ¬ ((i.bytes : Int) * c' > 2 ^ 48) := by
            rw [hby', Int.mul_comm]
            unfold roomMax at hroom
            omega
          have hcond : ¬ (c' < 0 || (i.bytes : Int) * c' > 2 ^ 48 || c' < 0 || c' > c') = true := by
            simp; omega
          simp only [Instr.makeSlice, Sem.run_bind, run_underlying hu, Result.andThen_ok, asInt, asIntOf, Sem.run_pure, typeInfo, run_program, hi, hwrap]
          rw [if_neg (by simpa using hcond)]
          have hask : (askRoom (c'.toNat * i.bytes)).run P w = .ok () w := by unfold askRoom; split <;> rfl
          simp only [Sem.run_bind, hask, Result.andThen_ok, run_sizeT hi]
          by_cases hzero : c'.toNat * i.size = 0
          · rw [if_pos hzero] at hq ⊢
            subst hq
            simp only [Sem.run_bind, Sem.run_pure, Result.andThen_ok, newRow_run]
          · rw [if_neg hzero] at hq ⊢
            subst hq
            simp only [Sem.run_bind, run_zero hi hv, Sem.run_pure, Result.andThen_ok, newRow_run]
        · exact hk.elim
      · exact hk.elim
    · exact hk.elim
  · -- append
    rename_i args ats d ho hd
    rw [ho]
    have goal : Goes P C o a w K H := (appK_sound h hr o ho (by unfold objK; rw [ho, hd]; exact hk)).elim fun _ q => q.1.goes
    unfold Goes execOp at goal
    rw [ho] at goal
    exact goal
  · exact hk.elim
end
end Sx

set_option linter.unusedVariables false
set_option linter.unusedSimpArgs false
namespace Sx
open Go
set_option linter.unusedSectionVars false
variable [Dr]
theorem heap_refl (H : Heap) : H ≤ H := fun _ _ e => e
theorem heap_trans {A B D : Heap} (h : A ≤ B) (h' : B ≤ D) : A ≤ D := fun b o e => h' b o (h b o e)
section
variable {P : Program} {C : Ctx} {V : Vl} {s : St} {H : Heap} {a : Act} {w : World}

theorem upd_same (H : Heap) (b : Nat) (o : Obj) : H.upd b o b = some o := by simp [Heap.upd]
theorem upd_ne (H : Heap) {b b' : Nat} (o : Obj) (h : b' ≠ b) : H.upd b o b' = H b' := by simp [Heap.upd, h]
theorem rep_look (h : Rep C V s H a w) {s' : St} (he : s'.env = s.env) (hd : s'.dfr = s.dfr) (hl : ∀ d o, look s'.objs d = some o → look s.objs d = some o) : Rep C V s' H a w :=
  { env := by rw [he]; exact h.env, len := by rw [he]; exact h.len, dfr := by rw [hd]; exact h.dfr, sub := h.sub, objs := fun d o e => h.objs d o (hl d o e), priv := fun d o b e => h.priv d o b (hl d o e),
    dist := fun d o d' o' b e e' => h.dist d o d' o' b (hl d o e) (hl d' o' e'), os := h.os, tape := h.tape, output := h.output, size := h.size, other := h.other }
/-- Behind a call. -/
theorem rep_step (h : Rep C V s H a w) {H' : Heap} {w' : World} (hs : Step H w H' w') : Rep C V s H' a w' := by
  have keep : ∀ d o b, look s.objs d = some o → privB V d o = some b → w'.heap[b]? = w.heap[b]? ∧ H' b = none := by
    intro d o b h1 h2
    obtain ⟨h3, h4, h5⟩ := h.priv _ _ _ h1 h2
    exact ⟨hs.other b h5 h3, hs.fresh b h5 h3⟩
  refine { env := h.env, len := h.len, dfr := h.dfr, sub := hs.sub, objs := ?_, priv := ?_, dist := h.dist, os := hs.os.trans h.os, tape := hs.tape.trans h.tape, output := hs.output.trans h.output, size := Nat.le_trans h.size hs.size, other := ?_ }
  · intro d o hd
    cases o with
    | box ty l =>
      obtain ⟨cs, h1, h2⟩ := h.objs _ _ hd
      exact ⟨cs, h1, by rw [(keep _ _ _ hd rfl).1]; exact h2⟩
    | row ty sz es => exact rowIn_same (h.objs _ _ hd) fun b hb => (keep _ _ _ hd hb).1
  · intro d o b h1 h2
    obtain ⟨h3, h4, h5⟩ := h.priv _ _ _ h1 h2
    exact ⟨(keep _ _ _ h1 h2).2, h4, Nat.lt_of_lt_of_le h5 hs.size⟩
  · intro b h1 h2
    obtain ⟨h3, h4⟩ := h.other b h1 h2
    have hlt := Nat.lt_of_lt_of_le h1 h.size
    exact ⟨by rw [hs.other b hlt h4, h3], hs.fresh b hlt h4⟩
/-- A block is told. -/
theorem rep_tell (h : Rep C V s H a w) {b : Nat} {obj : Obj} (hb : w.heap[b]? = some obj) (hbase : C.w0.heap.size ≤ b ∨ C.H0 b ≠ none) (hn : ∀ d o, look s.objs d = some o → privB V d o ≠ some b) : Rep C V s (H.upd b obj) a w := by
  refine { env := h.env, len := h.len, dfr := h.dfr, sub := ?_, objs := h.objs, priv := ?_, dist := h.dist, os := h.os, tape := h.tape, output := h.output, size := h.size, other := ?_ }
  · intro b' o' e
    by_cases hbb : b' = b
    · subst hbb; rw [upd_same] at e; cases e; exact hb
    · rw [upd_ne _ _ hbb] at e; exact h.sub _ _ e
  · intro d' o' b' e1 e2
    obtain ⟨h3, h4, h5⟩ := h.priv _ _ _ e1 e2
    have : b' ≠ b := fun e => hn d' o' e1 (by rw [← e]; exact e2)
    exact ⟨by rw [upd_ne _ _ this]; exact h3, h4, h5⟩
  · intro b' h1 h2
    obtain ⟨h3, h4⟩ := h.other b' h1 h2
    have : b' ≠ b := by intro e; subst e; exact base_no hbase h1 h2
    exact ⟨h3, by rw [upd_ne _ _ this]; exact h4⟩
theorem look_del {s : St} {d d' : Nat} {o : AObj} (h : look (s.del d).objs d' = some o) : look s.objs d' = some o ∧ d' ≠ d := by
  simp only [St.del, look_objDel] at h
  split at h
  · cases h
  · rename_i hne; exact ⟨h, fun e => hne e.symm⟩
theorem rep_del (h : Rep C V s H a w) (d : Nat) : Rep C V (s.del d) H a w := rep_look h rfl rfl fun _ _ e => (look_del e).1
/-- A block that is told is a variable's again. -/
theorem rep_in (h : Rep C V s H a w) {d : Nat} {o : AObj} {b : Nat} {obj : Obj} (hp : privB V d o = some b) (hb : H b = some obj) (ho : ObjRep V w d o) :
    Rep C V ⟨s.env, objSet s.objs d o, s.dfr⟩ (H.del b) a w := by
  have hdel : ∀ b', b' ≠ b → H.del b b' = H b' := fun b' e => by simp [Heap.del, e]
  have hdel' : H.del b b = none := by simp [Heap.del]
  have hlt := (Array.getElem?_eq_some_iff.1 (h.sub _ _ hb)).1
  have hbase : C.w0.heap.size ≤ b ∨ C.H0 b ≠ none := by
    rcases Nat.lt_or_ge b C.w0.heap.size with h1 | h1
    · right; intro h2; rw [(h.other b h1 h2).2] at hb; cases hb
    · exact .inl h1
  refine { env := h.env, len := h.len, dfr := h.dfr, sub := ?_, objs := ?_, priv := ?_, dist := ?_, os := h.os, tape := h.tape, output := h.output, size := h.size, other := ?_ }
  · intro b' o' e
    by_cases hbb : b' = b
    · subst hbb; rw [hdel'] at e; cases e
    · rw [hdel _ hbb] at e; exact h.sub _ _ e
  · intro d' o' e
    rw [look_objSet] at e
    split at e
    · rename_i hd; subst hd; cases e; exact ho
    · exact h.objs _ _ e
  · intro d' o' b' e1 e2
    rw [look_objSet] at e1
    split at e1
    · rename_i hd; subst hd; cases e1
      rw [hp] at e2; cases e2
      exact ⟨hdel', hbase, hlt⟩
    · obtain ⟨h3, h4, h5⟩ := h.priv _ _ _ e1 e2
      exact ⟨by simp [Heap.del, h3], h4, h5⟩
  · have main : ∀ d' o' b', look s.objs d' = some o' → privB V d' o' = some b' → privB V d o = some b' → False := by
      intro d' o' b' e1 e2 e3
      rw [hp] at e3; cases e3
      rw [(h.priv _ _ _ e1 e2).1] at hb; cases hb
    intro d1 o1 d2 o2 b' e1 e2 p1 p2
    rw [look_objSet] at e1 e2
    split at e1
    · rename_i x1; subst x1; cases e1
      split at e2
      · assumption
      · exact (main _ _ _ e2 p2 p1).elim
    · split at e2
      · rename_i x2; subst x2; cases e2; exact (main _ _ _ e1 p1 p2).elim
      · exact h.dist _ _ _ _ _ e1 e2 p1 p2
  · intro b' h1 h2
    obtain ⟨h3, h4⟩ := h.other b' h1 h2
    exact ⟨h3, by simp [Heap.del, h4]⟩
/-- A row without a block is a variable's again. -/
theorem rep_in0 (h : Rep C V s H a w) {d : Nat} {o : AObj} (hp : privB V d o = none) (ho : ObjRep V w d o) : Rep C V ⟨s.env, objSet s.objs d o, s.dfr⟩ H a w := by
  refine { env := h.env, len := h.len, dfr := h.dfr, sub := h.sub, objs := ?_, priv := ?_, dist := ?_, os := h.os, tape := h.tape, output := h.output, size := h.size, other := h.other }
  · intro d' o' e
    rw [look_objSet] at e
    split at e
    · rename_i hd; subst hd; cases e; exact ho
    · exact h.objs _ _ e
  · intro d' o' b' e1 e2
    rw [look_objSet] at e1
    split at e1
    · rename_i hd; subst hd; cases e1; rw [hp] at e2; cases e2
    · exact h.priv _ _ _ e1 e2
  · intro d1 o1 d2 o2 b' e1 e2 p1 p2
    rw [look_objSet] at e1 e2
    split at e1
    · rename_i x1; subst x1; cases e1; rw [hp] at p1; cases p1
    · split at e2
      · rename_i x2; subst x2; cases e2; rw [hp] at p2; cases p2
      · exact h.dist _ _ _ _ _ e1 e2 p1 p2
theorem rep_off {V' : Vl} {d : Nat} (h : Rep C V s H a w) (hf : s.free d = true) (hV : Off d V V') : Rep C V' s H a w :=
  { env := fun t x hx => sv_off hV (free_env hf t x hx) (h.env t x hx), len := h.len, dfr := h.dfr.eq (free_dfr hV hf).symm, sub := h.sub,
    objs := fun d' o e => objRep_same hV (free_obj hf _ _ e).1 (free_obj hf _ _ e).2 (h.objs _ _ e) fun _ _ => rfl,
    priv := fun d' o b e hp => h.priv d' o b e (by rw [privB_off hV (free_obj hf _ _ e).1] at hp; exact hp),
    dist := fun d1 o1 d2 o2 b e1 e2 p1 p2 => h.dist d1 o1 d2 o2 b e1 e2 (by rw [privB_off hV (free_obj hf _ _ e1).1] at p1; exact p1) (by rw [privB_off hV (free_obj hf _ _ e2).1] at p2; exact p2),
    os := h.os, tape := h.tape, output := h.output, size := h.size, other := h.other }
theorem rep_same' (h : Rep C V s H a w) {g : Nat} {x : SV} (hx : x.rep V (a.tmps.getD g undef)) : Rep C V (s.set g x) H a w := by
  refine { env := ?_, len := ?_, dfr := h.dfr, sub := h.sub, objs := h.objs, priv := h.priv, dist := h.dist, os := h.os, tape := h.tape, output := h.output, size := h.size, other := h.other }
  · intro t z hz
    simp only [St.set, nth_setNth] at hz
    by_cases hg : g = t
    · subst hg
      simp only [if_true] at hz
      split at hz
      · cases hz; exact hx
      · cases hz
    · rw [if_neg hg] at hz
      exact h.env t z hz
  · simp only [St.set, setNth_eq, List.length_set]; exact h.len
theorem setNth_setNth' {α : Type} : ∀ (l : List α) (n : Nat) (x y : α), setNth (setNth l n x) n y = setNth l n y
  | [], _, _, _ => rfl
  | _ :: r, 0, _, _ => rfl
  | z :: r, n + 1, x, y => by simp [setNth, setNth_setNth' r n x y]
/-! ### Lending -/
def LentOK (V : Vl) (ls : List Lend) : Prop := ∀ x ∈ ls, match x.kind with
  | .row _ _ => V.row x.site = x.val
  | .box _ => x.val = .pointer (some ⟨V.blk x.site, 0, none⟩)
  | .gone => True
structure LendsTo (V : Vl) (s : St) (H : Heap) (s' : St) (Hl : Heap) (ls : List Lend) : Prop where
  env : s'.env = s.env
  dfr : s'.dfr = s.dfr
  sub : ∀ d o, look s'.objs d = some o → look s.objs d = some o
  up : H ≤ Hl
  low : ∀ b o, Hl b = some o → H b = some o ∨ ∃ x ∈ ls, blockOf x.val = some b
  src : ∀ x ∈ ls, ∃ o, look s.objs x.site = some o ∧ privB V x.site o = blockOf x.val
  gone : ∀ d o, look s.objs d = some o → look s'.objs d = some o ∨ ∃ x ∈ ls, x.site = d
  ok : LentOK V ls
theorem LendsTo.refl (V : Vl) (s : St) (H : Heap) : LendsTo V s H s H [] :=
  ⟨rfl, rfl, fun _ _ e => e, heap_refl H, fun _ _ e => .inl e, by simp, fun _ _ e => .inl e, by intro x hx; cases hx⟩
theorem LendsTo.trans {s1 s2 : St} {H1 H2 : Heap} {l1 l2 : List Lend} (h : LendsTo V s H s1 H1 l1) (h' : LendsTo V s1 H1 s2 H2 l2) : LendsTo V s H s2 H2 (l1 ++ l2) := by
  refine ⟨h'.env.trans h.env, h'.dfr.trans h.dfr, fun d o e => h.sub d o (h'.sub d o e), heap_trans h.up h'.up, ?_, ?_, ?_, ?_⟩
  · intro b o e
    rcases h'.low b o e with e | ⟨x, hx, hb⟩
    · rcases h.low b o e with e | ⟨x, hx, hb⟩
      · exact .inl e
      · exact .inr ⟨x, by simp [hx], hb⟩
    · exact .inr ⟨x, by simp [hx], hb⟩
  · intro x hx
    rcases List.mem_append.1 hx with hx | hx
    · exact h.src x hx
    · obtain ⟨o, h1, h2⟩ := h'.src x hx
      exact ⟨o, h.sub _ _ h1, h2⟩
  · intro d o e
    rcases h.gone d o e with e | ⟨x, hx, hb⟩
    · rcases h'.gone d o e with e | ⟨x, hx, hb⟩
      · exact .inl e
      · exact .inr ⟨x, by simp [hx], hb⟩
    · exact .inr ⟨x, by simp [hx], hb⟩
  · intro x hx
    rcases List.mem_append.1 hx with hx | hx
    · exact h.ok x hx
    · exact h'.ok x hx
/-- A row that is told. -/
theorem lend_row (h : Rep C V s H a w) {d ty sz : Nat} {es : List (List Value)} (hl : look s.objs d = some (.row ty sz es)) (k : LK) (hk : k = .row ty sz ∨ k = .gone) :
    ∃ H', H ≤ H' ∧ (∀ b, blockOf (V.row d) = some b → H b = none) ∧ (∀ b o, H' b = some o → H b = some o ∨ blockOf (V.row d) = some b) ∧ RowAt H' (V.row d) ty sz es ∧ Rep C V (s.del d) H' a w ∧ LendsTo V s H (s.del d) H' [⟨d, V.row d, k⟩] := by
  have hgone : ∀ d' o', look s.objs d' = some o' → look (s.del d).objs d' = some o' ∨ ∃ x ∈ [(⟨d, V.row d, k⟩ : Lend)], x.site = d' := by
    intro d' o' e
    by_cases hd : d = d'
    · exact .inr ⟨_, List.mem_cons_self .., hd⟩
    · left; simp only [St.del, look_objDel, if_neg hd]; exact e
  have hsrc : ∀ x ∈ [(⟨d, V.row d, k⟩ : Lend)], ∃ o, look s.objs x.site = some o ∧ privB V x.site o = blockOf x.val := by
    intro x hx
    simp at hx
    subst hx
    exact ⟨_, hl, rfl⟩
  have hok : LentOK V [⟨d, V.row d, k⟩] := by
    intro x hx
    simp at hx
    subst hx
    rcases hk with rfl | rfl <;> simp
  rcases h.objs _ _ hl with ⟨hv, rfl⟩ | ⟨b, o, cap, c, hv, hb, hrest⟩
  · refine ⟨H, heap_refl H, by rw [hv]; simp [blockOf], fun _ _ e => .inl e, .inl ⟨hv, rfl⟩, rep_del h d, ⟨rfl, rfl, fun _ _ e => (look_del e).1, heap_refl H, fun _ _ e => .inl e, hsrc, hgone, hok⟩⟩
  · have hp : privB V d (.row ty sz es) = some b := by simp [privB, hv, blockOf]
    obtain ⟨hn, hbase, hlt⟩ := h.priv _ _ _ hl hp
    have up : H ≤ H.upd b (.cells c ty (0, 0)) := fun b' o' e => by
      by_cases hbb : b' = b
      · subst hbb; rw [hn] at e; cases e
      · rw [upd_ne _ _ hbb]; exact e
    have low : ∀ b' o', H.upd b (.cells c ty (0, 0)) b' = some o' → H b' = some o' ∨ blockOf (V.row d) = some b' := fun b' o' e => by
      by_cases hbb : b' = b
      · subst hbb; right; rw [hv]; rfl
      · rw [upd_ne _ _ hbb] at e; exact .inl e
    refine ⟨H.upd b (.cells c ty (0, 0)), up, by rw [hv]; simp [blockOf]; exact hn, low, .inr ⟨b, o, cap, c, hv, upd_same _ _ _, hrest⟩, rep_tell (rep_del h d) hb hbase ?_, ⟨rfl, rfl, fun _ _ e => (look_del e).1, up, ?_, hsrc, hgone, hok⟩⟩
    · intro d' o' e1 e2
      obtain ⟨e1, hne⟩ := look_del e1
      exact hne (h.dist _ _ _ _ _ e1 hl e2 hp)
    · intro b' o' e
      rcases low b' o' e with e | e
      · exact .inl e
      · exact .inr ⟨_, List.mem_cons_self .., e⟩
theorem lendIn_sound : ∀ (l : List Seg) (s : St) (H : Heap) {cs : List Value} {K : List Value → St → Heap → List Lend → Prop}, Rep C V s H a w → SegsRep V l cs → lendIn l s H K →
    ∃ s' H' ls, K cs s' H' ls ∧ Rep C V s' H' a w ∧ LendsTo V s H s' H' ls
  | [], s, H, cs, K, h, hs, hk => by
    have : cs = [] := hs
    subst this
    exact ⟨s, H, [], hk, h, LendsTo.refl _ _ _⟩
  | .c x :: r, s, H, cs, K, h, hs, hk => by
    obtain ⟨y, l', rfl, hx, hr⟩ := hs
    unfold lendIn at hk
    split at hk
    · rename_i v
      obtain ⟨rfl, -⟩ := hx
      obtain ⟨s', H', ls, h1, h2, h3⟩ := lendIn_sound r s H h hr hk
      exact ⟨s', H', ls, h1, h2, h3⟩
    · rename_i d
      obtain ⟨rfl, -⟩ := hx
      split at hk
      · rename_i ty sz es hl
        obtain ⟨H1, g1, g2, g3, g4, g5, g6⟩ := lend_row h hl .gone (.inr rfl)
        obtain ⟨s', H', ls, h1, h2, h3⟩ := lendIn_sound r _ _ g5 hr (hk _ _ g1 g2 g3 g4)
        exact ⟨s', H', _, h1, h2, g6.trans h3⟩
      · exact hk.elim
    · exact hk.elim
  | .ints k n xs :: r, s, H, cs, K, h, hs, hk => by
    obtain ⟨_, l', rfl, hr⟩ := hs
    unfold lendIn at hk
    obtain ⟨s', H', ls, h1, h2, h3⟩ := lendIn_sound r s H h hr hk
    exact ⟨s', H', ls, h1, h2, h3⟩
theorem lendBox_sound {d : Nat} {K : Value → St → Heap → List Lend → Prop} (h : Rep C V s H a w) (hk : lendBox d s H K) :
    ∃ s' H' ls, K (.pointer (some ⟨V.blk d, 0, none⟩)) s' H' ls ∧ Rep C V s' H' a w ∧ LendsTo V s H s' H' ls := by
  unfold lendBox at hk
  split at hk
  · rename_i ty l hl
    obtain ⟨cs, hcs, hb⟩ := h.objs _ _ hl
    have hp : privB V d (.box ty l) = some (V.blk d) := rfl
    obtain ⟨hn, hbase, hlt⟩ := h.priv _ _ _ hl hp
    obtain ⟨s', H', ls, h1, h2, h3⟩ := lendIn_sound l (s.del d) H (rep_del h d) hcs hk
    have hno : ∀ x ∈ ls, x.site ≠ d := fun x hx => by
      obtain ⟨o, e, _⟩ := h3.src x hx
      exact (look_del e).2
    have hnone : H' (V.blk d) = none := by
      cases hq : H' (V.blk d) with
      | none => rfl
      | some ob =>
        exfalso
        rcases h3.low _ ob hq with e | ⟨x, hx, hb⟩
        · rw [hn] at e; cases e
        · obtain ⟨o', g1, g2⟩ := h3.src x hx
          exact hno x hx (h.dist _ _ _ _ _ (look_del g1).1 hl (by rw [g2, hb]) hp)
    refine ⟨s', _, _, h1 _ hnone, rep_tell h2 hb hbase ?_, ?_⟩
    · intro d' o' e1 e2
      obtain ⟨e1, hne⟩ := look_del (h3.sub _ _ e1)
      exact hne (h.dist _ _ _ _ _ e1 hl e2 hp)
    · refine ⟨h3.env, h3.dfr, fun d' o e => (look_del (h3.sub _ _ e)).1, ?_, ?_, ?_, ?_, ?_⟩
      · intro b o e
        have : b ≠ V.blk d := by rintro rfl; rw [hn] at e; cases e
        rw [upd_ne _ _ this]
        exact h3.up b o e
      · intro b o e
        by_cases hbb : b = V.blk d
        · subst hbb; exact .inr ⟨_, List.mem_cons_self .., rfl⟩
        · rw [upd_ne _ _ hbb] at e
          rcases h3.low b o e with e | ⟨x, hx, hb⟩
          · exact .inl e
          · exact .inr ⟨x, List.mem_cons_of_mem _ hx, hb⟩
      · intro x hx
        rcases List.mem_cons.1 hx with rfl | hx
        · exact ⟨_, hl, rfl⟩
        · obtain ⟨o, g1, g2⟩ := h3.src x hx
          exact ⟨o, (look_del g1).1, g2⟩
      · intro d' o e
        by_cases hd : d = d'
        · exact .inr ⟨_, List.mem_cons_self .., hd⟩
        · rcases h3.gone d' o (by simp only [St.del, look_objDel, if_neg hd]; exact e) with e | ⟨x, hx, hb⟩
          · exact .inl e
          · exact .inr ⟨x, List.mem_cons_of_mem _ hx, hb⟩
      · intro x hx
        rcases List.mem_cons.1 hx with rfl | hx
        · rfl
        · exact h3.ok x hx
  · exact hk.elim
theorem lendCaps_sound : ∀ (l : List Cap) (s : St) (H : Heap) {K : List Value → St → Heap → List Lend → Prop}, Rep C V s H a w → lendCaps l s H K →
    ∃ s' H' ls, K (l.map (Cap.real V)) s' H' ls ∧ Rep C V s' H' a w ∧ LendsTo V s H s' H' ls
  | [], s, H, K, h, hk => ⟨s, H, [], hk, h, LendsTo.refl _ _ _⟩
  | .v x :: r, s, H, K, h, hk => by
    unfold lendCaps at hk
    exact lendCaps_sound r s H h hk
  | .b d :: r, s, H, K, h, hk => by
    unfold lendCaps at hk
    obtain ⟨s1, H1, l1, h1, h2, h3⟩ := lendBox_sound h hk
    obtain ⟨s2, H2, l2, g1, g2, g3⟩ := lendCaps_sound r s1 H1 h2 h1
    exact ⟨s2, H2, _, g1, g2, h3.trans g3⟩
theorem lendC_sound {x : SC} {y : Value} {K : Value → St → Heap → List Lend → Prop} (h : Rep C V s H a w) (hx : x.rep V y) (hk : lendC x s H K) :
    ∃ s' H' ls, K y s' H' ls ∧ Rep C V s' H' a w ∧ LendsTo V s H s' H' ls := by
  unfold lendC at hk
  split at hk
  · obtain ⟨rfl, -⟩ := hx
    exact ⟨s, H, [], hk, h, LendsTo.refl _ _ _⟩
  · rename_i d
    obtain ⟨rfl, -⟩ := hx
    split at hk
    · rename_i ty sz es hl
      obtain ⟨H1, g1, g2, g3, g4, g5, g6⟩ := lend_row h hl (.row ty sz) (.inl rfl)
      exact ⟨_, _, _, hk _ _ g1 g2 g3 g4, g5, g6⟩
    · exact hk.elim
  · rename_i d
    rw [show y = _ from hx]
    exact lendBox_sound h hk
  · rename_i fn first caps
    rw [show y = _ from hx]
    obtain ⟨s1, H1, l1, h1, h2, h3⟩ := lendCaps_sound caps s H h hk
    exact ⟨s1, H1, l1, h1, h2, h3⟩
  · exact hk.elim
theorem lendSegs_sound : ∀ (l : List Seg) (s : St) (H : Heap) {cs : List Value} {K : List Value → St → Heap → List Lend → Prop}, Rep C V s H a w → SegsRep V l cs → lendSegs l s H K →
    ∃ s' H' ls, K cs s' H' ls ∧ Rep C V s' H' a w ∧ LendsTo V s H s' H' ls
  | [], s, H, cs, K, h, hs, hk => by
    have : cs = [] := hs
    subst this
    exact ⟨s, H, [], hk, h, LendsTo.refl _ _ _⟩
  | .c x :: r, s, H, cs, K, h, hs, hk => by
    obtain ⟨y, l', rfl, hx, hr⟩ := hs
    unfold lendSegs at hk
    obtain ⟨s1, H1, l1, h1, h2, h3⟩ := lendC_sound h hx hk
    obtain ⟨s2, H2, l2, g1, g2, g3⟩ := lendSegs_sound r s1 H1 h2 hr h1
    exact ⟨s2, H2, _, g1, g2, h3.trans g3⟩
  | .ints k n xs :: r, s, H, cs, K, h, hs, hk => by
    obtain ⟨_, l', rfl, hr⟩ := hs
    unfold lendSegs at hk
    obtain ⟨s', H', ls, h1, h2, h3⟩ := lendSegs_sound r s H h hr hk
    exact ⟨s', H', ls, h1, h2, h3⟩
theorem lendV_sound {x : SV} {y : Value} {K : Value → St → Heap → List Lend → Prop} (h : Rep C V s H a w) (hx : x.rep V y) (hk : lendV x s H K) :
    ∃ s' H' ls, K y s' H' ls ∧ Rep C V s' H' a w ∧ LendsTo V s H s' H' ls := by
  unfold lendV at hk
  split at hk
  · exact lendC_sound h hx hk
  · obtain ⟨cs, rfl, hs⟩ := hx
    obtain ⟨s', H', ls, h1, h2, h3⟩ := lendSegs_sound _ s H h hs hk
    exact ⟨s', H', ls, h1, h2, h3⟩
  · exact hk.elim
theorem lendK_sound : ∀ (xs : List SV) (ys : List Value) (s : St) (H : Heap) {K : List Value → St → Heap → List Lend → Prop}, Rep C V s H a w → xs.length = ys.length →
    (∀ (i : Nat) (x : SV) (y : Value), xs[i]? = some x → ys[i]? = some y → x.rep V y) → lendK xs s H K → ∃ s' Hl ls, K ys s' Hl ls ∧ Rep C V s' Hl a w ∧ LendsTo V s H s' Hl ls
  | [], ys, s, H, K, h, hl, hr, hk => by
    have : ys = [] := by cases ys <;> simp_all
    subst this
    exact ⟨s, H, [], hk, h, LendsTo.refl _ _ _⟩
  | x :: r, ys, s, H, K, h, hl, hr, hk => by
    obtain ⟨y, ys, rfl⟩ : ∃ y ys', ys = y :: ys' := by cases ys <;> simp_all
    have hx := hr 0 x y rfl rfl
    have hr' : ∀ (i : Nat) (x : SV) (y : Value), r[i]? = some x → ys[i]? = some y → x.rep V y := fun i x y h1 h2 => hr (i + 1) x y (by simpa using h1) (by simpa using h2)
    unfold lendK at hk
    obtain ⟨s1, H1, l1, h1, h2, h3⟩ := lendV_sound h hx hk
    obtain ⟨s2, H2, l2, g1, g2, g3⟩ := lendK_sound r ys s1 H1 h2 (by simpa using hl) hr' h1
    exact ⟨s2, H2, _, g1, g2, h3.trans g3⟩
theorem rowAt_in {v : Value} {ty sz : Nat} {es : List (List Value)} (hs : H.sub w) (h : RowAt H v ty sz es) : RowIn w v ty sz es := by
  rcases h with h | ⟨b, o, cap, c, hv, hb, hr⟩
  · exact .inl h
  · exact .inr ⟨b, o, cap, c, hv, hs _ _ hb, hr⟩
theorem rep_row (h : Rep C V s H a w) {d ty sz : Nat} {v : Value} {es : List (List Value)} (hv : V.row d = v) (hrow : RowAt H v ty sz es) : Rep C V ⟨s.env, objSet s.objs d (.row ty sz es), s.dfr⟩ (H.delO (blockOf v)) a w := by
  have hin := rowAt_in h.sub hrow
  have hobj : ObjRep V w d (.row ty sz es) := by simp only [ObjRep]; rw [hv]; exact hin
  rcases hrow with ⟨rfl, rfl⟩ | ⟨b, o, cap, c, rfl, hb, _⟩
  · exact rep_in0 h (by simp [privB, hv, blockOf]) hobj
  · exact rep_in h (b := b) (by simp [privB, hv, blockOf]) hb hobj
theorem backK_sound : ∀ (ls : List Lend) (s : St) (H : Heap) {K : St → Heap → Prop}, Rep C V s H a w → LentOK V ls → backK P ls s H K → ∃ s' H', K s' H' ∧ Rep C V s' H' a w
  | [], s, H, K, h, _, hk => ⟨s, H, hk, h⟩
  | ⟨d, v, k⟩ :: r, s, H, K, h, hL, hk => by
    have hL0 := hL _ (List.mem_cons_self ..)
    have hLr : LentOK V r := fun x hx => hL x (List.mem_cons_of_mem _ hx)
    cases k with
    | row ty sz =>
      obtain ⟨es, hrow, hk⟩ := hk
      exact backK_sound r _ _ (rep_row h hL0 hrow) hLr hk
    | box ty =>
      simp only at hL0
      subst hL0
      simp only [backK] at hk
      split at hk
      · rename_i ks hks
        obtain ⟨l, ⟨⟨b, hbv, hb⟩, hk⟩, hf⟩ := exSegs_fits hk
        simp [blockOf] at hbv
        subst hbv
        exact backK_sound r _ _ (rep_in h (o := .box ty l) (b := V.blk d) rfl hb ⟨_, fits_rep hf, h.sub _ _ hb⟩) hLr hk
      · exact hk.elim
    | gone => exact backK_sound r _ _ h hLr hk
theorem adoptK_sound (h : Rep C V s H a w) {t ty sz : Nat} {K : St → Heap → Prop} (hk : adoptK s t ty sz H K) : ∃ V' s' H', K s' H' ∧ Rep C V' s' H' a w := by
  unfold adoptK at hk
  split at hk
  · rename_i v hv
    split at hk
    · rename_i hf
      obtain ⟨es, hrow, hk⟩ := hk
      have hx := h.get t
      rw [hv] at hx
      obtain ⟨hx, hone⟩ := hx
      have h1 : Rep C V (s.set t (.c .bad)) H a w := rep_same' h trivial
      have h2 := rep_off (V' := V.rows t v) h1 hf (rows_off V t v)
      have h3 := rep_row h2 (d := t) (ty := ty) (sz := sz) (es := es) (by simp [Vl.rows]) hrow
      have h4 := rep_same' h3 (g := t) (x := .c (.row t)) (by
        show _ ∧ _
        exact ⟨by rw [hx]; simp [Vl.rows], by simpa [Vl.rows] using hone⟩)
      refine ⟨V.rows t v, _, _, hk, ?_⟩
      have e : (St.set ⟨(s.set t (.c .bad)).env, objSet (s.set t (.c .bad)).objs t (.row ty sz es), (s.set t (.c .bad)).dfr⟩ t (.c (.row t))) = St.set ⟨s.env, objSet s.objs t (.row ty sz es), s.dfr⟩ t (.c (.row t)) := by
        simp only [St.set, setNth_setNth']
      rw [← e]
      exact h4
    · exact hk.elim
  · exact hk.elim
end
end Sx

set_option linter.unusedVariables false
set_option linter.unusedSimpArgs false
namespace Sx
open Go
set_option linter.unusedSectionVars false
variable [Dr]
section
variable {P : Program} {C : Ctx} {V : Vl} {s : St} {H : Heap} {a : Act} {w : World}

/-- A block that is known, or new, holds something else. -/
theorem rep_pub (h : Rep C V s H a w) {b : Nat} {obj : Obj} {w' : World} (hb : (∃ o, H b = some o) ∨ w.heap.size ≤ b) (ho : Only w w' fun x => x = b) (hat : w'.heap[b]? = some obj) : Rep C V s (H.upd b obj) a w' := by
  have hpriv : ∀ d o b', look s.objs d = some o → privB V d o = some b' → b' ≠ b := by
    intro d o b' h1 h2 e
    subst e
    obtain ⟨h3, _, h4⟩ := h.priv _ _ _ h1 h2
    rcases hb with ⟨o, hb⟩ | hb
    · rw [h3] at hb; cases hb
    · omega
  refine { env := h.env, len := h.len, dfr := h.dfr, sub := ?_, objs := ?_, priv := ?_, dist := h.dist, os := ho.os.trans h.os, tape := ho.tape.trans h.tape, output := ho.output.trans h.output, size := Nat.le_trans h.size ho.size, other := ?_ }
  · intro b' o' hb'
    by_cases e : b' = b
    · subst e; rw [upd_same] at hb'; cases hb'; exact hat
    · rw [upd_ne _ _ e] at hb'
      have := h.sub b' o' hb'
      rw [ho.block b' e (Array.getElem?_eq_some_iff.1 this).1]
      exact this
  · intro d o hd
    have keep : ∀ b', privB V d o = some b' → w'.heap[b']? = w.heap[b']? := fun b' hb' => ho.block b' (hpriv d o b' hd hb') (h.priv _ _ _ hd hb').2.2
    cases o with
    | box ty l =>
      obtain ⟨cs, h1, h2⟩ := h.objs _ _ hd
      exact ⟨cs, h1, by rw [keep _ rfl]; exact h2⟩
    | row ty sz es => exact rowIn_same (h.objs _ _ hd) fun b hb => keep b hb
  · intro d o b' hd hp
    obtain ⟨h1, h2, h3⟩ := h.priv _ _ _ hd hp
    exact ⟨by rw [upd_ne _ _ (hpriv _ _ _ hd hp)]; exact h1, h2, Nat.lt_of_lt_of_le h3 ho.size⟩
  · intro b' h1 h2
    obtain ⟨h3, h4⟩ := h.other b' h1 h2
    have hne : b' ≠ b := by
      intro e; subst e
      rcases hb with ⟨o, hb⟩ | hb
      · rw [h4] at hb; cases hb
      · have := h.size; omega
    exact ⟨by rw [ho.block b' hne (Nat.lt_of_lt_of_le h1 h.size), h3], by rw [upd_ne _ _ hne]; exact h4⟩
theorem mapK {r : Option Nat} {K : Nat → Prop} (h : MapK r K) : ∃ x, r = some x ∧ K x := by
  cases r with
  | none => exact h.elim
  | some x => exact ⟨x, rfl, h⟩
theorem setB_self {b : Nat} {o : Obj} (h : w.heap[b]? = some o) : setB w b o = w := by
  unfold setB
  have hlt := (Array.getElem?_eq_some_iff.1 h)
  obtain ⟨h1, h2⟩ := hlt
  have : w.heap.setIfInBounds b o = w.heap := by
    apply Array.ext
    · simp
    · intro i h3 h4
      rw [Array.getElem_setIfInBounds]
      split
      · rename_i e; subst e; exact h2.symm
      · rfl
  rw [this]
/-- What is handed over has no hole. -/
theorem lendC_good {x : SC} {s : St} {H : Heap} {K : Value → St → Heap → List Lend → Prop} (hk : lendC x s H K) : x ≠ .bad := by
  rintro rfl
  exact hk
theorem lendSegs_one : ∀ (l : List Seg) (s : St) (H : Heap) {cs : List Value} {K : List Value → St → Heap → List Lend → Prop}, Rep C V s H a w → SegsRep V l cs → lendSegs l s H K → ∀ x ∈ cs, one x = true
  | [], s, H, cs, K, h, hs, hk => by
    have : cs = [] := hs
    subst this; simp
  | .c x :: r, s, H, cs, K, h, hs, hk => by
    obtain ⟨y, l', rfl, hx, hr⟩ := hs
    unfold lendSegs at hk
    have hone := sc_one (lendC_good hk) hx
    obtain ⟨s1, H1, l1, h1, h2, h3⟩ := lendC_sound h hx hk
    intro z hz
    rcases List.mem_cons.1 hz with rfl | hz
    · exact hone
    · exact lendSegs_one r s1 H1 h2 hr h1 z hz
  | .ints k n xs :: r, s, H, cs, K, h, hs, hk => by
    obtain ⟨_, l', rfl, hr⟩ := hs
    unfold lendSegs at hk
    intro z hz
    rcases List.mem_append.1 hz with hz | hz
    · obtain ⟨n, _, rfl⟩ := List.mem_map.1 hz; rfl
    · exact lendSegs_one r s H h hr hk z hz
theorem run_setObj {r : Nat} {o o' : Obj} (h : w.heap[r]? = some o') (hc : ∀ c e f, o' ≠ .cells c e f) : (setObj r o).run P w = .ok () (setB w r o) := by
  simp only [setObj, Sem.run, h]
  rfl
theorem findNow_idx {k : IntKind} {x : Int} : ∀ (es : List MapEntry) (i : Nat), IntKeys k es →
    Instr.findNow (.int k) (.int k x) es i = some ((es.findIdx? (fun e => match e.key with | .int _ y => x == y | _ => false)).map fun j => (i + j, ((es[j]?).map (·.val)).getD undef))
  | [], i, _ => rfl
  | e :: es, i, h => by
    obtain ⟨n, hn⟩ := h e (by simp)
    simp only [Instr.findNow, hn, Instr.sameNow, if_true, List.findIdx?_cons]
    by_cases hx : x = n
    · subst hx; simp
    · have hb : (x == n) = false := by simpa using hx
      simp only [hb]
      rw [findNow_idx es (i + 1) fun e he => h e (by simp [he])]
      simp only [Option.map_map, Bool.false_eq_true, if_false]
      congr 2
      funext j
      simp [Nat.add_assoc, Nat.add_comm 1 j]
/-- What an operation that changes known memory comes to. -/
def EffGoes (P : Program) (C : Ctx) (o : Oper) (a : Act) (w : World) (K : St → Heap → Prop) : Prop :=
  ∃ V s' H' y w', K s' H' ∧ Rep C V s' H' (a.put o.dst y) w' ∧ ((execOp a.eval o).run P w = .ok (.value y) w' ∨ ((execOp a.eval o).run P w = .ok .skip w' ∧ y = undef))
theorem flat_one (l : List UInt8) : (l.map fun x => [Value.int .u8 (x.toNat : Int)]).flatten = l.map fun x => Value.int .u8 (x.toNat : Int) := by
  induction l with
  | nil => rfl
  | cons x r ih => simp [ih]
/-- What a copy takes. -/
theorem copyK_sound (h : Rep C V s H a w) {t2 : TypeId} {sz : Nat} {al : Option Addr} {n : Nat} {y : Operand} {K : Nat → Heap → Prop} (hk : copyK P t2 sz al n (ev s y) H K) (hy : (ev s y).rep V (a.eval y)) :
    ∃ (k : Nat) (es : List (List Value)), (Builtin.lenOf (a.eval y)).run P w = .ok k w ∧ (Builtin.firstCells sz (Nat.min k n) (a.eval y)).run P w = .ok es.flatten.toArray w ∧ (∀ x ∈ es.flatten, one x = true) ∧ (∀ e ∈ es, e.length = sz) ∧
      FillK al 0 sz es H fun H' => K (min k n) H' := by
  unfold copyK at hk
  split at hk
  · rename_i e2 a2 m c2 hu2 hy1
    rw [hy1] at hy
    obtain ⟨hy, -⟩ := hy
    obtain ⟨es, hsl, hk⟩ := hk
    obtain ⟨-, hel, hfc, hon⟩ := src_real (P := P) h.sub hsl
    have hm : es.length = min m n := by obtain ⟨_, _, _, e, h1, _⟩ := hsl; cases e; exact h1
    refine ⟨m, es, by rw [hy]; rfl, ?_, ?_, hel, hk⟩
    · rw [hm] at hfc
      have e : Nat.min m n = min m n := rfl
      rw [hy, e]
      cases a2 with
      | none => exact hfc
      | some A => exact hfc
    · intro x hx
      obtain ⟨e, h1, h2⟩ := List.mem_flatten.1 hx
      exact hon e h1 x h2
  · rename_i b hu2 hy1
    rw [hy1] at hy
    obtain ⟨hy, -⟩ := hy
    split at hk
    · rename_i hsz
      have := nbt hsz; subst this
      refine ⟨b.size, _, by rw [hy]; rfl, ?_, ?_, ?_, hk⟩
      · rw [hy, flat_one]
        simp only [Builtin.firstCells, Sem.run_pure]
        congr 1
        apply Array.ext'
        simp only [Array.toList_map]
        rw [show (b.extract 0 (Nat.min b.size n)).data.toList = b.data.toList.take (Nat.min b.size n) by rw [ByteArray.data_extract]; simp]
        congr 1
        have e : Nat.min b.size n = min n b.data.toList.length := by show Nat.min b.data.size n = _; simp [Nat.min_comm]
        rw [e, ← List.take_eq_take_min]
      · rw [flat_one]; intro x hx
        obtain ⟨z, _, rfl⟩ := List.mem_map.1 hx
        rfl
      · intro e he
        obtain ⟨z, _, rfl⟩ := List.mem_map.1 he
        rfl
    · exact hk.elim
  · exact hk.elim
theorem effK_sound (h : Rep C V s H a w) (o : Oper) {K : St → Heap → Prop} (hk : effK P o s H K) : EffGoes P C o a w K := by
  unfold effK at hk
  unfold EffGoes execOp
  split at hk
  · rename_i t x y ho
    rw [ho]
    have hx := h.ev x
    split at hk
    · rename_i p l z hp hl hz
      rw [hp] at hx
      obtain ⟨hx, -⟩ := hx
      split at hk
      · rename_i hcl
        have hcl := nbt hcl
        have hrep := segs_rep (h.ev y) hl
        have hk0 := hk
        obtain ⟨s1, H1, ls, hk, h1, hL⟩ := lendSegs_sound l s H h hrep hk
        obtain ⟨A, rfl, c, ty, ⟨hb, hs, hle⟩, hK⟩ := ptrK hk
        obtain ⟨i, hi, rfl⟩ := sizeT_eq hz
        have hvs : (a.eval y).cells.size = i.size := by have := segsRep_len hrep; simp at this; omega
        have hblk := h1.sub _ _ hb
        have hA : A = ⟨A.block, A.off, none⟩ := by cases A; simp_all
        have hone := lendSegs_one l s H h hrep hk0
        have hrun := storeVar_run (P := P) (off := A.off) hi hvs hblk hle hone
        refine ⟨V, _, _, undef, _, hK, (rep_pub h1 (.inl ⟨_, hb⟩) (setB_only _ _) (setB_at hblk)).put (x := .c .bad) trivial o.dst, .inr ⟨exec_u ?_, rfl⟩⟩
        simp only [Instr.storeAt, Sem.run_bind, hx, Instr.sureAddr, Sem.run_pure, Result.andThen_ok]
        rw [hA]; exact hrun
      · exact hk.elim
    · exact hk.elim
  · rename_i t x ho
    rw [ho]
    have hx := h.ev x
    split at hk
    · rename_i dir e ik n hu hx1
      rw [hx1] at hx
      obtain ⟨hx, -⟩ := hx
      split at hk
      · rename_i b hb
        obtain ⟨⟨h0, h1, h2⟩, hk⟩ := hk
        have hn : H w.heap.size = none := by
          cases hb : H w.heap.size with
          | none => rfl
          | some ob => have := (Array.getElem?_eq_some_iff.1 (h.sub _ _ hb)).1; omega
        unfold bytesT at hb
        split at hb
        · rename_i inf hi
          cases hb
          refine ⟨V, _, _, _, { w with heap := w.heap.push (.chan n.toNat #[] false 0 0 false) }, hk w.heap.size hn, (rep_pub h (.inr (Nat.le_refl _)) (alloc_only _ _) (by simp)).put (x := .c (.v (.chan (some w.heap.size)))) ⟨rfl, rfl⟩ o.dst, .inl (exec_v ?_)⟩
          have hm : (inf.bytes : Int) * n ≤ 1048576 * 1048576 := Int.mul_le_mul h2 h1 h0 (by decide)
          have hc : ¬ (n < 0 ∨ n > IntKind.i64.max ∨ (inf.bytes : Int) * n > 2 ^ 48 - 112) := by
            have : IntKind.i64.max = 9223372036854775807 := by decide
            rw [this]; omega
          rw [hx]
          have ha : (asInt (.int ik n)).run P w = .ok n w := by simp [asInt, asIntOf]
          have hti : (typeInfo e).run P w = .ok inf w := by simp [typeInfo, hi]
          simp only [Instr.makeChan, Sem.run_bind, ha, Result.andThen_ok, run_underlying hu, hti, if_neg hc]
          rfl
        · cases hb
      · exact hk.elim
    · exact hk.elim
  · rename_i t ho
    rw [ho]
    have hn : H w.heap.size = none := by
      cases hb : H w.heap.size with
      | none => rfl
      | some ob => have := (Array.getElem?_eq_some_iff.1 (h.sub _ _ hb)).1; omega
    refine ⟨V, _, _, _, { w with heap := w.heap.push (.map #[] 0) }, hk w.heap.size hn, (rep_pub h (.inr (Nat.le_refl _)) (alloc_only _ _) (by simp)).put (x := .c (.v (.map (some w.heap.size)))) ⟨rfl, rfl⟩ o.dst, .inl (exec_v ?_)⟩
    rfl
  · rename_i src dst x ho
    rw [ho]
    have hx := h.ev x
    split at hk
    · rename_i e b h1 h2 h3
      rw [h3] at hx
      obtain ⟨hx, -⟩ := hx
      split at hk
      · rename_i he
        have hn : H w.heap.size = none := by
          cases hb : H w.heap.size with
          | none => rfl
          | some ob => have := (Array.getElem?_eq_some_iff.1 (h.sub _ _ hb)).1; omega
        have hle : b.size ≤ grownCap w b.size 0 e := by
          show b.size ≤ b.size + w.tape w.drawn (.appendCap b.size 0 e) % (2 ^ 63 - b.size)
          omega
        have hcs : ∀ (i : Nat) (x : UInt8), b.data.toList[i]? = some x → (bytesRow b (grownCap w b.size 0 e))[i]? = some (.int .u8 (x.toNat : Int)) := by
          intro i x hi
          have hi' := (List.getElem?_eq_some_iff.1 hi).1
          have hi2 : i < b.data.size := by simpa using hi'
          unfold bytesRow
          rw [Array.getElem?_append_left (by simpa using hi2), Array.getElem?_map, ← Array.getElem?_toList, hi]
          rfl
        generalize hC : bytesRow b (grownCap w b.size 0 e) = C at hcs
        have ho2 : Only w { w with drawn := w.drawn + 1, heap := w.heap.push (.cells C e (C.size, C.size + 1)) } fun x => x = w.heap.size :=
          ⟨rfl, ⟨rfl, fun _ => Nat.le_succ _⟩, rfl, by show w.heap.size ≤ (w.heap.push _).size; rw [Array.size_push]; omega, fun j hj hlt => by
            show (w.heap.push _)[j]? = _
            rw [Array.getElem?_push]
            split
            · exact absurd (by assumption) hj
            · rfl⟩
        refine ⟨V, _, _, _, { w with drawn := w.drawn + 1, heap := w.heap.push (.cells C e (C.size, C.size + 1)) }, hk w.heap.size (grownCap w b.size 0 e) (H.upd w.heap.size (.cells C e (C.size, C.size + 1))) (fun x o hx => ?_) hn (fun x o hx => ?_) ?_,
          (rep_pub h (.inr (Nat.le_refl _)) ho2 (by simp)).put (x := .c (.v (.slice (some ⟨w.heap.size, 0, none⟩) b.size (grownCap w b.size 0 e)))) ⟨rfl, rfl⟩ o.dst, .inl (exec_v ?_)⟩
        · rw [upd_ne _ _ (fun q => by subst q; rw [hn] at hx; cases hx)]; exact hx
        · by_cases q : x = w.heap.size
          · exact .inr q
          · rw [upd_ne _ _ q] at hx; exact .inl hx
        · refine ⟨_, _, _, rfl, by rw [List.length_map]; exact Array.length_toList, hle, ?_, ?_, ?_⟩
          · intro e he
            obtain ⟨z, _, rfl⟩ := List.mem_map.1 he
            rfl
          · intro e he x hx
            obtain ⟨z, _, rfl⟩ := List.mem_map.1 he
            simp only [byteV, List.mem_singleton] at hx
            subst hx; rfl
          · intro i e' he'
            rw [List.getElem?_map] at he'
            cases hb : b.data.toList[i]? with
            | none => rw [hb] at he'; cases he'
            | some z =>
              rw [hb] at he'
              cases he'
              refine ⟨_, rfl, rfl, fun j y hj => ?_⟩
              cases j with
              | succ j => cases hj
              | zero =>
                cases hj
                rw [Nat.mul_one, add_spot (A := ⟨w.heap.size, 0, none⟩) rfl i, add_spot (A := ⟨w.heap.size, 0 + i, none⟩) rfl]
                simp only [Heap.cell?, upd_same]
                have := hcs i z hb
                simpa using this
        · rw [hx]
          have := run_bytes_of_string (P := P) w src dst e b h1 h2 he
          rw [hC] at this
          exact this
      · exact hk.elim
    · exact hk.elim
  · rename_i t m k x ho
    rw [ho]
    have hm := h.ev m
    have hkk := h.ev k
    split at hk
    · rename_i kt et r ik n hu hm1 hk1
      rw [hm1] at hm
      rw [hk1] at hkk
      obtain ⟨hm, -⟩ := hm
      obtain ⟨hkk, -⟩ := hkk
      split at hk
      · rename_i ik' hkt
        split at hk
        · rename_i hsk
          have := sameK_eq hsk; subst this
          obtain ⟨s1, H1, ls, hk, h1, hL⟩ := lendV_sound h (h.ev x) hk
          obtain ⟨r, rfl, es, clk, ⟨hb, hik⟩, hK⟩ := mapK hk
          have hblk := h1.sub _ _ hb
          refine ⟨V, _, _, undef, _, hK, (rep_pub h1 (.inl ⟨_, hb⟩) (setB_only _ _) (setB_at hblk)).put (x := .c .bad) trivial o.dst, .inr ⟨exec_u ?_, rfl⟩⟩
          rw [hm, hkk]
          simp only [Instr.mapUpdate, Sem.run_bind, run_underlying hu, Result.andThen_ok, run_getObj hblk (by simp)]
          rw [show (10000 : Nat) = 9999 + 1 from rfl, checkKey_int hkt]
          simp only [Result.andThen_ok, Instr.findKey, Sem.run_bind, run_underlying hkt, findNow_idx es.toList 0 hik, Sem.run_pure, mapPut]
          cases hf : es.toList.findIdx? (fun e => match e.key with | .int _ y => n == y | _ => false) with
          | none =>
            simp only [Option.map_none]
            rw [run_setObj hblk (by simp)]
          | some j =>
            simp only [Option.map_some, Nat.zero_add]
            have hj := List.findIdx?_eq_some_iff_getElem.1 hf
            obtain ⟨hlt, hj1, _⟩ := hj
            have hjs : j < es.size := by simpa using hlt
            obtain ⟨y, hy⟩ := hik _ (List.getElem_mem hlt)
            rw [hy] at hj1
            have hny : n = y := by simpa using hj1
            subst hny
            have hy' : es[j].key = .int ik n := by simpa using hy
            have hstay : (Instr.keyThatStays (((es[j]?).map (·.key)).getD (.int ik n)) (.int ik n)).run P w = .ok (.int ik n) w := by
              simp only [Array.getElem?_eq_getElem hjs, Option.map_some, Option.getD_some, hy', Instr.keyThatStays]
              rw [if_pos (by simp [Instr.sameBits])]
              rfl
            simp only [Sem.run_bind, hstay, Result.andThen_ok]
            rw [run_setObj hblk (by simp)]
        · exact hk.elim
      · exact hk.elim
    · exact hk.elim
  · rename_i args ats ho
    rw [ho]
    split at hk
    · rename_i t x hat hargs
      have hx := h.ev x
      split at hk
      · rename_i e sz al n c he hx1
        rw [hx1] at hx
        obtain ⟨hx, -⟩ := hx
        split at hk
        · rename_i z hz
          split at hk
          · rename_i hzl
            have hzl := nbt hzl
            have e2 : args = #[x] := by apply Array.ext'; simpa using hargs
            have e1 : ats[0]? = some t := by rw [← Array.getElem?_toList, hat]; rfl
            subst e2
            obtain ⟨hu, i, hi, rfl⟩ := sliceElem_eq he
            obtain ⟨i', v, hi', hv, rfl, hone⟩ := zeroT_eq hz
            rw [hi] at hi'; cases hi'
            rcases hk with ⟨rfl, hK⟩ | ⟨A, cs, ty, rfl, ⟨hb, hs, hle⟩, hK⟩
            · refine ⟨V, _, _, .tuple #[], _, hK, h.put (x := .c .bad) trivial o.dst, .inl ?_⟩
              simp only [resolve, Sem.run_bind, Sem.run_pure, Result.andThen_ok, invoke, builtin, List.map_toArray, List.map_cons, List.map_nil, hx]
              have hrun : (Builtin.clear_ ats o.type #[.slice al 0 c]).run P w = .ok (.tuple #[]) w := by
                simp only [Builtin.clear_, e1, List.getElem?_toArray, List.getElem?_cons_zero, Sem.run_bind, run_underlying hu, Result.andThen_ok]
                cases al <;> rfl
              rw [hrun]
              rfl
            · have hblk := h.sub _ _ hb
              have hA : A = ⟨A.block, A.off, none⟩ := by cases A; simp_all
              have hlen : ((List.replicate n v.cells.toList).flatten).length = n * i.size := by
                rw [flatten_len (sz := i.size) (by intro e he; rw [List.eq_of_mem_replicate he]; exact hzl), List.length_replicate]
              have hall : ∀ x ∈ (List.replicate n v.cells.toList).flatten, one x = true := by
                intro x hx
                obtain ⟨e, he, hx⟩ := List.mem_flatten.1 hx
                rw [List.eq_of_mem_replicate he] at hx
                exact hone x hx
              refine ⟨V, _, _, .tuple #[], _, hK, (rep_pub h (.inl ⟨_, hb⟩) (setB_only _ _) (setB_at hblk)).put (x := .c .bad) trivial o.dst, .inl ?_⟩
              simp only [resolve, Sem.run_bind, Sem.run_pure, Result.andThen_ok, invoke, builtin, List.map_toArray, List.map_cons, List.map_nil, hx]
              have hst := storeCells_run (P := P) (off := A.off) _ 0 w hblk (by rw [hlen]; omega) hall
              rw [← hA] at hst
              have hrun : (Builtin.clear_ ats o.type #[.slice (some A) n c]).run P w = .ok (.tuple #[]) (setB w A.block (.cells (writeCells cs A.off (List.replicate n v.cells.toList).flatten) ty (0, 0))) := by
                cases n with
                | zero =>
                  simp only [Builtin.clear_, e1, List.getElem?_toArray, List.getElem?_cons_zero, Sem.run_bind, run_underlying hu, Result.andThen_ok]
                  simp only [List.replicate_zero, List.flatten_nil, writeCells, setB_self hblk]
                  rfl
                | succ n =>
                  simp only [Builtin.clear_, e1, List.getElem?_toArray, List.getElem?_cons_zero, Sem.run_bind, run_underlying hu, Result.andThen_ok, run_zero hi hv, Builtin.zeroCells, zeros_list]
                  simp only [Nat.add_zero] at hst
                  rw [hst]
                  rfl
              rw [hrun]
              rfl
          · exact hk.elim
        · exact hk.elim
      · exact hk.elim
    · exact hk.elim
  · rename_i args ats ho
    rw [ho]
    split at hk
    · rename_i t t2 x y hat hargs
      have hx := h.ev x
      have hy := h.ev y
      split at hk
      · rename_i e sz al n c he hx1
        rw [hx1] at hx
        obtain ⟨hx, -⟩ := hx
        obtain ⟨hu, i, hi, rfl⟩ := sliceElem_eq he
        have e1 : ats[0]? = some t := by rw [← Array.getElem?_toList, hat]; rfl
        have e2 : args = #[x, y] := by apply Array.ext'; simpa using hargs
        subst e2
        obtain ⟨k, es, hlen, hcells, hone, hel, hk⟩ := copyK_sound h (sz := i.size) hk hy
        have run0 : (Builtin.copy_ ats o.type #[.slice al n c, a.eval y]).run P w = (match al with
            | some A => (do storeCells A es.flatten; pure (goInt (Nat.min k n)) : Sem Value)
            | none => pure (goInt (Nat.min k n))).run P w := by
          simp only [Builtin.copy_, e1, List.getElem?_toArray, List.getElem?_cons_zero, List.getElem?_cons_succ, Sem.run_bind, run_underlying hu, Result.andThen_ok, run_sizeT hi, hlen, hcells]
          cases al <;> rfl
        rcases hk with ⟨rfl, hK⟩ | ⟨A, cs, ty, rfl, ⟨hb, hs, hle⟩, hK⟩
        · refine ⟨V, _, _, goInt (Nat.min k n), w, hK, h.put (x := .c (.v (.int .i64 ((min k n : Nat) : Int)))) ⟨rfl, rfl⟩ o.dst, .inl ?_⟩
          simp only [resolve, Sem.run_bind, Sem.run_pure, Result.andThen_ok, invoke, builtin, List.map_toArray, List.map_cons, List.map_nil, hx]
          have hrun : (Builtin.copy_ ats o.type #[.slice al n c, a.eval y]).run P w = .ok (goInt (Nat.min k n)) w := by
            rw [run0]
            cases al <;> simp [storeCells]
          rw [hrun]
          rfl
        · have hblk := h.sub _ _ hb
          have hA : A = ⟨A.block, A.off, none⟩ := by cases A; simp_all
          simp only [Nat.zero_mul, Nat.add_zero] at hle hK
          have hst := storeCells_run (P := P) (b := A.block) (off := A.off) es.flatten 0 w hblk (by rw [flatten_len hel]; omega) hone
          refine ⟨V, _, _, goInt (Nat.min k n), _, hK, (rep_pub h (.inl ⟨_, hb⟩) (setB_only _ _) (setB_at hblk)).put (x := .c (.v (.int .i64 ((min k n : Nat) : Int)))) ⟨rfl, rfl⟩ o.dst, .inl ?_⟩
          simp only [resolve, Sem.run_bind, Sem.run_pure, Result.andThen_ok, invoke, builtin, List.map_toArray, List.map_cons, List.map_nil, hx]
          have hrun : (Builtin.copy_ ats o.type #[.slice (some A) n c, a.eval y]).run P w = .ok (goInt (Nat.min k n)) (setB w A.block (.cells (writeCells cs A.off es.flatten) ty (0, 0))) := by
            rw [run0]
            simp only [Sem.run_bind]
            rw [hA, hst]
            simp only [Result.andThen_ok, Sem.run_pure, Nat.add_zero]
          rw [hrun]
          rfl
      · exact hk.elim
    · exact hk.elim
  · rename_i args ats ho
    rw [ho]
    split at hk
    · rename_i t rest m k hat hargs
      have hm := h.ev m
      have hkk := h.ev k
      split at hk
      · rename_i kt et r ik n hu hm1 hk1
        rw [hm1] at hm
        rw [hk1] at hkk
        obtain ⟨hm, -⟩ := hm
        obtain ⟨hkk, -⟩ := hkk
        split at hk
        · rename_i ik' hkt
          split at hk
          · rename_i hsk
            have := sameK_eq hsk; subst this
            obtain ⟨r, rfl, es, clk, ⟨hb, hik⟩, hK⟩ := mapK hk
            have hblk := h.sub _ _ hb
            have e2 : args = #[m, k] := by apply Array.ext'; simpa using hargs
            have e1 : ats[0]? = some t := by rw [← Array.getElem?_toList, hat]; rfl
            subst e2
            refine ⟨V, _, _, .tuple #[], _, hK, (rep_pub h (.inl ⟨_, hb⟩) (setB_only _ _) (setB_at hblk)).put (x := .c .bad) trivial o.dst, .inl ?_⟩
            simp only [resolve, Sem.run_bind, Sem.run_pure, Result.andThen_ok, invoke, builtin, List.map_toArray, List.map_cons, List.map_nil, hm, hkk]
            have hrun : (Builtin.delete_ ats o.type #[.map (some r), .int ik n]).run P w = .ok (.tuple #[]) (setB w r (mapDel es clk n)) := by
              simp only [Builtin.delete_, e1, List.getElem?_toArray, List.getElem?_cons_zero, List.getElem?_cons_succ, Sem.run_bind, run_underlying hu, Result.andThen_ok, run_getObj hblk (by simp)]
              rw [show (10000 : Nat) = 9999 + 1 from rfl, checkKey_int hkt]
              simp only [Result.andThen_ok, Instr.findKey, Sem.run_bind, run_underlying hkt, findNow_idx es.toList 0 hik, Sem.run_pure, mapDel]
              cases hf : es.toList.findIdx? (fun e => match e.key with | .int _ y => n == y | _ => false) with
              | none =>
                simp only [Option.map_none, Sem.run_bind]
                rw [run_setObj hblk (by simp)]
                rfl
              | some j =>
                simp only [Option.map_some, Nat.zero_add, Sem.run_bind]
                rw [run_setObj hblk (by simp)]
                rfl
            rw [hrun]
            rfl
          · exact hk.elim
        · exact hk.elim
      · exact hk.elim
    · exact hk.elim
  · exact hk.elim
end
end Sx

set_option linter.unusedVariables false
set_option linter.unusedSimpArgs false
namespace Sx
open Go
set_option linter.unusedSectionVars false
variable [Dr]
section
variable {P : Program} {C : Ctx} {V : Vl} {s : St} {H : Heap} {a : Act} {w : World}
/-! ### What a call hands back -/
theorem comp_fits {V : Vl} {t : TypeId} {ks : List SK} {l : List Seg} (hks : kinds P t = some ks) (hf : Fits ks l) : (mkComp (isAggT P t) l).rep V (compVal (mkComp (isAggT P t) l)) := by
  cases ha : isAggT P t with
  | true => exact ⟨_, rfl, fits_rep hf⟩
  | false =>
    obtain ⟨k1, rfl⟩ := kinds_one hks ha
    obtain ⟨y, rfl, h1⟩ := fits_one hf
    exact ⟨rfl, h1⟩
theorem exComps_sound {V : Vl} : ∀ {ts : List TypeId} {ks : List (Bool × List SK)} {K : List Comp → Prop}, compKinds P ts = some ks → exComps ks K → ∃ cs, K cs ∧ CompsRep V cs (cs.map compVal)
  | [], ks, K, h, hk => by
    simp [compKinds] at h
    subst h
    exact ⟨[], hk, rfl⟩
  | t :: r, ks, K, h, hk => by
    simp only [compKinds] at h
    split at h
    · rename_i ks1 l h1 h2
      cases h
      obtain ⟨sg, hk, hf⟩ := exSegs_fits hk
      obtain ⟨cs, hk, hr⟩ := exComps_sound (V := V) h2 hk
      exact ⟨_, hk, _, _, rfl, comp_fits h1 hf, hr⟩
    · cases h
theorem retK_sound {V : Vl} {t : TypeId} {e : Ending} {K : SV → Prop} (hk : retK P t e K) : ∃ v x, e = .returned v ∧ x.rep V v ∧ K x := by
  unfold retK at hk
  split at hk
  · split at hk
    · rename_i ks hks
      obtain ⟨cs, ⟨h1, h2⟩, hr⟩ := exComps_sound (V := V) hks hk
      exact ⟨_, .tup cs, h1, ⟨_, rfl, hr⟩, h2⟩
    · exact hk.elim
  · split at hk
    · rename_i ks hks
      obtain ⟨l, ⟨h1, h2⟩, hf⟩ := exSegs_fits hk
      refine ⟨_, _, h1, ?_, h2⟩
      cases ha : isAggT P t with
      | true => exact ⟨_, rfl, fits_rep hf⟩
      | false =>
        obtain ⟨k1, rfl⟩ := kinds_one hks ha
        obtain ⟨y, rfl, h1'⟩ := fits_one hf
        exact ⟨rfl, h1'⟩
    · exact hk.elim
def CallPost (C : Ctx) (o : Oper) (a : Act) (Kp : Option (St → List PanicEntry → Heap → Prop)) (K : St → Heap → Prop) : Ending → World → Prop
  | .returned v, w' => ∃ V s' H', K s' H' ∧ Rep C V s' H' (a.put o.dst v) w'
  | .panicked c, w' => ∃ kp V s' H', Kp = some kp ∧ kp s' c H' ∧ Rep C V s' H' a w'
  | .outgrown, _ => False
/-- What a call comes to. -/
def CallGoes (P : Program) (C : Ctx) (o : Oper) (a : Act) (w : World) (Kp : Option (St → List PanicEntry → Heap → Prop)) (K : St → Heap → Prop) : Prop :=
  ∃ n, (execOp a.eval o).run P w = .ok n w ∧ GoesX P n w (CallPost C o a Kp K)
theorem callable_run {f : FuncId} (h : callable P f = true) (args : Array Value) : (callFunc f args).run P w = .ok (.enter f args) w := by
  unfold callable at h
  split at h
  · rename_i fn hf
    simp only [Bool.and_eq_true, bne_iff_ne, ne_eq] at h
    unfold callFunc
    simp only [Sem.run_bind, run_program, Result.andThen_ok, hf]
    rw [if_neg (by simpa using h.2), if_neg (by simp; exact Option.isSome_iff_ne_none.1 h.1)]
    rfl
  · cases h
theorem evs_rep (h : Rep C V s H a w) (args : List Operand) : (args.map (ev s)).length = (args.map a.eval).length ∧ ∀ (i : Nat) (x : SV) (y : Value), (args.map (ev s))[i]? = some x → (args.map a.eval)[i]? = some y → x.rep V y := by
  refine ⟨by simp, fun i x y hx hy => ?_⟩
  simp at hx hy
  obtain ⟨q, hq, rfl⟩ := hx
  obtain ⟨q', hq', rfl⟩ := hy
  rw [hq] at hq'; cases hq'
  exact h.ev q
theorem callK_sound (h : Rep C V s H a w) (o : Oper) {Kp : Option (St → List PanicEntry → Heap → Prop)} {K : St → Heap → Prop} (hk : callK P o s H Kp K) : CallGoes P C o a w Kp K := by
  unfold callK at hk
  split at hk
  · rename_i f args ats ho
    have post : ∀ (s1 : St) (Hl : Heap) (ls : List Lend), Rep C V s1 Hl a w → LentOK V ls → ∀ (e : Ending) (w' : World), (∃ H', Step Hl w H' w' ∧ callR P o s1 ls Kp K e H') → CallPost C o a Kp K e w' := by
      rintro s1 Hl ls hrep hok e w' ⟨H', hstep, hR⟩
      have hrep' := rep_step hrep hstep
      have good : (retK P o.type e fun x => backK P ls s1 H' fun s' H'' => K (s'.put o.dst x) H'') → CallPost C o a Kp K e w' := by
        intro hR
        obtain ⟨v, x, rfl, hx, hb⟩ := retK_sound (V := V) hR
        obtain ⟨s', H'', h1, h2⟩ := backK_sound ls s1 H' hrep' hok hb
        exact ⟨V, _, H'', h1, h2.put hx o.dst⟩
      unfold callR at hR
      cases Kp with
      | none => exact good hR
      | some kp =>
        rcases hR with hR | ⟨c, rfl, hR⟩
        · exact good hR
        · exact ⟨kp, V, s1, H', rfl, hR, hrep'⟩
    have hargs : (args.map a.eval) = (args.toList.map a.eval).toArray := by apply Array.ext'; simp
    split at hk
    · rename_i g
      obtain ⟨s1, Hl, ls, hk, hrep, hL⟩ := lendK_sound _ _ s H h (evs_rep h args.toList).1 (evs_rep h args.toList).2 hk
      obtain ⟨hc, hk⟩ := hk
      refine ⟨.enter g (args.toList.map a.eval).toArray, ?_, Calls.mono (hk w hrep.sub) (post _ _ _ hrep hL.ok)⟩
      unfold execOp
      rw [ho]
      simp only [resolve, Sem.run_bind, Act.eval, Deferred.ofValue, Sem.run_pure, Result.andThen_ok, invoke]
      rw [hargs]
      have e1 : (#[] : Array Value) ++ (args.toList.map a.eval).toArray ++ #[] = (args.toList.map a.eval).toArray := by apply Array.ext'; simp
      rw [e1]
      exact callable_run hc _
    · rename_i f' _
      obtain ⟨s1, H1, l1, hk, hrep1, hL1⟩ := lendV_sound h (h.ev f) hk
      have h1 : Rep C V ⟨s.env, s1.objs, s1.dfr⟩ H1 a w := by
        have := hrep1
        rw [← hL1.env]
        exact this
      have hev : (args.toList.map (ev s)) = args.toList.map (ev s1) := by
        refine List.map_congr_left fun x _ => ?_
        cases x <;> simp [ev, St.get, hL1.env]
      rw [hev] at hk
      obtain ⟨s2, Hl, ls, hk, hrep, hL⟩ := lendK_sound _ _ s1 H1 hrep1 (evs_rep hrep1 args.toList).1 (evs_rep hrep1 args.toList).2 hk
      generalize hfv : a.eval f = fv at hk
      unfold MeetsV at hk
      split at hk
      · rename_i g first cap
        obtain ⟨hc, hk⟩ := hk
        refine ⟨.enter g (first.toList ++ args.toList.map a.eval ++ cap.toList).toArray, ?_, Calls.mono (hk w hrep.sub) (post _ _ _ hrep (hL1.trans hL).ok)⟩
        unfold execOp
        rw [ho]
        simp only [resolve, Sem.run_bind, hfv, Deferred.ofValue, Sem.run_pure, Result.andThen_ok, invoke]
        have : first ++ Array.map a.eval args ++ cap = (first.toList ++ args.toList.map a.eval ++ cap.toList).toArray := by apply Array.ext'; simp
        rw [this]
        exact callable_run hc _
      · rename_i l first cap
        obtain ⟨fn, tm, am, bd, hy, hr⟩ := hk w hrep.sub
        refine ⟨.round l fn tm am bd, ?_, RoundIn.mono hr (post _ _ _ hrep (hL1.trans hL).ok)⟩
        unfold execOp
        rw [ho]
        simp only [resolve, Sem.run_bind, hfv, Deferred.ofValue, Sem.run_pure, Result.andThen_ok, invoke]
        have : first ++ Array.map a.eval args = (first.toList ++ args.toList.map a.eval).toArray := by apply Array.ext'; simp
        rw [this]
        exact hy
      · exact hk.elim
  · exact hk.elim
/-- A call that keeps what it is given. -/
theorem giveK_sound (h : Rep C V s H a w) (o : Oper) {O : List (Nat × AObj)} {G : Heap} {Kp : Option (St → List PanicEntry → Heap → Prop)} {K : St → Heap → Prop} (hk : giveK P O G o s H Kp K) : CallGoes P C o a w Kp K := by
  unfold giveK at hk
  split at hk
  · rename_i g args ats ho
    have hargs : (args.map a.eval) = (args.toList.map a.eval).toArray := by apply Array.ext'; simp
    obtain ⟨s1, Hl, ls, hk, hrep, hL⟩ := lendK_sound _ _ s H h (evs_rep h args.toList).1 (evs_rep h args.toList).2 hk
    obtain ⟨hc, hk⟩ := hk
    refine ⟨.enter g (args.toList.map a.eval).toArray, ?_, Calls.mono (hk w hrep.sub) ?_⟩
    · unfold execOp
      rw [ho]
      simp only [resolve, Sem.run_bind, Act.eval, Deferred.ofValue, Sem.run_pure, Result.andThen_ok, invoke]
      rw [hargs]
      have e1 : (#[] : Array Value) ++ (args.toList.map a.eval).toArray ++ #[] = (args.toList.map a.eval).toArray := by apply Array.ext'; simp
      rw [e1]
      exact callable_run hc _
    · rintro e w' ⟨H', hstep, hR⟩
      have hrep' := rep_step hrep hstep
      have good : (retK P o.type e fun x => K (s1.put o.dst x) H') → CallPost C o a Kp K e w' := by
        intro hR
        obtain ⟨v, x, rfl, hx, hb⟩ := retK_sound (V := V) hR
        exact ⟨V, _, H', hb, hrep'.put hx o.dst⟩
      unfold giveR at hR
      split at hR
      · cases Kp with
        | none => exact good hR.2
        | some kp =>
          rcases hR with hR | ⟨c, rfl, hR⟩
          · exact good hR.2
          · exact ⟨kp, V, s1, H', rfl, hR, hrep'⟩
      · exact hR.elim
  · exact hk.elim
end
end Sx
