/- Operations that make or write private variables: soundness, all. -/
import Derived.Test.YtekaopahienmgaaSxF
set_option linter.unusedVariables false
set_option linter.unusedSimpArgs false
namespace Sx
open Go
section
variable {P : Program} {C : Ctx} {V : Vl} {s : St} {H : Heap} {a : Act} {w : World}

/-- Cells written over others. -/
def lw (l : List Value) (p : Nat) (cs : List Value) : List Value := l.take p ++ cs ++ l.drop (p + cs.length)
theorem lw_right (A l : List Value) (p : Nat) (cs : List Value) : lw (A ++ l) (A.length + p) cs = A ++ lw l p cs := by
  simp only [lw, List.append_assoc]
  rw [List.take_append, List.take_of_length_le (by omega), Nat.add_sub_cancel_left, List.append_assoc]
  congr 2
  rw [List.drop_append, List.drop_eq_nil_of_le (by omega), List.nil_append]
  congr 2; omega
theorem lw_left (l B : List Value) (p : Nat) (cs : List Value) (h : p + cs.length ≤ l.length) : lw (l ++ B) p cs = lw l p cs ++ B := by
  simp only [lw, List.append_assoc]
  rw [List.take_append_of_le_length (by omega), List.drop_append_of_le_length h]
theorem lw_len (l : List Value) (p : Nat) (cs : List Value) (h : p + cs.length ≤ l.length) : (lw l p cs).length = l.length := by
  simp [lw]; omega
theorem write_lw (c : Array Value) (p : Nat) (cs : List Value) (h : p + cs.length ≤ c.size) : (writeCells c p cs).toList = lw c.toList p cs := writeCells_list cs c p h
theorem writeCells_size (c : Array Value) (p : Nat) (cs : List Value) (h : p + cs.length ≤ c.size) : (writeCells c p cs).size = c.size := by
  rw [← Array.length_toList, write_lw c p cs h, lw_len _ _ _ (by simpa using h), Array.length_toList]
theorem flatten_split {sz i : Nat} {es : List (List Value)} {e : List Value} (hes : ∀ e ∈ es, e.length = sz) (he : es[i]? = some e) :
    es.flatten = (es.take i).flatten ++ (e ++ (es.drop (i + 1)).flatten) ∧ (es.take i).flatten.length = i * sz := by
  have hlt := (List.getElem?_eq_some_iff.1 he).1
  refine ⟨?_, ?_⟩
  · conv => lhs; rw [← List.take_append_drop i es]
    rw [List.flatten_append, List.drop_eq_getElem_cons hlt, List.flatten_cons]
    rw [(List.getElem?_eq_some_iff.1 he).2]
  · have : ∀ (l : List (List Value)), (∀ e ∈ l, e.length = sz) → l.flatten.length = l.length * sz := by
      intro l
      induction l with
      | nil => simp
      | cons x l ih => intro h; simp [h x (by simp), ih fun e he => h e (by simp [he]), Nat.succ_mul, Nat.add_comm]
    rw [this _ fun e he => hes e (List.mem_of_mem_take he), List.length_take, Nat.min_eq_left (by omega)]
theorem flatten_len {sz : Nat} : ∀ {l : List (List Value)}, (∀ e ∈ l, e.length = sz) → l.flatten.length = l.length * sz
  | [], _ => by simp
  | x :: l, h => by
    have h1 := flatten_len (l := l) fun e he => h e (by simp [he])
    rw [List.flatten_cons, List.length_append, h1, h x (by simp), List.length_cons, Nat.succ_mul, Nat.add_comm]
/-- An element of a row, written. -/
theorem row_put {sz i off : Nat} {es : List (List Value)} {e cs : List Value} (hes : ∀ e ∈ es, e.length = sz) (he : es[i]? = some e) (hl : off + cs.length ≤ sz) :
    lw es.flatten (i * sz + off) cs = (es.set i (lw e off cs)).flatten := by
  obtain ⟨h1, h2⟩ := flatten_split hes he
  have hel : e.length = sz := hes e (List.mem_of_getElem? he)
  have hlt := (List.getElem?_eq_some_iff.1 he).1
  rw [h1, ← h2, lw_right, lw_left _ _ _ _ (by omega)]
  rw [List.set_eq_take_append_cons_drop]
  simp [hlt]
theorem modify_eq {es : List (List Value)} {i off : Nat} {e cs : List Value} (he : es[i]? = some e) : cellPut es i off cs = es.set i (lw e off cs) := by
  have hlt := (List.getElem?_eq_some_iff.1 he).1
  have h2 := (List.getElem?_eq_some_iff.1 he).2
  unfold cellPut lw
  apply List.ext_getElem?
  intro j
  rw [List.getElem?_modify, List.getElem?_set]
  by_cases hj : i = j
  · subst hj; simp [hlt, h2]
  · simp [hj]
theorem flat_noBad : ∀ {l : List Seg} {cs : List Value}, flat l = some cs → noBad l = true
  | [], _, _ => rfl
  | .c x :: r, cs, h => by
    cases x <;> simp [flat] at h
    split at h
    · rename_i l hl; exact flat_noBad (l := r) hl
    · cases h
  | .ints k n xs :: r, cs, h => by
    simp only [flat] at h
    split at h
    · rename_i l hl; exact flat_noBad (l := r) hl
    · cases h
theorem elemsOf_rep (h : Rep C V s H a w) {sz : Nat} : ∀ (parts : List (Nat × Operand)) (j n : Nat) {es : List (List Value)}, elemsOf P sz s parts j n = some es →
    es.length = n ∧ (∀ e ∈ es, e.length = sz) ∧ (∀ e ∈ es, ∀ x ∈ e, one x = true) ∧ ∀ (cells : Array Value) (pre : List Value), pre.length = j * sz → cells.size = (j + n) * sz → cells.toList.take (j * sz) = pre →
        ∃ cs, Instr.fill (fun i => some (i * sz, sz)) cells (parts.map fun (i, x) => (i, a.eval x)) = some cs ∧ cs.toList = pre ++ es.flatten
  | [], j, 0, es, e => by
    simp [elemsOf] at e
    subst e
    refine ⟨rfl, by simp, by simp, fun cells pre hp hc ht => ⟨cells, rfl, ?_⟩⟩
    rw [← ht, List.flatten_nil, List.append_nil, List.take_of_length_le (by simp [hc])]
  | _ :: _, j, 0, es, e => by simp [elemsOf] at e
  | [], j, n + 1, es, e => by simp [elemsOf] at e
  | (i, x) :: r, j, n + 1, es, e => by
    simp only [elemsOf] at e
    split at e
    · rename_i l hb hl
      split at e
      · rename_i cs hcs
        split at e
        · rename_i es' hsz hes'
          cases e
          have := nbt hb; subst this
          have hsz' := nbt hsz
          obtain ⟨h1, h2, h2', h3⟩ := elemsOf_rep h r (i + 1) n hes'
          refine ⟨by simp [h1], ?_, ?_, ?_⟩
          · intro e he
            rcases List.mem_cons.1 he with rfl | he
            · exact hsz'
            · exact h2 e he
          · intro e he
            rcases List.mem_cons.1 he with rfl | he
            · have hrep := segs_rep (h.ev x) hl
              have hv := flat_rep hrep hcs
              rw [← hv]
              exact segs_one (flat_noBad hcs) hrep
            · exact h2' e he
          · intro cells pre hp hc ht
            have hrep := segs_rep (h.ev x) hl
            have hv := flat_rep hrep hcs
            have hvl : (a.eval x).cells.size = sz := by have := congrArg List.length hv; simp at this; omega
            have hroom : i * sz + sz ≤ cells.size := by
              rw [hc, ← Nat.succ_mul]; exact Nat.mul_le_mul_right _ (by omega)
            rw [List.map_cons, fill_cons rfl hvl hroom]
            have hw := write_lw cells (i * sz) (a.eval x).cells.toList (by simp [hvl]; omega)
            obtain ⟨cs2, h4, h5⟩ := h3 (writeCells cells (i * sz) (a.eval x).cells.toList) (pre ++ cs) (by simp [hp, hsz', Nat.succ_mul]) (by rw [writeCells_size _ _ _ (by simp [hvl]; omega), hc]; congr 1; omega) (by
              rw [hw, lw, ht, hv, Nat.succ_mul]
              exact List.take_left' (by simp [hp, hsz']))
            exact ⟨cs2, h4, by rw [h5]; simp⟩
        · cases e
      · cases e
    · cases e
theorem sliceElem_eq {t e : TypeId} {sz : Nat} (he : sliceElem P t = some (e, sz)) : P.underlying t = some (.slice e) ∧ ∃ i, P.info? e = some i ∧ i.size = sz := by
  unfold sliceElem at he
  split at he
  · split at he
    · rename_i hz; cases he
      exact ⟨by assumption, sizeT_eq hz⟩
    · cases he
  · cases he
theorem zeros_list {z : Array Value} (n : Nat) : ((Array.range (n * z.size)).map (z[· % z.size]!)).toList = (List.replicate n z.toList).flatten := by
  induction n with
  | zero => simp
  | succ n ih =>
    rw [List.replicate_succ', List.flatten_append, ← ih]
    apply List.ext_getElem?
    intro i
    simp only [Array.toList_map, Array.toList_range, List.getElem?_map, List.flatten_cons, List.flatten_nil, List.append_nil]
    by_cases hi : i < n * z.size
    · rw [List.getElem?_append_left (by simpa using hi)]
      have hi2 : i < (n + 1) * z.size := by rw [Nat.succ_mul]; omega
      simp [hi, hi2]
    · rw [List.getElem?_append_right (by simpa using hi)]
      simp only [List.length_map, List.length_range]
      by_cases hi2 : i < (n + 1) * z.size
      · have hlt : i - n * z.size < z.size := by rw [Nat.succ_mul] at hi2; omega
        have hmod : i % z.size = i - n * z.size := by
          have e1 : i = (i - n * z.size) + z.size * n := by have := Nat.mul_comm n z.size; omega
          conv => lhs; rw [e1]
          rw [Nat.add_mul_mod_self_left, Nat.mod_eq_of_lt hlt]
        rw [List.getElem?_range hi2]
        simp [hmod, hlt]
      · rw [List.getElem?_eq_none (by simp; omega), List.getElem?_eq_none (by simp; rw [Nat.succ_mul] at hi2; omega)]
        rfl
theorem loadCells_run {A : Addr} {l : List Value} (hc : ∀ j x, l[j]? = some x → w.cell? (A.add j) = some x) : (loadCells A l.length).run P w = .ok l.toArray w := by
  unfold loadCells
  rw [loadCellsFrom_run l.length 0 #[] l rfl (by simpa using hc)]
  simp
structure SrcRep (P : Program) (w : World) (v : Value) (sz : Nat) (es : List (List Value)) : Prop where
  len : ∃ xb xc, v = .slice xb es.length xc
  el : ∀ e ∈ es, e.length = sz
  run : (Builtin.firstCells sz es.length v).run P w = .ok es.flatten.toArray w
  on : ∀ e ∈ es, ∀ x ∈ e, one x = true
theorem flat_cell {A : Addr} (hs : A.spot = none) {sz : Nat} {es : List (List Value)} (hes : ∀ e ∈ es, e.length = sz)
    (h : ∀ i e, es[i]? = some e → ∀ q x, e[q]? = some x → w.cell? (A.add (i * sz + q)) = some x) : ∀ j x, es.flatten[j]? = some x → w.cell? (A.add j) = some x := by
  intro j x hj
  have hlt := (List.getElem?_eq_some_iff.1 hj).1
  rw [flatten_len hes] at hlt
  have hsz : 0 < sz := by
    rcases Nat.eq_zero_or_pos sz with h0 | h0
    · rw [h0] at hlt; simp at hlt
    · exact h0
  have hi : j / sz < es.length := Nat.div_lt_of_lt_mul (by rw [Nat.mul_comm]; exact hlt)
  have he : es[j / sz]? = some es[j / sz] := List.getElem?_eq_getElem hi
  have hj2 : j = j / sz * sz + j % sz := by have := Nat.div_add_mod j sz; rw [Nat.mul_comm] at this; omega
  have hq := Nat.mod_lt j hsz
  rw [hj2] at hj ⊢
  rw [flatten_get hes he hq] at hj
  exact h _ _ he _ _ hj
theorem src_row {v : Value} {ty sz : Nat} {es : List (List Value)} (h : RowIn w v ty sz es) : SrcRep P w v sz es := by
  rcases h with ⟨hv, rfl⟩ | ⟨b, o, cap, c, hv, hb, hcap, hc, hes, hfl, hon⟩
  · exact ⟨⟨none, 0, hv⟩, by simp, by rw [hv]; rfl, by simp⟩
  · refine ⟨⟨_, _, hv⟩, hes, ?_, hon⟩
    rw [hv]
    simp only [Builtin.firstCells]
    rw [← flatten_len hes]
    refine loadCells_run ?_
    intro j x hj
    rw [add_spot rfl, cell_block hb rfl]
    have hlt := (List.getElem?_eq_some_iff.1 hj).1
    rw [← hfl] at hj
    rw [List.getElem?_take_of_lt (by rw [flatten_len hes] at hlt; exact hlt), List.getElem?_drop] at hj
    simpa using hj
theorem sub_flat {sz lo hi : Nat} {es : List (List Value)} (hes : ∀ e ∈ es, e.length = sz) (h1 : lo ≤ hi) (h2 : hi ≤ es.length) :
    ((es.flatten).drop (lo * sz)).take ((hi - lo) * sz) = ((es.drop lo).take (hi - lo)).flatten ∧ ((es.drop lo).take (hi - lo)).length = hi - lo := by
  refine ⟨?_, by simp; omega⟩
  have e1 : es = es.take lo ++ (((es.drop lo).take (hi - lo)) ++ (es.drop lo).drop (hi - lo)) := by rw [List.take_append_drop, List.take_append_drop]
  conv => lhs; rw [e1]
  rw [List.flatten_append, List.flatten_append]
  have l1 : (es.take lo).flatten.length = lo * sz := by rw [flatten_len fun e he => hes e (List.mem_of_mem_take he), List.length_take, Nat.min_eq_left (by omega)]
  have l2 : ((es.drop lo).take (hi - lo)).flatten.length = (hi - lo) * sz := by
    rw [flatten_len fun e he => hes e (List.mem_of_mem_drop (List.mem_of_mem_take he))]
    congr 1; simp; omega
  rw [List.drop_left' l1, List.take_left' l2]
theorem src_sub {v y : Value} {ty sz lo hi : Nat} {es : List (List Value)} (h : RowIn w v ty sz es) (hy : SubRep v sz lo hi y) : SrcRep P w y sz ((es.drop lo).take (hi - lo)) := by
  obtain ⟨a0, n, cap, a', hv, rfl, hle, hn, hcap, ha0, hA⟩ := hy
  rcases h with ⟨hv', rfl⟩ | ⟨b, o, cap', c, hv', hb, hcap', hc, hes, hfl, hon⟩
  · rw [hv'] at hv
    cases hv
    have : hi = 0 := by omega
    subst this
    have : lo = 0 := by omega
    subst this
    obtain ⟨_, _, rfl⟩ := ha0 rfl
    exact ⟨⟨none, 0, by simp⟩, by simp, by simp [Builtin.firstCells], by simp⟩
  · rw [hv'] at hv
    cases hv
    obtain ⟨hs, o', rfl, ho', hroom⟩ := hA _ rfl
    obtain ⟨hf1, hf2⟩ := sub_flat hes hle hn
    have hes' : ∀ e ∈ (es.drop lo).take (hi - lo), e.length = sz := fun e he => hes e (List.mem_of_mem_drop (List.mem_of_mem_take he))
    refine ⟨⟨_, _, by rw [hf2]⟩, hes', ?_, fun e he => hon e (List.mem_of_mem_drop (List.mem_of_mem_take he))⟩
    simp only [Builtin.firstCells]
    rw [hf2]
    rw [show (hi - lo) * sz = ((es.drop lo).take (hi - lo)).flatten.length by rw [flatten_len hes', hf2]]
    refine loadCells_run ?_
    intro j x hj
    have hlt := (List.getElem?_eq_some_iff.1 hj).1
    rw [flatten_len hes', hf2] at hlt
    have hlo : lo < cap := by
      rcases Nat.lt_or_ge lo hi with h | h
      · omega
      · have : hi - lo = 0 := by omega
        rw [this] at hlt; simp at hlt
    rw [add_spot rfl, cell_block hb rfl, ho' hlo]
    rw [← hf1, List.getElem?_take_of_lt hlt, List.getElem?_drop, ← hfl] at hj
    have hle2 : lo * sz + j < es.length * sz := by
      have : lo * sz + (hi - lo) * sz = hi * sz := by rw [← Nat.add_mul]; congr 1; omega
      have : hi * sz ≤ es.length * sz := Nat.mul_le_mul_right _ hn
      omega
    rw [List.getElem?_take_of_lt hle2, List.getElem?_drop] at hj
    simpa [Nat.add_assoc] using hj
theorem src_real {Hr : Heap} (hsub : Hr.sub w) {v : Value} {sz : Nat} {es : List (List Value)} (h : SliceAt Hr v sz es) : SrcRep P w v sz es := by
  obtain ⟨a0, n, c, rfl, rfl, hle, hes, hon, hA⟩ := h
  refine ⟨⟨_, _, rfl⟩, hes, ?_, hon⟩
  cases es with
  | nil => cases a0 <;> simp [Builtin.firstCells, loadCells, loadCellsFrom]
  | cons e0 r =>
    obtain ⟨A, rfl, hs, _⟩ := hA 0 e0 rfl
    simp only [Builtin.firstCells]
    rw [← flatten_len hes]
    refine loadCells_run (flat_cell hs hes ?_)
    intro i e he q x hq
    obtain ⟨A', hA', _, hh⟩ := hA i e he
    cases hA'
    have := has_cell hsub hh q x hq
    rwa [add_spot hs, add_spot rfl, Nat.add_assoc, ← add_spot hs] at this
structure BaseRep (V : Vl) (s : St) (w : World) (vb : Value) (ty sz : Nat) (base : Option Nat) (es : List (List Value)) (ab : Option Addr) (cap : Nat) (g : Prop) : Prop where
  val : vb = .slice ab es.length cap
  room : es.length ≤ cap
  el : ∀ e ∈ es, e.length = sz
  on : ∀ e ∈ es, ∀ x ∈ e, one x = true
  blk : (ab = none ∧ cap = 0) ∨ ∃ b o c ty', ab = some ⟨b, o, none⟩ ∧ w.heap[b]? = some (.cells c ty' (0, 0)) ∧ o + cap * sz ≤ c.size ∧ (c.toList.drop o).take (es.length * sz) = es.flatten ∧
    ((ty' = ty ∧ ∃ r ob, base = some r ∧ look s.objs r = some ob ∧ privB V r ob = some b) ∨ (g ∧ cap = es.length))
theorem base_rep (h : Rep C V s H a w) {x : SV} {vb : Value} {ty sz : Nat} {base : Option Nat} {es : List (List Value)} (hx : x.rep V vb) (hb : baseOf s ty sz x = some (base, es)) :
    ∃ ab cap, BaseRep V s w vb ty sz base es ab cap False := by
  unfold baseOf at hb
  split at hb
  · obtain ⟨hx, -⟩ := hx
    split at hb
    · rename_i r _ ty' sz' es' hl
      split at hb
      · rename_i h1 h2
        cases hb
        have := nbt h1; subst this
        have := nbt h2; subst this
        have ho := h.objs _ _ hl
        have ho' := ho
        rcases ho with ⟨hv, rfl⟩ | ⟨b, o, cap, c, hv, hb, hcap, hc, hes, hfl, hon⟩
        · exact ⟨none, 0, by rw [hx, hv]; rfl, Nat.le_refl _, by simp, by simp, .inl ⟨rfl, rfl⟩⟩
        · exact ⟨_, _, by rw [hx, hv], hcap, hes, hon, .inr ⟨b, o, c, _, rfl, hb, hc, hfl, .inl ⟨rfl, r, _, rfl, hl, by simp [privB, hv, blockOf]⟩⟩⟩
      · cases hb
    · cases hb
  · split at hb
    · rename_i r z lo hi _ ty' sz' es' hl
      split at hb
      · rename_i h1 h2 h3
        cases hb
        have := nbt h1; subst this
        have := nbt h2; subst this
        have := nbt h3; subst this
        obtain ⟨a0, n, cap, a', hv, rfl, hle, hn, hcap, ha0, hA⟩ := hx
        rcases h.objs _ _ hl with ⟨hv', rfl⟩ | ⟨b, o, cap', c, hv', hb, hcap', hc, hes, hfl, hon⟩
        · rw [hv'] at hv
          cases hv
          have : hi = 0 := by omega
          subst this
          have : lo = 0 := by omega
          subst this
          obtain ⟨_, _, rfl⟩ := ha0 rfl
          exact ⟨none, 0, by simp, by simp, by simp, by simp, .inl ⟨rfl, rfl⟩⟩
        · rw [hv'] at hv
          cases hv
          obtain ⟨hs, o', rfl, ho', hroom⟩ := hA _ rfl
          obtain ⟨hf1, hf2⟩ := sub_flat hes hle hn
          simp only at hroom
          refine ⟨some ⟨b, o', none⟩, cap - lo, by rw [hf2], by rw [hf2]; omega, fun e he => hes e (List.mem_of_mem_drop (List.mem_of_mem_take he)), fun e he => hon e (List.mem_of_mem_drop (List.mem_of_mem_take he)), .inr ⟨b, o', c, _, rfl, hb, by omega, ?_, .inl ⟨rfl, r, _, rfl, hl, by simp [privB, hv', blockOf]⟩⟩⟩
          rw [hf2, ← hf1]
          rcases Nat.lt_or_ge lo cap with hlo | hlo
          · rw [ho' hlo, ← hfl, ← List.drop_drop, List.drop_take, List.take_take]
            congr 1
            have : lo * z + (hi - lo) * z = hi * z := by rw [← Nat.add_mul]; congr 1; omega
            have : hi * z ≤ es'.length * z := Nat.mul_le_mul_right _ hn
            omega
          · have : hi - lo = 0 := by omega
            rw [this]; simp
      · cases hb
    · cases hb
  · cases hb
    obtain ⟨rfl, -⟩ := hx
    exact ⟨none, 0, rfl, Nat.le_refl _, by simp, by simp, .inl ⟨rfl, rfl⟩⟩
  · cases hb
theorem askRoom_run (n : Nat) : (askRoom n).run P w = .ok () w := by unfold askRoom; split <;> rfl
theorem nextcap_le {need cap : Nat} (h : cap < need) : Builtin.nextslicecap need cap ≤ 2 * need := by
  unfold Builtin.nextslicecap
  split
  · omega
  · split
    · omega
    · have : ∀ (r c : Nat), 256 ≤ c → c ≤ 2 * need → Builtin.growBy need r c ≤ 2 * need := by
        intro r
        induction r with
        | zero => intro c _ hc; exact hc
        | succ r ih =>
          intro c h1 hc
          unfold Builtin.growBy
          split
          · exact hc
          · exact ih _ (by omega) (by omega)
      exact this 4 cap (by omega) (by omega)
theorem append_run {t t2 e e2 : TypeId} {i : TypeInfo} {z : Value} {ty : TypeId} (hu : P.underlying t = some (.slice e)) (hu2 : P.underlying t2 = some (.slice e2)) (hi : P.info? e = some i) (hz : i.zero = some z)
    (hzs : z.cells.size = i.size) {base : Option Nat} {es es2 : List (List Value)} {vb v : Value} {ab : Option Addr} {cap : Nat} {g : Prop} (hg : g → es2 ≠ []) (hb : BaseRep V s w vb ty i.size base es ab cap g) (hsrc' : ∀ w' : World, w'.heap = w.heap → SrcRep P w' v i.size es2)
    (hroom : (es ++ es2).length * i.bytes ≤ roomMax) (hby : 0 < i.bytes) (rt : TypeId) :
    (∃ b o c, ab = some ⟨b, o, none⟩ ∧ w.heap[b]? = some (.cells c ty (0, 0)) ∧ o + cap * i.size ≤ c.size ∧ (c.toList.drop o).take (es.length * i.size) = es.flatten ∧ (∃ r ob, base = some r ∧ look s.objs r = some ob ∧ privB V r ob = some b) ∧ (es ++ es2).length ≤ cap ∧
      (Builtin.append_ #[t, t2] rt #[vb, v]).run P w = .ok (.slice ab (es ++ es2).length cap) (setB w b (.cells (writeCells c (o + es.length * i.size) es2.flatten) ty (0, 0)))) ∨
    (es ++ es2 = [] ∧ (Builtin.append_ #[t, t2] rt #[vb, v]).run P w = .ok (.slice none 0 0) w) ∨
    ∃ cap' c, (es ++ es2).length ≤ cap' ∧ cap' * i.size ≤ c.size ∧ c.toList.take ((es ++ es2).length * i.size) = (es ++ es2).flatten ∧
      (Builtin.append_ #[t, t2] rt #[vb, v]).run P w = .ok (.slice (some ⟨w.heap.size, 0, none⟩) (es ++ es2).length cap') { w with drawn := w.drawn + 1, heap := w.heap.push (.cells c e) } := by
  obtain ⟨⟨xb, xc, rfl⟩, hel2, hfc, hon2⟩ := hsrc' w rfl
  have hone : ∀ x ∈ es2.flatten, one x = true := by
    intro x hx
    obtain ⟨e, h1, h2⟩ := List.mem_flatten.1 hx
    exact hon2 e h1 x h2
  have hlen : (es ++ es2).length = es.length + es2.length := by simp
  rw [hb.val]
  have hbi : (typeInfo e).run P w = .ok i w := by simp [typeInfo, hi]
  by_cases hcap : es.length + es2.length ≤ cap
  · have run0 : (Builtin.append_ #[t, t2] rt #[.slice ab es.length cap, .slice xb es2.length xc]).run P w =
        (match ab with
          | some a => (do storeCells (a.add (es.length * i.size)) es2.flatten; pure (.slice ab (es.length + es2.length) cap) : Sem Value)
          | none => pure (.slice ab (es.length + es2.length) cap)).run P w := by
      simp only [Builtin.append_, List.getElem?_toArray, List.getElem?_cons_zero, List.getElem?_cons_succ, Sem.run_bind, run_underlying hu, Result.andThen_ok, run_sizeT hi, run_underlying hu2, Sem.run_pure,
        Bool.false_eq_true, if_false, Builtin.lenOf, Bool.not_false, if_true]
      rw [if_pos hcap]
      simp only [Sem.run_bind, hfc, Result.andThen_ok]
      cases ab <;> rfl
    rcases hb.blk with ⟨rfl, rfl⟩ | ⟨b, o, c, ty', rfl, hblk, hc, hfl, hbase⟩
    · have h1 : es = [] := List.length_eq_zero_iff.1 (by omega)
      have h2 : es2 = [] := List.length_eq_zero_iff.1 (by omega)
      subst h1; subst h2
      exact .inr (.inl ⟨rfl, by rw [run0]; rfl⟩)
    · have hfit : o + es.length * i.size + es2.flatten.length ≤ c.size := by
        rw [flatten_len hel2]
        have : (es.length + es2.length) * i.size ≤ cap * i.size := Nat.mul_le_mul_right _ hcap
        rw [Nat.add_mul] at this; omega
      obtain ⟨hty, hbase'⟩ : ty' = ty ∧ ∃ r ob, base = some r ∧ look s.objs r = some ob ∧ privB V r ob = some b := by
        rcases hbase with hbase | ⟨h1, h2⟩
        · exact hbase
        · exact absurd (List.length_eq_zero_iff.1 (by omega)) (hg h1)
      subst hty
      refine .inl ⟨b, o, c, rfl, hblk, hc, hfl, hbase', by omega, ?_⟩
      rw [run0]
      simp only [Sem.run_bind, add_spot]
      rw [storeCells_run es2.flatten 0 w hblk (by omega) hone]
      simp only [Result.andThen_ok, Sem.run_pure, Nat.add_zero, hlen]
  · have hn2 : Builtin.nextslicecap (es.length + es2.length) cap * i.bytes ≤ 2 ^ 48 := by
      have h1 := nextcap_le (need := es.length + es2.length) (cap := cap) (by omega)
      have h2 : Builtin.nextslicecap (es.length + es2.length) cap * i.bytes ≤ 2 * (es.length + es2.length) * i.bytes := Nat.mul_le_mul_right _ h1
      rw [hlen] at hroom
      unfold roomMax at hroom
      rw [Nat.mul_assoc] at h2
      omega
    have hold : (Builtin.firstCells i.size es.length (.slice ab es.length cap)).run P { w with drawn := w.drawn + 1 } = .ok es.flatten.toArray { w with drawn := w.drawn + 1 } := by
      rcases hb.blk with ⟨rfl, rfl⟩ | ⟨b, o, c, ty', rfl, hblk, hc, hfl, hbase⟩
      · have h1 : es = [] := List.length_eq_zero_iff.1 (by have := hb.room; omega)
        subst h1; rfl
      · simp only [Builtin.firstCells]
        rw [← flatten_len hb.el]
        refine loadCells_run ?_
        intro j x hj
        have hlt := (List.getElem?_eq_some_iff.1 hj).1
        rw [flatten_len hb.el] at hlt
        rw [add_spot rfl]
        show w.cell? _ = _
        rw [cell_block hblk rfl]
        rw [← hfl, List.getElem?_take_of_lt hlt, List.getElem?_drop] at hj
        simpa using hj
    have hnew : (Builtin.firstCells i.size es2.length (.slice xb es2.length xc)).run P { w with drawn := w.drawn + 1 } = .ok es2.flatten.toArray { w with drawn := w.drawn + 1 } := (hsrc' { w with drawn := w.drawn + 1 } rfl).run
    have hq : (choose (.appendCap (es.length + es2.length) cap e)).run P w = .ok (es.length + es2.length + w.tape w.drawn (.appendCap (es.length + es2.length) cap e) % (2 ^ 63 - (es.length + es2.length))) { w with drawn := w.drawn + 1 } := rfl
    generalize hg : es.length + es2.length + w.tape w.drawn (.appendCap (es.length + es2.length) cap e) % (2 ^ 63 - (es.length + es2.length)) = nc at hq
    have hnc : es.length + es2.length ≤ nc := by omega
    refine .inr (.inr ⟨nc, es.flatten.toArray ++ es2.flatten.toArray ++ Builtin.zeroCells z.cells (nc - (es.length + es2.length)), by omega, ?_, ?_, ?_⟩)
    · simp only [Array.size_append, List.size_toArray, flatten_len hb.el, flatten_len hel2, Builtin.zeroCells, Array.size_map, Array.size_range, hzs]
      rw [← Nat.add_mul, ← Nat.add_mul]
      exact Nat.mul_le_mul_right _ (by omega)
    · simp only [Array.toList_append, List.flatten_append]
      exact List.take_left' (by simp [flatten_len hb.el, flatten_len hel2, Nat.add_mul])
    · simp only [Builtin.append_, List.getElem?_toArray, List.getElem?_cons_zero, List.getElem?_cons_succ, Sem.run_bind, run_underlying hu, Result.andThen_ok, run_sizeT hi, run_underlying hu2, Sem.run_pure,
        Bool.false_eq_true, if_false, Builtin.lenOf, Bool.not_false, if_true]
      rw [if_neg hcap]
      simp only [Sem.run_bind, hbi, Result.andThen_ok]
      rw [if_neg (by simp; omega)]
      simp only [Sem.run_bind, hbi, Result.andThen_ok]
      rw [if_neg (by omega)]
      simp only [Sem.run_bind, hq, Result.andThen_ok]
      have hbi' : (typeInfo e).run P { w with drawn := w.drawn + 1 } = .ok i { w with drawn := w.drawn + 1 } := by simp [typeInfo, hi]
      simp only [hbi', Result.andThen_ok, Sem.run_bind, askRoom_run, hold, hnew, run_zero hi hz, newRow_run, Sem.run_pure, hlen]
theorem rowIn_heap {w w' : World} (e : w'.heap = w.heap) {v : Value} {ty sz : Nat} {es : List (List Value)} (h : RowIn w v ty sz es) : RowIn w' v ty sz es := by
  unfold RowIn at *
  rw [e]; exact h
theorem sub_heap {w w' : World} (e : w'.heap = w.heap) {H : Heap} (h : H.sub w) : H.sub w' := by
  intro b o hb
  rw [e]; exact h b o hb
/-- A block that an object had that goes. -/
def Was (V : Vl) (s : St) (base : Option Nat) (b : Nat) : Prop := ∃ r ob, base = some r ∧ look s.objs r = some ob ∧ privB V r ob = some b
/-- What an append comes to: what it leaves alone. -/
def GoesB (P : Program) (C : Ctx) (V : Vl) (s : St) (o : Oper) (a : Act) (w : World) (K : St → Prop) (H : Heap) (base : Option Nat) : Prop :=
  ∃ d, o.dst = some d ∧ ∃ V' s' y w', K s' ∧ Rep C V' s' H (a.put o.dst y) w' ∧ Off d V V' ∧ Only w w' (Was V s base) ∧ (∀ x ob, look s'.objs x = some ob → x = d ∨ look s.objs x = some ob) ∧
    (∀ x ob, look s.objs x = some ob → base ≠ some x → x ≠ d → look s'.objs x = some ob) ∧ (∀ ob b, look s'.objs d = some ob → privB V' d ob = some b → w.heap.size ≤ b ∨ Was V s base b) ∧ (execOp a.eval o).run P w = .ok (.value y) w'
theorem GoesB.goes {o : Oper} {K : St → Prop} {base : Option Nat} (h : GoesB P C V s o a w K H base) : Goes P C o a w K H := by
  obtain ⟨d, _, V', s', y, w', h1, h2, _, _, _, _, _, h3⟩ := h
  exact ⟨V', s', y, w', h1, h2, .inl h3⟩
theorem delO_keep {l : List (Nat × AObj)} {base : Option Nat} {x : Nat} {o : AObj} (h : look l x = some o) (hb : base ≠ some x) : look (delO l base) x = some o := by
  cases base with
  | none => exact h
  | some r => simp only [delO]; rw [look_objDel, if_neg (fun e => hb (by rw [e]))]; exact h
theorem base_site {ty sz : Nat} {x : SV} {base : Option Nat} {es : List (List Value)} (h : baseOf s ty sz x = some (base, es)) {r : Nat} (e : base = some r) : x.site = some r := by
  subst e
  unfold baseOf at h
  split at h
  · split at h
    · split at h
      · cases h; rfl
      · cases h
    · cases h
  · split at h
    · split at h
      · cases h; rfl
      · cases h
    · cases h
  · cases h
  · cases h
/-- An append, with what it makes told. -/
theorem append_goes (h : Rep C V s H a w) {o : Oper} {d : Nat} (hd : o.dst = some d) (hf : s.free d = true) {t t2 e e2 : TypeId} {i : TypeInfo} {z : Value} (hu : P.underlying t = some (.slice e)) (hu2 : P.underlying t2 = some (.slice e2)) (hi : P.info? e = some i) (hz : i.zero = some z)
    (hzs : z.cells.size = i.size) {base : Option Nat} {es es2 : List (List Value)} {x y : Operand} {ab : Option Addr} {cap : Nat} {g : Prop} (hg : g → es2 ≠ []) (hb : BaseRep V s w (a.eval x) e i.size base es ab cap g) (hsrc : ∀ w' : World, w'.heap = w.heap → SrcRep P w' (a.eval y) i.size es2)
    (hby : 0 < i.bytes) {K : St → Prop} (hk : rowK s d e i.size i.bytes base (es ++ es2) K)
    (hex : ∀ r w', (Builtin.append_ #[t, t2] o.type #[a.eval x, a.eval y]).run P w = .ok r w' → (execOp a.eval o).run P w = .ok (.value r) w') : GoesB P C V s o a w K H base := by
  obtain ⟨hroom, hK⟩ := hk
  have hel2 := (hsrc w rfl).el
  have hall : ∀ e ∈ es ++ es2, e.length = i.size := by
    intro e he
    rcases List.mem_append.1 he with he | he
    · exact hb.el e he
    · exact hel2 e he
  have hallon : ∀ e ∈ es ++ es2, ∀ x ∈ e, one x = true := by
    intro e he
    rcases List.mem_append.1 he with he | he
    · exact hb.on e he
    · exact (hsrc w rfl).on e he
  have hl1 : ∀ (ob0 : AObj) x ob, look (objSet (delO s.objs base) d ob0) x = some ob → x = d ∨ look s.objs x = some ob := by
    intro ob0 x ob hx
    rw [look_objSet] at hx
    split at hx
    · rename_i e; exact .inl e.symm
    · exact .inr (delO_look hx).1
  have hl2 : ∀ (ob0 : AObj) x ob, look s.objs x = some ob → base ≠ some x → x ≠ d → look (objSet (delO s.objs base) d ob0) x = some ob := by
    intro ob0 x ob hx hb hne
    rw [look_objSet, if_neg (Ne.symm hne)]
    exact delO_keep hx hb
  have hl3 : ∀ (ob0 ob : AObj), look (objSet (delO s.objs base) d ob0) d = some ob → ob = ob0 := by
    intro ob0 ob hx
    rw [look_objSet, if_pos rfl] at hx
    exact (Option.some.inj hx).symm
  unfold GoesB
  rw [hd]
  refine ⟨d, rfl, ?_⟩
  rcases append_run hu hu2 hi hz hzs hg hb hsrc hroom hby o.type with ⟨b, off, c, rfl, hblk, hc, hfl, hbase, hle, hrun⟩ | ⟨hnil, hrun⟩ | ⟨cap', c, hle, hc, hfl, hrun⟩
  · have hoff := rows_off V d (.slice (some ⟨b, off, none⟩) (es ++ es2).length cap)
    have hfit : off + es.length * i.size + es2.flatten.length ≤ c.size := by
      rw [flatten_len hel2]
      have : (es.length + es2.length) * i.size ≤ cap * i.size := Nat.mul_le_mul_right _ (by simpa using hle)
      rw [Nat.add_mul] at this; omega
    obtain ⟨r, ob, hr1, hr2, hr3⟩ := hbase
    have honly : Only w (setB w b (.cells (writeCells c (off + es.length * i.size) es2.flatten) e (0, 0))) (Was V s base) := by
      have := setB_only (w := w) b (.cells (writeCells c (off + es.length * i.size) es2.flatten) e (0, 0))
      exact ⟨this.os, this.tape, this.output, this.size, fun b' hb' hlt => this.block b' (fun eb => hb' ⟨r, ob, hr1, hr2, by rw [hr3, eb]⟩) hlt⟩
    refine ⟨V.rows d (.slice (some ⟨b, off, none⟩) (es ++ es2).length cap), _, _, _, hK, rep_set (s := ⟨s.env, objSet (delO s.objs base) d (.row e i.size (es ++ es2)), s.dfr⟩) (rep_objs h hf hoff (obj := .row e i.size (es ++ es2)) honly ?_ ?_) ?_, hoff, honly, hl1 _, hl2 _, ?_, hex _ _ hrun⟩
    · refine .inr ⟨b, off, cap, _, by simp [Vl.rows], setB_at hblk, hle, by rw [writeCells_size _ _ _ hfit]; exact hc, hall, ?_, hallon⟩
      rw [write_lw _ _ _ hfit]
      have e0 : c.toList = c.toList.take off ++ c.toList.drop off := (List.take_append_drop _ _).symm
      have l0 : (c.toList.take off).length = off := by simp; omega
      conv => lhs; rw [e0]
      have e1 : off + es.length * i.size = (c.toList.take off).length + es.length * i.size := by omega
      rw [e1, lw_right, List.drop_left' l0, lw, hfl, List.flatten_append]
      rw [List.take_left' (by simp [flatten_len hb.el, flatten_len hel2, Nat.add_mul])]
    · intro b' hb'
      simp [privB, Vl.rows, blockOf] at hb'
      subst hb'
      exact .inr ⟨r, ob, hr1, hr2, hr3⟩
    · simp [SV.rep, SC.rep, Vl.rows, one]
    · intro ob' b' h1 h2
      rw [hl3 _ _ h1] at h2
      simp [privB, Vl.rows, blockOf] at h2
      subst h2
      exact .inr ⟨r, ob, hr1, hr2, hr3⟩
  · have hoff := rows_off V d (.slice none 0 0)
    refine ⟨V.rows d (.slice none 0 0), _, _, _, hK, rep_set (s := ⟨s.env, objSet (delO s.objs base) d (.row e i.size (es ++ es2)), s.dfr⟩) (rep_objs h hf hoff (obj := .row e i.size (es ++ es2)) ⟨rfl, rfl, rfl, Nat.le_refl _, fun _ _ _ => rfl⟩ ?_ ?_) ?_, hoff, ⟨rfl, rfl, rfl, Nat.le_refl _, fun _ _ _ => rfl⟩, hl1 _, hl2 _, ?_, hex _ _ hrun⟩
    · exact .inl ⟨by simp [Vl.rows], hnil⟩
    · intro b' hb'
      simp [privB, Vl.rows, blockOf] at hb'
    · simp [SV.rep, SC.rep, Vl.rows, one]
    · intro ob' b' h1 h2
      rw [hl3 _ _ h1] at h2
      simp [privB, Vl.rows, blockOf] at h2
  · obtain ⟨V', hoff, hrep, hnb⟩ := new_row h hf (es := es ++ es2) (ty := e) (sz := i.size) (cap := cap') (c := c) base (w' := { w with drawn := w.drawn + 1, heap := w.heap.push (.cells c e) })
      ⟨rfl, rfl, rfl, by simp, fun b _ hb => by simp [Array.getElem?_push, Nat.ne_of_lt hb]⟩ (by simp) hle hc hall hfl hallon
    refine ⟨V', _, _, _, hK, hrep, hoff, ⟨rfl, rfl, rfl, by simp, fun b _ hb => by simp [Array.getElem?_push, Nat.ne_of_lt hb]⟩, hl1 _, hl2 _, ?_, hex _ _ hrun⟩
    intro ob' b' h1 h2
    rw [hl3 _ _ h1] at h2
    simp only [privB, hnb, blockOf, Option.some.injEq] at h2
    exact .inl (by omega)
theorem src_of (h : Rep C V s H a w) {x : SV} {y : Value} {es : List (List Value)} {sz : Nat} (hx : x.rep V y) (hs : srcOf s sz x = some es) {w' : World} (e : w'.heap = w.heap) : SrcRep P w' y sz es := by
  unfold srcOf at hs
  split at hs
  · obtain ⟨hx, -⟩ := hx
    split at hs
    · rename_i hl
      split at hs
      · rename_i hb
        have := nbt hb; subst this
        cases hs
        rw [hx]
        exact src_row (rowIn_heap e (h.objs _ _ hl))
      · cases hs
    · cases hs
  · split at hs
    · rename_i hl
      split at hs
      · rename_i hb hb2
        have := nbt hb; subst this
        have := nbt hb2; subst this
        cases hs
        exact src_sub (rowIn_heap e (h.objs _ _ hl)) hx
      · cases hs
    · cases hs
  · cases hs
theorem appK_sound (h : Rep C V s H a w) {Hr : Heap} (hr : Hr ≤ H) (o : Oper) {args : Array Operand} {ats : Array TypeId} (ho : o.op = .call { callee := .builtin .append, args := args, argTypes := ats }) {K : St → Prop} (hk : objK P o s Hr K) :
    ∃ base, GoesB P C V s o a w K H base ∧ ∀ r, base = some r → appSite s o = some r := by
  have hsub := le_sub hr h.sub
  cases hd : o.dst with
  | none => unfold objK at hk; rw [ho, hd] at hk; exact hk.elim
  | some d =>
    unfold objK at hk
    rw [ho, hd] at hk
    simp only at hk
    split at hk
    · rename_i t t2 x y hf h1 h2
      have e1 : ats = #[t, t2] := by apply Array.ext'; simpa using h1
      have e2 : args = #[x, y] := by apply Array.ext'; simpa using h2
      subst e1; subst e2
      have hex : ∀ r w', (Builtin.append_ #[t, t2] o.type #[a.eval x, a.eval y]).run P w = .ok r w' → (execOp a.eval o).run P w = .ok (.value r) w' := by
        intro r w' hr
        unfold execOp
        rw [ho]
        simp only [resolve, Sem.run_bind, Sem.run_pure, Result.andThen_ok, invoke, builtin, List.map_toArray, List.map_cons, List.map_nil, hr]
      split at hk
      · rename_i e2 e sz hu2 he
        obtain ⟨hu, i, hi, rfl⟩ := sliceElem_eq he
        split at hk
        · rename_i by_ z hby hz
          obtain ⟨i', v, hi', hv, rfl, hone⟩ := zeroT_eq hz
          rw [hi] at hi'; cases hi'
          have hby' : i.bytes = by_ + 1 := by simp [bytesT, hi] at hby; exact hby
          split at hk
          · rename_i hzl
            have hzs : v.cells.size = i.size := by have := nbt hzl; simpa using this
            have hx := h.ev x
            have hy := h.ev y
            split at hk
            · rename_i b off n hi' harr
              rw [harr] at hx
              obtain ⟨a', hxv, hle, hm, hA⟩ := hx
              split at hk
              · rename_i ty l x1 es2 hl hsrc hsz1 hfull
                simp only [Bool.and_eq_true] at hfull
                have hn1 := Nat.le_of_ble_eq_true hfull.2
                have hfull := nbt hfull.1
                have hsz1 := nbt hsz1
                split at hk
                · rename_i k m xs rest hseg
                  split at hk
                  · rename_i hmn
                    have hmn := nbt hmn
                    subst hmn
                    subst hfull
                    obtain ⟨cs, hcs, hblk⟩ := h.objs _ _ hl
                    obtain ⟨h3, h4⟩ := segFrom_rep _ _ hcs hseg
                    obtain ⟨hn, l', e0, hl'⟩ := h3
                    rw [← hby'] at hk
                    have hA' := hA (by omega)
                    rw [hA'] at hxv
                    have hfl : ∀ xs : List Int, (xs.map fun v => [Value.int k v]).flatten = xs.map (Value.int k) := by
                      intro xs
                      induction xs with
                      | nil => rfl
                      | cons x r ih => simp [ih]
                    refine ⟨none, append_goes (g := True) (base := none) (es := xs.map fun v => [Value.int k v]) (ab := some ⟨V.blk b, off, none⟩) (cap := xs.length) h hd hf hu hu2 hi hv hzs (by simp) ⟨?_, ?_, ?_, ?_, .inr ⟨V.blk b, off, cs.toArray, ty, rfl, hblk, ?_, ?_, .inr ⟨trivial, by simp⟩⟩⟩ (fun w' e => src_of h hy hsrc e) (by omega) hk hex, by simp⟩
                    · rw [hxv]; simp [hn]
                    · simp
                    · intro e he
                      obtain ⟨q, _, rfl⟩ := List.mem_map.1 he
                      simpa using hsz1.symm
                    · intro e he x hx
                      obtain ⟨q, _, rfl⟩ := List.mem_map.1 he
                      simp at hx
                      subst hx
                      rfl
                    · have := congrArg List.length e0
                      simp at this
                      rw [hsz1]
                      simp
                      omega
                    · rw [hsz1, hfl]
                      simp only [List.length_map, Nat.mul_one]
                      rw [e0]
                      exact List.take_left' (by simp)
                  · exact hk.elim
                · exact hk.elim
              · exact hk.elim
            · split at hk
              · rename_i base es hb
                obtain ⟨ab, cap, hbr⟩ := base_rep h hx hb
                split at hk
                · rename_i a0 n c hreal
                  rw [hreal] at hy
                  obtain ⟨hy, -⟩ := hy
                  obtain ⟨es2, hs, hk⟩ := hk
                  rw [← hby'] at hk
                  refine ⟨base, append_goes h hd hf hu hu2 hi hv hzs (by simp) hbr (fun w' e => by rw [hy]; exact src_real (sub_heap e hsub) hs) (by omega) hk hex, fun r e => ?_⟩
                  simp only [appSite, ho]; exact base_site hb e
                · split at hk
                  · rename_i es2 hsrc _
                    rw [← hby'] at hk
                    refine ⟨base, append_goes h hd hf hu hu2 hi hv hzs (by simp) hbr (fun w' e => ?_) (by omega) hk hex, fun r e => ?_⟩
                    · exact src_of h hy hsrc e
                    · simp only [appSite, ho]; exact base_site hb e
                  · exact hk.elim
              · exact hk.elim
          · exact hk.elim
        · exact hk.elim
      · exact hk.elim
    · exact hk.elim
/-- A store into a private variable, or into a row: what it changes. -/
theorem storeK_sound (h : Rep C V s H a w) {Hr : Heap} (o : Oper) {t : TypeId} {x y : Operand} (ho : o.op = .store t x y) (hd : o.dst = none) {K : St → Prop} (hk : objK P o s Hr K) :
    ∃ d old obj b0 w', look s.objs d = some old ∧ privB V d old = some b0 ∧ privB V d obj = some b0 ∧ storeSite (ev s x) = some d ∧ K ⟨s.env, objSet s.objs d obj, s.dfr⟩ ∧
      Rep C V ⟨s.env, objSet s.objs d obj, s.dfr⟩ H a w' ∧ Only w w' (fun b => b = b0) ∧ (execOp a.eval o).run P w = .ok .skip w' := by
  unfold objK at hk
  unfold execOp
  rw [ho, hd] at hk
  rw [ho]
  simp only at hk
  have hx := h.ev x
  split at hk
  · rename_i b off hb
    rw [hb] at hx
    simp only [SV.rep, SC.rep] at hx
    split at hk
    · rename_i ty l new z hl hn hz
      split at hk
      · rename_i l' hbn hl'
        simp only [Bool.and_eq_true] at hbn
        obtain ⟨i, hi, rfl⟩ := sizeT_eq hz
        obtain ⟨cs, hcs, hblk⟩ := h.objs _ _ hl
        have hrep := segs_rep (h.ev y) hn
        have hlen := segsRep_len hrep
        have hsz := nbt hbn.1
        obtain ⟨h1, h2⟩ := segPut_rep hcs hrep hl'
        have hrun := storeVar_run (P := P) (off := off) hi (by simp at hlen; omega) hblk (by simp at h2 ⊢; simp at hlen; omega) (segs_one hbn.2 hrep)
        refine ⟨_, _, _, _, _, hl, rfl, rfl, by rw [hb]; rfl, hk, rep_mod h hl rfl rfl (setB_only _ _) ?_, setB_only _ _, exec_u (by simp only [Instr.storeAt, Sem.run_bind, hx, Instr.sureAddr, Sem.run_pure, Result.andThen_ok]; exact hrun)⟩
        refine ⟨_, h1, ?_⟩
        rw [setB_at hblk, show (writeCells cs.toArray off (a.eval y).cells.toList) = (cs.take off ++ (a.eval y).cells.toList ++ cs.drop (off + (a.eval y).cells.toList.length)).toArray by
          apply Array.ext'; rw [writeCells_list _ _ _ (by simpa using h2)]]
      · exact hk.elim
    · exact hk.elim
  · rename_i b off n i hb
    rw [hb] at hx
    obtain ⟨hin, hx⟩ := hx
    split at hk
    · rename_i ty l k v hl hy hz
      have hy' := h.ev y
      rw [hy] at hy'
      obtain ⟨hy', -⟩ := hy'
      obtain ⟨inf, hi, h1'⟩ := sizeT_eq hz
      obtain ⟨cs, hcs, hblk⟩ := h.objs _ _ hl
      split at hk
      · rename_i k' m xs rest hr'
        split at hk
        · rename_i l' hm hkk hl'
          have := nbt hm; subst this
          have := sameK_eq hkk; subst this
          obtain ⟨h1, h2⟩ := segFrom_rep _ _ hcs hr'
          obtain ⟨hn, l1, e1, hl1⟩ := h1
          have hrep : SegsRep V [.ints k m (xs.set i v)] ((xs.set i v).map (.int k)) := ⟨by simpa using hn, [], by simp, rfl⟩
          obtain ⟨h3, h4⟩ := segPut_rep hcs hrep hl'
          simp only [List.length_map, List.length_set] at h3 h4
          have hrun := storeVar_run (P := P) (v := .int k v) (off := off + i) hi (by rw [h1']; rfl) hblk (by simp; omega) (by simp [Value.cells, one])
          refine ⟨_, _, _, _, _, hl, rfl, rfl, by rw [hb]; rfl, hk, rep_mod h hl rfl rfl (setB_only _ _) ?_, setB_only _ _, exec_u (by simp only [Instr.storeAt, Sem.run_bind, hx, Instr.sureAddr, Sem.run_pure, Result.andThen_ok, hy']; exact hrun)⟩
          refine ⟨_, h3, ?_⟩
          rw [setB_at hblk]
          congr 2
          apply Array.ext'
          simp only [Value.cells, writeCells, Array.toList_setIfInBounds]
          apply List.ext_getElem?
          intro j
          have hsplit : cs = cs.take off ++ (xs.map (Value.int k) ++ l1) := by rw [← e1, List.take_append_drop]
          have hl1' : cs.drop (off + xs.length) = l1 := by
            rw [← List.drop_drop, e1, List.drop_append_of_le_length (by simp), List.drop_eq_nil_of_le (by simp)]
            simp
          rw [hl1']
          conv => lhs; rw [hsplit]
          have htk : (cs.take off).length = off := by simp; omega
          rw [List.append_assoc, List.set_append_right _ _ (by omega), htk, Nat.add_sub_cancel_left, List.set_append_left _ _ (by simp; omega), List.map_set]
        · exact hk.elim
      · exact hk.elim
    · exact hk.elim
  · rename_i r sz' i off hb
    rw [hb] at hx
    obtain ⟨A, n, cap, hv, hs, hx⟩ := hx
    split at hk
    · rename_i ty sz es new z hl hn hz
      split at hk
      · rename_i cs hcs
        split at hk
        · rename_i hb1 hb2 hb3
          have := nbt hb3; subst this
          have hcl := nbt hb1
          have hle := Nat.le_of_ble_eq_true hb2
          obtain ⟨hi, hK⟩ := hk
          obtain ⟨inf, hinf, rfl⟩ := sizeT_eq hz
          have hrep := segs_rep (h.ev y) hn
          have hval := flat_rep hrep hcs
          have hvs : (a.eval y).cells.size = inf.size := by have := congrArg List.length hval; simp at this; omega
          have hone : ∀ x ∈ (a.eval y).cells.toList, one x = true := by
            exact segs_one (flat_noBad hcs) hrep
          rcases h.objs _ _ hl with ⟨hv', rfl⟩ | ⟨b, o', cap', c, hv', hblk, hcap, hc1, hes, hfl, hon⟩
          · simp at hi
          · rw [hv'] at hv
            cases hv
            have he : es[i]? = some es[i] := List.getElem?_eq_getElem hi
            have hroom : i * sz + off + inf.size ≤ es.length * sz := by
              have : (i + 1) * sz ≤ es.length * sz := Nat.mul_le_mul_right _ hi
              rw [Nat.succ_mul] at this; omega
            have hroom2 : es.length * sz ≤ cap * sz := Nat.mul_le_mul_right _ hcap
            have hrun := storeVar_run (P := P) (off := o' + i * sz + off) hinf hvs hblk (by omega) hone
            have hes' : (match Nat.beq inf.size sz with | true => es.set i cs | false => cellPut es i off cs) = es.set i (lw es[i] off cs) := by
              split
              · rename_i hbb
                have hbb := nbt hbb
                have h0 : off = 0 := by omega
                subst h0
                have hel := hes es[i] (List.getElem_mem hi)
                rw [lw, List.take_zero, List.nil_append, List.drop_eq_nil_of_le (by omega), List.append_nil]
              · exact modify_eq he
            have hK' : K ⟨s.env, objSet s.objs r (.row ty sz (es.set i (lw es[i] off cs))), s.dfr⟩ := by rw [← hes']; exact hK
            refine ⟨_, _, _, _, _, hl, by simp [privB, hv', blockOf], by simp [privB, hv', blockOf], by rw [hb]; rfl, hK', rep_mod h hl (by simp [privB, hv', blockOf]) (by simp [privB, hv', blockOf]) (setB_only b _) (.inr ⟨b, o', cap, writeCells c (o' + i * sz + off) cs, ?_, ?_, ?_, ?_, ?_, ?_, ?_⟩), setB_only b _, exec_u (by simp only [Instr.storeAt, Sem.run_bind, hx, Instr.sureAddr, Sem.run_pure, Result.andThen_ok]; exact hrun)⟩
            · rw [hv']; simp
            · rw [setB_at hblk, hval]
            · simpa using hcap
            · rw [writeCells_size _ _ _ (by omega)]; exact hc1
            · intro e he'
              rcases List.mem_or_eq_of_mem_set he' with he' | rfl
              · exact hes e he'
              · have hel := hes es[i] (List.getElem_mem hi)
                rw [lw_len _ _ _ (by omega), hel]
            · rw [write_lw _ _ _ (by omega), ← row_put hes he (by omega), ← hfl, List.length_set]
              have e0 : c.toList = c.toList.take o' ++ ((c.toList.drop o').take (es.length * sz) ++ (c.toList.drop o').drop (es.length * sz)) := by
                rw [List.take_append_drop, List.take_append_drop]
              have l0 : (c.toList.take o').length = o' := by simp; omega
              have l1 : ((c.toList.drop o').take (es.length * sz)).length = es.length * sz := by simp; omega
              conv => lhs; rw [e0]
              have e1 : o' + i * sz + off = (c.toList.take o').length + (i * sz + off) := by omega
              rw [e1, lw_right, lw_left _ _ _ _ (by omega), List.drop_left' l0, List.take_left' (by rw [lw_len _ _ _ (by omega), l1])]
            · intro e he'
              rcases List.mem_or_eq_of_mem_set he' with he' | rfl
              · exact hon e he'
              · intro x hx
                rw [lw] at hx
                rcases List.mem_append.1 hx with hx | hx
                · rcases List.mem_append.1 hx with hx | hx
                  · exact hon _ (List.getElem_mem hi) x (List.mem_of_mem_take hx)
                  · exact hone x (by rw [hval]; exact hx)
                · exact hon _ (List.getElem_mem hi) x (List.mem_of_mem_drop hx)
        · exact hk.elim
      · exact hk.elim
    · exact hk.elim
  · exact hk.elim
theorem objK_sound (h : Rep C V s H a w) {Hr : Heap} (hr : Hr ≤ H) (o : Oper) {K : St → Prop} (hk : objK P o s Hr K) : Goes P C o a w K H := by
  have hsub := le_sub hr h.sub
  unfold objK at hk
  unfold Goes execOp
  split at hk
  · -- alloc
    rename_i t d ho hd
    rw [ho, hd]
    split at hk
    · rename_i z ks hf hz hks
      obtain ⟨i, v, hi, hv, rfl, hone⟩ := zeroT_eq hz
      split at hk
      · rename_i l hl
        obtain ⟨V', hoff, hrep, hnb⟩ := new_box h hf t (parse_rep (V := V) hl hone) (parse_refs hl)
        refine ⟨V', _, _, _, hk, hrep, .inl (exec_v ?_)⟩
        simp only [Instr.alloc, Sem.run_bind, run_zero hi hv, Result.andThen_ok, newVar, newRow_run, Sem.run_pure]
      · exact hk.elim
    · exact hk.elim
  · -- box
    rename_i t x d ho hd
    rw [ho, hd]
    split at hk
    · rename_i l hf hl
      obtain ⟨V', hoff, hrep, hnb⟩ := new_box h hf t (segs_rep (h.ev x) hl) (segs_refs (ev_refs hf x) hl)
      refine ⟨V', _, _, _, hk, hrep, .inl (exec_v ?_)⟩
      simp only [Instr.box, Sem.run_bind, newVar, newRow_run, Result.andThen_ok, Sem.run_pure]
    · exact hk.elim
  · -- store
    rename_i t x y ho hd
    rw [ho, hd]
    have hx := h.ev x
    split at hk
    · rename_i b off hb
      rw [hb] at hx
      simp only [SV.rep, SC.rep] at hx
      split at hk
      · rename_i ty l new z hl hn hz
        split at hk
        · rename_i l' hbn hl'
          simp only [Bool.and_eq_true] at hbn
          obtain ⟨i, hi, rfl⟩ := sizeT_eq hz
          obtain ⟨cs, hcs, hblk⟩ := h.objs _ _ hl
          have hrep := segs_rep (h.ev y) hn
          have hlen := segsRep_len hrep
          have hsz := nbt hbn.1
          obtain ⟨h1, h2⟩ := segPut_rep hcs hrep hl'
          have hrun := storeVar_run (P := P) (off := off) hi (by simp at hlen; omega) hblk (by simp at h2 ⊢; simp at hlen; omega) (segs_one hbn.2 hrep)
          refine ⟨V, _, undef, _, hk, rep_mod h hl rfl rfl (setB_only _ _) ?_, .inr ⟨exec_u (by simp only [Instr.storeAt, Sem.run_bind, hx, Instr.sureAddr, Sem.run_pure, Result.andThen_ok]; exact hrun), rfl⟩⟩
          refine ⟨_, h1, ?_⟩
          rw [setB_at hblk, show (writeCells cs.toArray off (a.eval y).cells.toList) = (cs.take off ++ (a.eval y).cells.toList ++ cs.drop (off + (a.eval y).cells.toList.length)).toArray by
            apply Array.ext'; rw [writeCells_list _ _ _ (by simpa using h2)]]
        · exact hk.elim
      · exact hk.elim
    · rename_i b off n i hb
      rw [hb] at hx
      obtain ⟨hin, hx⟩ := hx
      split at hk
      · rename_i ty l k v hl hy hz
        have hy' := h.ev y
        rw [hy] at hy'
        obtain ⟨hy', -⟩ := hy'
        obtain ⟨inf, hi, h1'⟩ := sizeT_eq hz
        obtain ⟨cs, hcs, hblk⟩ := h.objs _ _ hl
        split at hk
        · rename_i k' m xs rest hr'
          split at hk
          · rename_i l' hm hkk hl'
            have := nbt hm; subst this
            have := sameK_eq hkk; subst this
            obtain ⟨h1, h2⟩ := segFrom_rep _ _ hcs hr'
            obtain ⟨hn, l1, e1, hl1⟩ := h1
            have hrep : SegsRep V [.ints k m (xs.set i v)] ((xs.set i v).map (.int k)) := ⟨by simpa using hn, [], by simp, rfl⟩
            obtain ⟨h3, h4⟩ := segPut_rep hcs hrep hl'
            simp only [List.length_map, List.length_set] at h3 h4
            have hrun := storeVar_run (P := P) (v := .int k v) (off := off + i) hi (by rw [h1']; rfl) hblk (by simp; omega) (by simp [Value.cells, one])
            refine ⟨V, _, undef, _, hk, rep_mod h hl rfl rfl (setB_only _ _) ?_, .inr ⟨exec_u (by simp only [Instr.storeAt, Sem.run_bind, hx, Instr.sureAddr, Sem.run_pure, Result.andThen_ok, hy']; exact hrun), rfl⟩⟩
            refine ⟨_, h3, ?_⟩
            rw [setB_at hblk]
            congr 2
            apply Array.ext'
            simp only [Value.cells, writeCells, Array.toList_setIfInBounds]
            apply List.ext_getElem?
            intro j
            have hsplit : cs = cs.take off ++ (xs.map (Value.int k) ++ l1) := by rw [← e1, List.take_append_drop]
            have hl1' : cs.drop (off + xs.length) = l1 := by
              rw [← List.drop_drop, e1, List.drop_append_of_le_length (by simp), List.drop_eq_nil_of_le (by simp)]
              simp
            rw [hl1']
            conv => lhs; rw [hsplit]
            have htk : (cs.take off).length = off := by simp; omega
            rw [List.append_assoc, List.set_append_right _ _ (by omega), htk, Nat.add_sub_cancel_left, List.set_append_left _ _ (by simp; omega), List.map_set]
          · exact hk.elim
        · exact hk.elim
      · exact hk.elim
    · rename_i r sz' i off hb
      rw [hb] at hx
      obtain ⟨A, n, cap, hv, hs, hx⟩ := hx
      split at hk
      · rename_i ty sz es new z hl hn hz
        split at hk
        · rename_i cs hcs
          split at hk
          · rename_i hb1 hb2 hb3
            have := nbt hb3; subst this
            have hcl := nbt hb1
            have hle := Nat.le_of_ble_eq_true hb2
            obtain ⟨hi, hK⟩ := hk
            obtain ⟨inf, hinf, rfl⟩ := sizeT_eq hz
            have hrep := segs_rep (h.ev y) hn
            have hval := flat_rep hrep hcs
            have hvs : (a.eval y).cells.size = inf.size := by have := congrArg List.length hval; simp at this; omega
            have hone : ∀ x ∈ (a.eval y).cells.toList, one x = true := by
              exact segs_one (flat_noBad hcs) hrep
            rcases h.objs _ _ hl with ⟨hv', rfl⟩ | ⟨b, o', cap', c, hv', hblk, hcap, hc1, hes, hfl, hon⟩
            · simp at hi
            · rw [hv'] at hv
              cases hv
              have he : es[i]? = some es[i] := List.getElem?_eq_getElem hi
              have hroom : i * sz + off + inf.size ≤ es.length * sz := by
                have : (i + 1) * sz ≤ es.length * sz := Nat.mul_le_mul_right _ hi
                rw [Nat.succ_mul] at this; omega
              have hroom2 : es.length * sz ≤ cap * sz := Nat.mul_le_mul_right _ hcap
              have hrun := storeVar_run (P := P) (off := o' + i * sz + off) hinf hvs hblk (by omega) hone
              have hes' : (match Nat.beq inf.size sz with | true => es.set i cs | false => cellPut es i off cs) = es.set i (lw es[i] off cs) := by
                split
                · rename_i hbb
                  have hbb := nbt hbb
                  have h0 : off = 0 := by omega
                  subst h0
                  have hel := hes es[i] (List.getElem_mem hi)
                  rw [lw, List.take_zero, List.nil_append, List.drop_eq_nil_of_le (by omega), List.append_nil]
                · exact modify_eq he
              have hK' : K ⟨s.env, objSet s.objs r (.row ty sz (es.set i (lw es[i] off cs))), s.dfr⟩ := by rw [← hes']; exact hK
              refine ⟨V, _, undef, _, hK', rep_mod h hl (by simp [privB, hv', blockOf]) (by simp [privB, hv', blockOf]) (setB_only b _) (.inr ⟨b, o', cap, writeCells c (o' + i * sz + off) cs, ?_, ?_, ?_, ?_, ?_, ?_, ?_⟩), .inr ⟨exec_u (by simp only [Instr.storeAt, Sem.run_bind, hx, Instr.sureAddr, Sem.run_pure, Result.andThen_ok]; exact hrun), rfl⟩⟩
              · rw [hv']; simp
              · rw [setB_at hblk, hval]
              · simpa using hcap
              · rw [writeCells_size _ _ _ (by omega)]; exact hc1
              · intro e he'
                rcases List.mem_or_eq_of_mem_set he' with he' | rfl
                · exact hes e he'
                · have hel := hes es[i] (List.getElem_mem hi)
                  rw [lw_len _ _ _ (by omega), hel]
              · rw [write_lw _ _ _ (by omega), ← row_put hes he (by omega), ← hfl, List.length_set]
                have e0 : c.toList = c.toList.take o' ++ ((c.toList.drop o').take (es.length * sz) ++ (c.toList.drop o').drop (es.length * sz)) := by
                  rw [List.take_append_drop, List.take_append_drop]
                have l0 : (c.toList.take o').length = o' := by simp; omega
                have l1 : ((c.toList.drop o').take (es.length * sz)).length = es.length * sz := by simp; omega
                conv => lhs; rw [e0]
                have e1 : o' + i * sz + off = (c.toList.take o').length + (i * sz + off) := by omega
                rw [e1, lw_right, lw_left _ _ _ _ (by omega), List.drop_left' l0, List.take_left' (by rw [lw_len _ _ _ (by omega), l1])]
              · intro e he'
                rcases List.mem_or_eq_of_mem_set he' with he' | rfl
                · exact hon e he'
                · intro x hx
                  rw [lw] at hx
                  rcases List.mem_append.1 hx with hx | hx
                  · rcases List.mem_append.1 hx with hx | hx
                    · exact hon _ (List.getElem_mem hi) x (List.mem_of_mem_take hx)
                    · exact hone x (by rw [hval]; exact hx)
                  · exact hon _ (List.getElem_mem hi) x (List.mem_of_mem_drop hx)
          · exact hk.elim
        · exact hk.elim
      · exact hk.elim
    · exact hk.elim
  · -- buildSlice
    rename_i t n parts d ho hd
    rw [ho, hd]
    split at hk
    · rename_i e sz hf he
      split at hk
      · rename_i es hes hn
        obtain ⟨hu, i, hi, rfl⟩ := sliceElem_eq he
        have hn' := Nat.le_of_ble_eq_true hn
        obtain ⟨h1, h2, h2', h3⟩ := elemsOf_rep h _ _ _ hes
        split at hk
        · rename_i z hz
          obtain ⟨i', v, hi', hv, rfl, hone⟩ := zeroT_eq hz
          have hz1 : (if n * i.size = 0 then (pure #[] : Sem (Array Value)) else do pure (← zeroValue e).cells).run P w = .ok (if n * i.size = 0 then #[] else v.cells) w := by
            split
            · rfl
            · simp only [Sem.run_bind, run_zero hi' hv, Result.andThen_ok, Sem.run_pure]
          generalize hq : (if n * i.size = 0 then #[] else v.cells) = zq at hz1
          generalize hcells : (Array.range (n * i.size)).map (zq[· % zq.size]!) = cells
          have hcl : cells.size = n * i.size := by rw [← hcells]; simp
          obtain ⟨cs, h4, h5⟩ := h3 cells [] (by simp) (by simpa using hcl) (by simp)
          have hcs : cs.size = n * i.size := by rw [← Array.length_toList, h5, List.nil_append, flatten_len h2, h1]
          obtain ⟨V', hoff, hrep, hnb⟩ := new_row h hf (es := es) (ty := e) (sz := i.size) (cap := n) (c := cs) none (w' := { w with heap := w.heap.push (.cells cs e) }) (alloc_only _ _) (by simp) (by omega) (by omega) h2
            (by rw [h5, List.nil_append, List.take_of_length_le (by rw [flatten_len h2]; exact Nat.le_refl _)]) h2'
          rw [h1] at hrep
          refine ⟨V', _, _, _, hk, hrep, .inl (exec_v ?_)⟩
          simp only [Instr.buildSlice, Sem.run_bind, run_underlying hu, Result.andThen_ok, run_sizeT hi]
          rw [if_neg (by omega)]
          by_cases hzero : n * i.size = 0
          · rw [if_pos hzero] at hq ⊢
            subst hq
            simp only [Sem.run_bind, Sem.run_pure, Result.andThen_ok, Array.toList_map]
            rw [hcells, h4]
            simp only [Sem.run_bind, newRow_run, Result.andThen_ok, Sem.run_pure]
          · rw [if_neg hzero] at hq ⊢
            subst hq
            simp only [Sem.run_bind, run_zero hi' hv, Sem.run_pure, Result.andThen_ok, Array.toList_map]
            rw [hcells, h4]
            simp only [Sem.run_bind, newRow_run, Result.andThen_ok, Sem.run_pure]
        · exact hk.elim
      · exact hk.elim
    · exact hk.elim
  · -- makeSlice
    rename_i t n c d ho hd
    rw [ho, hd]
    have hn := h.ev n
    have hc := h.ev c
    split at hk
    · rename_i e sz hf he
      split at hk
      · rename_i n' c' z by_ hn1 hc1 hz hby
        rw [hn1] at hn
        rw [hc1] at hc
        obtain ⟨hn, -⟩ := hn
        obtain ⟨hc, -⟩ := hc
        split at hk
        · rename_i hzl
          have hzl := nbt hzl
          obtain ⟨⟨h0, rfl, hroom⟩, hK⟩ := hk
          obtain ⟨hu, i, hi, rfl⟩ := sliceElem_eq he
          obtain ⟨i', v, hi', hv, rfl, hone⟩ := zeroT_eq hz
          rw [hi] at hi'; cases hi'
          have hby' : i.bytes = by_ + 1 := by simp [bytesT, hi] at hby; exact hby
          have hle : c' ≤ roomMax := by
            refine Int.le_trans ?_ hroom
            have : c' * 1 ≤ c' * ((by_ + 1 : Nat) : Int) := Int.mul_le_mul_of_nonneg_left (by omega) h0
            simpa using this
          have hwrap : IntKind.i64.wrap c' = c' := IntWalk.i64_in c' (by unfold roomMax at hle; omega)
          have hzs : v.cells.size = i.size := by simpa using hzl
          have hz1 : (if c'.toNat * i.size = 0 then (pure #[] : Sem (Array Value)) else do pure (← zeroValue e).cells).run P w = .ok (if c'.toNat * i.size = 0 then #[] else v.cells) w := by
            split
            · rfl
            · simp only [Sem.run_bind, run_zero hi hv, Result.andThen_ok, Sem.run_pure]
          generalize hq : (if c'.toNat * i.size = 0 then #[] else v.cells) = zq at hz1
          have hcells : ((Array.range (c'.toNat * i.size)).map (zq[· % zq.size]!)).toList = (List.replicate c'.toNat v.cells.toList).flatten := by
            by_cases hzero : c'.toNat * i.size = 0
            · rw [hzero]
              have : (List.replicate c'.toNat v.cells.toList).flatten = [] := by
                apply List.eq_nil_of_length_eq_zero
                rw [flatten_len (sz := i.size) (by intro e he; rw [List.eq_of_mem_replicate he]; simpa using hzl)]
                simpa using hzero
              rw [this]; simp
            · rw [if_neg hzero] at hq
              subst hq
              rw [← hzs]
              exact zeros_list _
          have hrepl : ∀ e ∈ List.replicate c'.toNat v.cells.toList, e.length = i.size := by
            intro e he; rw [List.eq_of_mem_replicate he]; simpa using hzl
          obtain ⟨V', hoff, hrep, hnb⟩ := new_row h hf (es := List.replicate c'.toNat v.cells.toList) (ty := e) (sz := i.size) (cap := c'.toNat) (c := (Array.range (c'.toNat * i.size)).map (zq[· % zq.size]!)) none (w' := { w with heap := w.heap.push (.cells ((Array.range (c'.toNat * i.size)).map (zq[· % zq.size]!)) e) }) (alloc_only _ _) (by simp) (by simp) (by simp) hrepl
            (by rw [hcells, List.take_of_length_le (by rw [flatten_len hrepl]; exact Nat.le_refl _)]) (by intro e he; rw [List.eq_of_mem_replicate he]; exact hone)
          rw [List.length_replicate] at hrep
          refine ⟨V', _, _, _, hK, hrep, .inl (exec_v ?_)⟩
          rw [hn, hc]
          have hb48 : ¬ ((i.bytes : Int) * c' > 2 ^ 48) := by
            rw [hby', Int.mul_comm]
            unfold roomMax at hroom
            omega
          have hcond : ¬ (c' < 0 || (i.bytes : Int) * c' > 2 ^ 48 || c' < 0 || c' > c') = true := by
            simp; omega
          simp only [Instr.makeSlice, Sem.run_bind, run_underlying hu, Result.andThen_ok, asInt, asIntOf, Sem.run_pure, typeInfo, run_program, hi, hwrap]
          rw [if_neg (by simpa using hcond)]
          have hask : (askRoom (c'.toNat * i.bytes)).run P w = .ok () w := by unfold askRoom; split <;> rfl
          simp only [Sem.run_bind, hask, Result.andThen_ok, run_sizeT hi]
          by_cases hzero : c'.toNat * i.size = 0
          · rw [if_pos hzero] at hq ⊢
            subst hq
            simp only [Sem.run_bind, Sem.run_pure, Result.andThen_ok, newRow_run]
          · rw [if_neg hzero] at hq ⊢
            subst hq
            simp only [Sem.run_bind, run_zero hi hv, Sem.run_pure, Result.andThen_ok, newRow_run]
        · exact hk.elim
      · exact hk.elim
    · exact hk.elim
  · -- append
    rename_i args ats d ho hd
    rw [ho]
    have goal : Goes P C o a w K H := (appK_sound h hr o ho (by unfold objK; rw [ho, hd]; exact hk)).elim fun _ q => q.1.goes
    unfold Goes execOp at goal
    rw [ho] at goal
    exact goal
  · exact hk.elim
end
end Sx
