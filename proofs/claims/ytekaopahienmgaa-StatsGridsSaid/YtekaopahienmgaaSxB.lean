/- What an abstract state says of a real one; values of operations that touch no memory. -/
import Derived.Test.YtekaopahienmgaaSxA
set_option linter.unusedVariables false
set_option linter.unusedSimpArgs false
namespace Sx
open Go

/-- Where private variables and rows lie. -/
structure Vl where
  blk : Nat → Nat
  row : Nat → Value

def SubRep (v : Value) (sz lo hi : Nat) (y : Value) : Prop :=
  ∃ a n cap a', v = .slice a n cap ∧ y = .slice a' (hi - lo) (cap - lo) ∧ lo ≤ hi ∧ hi ≤ n ∧ n ≤ cap ∧ (a = none → n = 0 ∧ cap = 0 ∧ a' = none) ∧
    ∀ A, a = some A → A.spot = none ∧ ∃ o', a' = some ⟨A.block, o', none⟩ ∧ (lo < cap → o' = A.off + lo * sz) ∧ o' + (cap - lo) * sz ≤ A.off + cap * sz
def Cap.real (V : Vl) : Cap → Value
  | .b s => .pointer (some ⟨V.blk s, 0, none⟩)
  | .v x => x
def ADef.real (V : Vl) (x : ADef) : Deferred := { target := .fn (.func x.f) #[], args := (x.sites.map fun k => Value.pointer (some ⟨V.blk k, 0, none⟩)).toArray }
def SC.rep (V : Vl) : SC → Value → Prop
  | .v x, y => y = x ∧ one x = true
  | .box s off, y => y = .pointer (some ⟨V.blk s, off, none⟩)
  | .boxi s off n i, y => i < n ∧ y = .pointer (some ⟨V.blk s, off + i, none⟩)
  | .arr s off n lo hi, y => ∃ a', y = .slice a' (hi - lo) (n - lo) ∧ lo ≤ hi ∧ hi ≤ n ∧ (lo < n → a' = some ⟨V.blk s, off + lo, none⟩)
  | .row s, y => y = V.row s ∧ one (V.row s) = true
  | .sub s sz lo hi, y => SubRep (V.row s) sz lo hi y
  | .cell s sz i off, y => ∃ A n cap, V.row s = .slice (some A) n cap ∧ A.spot = none ∧ y = .pointer (some ⟨A.block, A.off + i * sz + off, none⟩)
  | .clo fn first caps, y => y = .func fn first.toArray (caps.map (Cap.real V)).toArray
  | .bad, _ => True
def SegsRep (V : Vl) : List Seg → List Value → Prop
  | [], l => l = []
  | .c x :: r, l => ∃ y l', l = y :: l' ∧ x.rep V y ∧ SegsRep V r l'
  | .ints k n xs :: r, l => xs.length = n ∧ ∃ l', l = xs.map (.int k) ++ l' ∧ SegsRep V r l'
def Comp.rep (V : Vl) : Comp → Value → Prop
  | .c x, y => x.rep V y
  | .agg l, y => ∃ cs, y = .agg cs.toArray ∧ SegsRep V l cs
def CompsRep (V : Vl) : List Comp → List Value → Prop
  | [], l => l = []
  | x :: r, l => ∃ y l', l = y :: l' ∧ x.rep V y ∧ CompsRep V r l'
def SV.rep (V : Vl) : SV → Value → Prop
  | .c x, y => x.rep V y
  | .agg l, y => ∃ cs, y = .agg cs.toArray ∧ SegsRep V l cs
  | .tup l, y => ∃ ys, y = .tuple ys.toArray ∧ CompsRep V l ys

/-- A row in a world. -/
def RowIn (w : World) (v : Value) (ty sz : Nat) (es : List (List Value)) : Prop :=
  (v = .slice none 0 0 ∧ es = []) ∨
  ∃ b o cap c, v = .slice (some ⟨b, o, none⟩) es.length cap ∧ w.heap[b]? = some (.cells c ty (0, 0)) ∧ es.length ≤ cap ∧ o + cap * sz ≤ c.size ∧
    (∀ e ∈ es, e.length = sz) ∧ (c.toList.drop o).take (es.length * sz) = es.flatten ∧ ∀ e ∈ es, ∀ x ∈ e, one x = true
def ObjRep (V : Vl) (w : World) (d : Nat) : AObj → Prop
  | .box ty l => ∃ cs, SegsRep V l cs ∧ w.heap[V.blk d]? = some (.cells cs.toArray ty (0, 0))
  | .row ty sz es => RowIn w (V.row d) ty sz es
def privB (V : Vl) (d : Nat) : AObj → Option Nat
  | .box _ _ => some (V.blk d)
  | .row _ _ _ => blockOf (V.row d)

/-- The memory in which the function was called, and what was known of it. -/
structure Ctx where
  w0 : World
  H0 : Heap
structure Rep (C : Ctx) (V : Vl) (s : St) (H : Heap) (a : Act) (w : World) : Prop where
  env : ∀ t x, nth s.env t = some x → x.rep V (a.tmps.getD t undef)
  len : s.env.length ≤ a.tmps.size
  dfr : a.defers = s.dfr.map (ADef.real V)
  sub : H.sub w
  objs : ∀ d o, look s.objs d = some o → ObjRep V w d o
  priv : ∀ d o b, look s.objs d = some o → privB V d o = some b → H b = none ∧ (C.w0.heap.size ≤ b ∨ C.H0 b ≠ none) ∧ b < w.heap.size
  dist : ∀ d o d' o' b, look s.objs d = some o → look s.objs d' = some o' → privB V d o = some b → privB V d' o' = some b → d = d'
  os : w.os = C.w0.os
  tape : w.tape = C.w0.tape
  output : w.output = C.w0.output
  size : C.w0.heap.size ≤ w.heap.size
  other : ∀ b, b < C.w0.heap.size → C.H0 b = none → w.heap[b]? = C.w0.heap[b]? ∧ H b = none

/-! ### Lists -/
theorem nbf {a b : Nat} (h : ¬ a = b) : Nat.beq a b = false := by
  cases hb : Nat.beq a b
  · rfl
  · exact absurd (Nat.eq_of_beq_eq_true hb) h
theorem nbt {a b : Nat} (h : Nat.beq a b = true) : a = b := Nat.eq_of_beq_eq_true h
theorem nth_eq {α : Type} : ∀ (l : List α) n, nth l n = l[n]?
  | [], _ => by simp [nth]
  | x :: r, 0 => by simp [nth]
  | x :: r, n + 1 => by simp [nth, nth_eq r n]
theorem setNth_eq {α : Type} : ∀ (l : List α) n y, setNth l n y = l.set n y
  | [], _, _ => by simp [setNth]
  | x :: r, 0, y => by simp [setNth]
  | x :: r, n + 1, y => by simp [setNth, setNth_eq r n y]
theorem nth_setNth {α : Type} (l : List α) (n m : Nat) (y : α) : nth (setNth l n y) m = if n = m then (if n < l.length then some y else none) else nth l m := by
  rw [nth_eq, setNth_eq, nth_eq, List.getElem?_set]
theorem look_objSet : ∀ (l : List (Nat × AObj)) (d d' : Nat) (o : AObj), look (objSet l d o) d' = if d = d' then some o else look l d'
  | [], d, d', o => by
    simp only [objSet, look]
    by_cases h : d = d'
    · subst h; simp
    · have : Nat.beq d d' = false := nbf h
      simp [this, h]
  | (k, x) :: r, d, d', o => by
    simp only [objSet]
    by_cases hk : k = d
    · subst hk
      simp only [Nat.beq_refl, look]
      by_cases h : k = d'
      · subst h; simp
      · have : Nat.beq k d' = false := nbf h
        simp [this, h]
    · have hk' : Nat.beq k d = false := nbf hk
      simp only [hk', look]
      rw [look_objSet r d d' o]
      by_cases h : k = d'
      · subst h
        simp [Ne.symm hk]
      · have : Nat.beq k d' = false := nbf h
        simp [this]
theorem look_objDel : ∀ (l : List (Nat × AObj)) (d d' : Nat), look (objDel l d) d' = if d = d' then none else look l d'
  | [], d, d' => by simp [objDel, look]
  | (k, x) :: r, d, d' => by
    simp only [objDel]
    by_cases hk : k = d
    · subst hk
      simp only [Nat.beq_refl, look_objDel r k d', look]
      by_cases h : k = d'
      · subst h; simp
      · have : Nat.beq k d' = false := nbf h
        simp [this]
    · have hk' : Nat.beq k d = false := nbf hk
      simp only [hk', look, look_objDel r d d']
      by_cases h : k = d'
      · subst h
        simp [Ne.symm hk]
      · have : Nat.beq k d' = false := nbf h
        simp [this]
theorem get_nth {s : St} {t : Nat} : (s.get t = .c .bad ∧ nth s.env t = none) ∨ nth s.env t = some (s.get t) := by
  unfold St.get
  cases h : nth s.env t <;> simp

theorem getD_set {tmps : Array Value} {d t : Nat} {y : Value} (h : t < tmps.size) : (tmps.setIfInBounds d y).getD t undef = if d = t then y else tmps.getD t undef := by
  simp only [Array.getD_eq_getD_getElem?, Array.getElem?_setIfInBounds]
  split
  · rename_i he
    subst he
    simp [h]
  · rfl

/-! ### The abstract state and its parts -/
section
variable {C : Ctx} {V : Vl} {s : St} {H : Heap} {a : Act} {w : World}
theorem Rep.get (h : Rep C V s H a w) (t : Nat) : (s.get t).rep V (a.tmps.getD t undef) := by
  rcases get_nth (s := s) (t := t) with ⟨e, _⟩ | e
  · rw [e]; trivial
  · exact h.env t _ e
theorem Rep.ev (h : Rep C V s H a w) (x : Operand) : (Sx.ev s x).rep V (a.eval x) := by
  cases x with
  | tmp t => exact h.get t
  | const x => cases x <;> first | exact ⟨rfl, rfl⟩ | trivial
  | global g => exact ⟨rfl, rfl⟩
  | func f => exact ⟨rfl, rfl⟩
theorem Rep.put (h : Rep C V s H a w) {x : SV} {y : Value} (hx : x.rep V y) (d : Option Nat) : Rep C V (s.put d x) H (a.put d y) w := by
  cases d with
  | none => exact h
  | some d =>
    refine { env := ?_, len := ?_, dfr := h.dfr, sub := h.sub, objs := h.objs, priv := h.priv, dist := h.dist, os := h.os, tape := h.tape, output := h.output, size := h.size, other := h.other }
    · intro t z hz
      simp only [St.put, St.set, nth_setNth] at hz
      have ht : t < a.tmps.size := by
        have hl := h.len
        by_cases hd : d = t
        · subst hd
          simp only [if_true] at hz
          split at hz
          · omega
          · cases hz
        · simp only [hd, if_false, nth_eq] at hz
          have := (List.getElem?_eq_some_iff.1 hz).1
          omega
      simp only [Act.put, getD_set ht]
      by_cases hd : d = t
      · simp only [hd, if_true] at hz ⊢
        split at hz
        · cases hz; exact hx
        · cases hz
      · simp only [hd, if_false] at hz ⊢
        exact h.env t z hz
    · simp only [St.put, St.set, setNth_eq, List.length_set, Act.put, Array.size_setIfInBounds]
      exact h.len
end

/-! ### Segments -/
theorem segsRep_append {V : Vl} : ∀ {l l' : List Seg} {cs cs' : List Value}, SegsRep V l cs → SegsRep V l' cs' → SegsRep V (l ++ l') (cs ++ cs')
  | [], l', cs, cs', h, h' => by
    simp only [SegsRep] at h
    subst h; simpa using h'
  | .c x :: r, l', cs, cs', h, h' => by
    obtain ⟨y, l1, rfl, hx, hr⟩ := h
    exact ⟨y, l1 ++ cs', by simp, hx, segsRep_append hr h'⟩
  | .ints k n xs :: r, l', cs, cs', h, h' => by
    obtain ⟨hn, l1, rfl, hr⟩ := h
    exact ⟨hn, l1 ++ cs', by simp, segsRep_append hr h'⟩
theorem segsRep_len {V : Vl} : ∀ {l : List Seg} {cs : List Value}, SegsRep V l cs → cs.length = segLen l
  | [], cs, h => by simp only [SegsRep] at h; subst h; rfl
  | .c x :: r, cs, h => by
    obtain ⟨y, l1, rfl, hx, hr⟩ := h
    simp [segLen, segsRep_len hr]
  | .ints k n xs :: r, cs, h => by
    obtain ⟨hn, l1, rfl, hr⟩ := h
    simp [segLen, segsRep_len hr, hn]
theorem segFrom_rep {V : Vl} : ∀ (l : List Seg) (o : Nat) {l' : List Seg} {cs : List Value}, SegsRep V l cs → segFrom l o = some l' → SegsRep V l' (cs.drop o) ∧ o ≤ cs.length
  | l, 0, l', cs, h, e => by
    simp only [segFrom, Option.some.injEq] at e
    subst e; exact ⟨by simpa using h, Nat.zero_le _⟩
  | .c x :: r, n + 1, l', cs, h, e => by
    obtain ⟨y, l1, rfl, hx, hr⟩ := h
    simp only [segFrom] at e
    obtain ⟨h1, h2⟩ := segFrom_rep r n hr e
    exact ⟨by simpa using h1, by simp; omega⟩
  | .ints k m xs :: r, n + 1, l', cs, h, e => by
    obtain ⟨hn, l1, rfl, hr⟩ := h
    simp only [segFrom] at e
    split at e
    · rename_i hb
      have hm : m ≤ n + 1 := Nat.le_of_ble_eq_true hb
      obtain ⟨h1, h2⟩ := segFrom_rep r _ hr e
      refine ⟨?_, by simp; omega⟩
      have e0 : (xs.map (Value.int k)).drop (n + 1) = [] := List.drop_eq_nil_of_le (by simp; omega)
      rw [List.drop_append, e0, List.nil_append, List.length_map, hn]
      exact h1
    · cases e
  | [], _ + 1, l', cs, h, e => by simp [segFrom] at e

theorem segTake_rep {V : Vl} : ∀ (l : List Seg) (n : Nat) {l' : List Seg} {cs : List Value}, SegsRep V l cs → segTake l n = some l' → SegsRep V l' (cs.take n) ∧ n ≤ cs.length
  | l, 0, l', cs, h, e => by
    simp only [segTake, Option.some.injEq] at e
    subst e; exact ⟨by simp [SegsRep], Nat.zero_le _⟩
  | .c x :: r, n + 1, l', cs, h, e => by
    obtain ⟨y, l1, rfl, hx, hr⟩ := h
    simp only [segTake] at e
    split at e
    · rename_i l2 h2
      cases e
      obtain ⟨h3, h4⟩ := segTake_rep r n hr h2
      exact ⟨⟨y, l1.take n, by simp, hx, h3⟩, by simp; omega⟩
    · cases e
  | .ints k m xs :: r, n + 1, l', cs, h, e => by
    obtain ⟨hn, l1, rfl, hr⟩ := h
    simp only [segTake] at e
    split at e
    · rename_i hb
      have hm : m ≤ n + 1 := Nat.le_of_ble_eq_true hb
      split at e
      · rename_i l2 h2
        cases e
        obtain ⟨h3, h4⟩ := segTake_rep r _ hr h2
        refine ⟨⟨hn, l1.take (n + 1 - m), ?_, h3⟩, by simp; omega⟩
        have e0 : (xs.map (Value.int k)).take (n + 1) = xs.map (Value.int k) := List.take_of_length_le (by simp; omega)
        rw [List.take_append, e0, List.length_map, hn]
      · cases e
    · cases e
  | [], _ + 1, l', cs, h, e => by simp [segTake] at e
theorem segPut_rep {V : Vl} {l new l' : List Seg} {o : Nat} {cs ns : List Value} (h : SegsRep V l cs) (hn : SegsRep V new ns) (e : segPut l o new = some l') :
    SegsRep V l' (cs.take o ++ ns ++ cs.drop (o + ns.length)) ∧ o + ns.length ≤ cs.length := by
  unfold segPut at e
  rw [← segsRep_len hn] at e
  cases h1 : segTake l o with
  | none => rw [h1] at e; simp [appO] at e
  | some l1 =>
    cases h2 : segFrom l (o + ns.length) with
    | none => rw [h1, h2] at e; simp [appO] at e
    | some l2 =>
      rw [h1, h2] at e
      simp only [appO, Option.some.injEq] at e
      subst e
      obtain ⟨a1, a2⟩ := segTake_rep l o h h1
      obtain ⟨b1, b2⟩ := segFrom_rep l _ h h2
      refine ⟨?_, b2⟩
      rw [List.append_assoc]
      exact segsRep_append a1 (segsRep_append hn b1)
theorem flat_rep {V : Vl} : ∀ {l : List Seg} {cs vs : List Value}, SegsRep V l cs → flat l = some vs → cs = vs
  | [], cs, vs, h, e => by
    simp only [SegsRep] at h
    simp only [flat, Option.some.injEq] at e
    rw [h, e]
  | .c (.v x) :: r, cs, vs, h, e => by
    obtain ⟨y, l1, rfl, ⟨hx, _⟩, hr⟩ := h
    simp only [flat] at e
    split at e
    · rename_i l2 h2; cases e; rw [flat_rep hr h2, hx]
    · cases e
  | .c (.box _ _) :: r, cs, vs, h, e | .c (.boxi _ _ _ _) :: r, cs, vs, h, e | .c (.arr _ _ _ _ _) :: r, cs, vs, h, e | .c (.row _) :: r, cs, vs, h, e
  | .c (.sub _ _ _ _) :: r, cs, vs, h, e | .c (.cell _ _ _ _) :: r, cs, vs, h, e | .c (.clo _ _ _) :: r, cs, vs, h, e | .c .bad :: r, cs, vs, h, e => by simp [flat] at e
  | .ints k n xs :: r, cs, vs, h, e => by
    obtain ⟨hn, l1, rfl, hr⟩ := h
    simp only [flat] at e
    split at e
    · rename_i l2 h2; cases e; rw [flat_rep hr h2]
    · cases e
theorem val_rep {V : Vl} {x : SV} {y v : Value} (h : x.rep V y) (e : x.val = some v) : y = v := by
  cases x with
  | c x => cases x <;> simp [SV.val] at e; subst e; exact h.1
  | agg l =>
    obtain ⟨cs, rfl, hs⟩ := h
    simp only [SV.val] at e
    split at e
    · rename_i l2 h2; cases e; rw [flat_rep hs h2]
    · cases e
  | tup l => simp [SV.val] at e
theorem vals_rep {V : Vl} {s : St} {C : Ctx} {H : Heap} {a : Act} {w : World} (h : Rep C V s H a w) : ∀ (l : List Operand) {vs : List Value}, vals (l.map (ev s)) = some vs → l.map a.eval = vs
  | [], vs, e => by simp [vals] at e; simp [e]
  | x :: r, vs, e => by
    simp only [List.map_cons, vals] at e
    split at e
    · rename_i v hv
      split at e
      · rename_i l hl; cases e
        simp [val_rep (h.ev x) hv, vals_rep h r hl]
      · cases e
    · cases e
theorem caps_rep {V : Vl} {s : St} {C : Ctx} {H : Heap} {a : Act} {w : World} (h : Rep C V s H a w) : ∀ (l : List Operand) {cs : List Cap}, capsOf (l.map (ev s)) = some cs → l.map a.eval = cs.map (Cap.real V)
  | [], cs, e => by simp [capsOf] at e; subst e; rfl
  | x :: r, cs, e => by
    have hx := h.ev x
    simp only [List.map_cons] at e ⊢
    generalize ev s x = sx at e hx
    have ih : ∀ {l}, capsOf (r.map (ev s)) = some l → r.map a.eval = l.map (Cap.real V) := fun e => caps_rep h r e
    generalize r.map (ev s) = rs at e ih
    unfold capsOf at e
    split at e
    · rename_i e0; cases e0
    · rename_i d r' e0
      cases e0
      split at e
      · rename_i l hl; cases e
        rw [ih hl, show a.eval x = _ from hx]
        rfl
      · cases e
    · rename_i v r' e0
      cases e0
      split at e
      · rename_i l hl; cases e
        obtain ⟨hx, -⟩ := hx
        rw [ih hl, hx]
        rfl
      · cases e
    · cases e
theorem sites_caps : ∀ (l : List SV) {cs : List Nat}, sitesOf l = some cs → capsOf l = some (cs.map .b)
  | [], cs, e => by simp [sitesOf] at e; subst e; rfl
  | .c (.box d 0) :: r, cs, e => by
    simp only [sitesOf] at e
    split at e
    · rename_i l hl; cases e
      simp [capsOf, sites_caps r hl]
    · cases e
  | .c (.box _ (_ + 1)) :: _, cs, e | .c (.v _) :: _, cs, e | .c (.boxi _ _ _ _) :: _, cs, e | .c (.arr _ _ _ _ _) :: _, cs, e | .c (.row _) :: _, cs, e | .c (.sub _ _ _ _) :: _, cs, e
  | .c (.cell _ _ _ _) :: _, cs, e | .c (.clo _ _ _) :: _, cs, e | .c .bad :: _, cs, e | .agg _ :: _, cs, e | .tup _ :: _, cs, e => by simp [sitesOf] at e
/-- A value's cells, of one that is no tuple. -/
theorem segs_rep {V : Vl} {x : SV} {y : Value} {l : List Seg} (h : x.rep V y) (e : x.segs = some l) : SegsRep V l y.cells.toList := by
  cases x with
  | c x =>
    have e1 : l = [.c x] ∧ x ≠ .bad := by cases x <;> simp [SV.segs] at e <;> exact ⟨e.symm, by simp⟩
    obtain ⟨rfl, hb⟩ := e1
    refine ⟨y, [], ?_, h, rfl⟩
    have : one y = true := by
      cases x with
      | v z => obtain ⟨h1, h2⟩ := h; rw [h1]; exact h2
      | box _ _ => rw [show y = _ from h]; rfl
      | boxi _ _ _ _ => rw [show y = _ from h.2]; rfl
      | arr _ _ _ _ _ => obtain ⟨a', h1, _⟩ := h; rw [h1]; rfl
      | row d => obtain ⟨h1, h2⟩ := h; rw [h1]; exact h2
      | sub _ _ _ _ => obtain ⟨a, n, c, a', h1, h2, _⟩ := h; rw [h2]; rfl
      | cell _ _ _ _ => obtain ⟨A, n, c, h1, h2, h3⟩ := h; rw [h3]; rfl
      | clo _ _ _ => rw [show y = _ from h]; rfl
      | bad => exact absurd rfl hb
    cases y <;> first | rfl | simp [one] at this
  | agg l' =>
    simp [SV.segs] at e
    subst e
    obtain ⟨cs, rfl, hs⟩ := h
    simpa [Value.cells] using hs
  | tup l => simp [SV.segs] at e
end Sx
