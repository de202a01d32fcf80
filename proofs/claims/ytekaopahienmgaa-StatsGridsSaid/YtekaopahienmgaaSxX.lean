/- Maps of numbers that are known: what stands at a key, what comes, what goes. -/
import Derived.Test.YtekaopahienmgaaSxW
set_option linter.unusedVariables false
set_option linter.unusedSimpArgs false
namespace Sx
open Go
def keyN (e : MapEntry) : Int := match e.key with | .int _ y => y | _ => 0
def entN (e : MapEntry) : Int × Value := (keyN e, e.val)
/-- A map in memory: its keys and what stands there, the oldest first. -/
def MapAt (H : Heap) (r : Nat) (k : IntKind) (l : List (Int × Value)) : Prop :=
  ∃ es clk, H r = some (.map es clk) ∧ IntKeys k es.toList ∧ es.toList.map entN = l ∧ (l.map Prod.fst).Nodup
def putL {β : Type} : List (Int × β) → Int → β → List (Int × β)
  | [], x, v => [(x, v)]
  | (y, u) :: r, x, v => if x = y then (x, v) :: r else (y, u) :: putL r x v
def delL {β : Type} : List (Int × β) → Int → List (Int × β)
  | [], _ => []
  | (y, u) :: r, x => if x = y then r else (y, u) :: delL r x
def getL {β : Type} : List (Int × β) → Int → Option β
  | [], _ => none
  | (y, u) :: r, x => if x = y then some u else getL r x
section
variable {β : Type}
theorem getL_putL (l : List (Int × β)) (x : Int) (v : β) (y : Int) : getL (putL l x v) y = if y = x then some v else getL l y := by
  induction l with
  | nil => simp [putL, getL]
  | cons e r ih =>
    obtain ⟨z, u⟩ := e
    by_cases h : x = z
    · subst h; by_cases h2 : y = x <;> simp [putL, getL, h2]
    · by_cases h2 : y = z
      · subst h2; simp [putL, getL, h, Ne.symm h]
      · simp [putL, getL, h, h2, ih]
theorem getL_none {l : List (Int × β)} {x : Int} : getL l x = none ↔ x ∉ l.map Prod.fst := by
  induction l with
  | nil => simp [getL]
  | cons e r ih =>
    obtain ⟨z, u⟩ := e
    by_cases h : x = z
    · subst h; simp [getL]
    · simp only [getL, h, if_false, ih, List.map_cons, List.mem_cons, false_or]
theorem getL_delL {l : List (Int × β)} (hn : (l.map Prod.fst).Nodup) (x y : Int) : getL (delL l x) y = if y = x then none else getL l y := by
  induction l with
  | nil => simp [delL, getL]
  | cons e r ih =>
    obtain ⟨z, u⟩ := e
    simp only [List.map_cons, List.nodup_cons] at hn
    by_cases h : x = z
    · subst h
      by_cases h2 : y = x
      · subst h2; simp [delL]; exact getL_none.2 hn.1
      · simp [delL, getL, h2]
    · by_cases h2 : y = z
      · subst h2; simp [delL, getL, h, Ne.symm h]
      · simp [delL, getL, h, h2, ih hn.2]
theorem putL_keys (l : List (Int × β)) (x : Int) (v : β) : (putL l x v).map Prod.fst = if x ∈ l.map Prod.fst then l.map Prod.fst else l.map Prod.fst ++ [x] := by
  induction l with
  | nil => simp [putL]
  | cons e r ih =>
    obtain ⟨z, u⟩ := e
    by_cases h : x = z
    · subst h; simp [putL]
    · simp only [putL, h, if_false, List.map_cons, ih, List.mem_cons, false_or]
      split <;> simp
theorem putL_nodup {l : List (Int × β)} (hn : (l.map Prod.fst).Nodup) (x : Int) (v : β) : ((putL l x v).map Prod.fst).Nodup := by
  rw [putL_keys]
  split
  · exact hn
  · rename_i h
    exact List.nodup_append.2 ⟨hn, by simp, fun a ha b hb => by simp at hb; subst hb; exact fun e => h (e ▸ ha)⟩
theorem delL_keys (l : List (Int × β)) (x : Int) : (delL l x).map Prod.fst = (l.map Prod.fst).erase x := by
  induction l with
  | nil => simp [delL]
  | cons e r ih =>
    obtain ⟨z, u⟩ := e
    by_cases h : x = z
    · subst h; simp [delL]
    · simp only [delL, h, if_false, List.map_cons, ih]
      rw [List.erase_cons_tail (by simp; exact fun e => h e.symm)]
theorem delL_nodup {l : List (Int × β)} (hn : (l.map Prod.fst).Nodup) (x : Int) : ((delL l x).map Prod.fst).Nodup := by
  rw [delL_keys]; exact hn.erase _
end
theorem keyAt_eq {k : IntKind} : ∀ {es : List MapEntry}, IntKeys k es → ∀ x, keyAt es x = getL (es.map entN) x
  | [], _, _ => rfl
  | e :: r, h, x => by
    obtain ⟨n, hn⟩ := h e (List.mem_cons_self ..)
    have ih := keyAt_eq (es := r) (fun u hu => h u (List.mem_cons_of_mem _ hu)) x
    simp only [keyAt, hn, List.map_cons, entN, keyN, getL, ih]
theorem map_look {H : Heap} {r : Nat} {k : IntKind} {l : List (Int × Value)} (h : MapAt H r k l) (x : Int) (z : Value) : LookAt H (some r) k x z ((getL l x).getD z) (getL l x).isSome := by
  obtain ⟨es, clk, h1, h2, h3, h4⟩ := h
  refine ⟨es, clk, h1, h2, ?_⟩
  rw [keyAt_eq h2, h3]
  cases getL l x <;> simp
theorem find_keys {k : IntKind} {x : Int} {p : MapEntry → Bool} (hp : ∀ e k n, e.key = .int k n → p e = (x == n)) : ∀ {es : List MapEntry}, IntKeys k es →
    (∀ i, es.findIdx? p = some i → (∀ v : Value, (es.modify i fun e => { e with key := .int k x, val := v }).map entN = putL (es.map entN) x v) ∧ (es.eraseIdx i).map entN = delL (es.map entN) x) ∧
    (es.findIdx? p = none → (∀ v : Value, es.map entN ++ [(x, v)] = putL (es.map entN) x v) ∧ es.map entN = delL (es.map entN) x)
  | [], _ => by simp [putL, delL]
  | e :: r, h => by
    obtain ⟨n, hn⟩ := h e (List.mem_cons_self ..)
    have ih := find_keys (x := x) hp (es := r) (fun u hu => h u (List.mem_cons_of_mem _ hu))
    rw [List.findIdx?_cons, hp e k n hn]
    by_cases hx : x = n
    · subst hx
      simp [putL, delL, entN, keyN, hn]
    · have hb : (x == n) = false := by simpa using hx
      simp only [hb, Bool.false_eq_true, if_false]
      refine ⟨fun i hi => ?_, fun hi => ?_⟩
      · obtain ⟨j, hj, rfl⟩ := Option.map_eq_some_iff.1 hi
        obtain ⟨q1, q2⟩ := ih.1 j hj
        refine ⟨fun v => ?_, ?_⟩
        · simp only [List.modify_succ_cons, List.map_cons, q1 v]
          simp [putL, entN, keyN, hn, hx]
        · simp only [List.eraseIdx_cons_succ, List.map_cons, q2]
          simp [delL, entN, keyN, hn, hx]
      · obtain ⟨q1, q2⟩ := ih.2 (Option.map_eq_none_iff.1 hi)
        refine ⟨fun v => ?_, ?_⟩
        · simp only [List.map_cons, List.cons_append, q1 v]
          simp [putL, entN, keyN, hn, hx]
        · conv => lhs; rw [List.map_cons, q2]
          simp [delL, entN, keyN, hn, hx]
theorem map_put {H : Heap} {r : Nat} {k : IntKind} {l : List (Int × Value)} (h : MapAt H r k l) (x : Int) (v : Value) :
    ∃ es clk, (H r = some (.map es clk) ∧ IntKeys k es.toList) ∧ MapAt (H.upd r (mapPut es clk k x v)) r k (putL l x v) := by
  obtain ⟨es, clk, h1, h2, h3, h4⟩ := h
  refine ⟨es, clk, ⟨h1, h2⟩, ?_⟩
  unfold mapPut
  split
  · rename_i i hi
    have hf := (find_keys (x := x) (fun e k n h => by rw [h]) h2).1 i hi
    refine ⟨_, _, upd_same _ _ _, ?_, ?_, putL_nodup h4 _ _⟩
    · intro e he
      rw [Array.toList_modify] at he
      obtain ⟨j, hj⟩ := List.mem_iff_getElem?.1 he
      rw [List.getElem?_modify] at hj
      split at hj
      · cases hq : es.toList[j]? with
        | none => rw [hq] at hj; simp at hj
        | some u => rw [hq] at hj; simp at hj; subst hj; exact ⟨x, rfl⟩
      · simp at hj
        exact h2 e (List.mem_of_getElem? (by simpa using hj))
    · rw [Array.toList_modify, hf.1 v, h3]
  · rename_i hi
    have hf := (find_keys (x := x) (fun e k n h => by rw [h]) h2).2 hi
    refine ⟨_, _, upd_same _ _ _, ?_, ?_, putL_nodup h4 _ _⟩
    · intro e he
      simp only [Array.toList_push, List.mem_append, List.mem_singleton] at he
      rcases he with he | rfl
      · exact h2 e he
      · exact ⟨x, rfl⟩
    · rw [← h3, ← hf.1 v]; simp [entN, keyN]
theorem map_del {H : Heap} {r : Nat} {k : IntKind} {l : List (Int × Value)} (h : MapAt H r k l) (x : Int) :
    ∃ es clk, (H r = some (.map es clk) ∧ IntKeys k es.toList) ∧ MapAt (H.upd r (mapDel es clk x)) r k (delL l x) := by
  obtain ⟨es, clk, h1, h2, h3, h4⟩ := h
  refine ⟨es, clk, ⟨h1, h2⟩, ?_⟩
  unfold mapDel
  split
  · rename_i i hi
    have hf := (find_keys (x := x) (fun e k n h => by rw [h]) h2).1 i hi
    refine ⟨_, _, upd_same _ _ _, ?_, ?_, delL_nodup h4 _⟩
    · intro e he
      rw [Array.toList_eraseIdxIfInBounds] at he
      exact h2 e (List.mem_of_mem_eraseIdx he)
    · rw [Array.toList_eraseIdxIfInBounds, hf.2, h3]
  · rename_i hi
    have hf := (find_keys (x := x) (fun e k n h => by rw [h]) h2).2 hi
    exact ⟨_, _, upd_same _ _ _, h2, by rw [← h3]; exact hf.2, delL_nodup h4 _⟩
theorem map_new (H : Heap) (r : Nat) (k : IntKind) : MapAt (H.upd r (.map #[] 0)) r k [] := ⟨#[], 0, upd_same _ _ _, by intro e he; simp at he, rfl, by simp⟩
theorem map_same {H H' : Heap} {r : Nat} {k : IntKind} {l : List (Int × Value)} (h : MapAt H r k l) (e : ∀ o, H r = some o → H' r = some o) : MapAt H' r k l := by
  obtain ⟨es, clk, h1, h2⟩ := h
  exact ⟨es, clk, e _ h1, h2⟩
theorem map_len {H : Heap} {r : Nat} {k : IntKind} {l : List (Int × Value)} (h : MapAt H r k l) : ∃ es clk, H r = some (.map es clk) ∧ es.size = l.length := by
  obtain ⟨es, clk, h1, h2, h3, h4⟩ := h
  exact ⟨es, clk, h1, by rw [← h3]; simp⟩
/-- Where a map stands no cells stand. -/
theorem has_map {H : Heap} {r : Nat} {es : Array MapEntry} {clk : Nat} (hr : H r = some (.map es clk)) {o : Obj} {a : Addr} {l : List Value} (h : H.has a l) : (H.upd r o).has a l := by
  intro j x hx
  have := h j x hx
  unfold Heap.cell? at *
  by_cases hb : (a.add j).block = r
  · rw [hb, hr] at this; simp at this
  · rw [upd_ne _ _ hb]; exact this
theorem slice_map {H : Heap} {r : Nat} {es : Array MapEntry} {clk : Nat} (hr : H r = some (.map es clk)) {o : Obj} {v : Value} {sz : Nat} {ls : List (List Value)} (h : SliceAt H v sz ls) : SliceAt (H.upd r o) v sz ls := by
  obtain ⟨a, n, c, e, h1, h2, h3, h4, h5⟩ := h
  refine ⟨a, n, c, e, h1, h2, h3, ?_, ?_⟩
  · exact h4
  · intro i e he
    obtain ⟨A, q1, q2, q3⟩ := h5 i e he
    exact ⟨A, q1, q2, has_map hr q3⟩
theorem flen {sz : Nat} : ∀ {es : List (List Value)}, (∀ e ∈ es, e.length = sz) → es.flatten.length = es.length * sz
  | [], _ => by simp
  | e :: r, h => by
    rw [List.flatten_cons, List.length_append, flen (fun e he => h e (List.mem_cons_of_mem _ he)), h e (List.mem_cons_self ..), List.length_cons, Nat.add_mul, Nat.one_mul, Nat.add_comm]
/-- The last ones of a row become others. -/
theorem row_fill {H : Heap} {A : Addr} {n c ty sz : Nat} {E1 E2 ws : List (List Value)} (h : RowAt H (.slice (some A) n c) ty sz (E1 ++ E2)) (hl : ws.length = E2.length) (hw : ∀ e ∈ ws, e.length = sz) (h1 : ∀ e ∈ ws, ∀ x ∈ e, one x = true) :
    ∃ cl, (H A.block = some (.cells cl ty (0, 0)) ∧ A.spot = none ∧ A.off + E1.length * sz + ws.length * sz ≤ cl.size) ∧
      RowAt (H.upd A.block (.cells (writeCells cl (A.off + E1.length * sz) ws.flatten) ty (0, 0))) (.slice (some A) n c) ty sz (E1 ++ ws) ∧
      Mod (.slice (some A) n c) H (H.upd A.block (.cells (writeCells cl (A.off + E1.length * sz) ws.flatten) ty (0, 0))) := by
  rcases h with ⟨e, _⟩ | ⟨b, o, cap, cl, e, hb, hcap, hsz, hes, hfl, hon⟩
  · cases e
  cases e
  have hwl := flen hw
  have hE1 : ∀ e ∈ E1, e.length = sz := fun e he => hes e (List.mem_append_left _ he)
  have hE2 : ∀ e ∈ E2, e.length = sz := fun e he => hes e (List.mem_append_right _ he)
  have l1 := flen hE1
  have l2 := flen hE2
  have hm : (E1 ++ E2).length * sz ≤ c * sz := Nat.mul_le_mul_right _ hcap
  rw [List.length_append, Nat.add_mul] at hm
  have hsum : o + E1.length * sz + ws.length * sz ≤ cl.size := by rw [hl]; omega
  refine ⟨cl, ⟨hb, rfl, hsum⟩, .inr ⟨b, o, c, writeCells cl (o + E1.length * sz) ws.flatten, by simp [hl], upd_same _ _ _, by simpa [hl] using hcap, ?_, ?_, ?_, ?_⟩, ?_⟩
  · rw [writeCells_size _ _ _ (by omega)]; exact hsz
  · intro x hx
    rcases List.mem_append.1 hx with hx | hx
    · exact hE1 x hx
    · exact hw x hx
  · rw [write_lw _ _ _ (by omega)]
    have hlo : (cl.toList.take o).length = o := by simp; omega
    have e1 : (lw cl.toList (o + E1.length * sz) ws.flatten).drop o = lw (cl.toList.drop o) (E1.length * sz) ws.flatten := by
      have e0 : cl.toList = cl.toList.take o ++ cl.toList.drop o := by simp
      conv => lhs; rw [e0]
      have := lw_right (cl.toList.take o) (cl.toList.drop o) (E1.length * sz) ws.flatten
      rw [hlo] at this
      rw [this, List.drop_append_of_le_length (by omega), List.drop_of_length_le (by omega), List.nil_append]
    rw [e1]
    have e2 : cl.toList.drop o = (E1 ++ E2).flatten ++ (cl.toList.drop o).drop ((E1 ++ E2).length * sz) := by
      rw [← hfl]; exact (List.take_append_drop _ _).symm
    have l3 : (E1 ++ E2).flatten.length = (E1 ++ E2).length * sz := flen hes
    rw [e2, lw_left _ _ _ _ (by rw [l3, hwl, List.length_append, Nat.add_mul, hl]; omega)]
    have e4 : lw (E1 ++ E2).flatten (E1.length * sz) ws.flatten = (E1 ++ ws).flatten := by
      rw [List.flatten_append, List.flatten_append]
      have := lw_right E1.flatten E2.flatten 0 ws.flatten
      rw [Nat.add_zero, l1] at this
      rw [this]
      congr 1
      unfold lw
      rw [List.take_zero, List.nil_append, Nat.zero_add, List.drop_of_length_le (by rw [hwl, l2, hl]; omega), List.append_nil]
    rw [e4, List.take_append_of_le_length (by rw [flen (sz := sz) (fun x hx => by rcases List.mem_append.1 hx with hx | hx; exact hE1 x hx; exact hw x hx)]; omega), List.take_of_length_le]
    rw [flen (sz := sz) (fun x hx => by rcases List.mem_append.1 hx with hx | hx; exact hE1 x hx; exact hw x hx)]; omega
  · intro x hx y hy
    rcases List.mem_append.1 hx with hx | hx
    · exact hon x (List.mem_append_left _ hx) y hy
    · exact h1 x hx y hy
  · intro b' hb'
    simp [blockOf] at hb'
    exact upd_ne _ _ (fun e => hb' e.symm)
/-- Some of a row become others. -/
theorem row_mid {H : Heap} {A : Addr} {n c ty sz : Nat} {E1 E2 E3 ws : List (List Value)} (h : RowAt H (.slice (some A) n c) ty sz (E1 ++ E2 ++ E3)) (hl : ws.length = E2.length) (hw : ∀ e ∈ ws, e.length = sz) (h1 : ∀ e ∈ ws, ∀ x ∈ e, one x = true) :
    ∃ cl, (H A.block = some (.cells cl ty (0, 0)) ∧ A.spot = none ∧ A.off + E1.length * sz + ws.length * sz ≤ cl.size) ∧
      RowAt (H.upd A.block (.cells (writeCells cl (A.off + E1.length * sz) ws.flatten) ty (0, 0))) (.slice (some A) n c) ty sz (E1 ++ ws ++ E3) ∧
      Mod (.slice (some A) n c) H (H.upd A.block (.cells (writeCells cl (A.off + E1.length * sz) ws.flatten) ty (0, 0))) := by
  rcases h with ⟨e, _⟩ | ⟨b, o, cap, cl, e, hb, hcap, hsz, hes, hfl, hon⟩
  · cases e
  cases e
  have hwl := flen hw
  have hE1 : ∀ e ∈ E1, e.length = sz := fun e he => hes e (List.mem_append_left _ (List.mem_append_left _ he))
  have hE2 : ∀ e ∈ E2, e.length = sz := fun e he => hes e (List.mem_append_left _ (List.mem_append_right _ he))
  have hE3 : ∀ e ∈ E3, e.length = sz := fun e he => hes e (List.mem_append_right _ he)
  have l1 := flen hE1
  have l2 := flen hE2
  have l3 := flen hE3
  have hm : (E1 ++ E2 ++ E3).length * sz ≤ c * sz := Nat.mul_le_mul_right _ hcap
  have hexp : (E1 ++ E2 ++ E3).length * sz = E1.length * sz + E2.length * sz + E3.length * sz := by rw [List.length_append, List.length_append, Nat.add_mul, Nat.add_mul]
  rw [hexp] at hm
  have hsum : o + E1.length * sz + ws.length * sz ≤ cl.size := by rw [hl]; omega
  have hmem : ∀ e ∈ E1 ++ ws ++ E3, e.length = sz := fun x hx => by
    rcases List.mem_append.1 hx with hx | hx
    · rcases List.mem_append.1 hx with hx | hx
      · exact hE1 x hx
      · exact hw x hx
    · exact hE3 x hx
  have hlen : (E1 ++ ws ++ E3).length = (E1 ++ E2 ++ E3).length := by simp [hl]
  refine ⟨cl, ⟨hb, rfl, hsum⟩, .inr ⟨b, o, c, writeCells cl (o + E1.length * sz) ws.flatten, by rw [hlen], upd_same _ _ _, by rw [hlen]; exact hcap, ?_, hmem, ?_, ?_⟩, ?_⟩
  · rw [writeCells_size _ _ _ (by omega)]; exact hsz
  · rw [write_lw _ _ _ (by omega)]
    have hlo : (cl.toList.take o).length = o := by simp; omega
    have e1 : (lw cl.toList (o + E1.length * sz) ws.flatten).drop o = lw (cl.toList.drop o) (E1.length * sz) ws.flatten := by
      have e0 : cl.toList = cl.toList.take o ++ cl.toList.drop o := by simp
      conv => lhs; rw [e0]
      have := lw_right (cl.toList.take o) (cl.toList.drop o) (E1.length * sz) ws.flatten
      rw [hlo] at this
      rw [this, List.drop_append_of_le_length (by omega), List.drop_of_length_le (by omega), List.nil_append]
    rw [e1]
    have e2 : cl.toList.drop o = (E1 ++ E2 ++ E3).flatten ++ (cl.toList.drop o).drop ((E1 ++ E2 ++ E3).length * sz) := by
      rw [← hfl]; exact (List.take_append_drop _ _).symm
    have l4 : (E1 ++ E2 ++ E3).flatten.length = (E1 ++ E2 ++ E3).length * sz := flen hes
    rw [e2, lw_left _ _ _ _ (by rw [l4, hwl, hexp, hl]; omega)]
    have e4 : lw (E1 ++ E2 ++ E3).flatten (E1.length * sz) ws.flatten = (E1 ++ ws ++ E3).flatten := by
      rw [List.flatten_append, List.flatten_append, List.flatten_append, List.flatten_append]
      rw [lw_left _ _ _ _ (by rw [List.length_append, l1, l2, hwl, hl]; omega)]
      have := lw_right E1.flatten E2.flatten 0 ws.flatten
      rw [Nat.add_zero, l1] at this
      rw [this]
      congr 2
      unfold lw
      rw [List.take_zero, List.nil_append, Nat.zero_add, List.drop_of_length_le (by rw [hwl, l2, hl]; omega), List.append_nil]
    rw [e4, List.take_append_of_le_length (by rw [flen hmem]; omega), List.take_of_length_le]
    rw [flen hmem]; omega
  · intro x hx y hy
    rcases List.mem_append.1 hx with hx | hx
    · rcases List.mem_append.1 hx with hx | hx
      · exact hon x (List.mem_append_left _ (List.mem_append_left _ hx)) y hy
      · exact h1 x hx y hy
    · exact hon x (List.mem_append_right _ hx) y hy
  · intro b' hb'
    simp [blockOf] at hb'
    exact upd_ne _ _ (fun e => hb' e.symm)
theorem row_prefix {H : Heap} {A : Addr} {n c ty sz : Nat} {E1 E2 : List (List Value)} (h : RowAt H (.slice (some A) n c) ty sz (E1 ++ E2)) : RowAt H (.slice (some A) E1.length c) ty sz E1 := by
  rcases h with ⟨e, _⟩ | ⟨b, o, cap, cl, e, hb, hcap, hsz, hes, hfl, hon⟩
  · cases e
  cases e
  have hE1 : ∀ e ∈ E1, e.length = sz := fun e he => hes e (List.mem_append_left _ he)
  rw [List.length_append] at hcap
  refine .inr ⟨b, o, c, cl, rfl, hb, by omega, hsz, hE1, ?_, fun x hx => hon x (List.mem_append_left _ hx)⟩
  rw [List.length_append, Nat.add_mul, List.flatten_append] at hfl
  have := congrArg (List.take (E1.length * sz)) hfl
  rw [List.take_take, Nat.min_eq_left (by omega), ← flen hE1, List.take_append_of_le_length (by omega), List.take_length] at this
  rw [flen hE1] at this
  exact this
end Sx
