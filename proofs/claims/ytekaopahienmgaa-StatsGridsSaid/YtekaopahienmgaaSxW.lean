/- Rows and slices that are known: what is read, written; small lemmas for conditions. -/
import Derived.Test.YtekaopahienmgaaSxT
import Derived.IntWalk
set_option linter.unusedVariables false
set_option linter.unusedSimpArgs false
namespace Sx
open Go
theorem ptr {p : Option Addr} {A : Addr} {K : Addr → Prop} (e : p = some A) (h : K A) : PtrK p K := by subst e; exact h
theorem mapk {p : Option Nat} {A : Nat} {K : Nat → Prop} (e : p = some A) (h : K A) : MapK p K := by subst e; exact h
theorem br_and {p q : Bool} {A B : Prop} (h1 : p = true → q = true → A) (h2 : ¬ (p = true ∧ q = true) → B) : Br p (Br q A B) B := by
  cases p <;> cases q <;> simp_all [Br]
theorem br_or {p q : Bool} {A B : Prop} (h1 : p = true ∨ q = true → A) (h2 : p = false → q = false → B) : Br p A (Br q A B) := by
  cases p <;> cases q <;> simp_all [Br]
theorem Meets.mono {P : Program} {f : FuncId} {args : List Value} {H : Heap} {R R' : Ending → Heap → Prop} (h : Meets P f args H R) (hR : ∀ e H', R e H' → R' e H') : Meets P f args H R' :=
  ⟨h.1, fun w hw => (h.2 w hw).mono fun e w' ⟨H', st, r⟩ => ⟨H', st, hR _ _ r⟩⟩
theorem has_le {H H' : Heap} {a : Addr} {l : List Value} (h : H.has a l) (hle : H ≤ H') : H'.has a l := by
  intro j x hx
  have := h j x hx
  unfold Heap.cell? at *
  split at this
  · rename_i c ty q e
    rw [hle _ _ e]
    exact this
  · cases this
theorem row_le {H H' : Heap} {v : Value} {ty sz : Nat} {es : List (List Value)} (h : RowAt H v ty sz es) (hle : ∀ b o, blockOf v = some b → H b = some o → H' b = some o) : RowAt H' v ty sz es := by
  rcases h with h | ⟨b, o, cap, c, rfl, h1, h2⟩
  · exact .inl h
  · exact .inr ⟨b, o, cap, c, rfl, hle _ _ rfl h1, h2⟩
theorem slice_len {H : Heap} {a : Option Addr} {n c sz : Nat} {es : List (List Value)} (h : SliceAt H (.slice a n c) sz es) : es.length = n ∧ n ≤ c := by
  obtain ⟨a', n', c', e, h1, h2, _⟩ := h
  cases e
  exact ⟨h1, h2⟩
theorem slice_get {H : Heap} {a : Option Addr} {n c sz : Nat} {es : List (List Value)} (h : SliceAt H (.slice a n c) sz es) {i : Nat} {e : List Value} (he : es[i]? = some e) : ∃ A, a = some A ∧ A.spot = none ∧ H.has (A.add (i * sz)) e := by
  obtain ⟨a', n', c', e1, h1, h2, h3, h4, h5⟩ := h
  cases e1
  exact h5 i e he
theorem slice_val {H : Heap} {v : Value} {sz : Nat} {es : List (List Value)} (h : SliceAt H v sz es) : ∃ a c, v = .slice a es.length c := by
  obtain ⟨a', n', c', rfl, rfl, _⟩ := h
  exact ⟨_, _, rfl⟩
theorem row_val {H : Heap} {v : Value} {ty sz : Nat} {es : List (List Value)} (h : RowAt H v ty sz es) : ∃ a c, v = .slice a es.length c := slice_val (row_slice h)
theorem row_len {H : Heap} {a : Option Addr} {n c ty sz : Nat} {es : List (List Value)} (h : RowAt H (.slice a n c) ty sz es) : es.length = n ∧ n ≤ c := slice_len (row_slice h)
/-- All else is as it was. -/
def Mod (v : Value) (H H' : Heap) : Prop := ∀ b, blockOf v ≠ some b → H' b = H b
theorem Mod.refl (v : Value) (H : Heap) : Mod v H H := fun _ _ => rfl
theorem Mod.trans {v : Value} {A B D : Heap} (h : Mod v A B) (h' : Mod v B D) : Mod v A D := fun b hb => (h' b hb).trans (h b hb)
theorem row_store {H : Heap} {a : Option Addr} {n c ty sz : Nat} {es : List (List Value)} (h : RowAt H (.slice a n c) ty sz es) {i : Nat} (hi : i < n) {cs : List Value} (hc : cs.length = sz) (h1 : ∀ x ∈ cs, one x = true) :
    ∃ A, a = some A ∧ ∃ cl, (H (A.add (i * sz)).block = some (.cells cl ty (0, 0)) ∧ (A.add (i * sz)).spot = none ∧ (A.add (i * sz)).off + sz ≤ cl.size) ∧
      RowAt (H.upd (A.add (i * sz)).block (.cells (writeCells cl (A.add (i * sz)).off cs) ty (0, 0))) (.slice a n c) ty sz (es.set i cs) ∧
      Mod (.slice a n c) H (H.upd (A.add (i * sz)).block (.cells (writeCells cl (A.add (i * sz)).off cs) ty (0, 0))) := by
  rcases h with ⟨e, rfl⟩ | ⟨b, o, cap, cl, e, hb, hcap, hsz, hes, hfl, hon⟩
  · cases e; omega
  · cases e
    refine ⟨⟨b, o, none⟩, rfl, cl, ?_⟩
    rw [add_spot rfl]
    have hm : (i + 1) * sz ≤ es.length * sz := Nat.mul_le_mul_right _ hi
    have hm2 : es.length * sz ≤ c * sz := Nat.mul_le_mul_right _ hcap
    rw [Nat.add_mul, Nat.one_mul] at hm
    refine ⟨⟨hb, rfl, by simp only; omega⟩, .inr ⟨b, o, c, writeCells cl (o + i * sz) cs, by simp, upd_same _ _ _, by simpa using hcap, ?_, ?_, ?_, ?_⟩, ?_⟩
    · rw [writeCells_size _ _ _ (by omega)]; exact hsz
    · intro x hx
      rcases List.mem_or_eq_of_mem_set hx with hx | rfl
      · exact hes x hx
      · exact hc
    · obtain ⟨e, he⟩ : ∃ e, es[i]? = some e := ⟨es[i], by simp⟩
      have hel := hes e (List.mem_of_getElem? he)
      have hsplit := flatten_split hes he
      rw [write_lw _ _ _ (by omega)]
      have hl : (cl.toList.drop o).length = cl.size - o := by simp
      have e1 : (lw cl.toList (o + i * sz) cs).drop o = lw (cl.toList.drop o) (i * sz) cs := by
        have e0 : cl.toList = cl.toList.take o ++ cl.toList.drop o := by simp
        have hlo : (cl.toList.take o).length = o := by simp; omega
        conv => lhs; rw [e0]
        have := lw_right (cl.toList.take o) (cl.toList.drop o) (i * sz) cs
        rw [hlo] at this
        rw [this, List.drop_append_of_le_length (by omega), List.drop_of_length_le (by omega), List.nil_append]
      rw [e1]
      have e2 : cl.toList.drop o = (cl.toList.drop o).take (es.length * sz) ++ (cl.toList.drop o).drop (es.length * sz) := (List.take_append_drop _ _).symm
      rw [e2, lw_left _ _ _ _ (by simp; omega)]
      have hlen1 : (lw ((cl.toList.drop o).take (es.length * sz)) (i * sz) cs).length = es.length * sz := by
        rw [lw_len _ _ _ (by simp; omega)]; simp; omega
      rw [List.length_set, List.take_append_of_le_length (by omega), List.take_of_length_le (by omega)]
      rw [hfl]
      have e3 := row_put hes he (off := 0) (cs := cs) (by omega)
      have e4 : lw e 0 cs = cs := by
        unfold lw
        rw [List.drop_of_length_le (by omega)]
        simp
      rw [Nat.add_zero, e4] at e3
      exact e3
    · intro x hx y hy
      rcases List.mem_or_eq_of_mem_set hx with hx | rfl
      · exact hon x hx y hy
      · exact h1 y hy
    · intro b' hb'
      simp [blockOf] at hb'
      exact upd_ne _ _ (fun e => hb' e.symm)
end Sx
