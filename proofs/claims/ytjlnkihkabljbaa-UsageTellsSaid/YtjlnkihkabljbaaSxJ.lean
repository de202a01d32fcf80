/- Statements: soundness, where the order is told. -/
import Derived.Test.YtjlnkihkabljbaaSxI
set_option linter.unusedVariables false
set_option linter.unusedSimpArgs false
namespace Sx
open Go
section
variable {P : Program} {C : Ctx}

/-- Real states that an abstract condition speaks of. -/
def Gam (C : Ctx) (K : St → Option Heap → Heap → Prop) (a : Act) (w : World) : Prop :=
  ∃ V s Hb H, Rep C V s H a w ∧ (∀ h, Hb = some h → h ≤ H) ∧ K s Hb H
def GamQ (C : Ctx) (Q : Exit → St → Heap → Prop) (e : Exit) (a : Act) (w : World) : Prop := ∃ V s H, Rep C V s H a w ∧ Q e s H
theorem heap_refl (H : Heap) : H ≤ H := fun _ _ e => e
theorem opK_sound {V : Vl} {s : St} {Hb : Option Heap} {H : Heap} {a : Act} {w : World} (h : Rep C V s H a w) (hb : ∀ h, Hb = some h → h ≤ H) {hs : Hints} (hE : ∀ t, memN hs.eqs t = true → EqOK P t)
    {Q : Exit → St → Heap → Prop} {o : Oper} {K : St → Option Heap → Heap → Prop} (hk : opK P hs Q o s Hb H K) : o.wp P a w (Gam C K) (GamQ C Q) := by
  have hr : Hb.getD H ≤ H := by
    cases Hb with
    | none => exact heap_refl H
    | some h => exact hb h rfl
  unfold Oper.wp
  unfold opK at hk
  split at hk
  · obtain ⟨z, r, h1, h2, h3⟩ := valK_sound h (cfg := ⟨hs.eqs⟩) hE o hk
    rw [h3, Oper.upon_value]
    exact ⟨V, _, Hb, H, h.put h2 o.dst, hb, h1⟩
  · obtain ⟨V', s', y, w', h1, h2, h3 | ⟨h3, rfl⟩⟩ := objK_sound h hr o hk
    · rw [h3, Oper.upon_value]; exact ⟨V', s', Hb, H, h2, hb, h1⟩
    · rw [h3, Oper.upon_skip]; exact ⟨V', s', Hb, H, h2, hb, h1⟩
  · obtain ⟨z, r, h1, h2, h3⟩ := readK_sound h hr o hk
    rw [h3, Oper.upon_value]
    exact ⟨V, _, Hb, H, h.put h2 o.dst, hb, h1⟩
  · have hm : ∀ (H' h : Heap), Hb.map (fun _ => H') = some h → h ≤ H' := by
      intro H' h e
      cases Hb with
      | none => simp at e
      | some _ => simp at e; subst e; exact heap_refl _
    obtain ⟨V', s', H', y, w', h1, h2, h3 | ⟨h3, rfl⟩⟩ := effK_sound h o hk
    · rw [h3, Oper.upon_value]; exact ⟨V', s', _, H', h2, hm H', h1⟩
    · rw [h3, Oper.upon_skip]; exact ⟨V', s', _, H', h2, hm H', h1⟩
  · obtain ⟨f, args, h1, h2⟩ := callK_sound h o hk
    rw [h1, Oper.upon_enter]
    refine h2.mono ?_
    intro e w' he
    cases e with
    | returned v =>
      obtain ⟨V', s', H', h3, h4, h5⟩ := he
      exact ⟨V', s', Hb, H', h5, h4, h3⟩
    | panicked c =>
      obtain ⟨kp, V', H', h3, h4, h5⟩ := he
      unfold panicQ at h3
      split at h3
      · cases h3
        rw [h.dfr] at h5
        exact ⟨V', _, H', h5, h4⟩
      · cases h3
    | outgrown => exact he.elim
  · split at hk
    · rename_i x ho
      have hx := h.ev x
      split at hk
      · rename_i t v hv
        rw [hv] at hx
        obtain ⟨hx, -⟩ := hx
        have : (execOp a.eval o).run P w = .halt (.panic (.iface t v)) w := by
          unfold execOp
          rw [ho]
          simp only [hx, Instr.panic, goPanic, Sem.run_bind, Sem.run]
          rfl
        rw [this, Oper.upon_panic]
        refine ⟨V, _, H, ?_, hk⟩
        exact { env := by simp [nth], len := by simp, dfr := h.dfr, sub := h.sub, objs := by simp [look], priv := by simp [look], dist := by simp [look], os := h.os, tape := h.tape, output := h.output, size := h.size, other := h.other }
      · exact hk.elim
    · exact hk.elim
  · exact hk.elim
theorem rep_same {V : Vl} {s : St} {H : Heap} {a : Act} {w : World} (h : Rep C V s H a w) {g : Nat} {x : SV} (hx : x.rep V (a.tmps.getD g undef)) : Rep C V (s.set g x) H a w := by
  refine { env := ?_, len := ?_, dfr := h.dfr, sub := h.sub, objs := h.objs, priv := h.priv, dist := h.dist, os := h.os, tape := h.tape, output := h.output, size := h.size, other := h.other }
  · intro t z hz
    simp only [St.set, nth_setNth] at hz
    by_cases hg : g = t
    · subst hg
      simp only [if_true] at hz
      split at hz
      · cases hz; exact hx
      · cases hz
    · rw [if_neg hg] at hz
      exact h.env t z hz
  · simp only [St.set, setNth_eq, List.length_set]; exact h.len
theorem guard_yields {V : Vl} {s : St} {H : Heap} {a : Act} {w : World} (h : Rep C V s H a w) {ops : Array Oper} {j g : Nat} {p : Bool} (hg : guardDst ops.toList j = some g) (hs : s.get g = .c (.v (.bool p))) :
    yielded ops a.tmps j = some p ∧ a.tmps.getD g undef = .bool p := by
  have hrep := h.get g
  rw [hs] at hrep
  obtain ⟨hrep, -⟩ := hrep
  refine ⟨?_, hrep⟩
  have hlt : g < a.tmps.size := by
    rcases get_nth (s := s) (t := g) with ⟨e, _⟩ | e
    · rw [hs] at e; cases e
    · rw [nth_eq] at e
      have := (List.getElem?_eq_some_iff.1 e).1
      have := h.len
      omega
  unfold guardDst at hg
  rw [nth_eq] at hg
  split at hg
  · rename_i o ho
    have ho' : ops[j]? = some o := by simpa using ho
    unfold yielded
    rw [ho']
    have : a.tmps[g]? = some (.bool p) := by
      rw [Array.getD_eq_getD_getElem?, Array.getElem?_eq_getElem hlt] at hrep
      rw [Array.getElem?_eq_getElem hlt]
      simpa using hrep
    simp [hg, this]
  · cases hg
theorem guard_undef {V : Vl} {s : St} {H : Heap} {a : Act} {w : World} (h : Rep C V s H a w) {ops : Array Oper} {j g : Nat} (hg : guardDst ops.toList j = some g) (hs : s.get g = .tup []) :
    yielded ops a.tmps j = none := by
  have hrep := h.get g
  rw [hs] at hrep
  obtain ⟨ys, hy, hys⟩ := hrep
  have : ys = [] := hys
  subst this
  unfold guardDst at hg
  rw [nth_eq] at hg
  split at hg
  · rename_i o ho
    have ho' : ops[j]? = some o := by simpa using ho
    unfold yielded
    rw [ho', Option.bind_some, hg, Option.bind_some]
    rw [Array.getD_eq_getD_getElem?] at hy
    cases ha : a.tmps[g]? with
    | none => rfl
    | some v => rw [ha] at hy; simp at hy; subst hy; rfl
  · cases hg
theorem opsK_sound {hs : Hints} (hE : ∀ t, memN hs.eqs t = true → EqOK P t) {Q : Exit → St → Heap → Prop} {ops : Array Oper} : ∀ (l : List Oper) {V : Vl} {s : St} {H : Heap} {a : Act} {w : World}, Rep C V s H a w →
    opsK P hs Q ops.toList l s H → wpList P ops (GamQ C Q) l a w
  | [], V, s, H, a, w, h, hk => ⟨V, s, H, h, hk⟩
  | o :: r, V, s, H, a, w, h, hk => by
    have next : ∀ a w, Gam C (fun s' _ H' => opsK P hs Q ops.toList r s' H') a w → wpList P ops (GamQ C Q) r a w := by
      rintro a w ⟨V, s, Hb, H, h1, _, h2⟩
      exact opsK_sound hE r h1 h2
    have skip : ∀ {s : St} {a : Act}, Rep C V s H a w → opsK P hs Q ops.toList r (s.put o.dst (.tup [])) H → wpList P ops (GamQ C Q) r (a.put o.dst undef) w :=
      fun h' hk' => opsK_sound hE r (h'.put (x := .tup []) ⟨[], rfl, rfl⟩ o.dst) hk'
    unfold wpList
    simp only [opsK] at hk
    split at hk
    · rename_i hg
      rw [if_pos (by simp [Region.wanted, hg])]
      exact .inl (Oper.wp_mono next (opK_sound h (by simp) hE hk))
    · rename_i j b hg
      split at hk
      · exact hk.elim
      · rename_i g hgd
        split at hk
        · rename_i p hp
          obtain ⟨hy, hv⟩ := guard_yields h hgd hp
          have hset : Rep C V (s.set g (.c (.v (.bool p)))) H a w := rep_same h ⟨hv, rfl⟩
          split at hk
          · cases p with
            | true =>
              rw [if_pos (by simp [Region.wanted, hg, hy])]
              exact .inl (Oper.wp_mono next (opK_sound hset (by simp) hE hk))
            | false =>
              rw [if_neg (by simp [Region.wanted, hg, hy])]
              exact skip hset hk
          · cases p with
            | true =>
              rw [if_neg (by simp [Region.wanted, hg, hy])]
              exact skip hset hk
            | false =>
              rw [if_pos (by simp [Region.wanted, hg, hy])]
              exact .inl (Oper.wp_mono next (opK_sound hset (by simp) hE hk))
        · rename_i hp
          have hy := guard_undef h hgd hp
          rw [if_neg (by simp [Region.wanted, hg, hy])]
          exact skip h hk
        · exact hk.elim
end
end Sx
