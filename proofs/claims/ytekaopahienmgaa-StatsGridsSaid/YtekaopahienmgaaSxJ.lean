/- Statements: soundness, where the order is told. -/
import Derived.Test.YtekaopahienmgaaSxI
set_option linter.unusedVariables false
set_option linter.unusedSimpArgs false
namespace Sx
open Go
section
variable {P : Program} {C : Ctx} {V : Vl} {s : St} {H : Heap} {a : Act} {w : World}

/-- Real states that an abstract condition speaks of. -/
def Gam (C : Ctx) (K : St → Heap → Prop) (a : Act) (w : World) : Prop := ∃ V s H, Rep C V s H a w ∧ K s H
def GamQ (C : Ctx) (Q : Exit → St → Heap → Prop) (e : Exit) (a : Act) (w : World) : Prop := ∃ V s H, Rep C V s H a w ∧ Q e s H
theorem rep_weaken (h : Rep C V s H a w) {s' : St} (hl : s'.env.length ≤ a.tmps.size) (he : ∀ t x, nth s'.env t = some x → x = .c .bad ∨ x = s.get t) (hd : s'.dfr = s.dfr)
    (ho : ∀ d o, look s'.objs d = some o → look s.objs d = some o) : Rep C V s' H a w :=
  { env := fun t x e => by
      rcases he t x e with rfl | rfl
      · trivial
      · exact h.get t
    len := hl, dfr := by rw [hd]; exact h.dfr, sub := h.sub, objs := fun d o e => h.objs d o (ho d o e), priv := fun d o b e => h.priv d o b (ho d o e),
    dist := fun d o d' o' b e e' => h.dist d o d' o' b (ho d o e) (ho d' o' e'), os := h.os, tape := h.tape, output := h.output, size := h.size, other := h.other }
theorem nth_restrict (keep : List Nat) : ∀ (l : List SV) (i t : Nat), nth (restrictEnv keep l i) t = (nth l t).map fun x => match memN keep (i + t) with | true => x | false => .c .bad
  | [], i, t => by simp [restrictEnv, nth]
  | x :: r, i, 0 => by
    simp only [restrictEnv, nth, Nat.add_zero, Option.map_some]
    cases memN keep i <;> rfl
  | x :: r, i, t + 1 => by
    simp only [restrictEnv, nth, nth_restrict keep r (i + 1) t]
    rw [show i + 1 + t = i + (t + 1) by omega]
theorem restrict_len (keep : List Nat) : ∀ (l : List SV) (i : Nat), (restrictEnv keep l i).length = l.length
  | [], _ => rfl
  | x :: r, i => by simp [restrictEnv, restrict_len keep r]
theorem rep_restrict (h : Rep C V s H a w) (keep : List Nat) : Rep C V ⟨restrictEnv keep s.env 0, s.objs, s.dfr⟩ H a w := by
  refine rep_weaken h (by rw [restrict_len]; exact h.len) ?_ rfl fun _ _ e => e
  intro t x e
  simp only [nth_restrict, Nat.zero_add] at e
  cases hn : nth s.env t with
  | none => rw [hn] at e; simp at e
  | some y =>
    rw [hn] at e
    simp only [Option.map_some, Option.some.injEq] at e
    split at e
    · subst e; right; unfold St.get; rw [hn]
    · subst e; left; rfl
theorem rep_pan (h : Rep C V s H a w) (pk : Option (List Nat)) : Rep C V (panSt pk s) H a w := by
  cases pk with
  | none => exact rep_weaken h (by simp [panSt]) (by simp [panSt, nth]) rfl (by simp [panSt, look])
  | some l => exact rep_restrict h l
theorem opC_sound (h : Rep C V s H a w) {hs : Hints} (hE : ∀ t, memN hs.eqs t = true → EqOK P t)
    {Q : Exit → St → Heap → Prop} {o : Oper} {K : St → Heap → Prop} (hk : opC P hs Q o s H K) : o.wp P a w (Gam C K) (GamQ C Q) := by
  unfold Oper.wp
  unfold opC at hk
  split at hk
  · obtain ⟨z, r, h1, h2, h3⟩ := valK_sound h (cfg := ⟨hs.eqs⟩) hE o hk
    rw [h3, Oper.upon_value]
    exact ⟨V, _, H, h.put h2 o.dst, h1⟩
  · obtain ⟨V', s', y, w', h1, h2, h3 | ⟨h3, rfl⟩⟩ := objK_sound h (heap_refl H) o hk
    · rw [h3, Oper.upon_value]; exact ⟨V', s', H, h2, h1⟩
    · rw [h3, Oper.upon_skip]; exact ⟨V', s', H, h2, h1⟩
  · obtain ⟨z, r, h1, h2, h3⟩ := readK_sound h (heap_refl H) o hk
    rw [h3, Oper.upon_value]
    exact ⟨V, _, H, h.put h2 o.dst, h1⟩
  · obtain ⟨V', s', H', y, w', h1, h2, h3 | ⟨h3, rfl⟩⟩ := effK_sound h o hk
    · rw [h3, Oper.upon_value]; exact ⟨V', s', H', h2, h1⟩
    · rw [h3, Oper.upon_skip]; exact ⟨V', s', H', h2, h1⟩
  · split at hk
    · obtain ⟨f, args, h1, h2⟩ := giveK_sound h o hk
      rw [h1, Oper.upon_enter]
      refine h2.mono ?_
      intro e w' he
      cases e with
      | returned v =>
        obtain ⟨V', s', H', h3, h4⟩ := he
        exact ⟨V', s', H', h4, h3⟩
      | panicked c =>
        obtain ⟨kp, V', s', H', h3, h4, h5⟩ := he
        unfold panicQ at h3
        split at h3
        · cases h3
          exact ⟨V', _, H', rep_pan h5 _, h4⟩
        · cases h3
      | outgrown => exact he.elim
    · split at hk
      · obtain ⟨f, args, h1, h2⟩ := callK_sound h o hk
        rw [h1, Oper.upon_enter]
        refine h2.mono ?_
        intro e w' he
        cases e with
        | returned v =>
          obtain ⟨V', s', H', h3, h4⟩ := he
          exact ⟨V', s', H', h4, h3⟩
        | panicked c =>
          obtain ⟨kp, V', s', H', h3, h4, h5⟩ := he
          unfold panicQ at h3
          split at h3
          · cases h3
            exact ⟨V', _, H', rep_pan h5 _, h4⟩
          · cases h3
        | outgrown => exact he.elim
      · obtain ⟨f, args, h1, h2⟩ := callK_sound h o hk
        rw [h1, Oper.upon_enter]
        refine h2.mono ?_
        intro e w' he
        cases e with
        | returned v =>
          obtain ⟨V', s', H', h3, h4⟩ := he
          obtain ⟨V2, s2, H2, h6, h7⟩ := adoptK_sound h4 h3
          exact ⟨V2, s2, H2, h7, h6⟩
        | panicked c =>
          obtain ⟨kp, V', s', H', h3, h4, h5⟩ := he
          unfold panicQ at h3
          split at h3
          · cases h3
            exact ⟨V', _, H', rep_pan h5 _, h4⟩
          · cases h3
        | outgrown => exact he.elim
  · split at hk
    · rename_i x ho
      have hx := h.ev x
      split at hk
      · rename_i t v hv
        rw [hv] at hx
        obtain ⟨hx, -⟩ := hx
        have : (execOp a.eval o).run P w = .halt (.panic (.iface t v)) w := by
          unfold execOp
          rw [ho]
          simp only [hx, Instr.panic, goPanic, Sem.run_bind, Sem.run]
          rfl
        rw [this, Oper.upon_panic]
        exact ⟨V, _, H, rep_pan h _, hk⟩
      · exact hk.elim
    · exact hk.elim
  · split at hk
    · rename_i f args ats ho
      split at hk
      · rename_i l hl hc
        have hcap := caps_rep h args.toList (sites_caps _ hl)
        have : (execOp a.eval o).run P w = .ok (.defer { target := .fn (.func f) #[], args := args.map a.eval }) w := by
          unfold execOp
          rw [ho]
          simp only [resolve, Sem.run_bind, Act.eval, Deferred.ofValue, Sem.run_pure, Result.andThen_ok]
          simp
        rw [this, Oper.upon_defer]
        have hargs : args.map a.eval = (l.map fun k => Value.pointer (some ⟨V.blk k, 0, none⟩)).toArray := by
          apply Array.ext'
          simp only [Array.toList_map, hcap, List.map_map]
          rfl
        have h1 : Rep C V ⟨s.env, s.objs, ⟨f, l⟩ :: s.dfr⟩ H { a with defers := { target := .fn (.func f) #[], args := args.map a.eval } :: a.defers } w :=
          { env := h.env, len := h.len, dfr := by simp only [List.map_cons, ADef.real, h.dfr, hargs], sub := h.sub, objs := h.objs, priv := h.priv, dist := h.dist, os := h.os, tape := h.tape, output := h.output, size := h.size, other := h.other }
        exact ⟨V, _, H, h1.put (x := .c .bad) trivial o.dst, hk⟩
      · exact hk.elim
    · exact hk.elim
  · exact hk.elim
theorem inpK_sound (h : Rep C V s H a w) {hs : Hints} {o : Oper} {x y : Operand} {sz : Nat} (ho : inpOf P hs o = some (x, y, sz)) {K : St → Heap → Prop} (hk : inpK sz (ev s x) (ev s y) o.dst s H K) :
    ∃ V' s' H' v w', K s' H' ∧ Rep C V' s' H' (a.put o.dst v) w' ∧ (execOp a.eval o).run P w = .ok (.value v) w' := by
  unfold inpOf at ho
  split at ho
  · rename_i args ats d hop hd
    split at ho
    · rename_i x' y' t t2 _ hargs hats
      split at ho
      · rename_i e sz' e2 he hu2
        cases ho
        have hx := h.ev x
        have hy := h.ev y
        unfold inpK at hk
        split at hk
        · rename_i al n c a2 m c2 hx1 hy1
          rw [hx1] at hx
          rw [hy1] at hy
          obtain ⟨hx, -⟩ := hx
          obtain ⟨hy, -⟩ := hy
          obtain ⟨hroom, es2, hsl, hk⟩ := hk
          obtain ⟨hu, i, hi, rfl⟩ := sliceElem_eq he
          obtain ⟨⟨xb, xc, hv⟩, hel2, hfc, hon2⟩ := src_real (P := P) h.sub hsl
          have hm : es2.length = m := by cases hv; rfl
          have hone : ∀ x ∈ es2.flatten, one x = true := by
            intro x hx
            obtain ⟨e, h1, h2⟩ := List.mem_flatten.1 hx
            exact hon2 e h1 x h2
          subst hm
          have e1 : ats = #[t, t2] := by apply Array.ext'; simpa using hats
          have e2 : args = #[x, y] := by apply Array.ext'; simpa using hargs
          subst e1; subst e2
          have run0 : (Builtin.append_ #[t, t2] o.type #[.slice al n c, .slice a2 es2.length c2]).run P w =
              (match al with
                | some a => (do storeCells (a.add (n * i.size)) es2.flatten; pure (.slice al (n + es2.length) c) : Sem Value)
                | none => pure (.slice al (n + es2.length) c)).run P w := by
            simp only [Builtin.append_, List.getElem?_toArray, List.getElem?_cons_zero, List.getElem?_cons_succ, Sem.run_bind, run_underlying hu, Result.andThen_ok, run_sizeT hi, run_underlying hu2, Sem.run_pure,
              Bool.false_eq_true, if_false, Builtin.lenOf, Bool.not_false, if_true]
            rw [if_pos hroom]
            simp only [Sem.run_bind, hfc, Result.andThen_ok]
            cases al <;> rfl
          have exec : ∀ w', (Builtin.append_ #[t, t2] o.type #[.slice al n c, .slice a2 es2.length c2]).run P w = .ok (.slice al (n + es2.length) c) w' →
              (execOp a.eval o).run P w = .ok (.value (.slice al (n + es2.length) c)) w' := fun w' hr => by
            unfold execOp
            rw [hop]
            simp only [resolve, Sem.run_bind, Sem.run_pure, Result.andThen_ok, invoke, builtin, List.map_toArray, List.map_cons, List.map_nil, hx, hy]
            rw [hr]
            rfl
          rcases hk with ⟨rfl, hK⟩ | ⟨A, cs, ty, rfl, ⟨hb, hs, hle⟩, hK⟩
          · refine ⟨V, _, _, .slice al (n + 0) c, w, hK, h.put (x := .c (.v (.slice al (n + 0) c))) ⟨rfl, rfl⟩ o.dst, exec _ ?_⟩
            rw [run0]
            cases al <;> simp [storeCells]
          · have hblk := h.sub _ _ hb
            have hA : A = ⟨A.block, A.off, none⟩ := by cases A; simp_all
            refine ⟨V, _, _, _, _, hK, (rep_pub h (.inl ⟨_, hb⟩) (setB_only _ _) (setB_at hblk)).put (x := .c (.v (.slice (some A) (n + es2.length) c))) ⟨rfl, rfl⟩ o.dst, exec _ ?_⟩
            rw [run0]
            have hst := storeCells_run (P := P) (b := A.block) (off := A.off + n * i.size) es2.flatten 0 w hblk (by rw [flatten_len hel2]; omega) hone
            have e3 : A.add (n * i.size) = ⟨A.block, A.off + n * i.size, none⟩ := by rw [add_spot hs]
            simp only [Sem.run_bind, e3]
            rw [hst]
            simp only [Result.andThen_ok, Sem.run_pure, Nat.add_zero]
        · exact hk.elim
      · cases ho
    · cases ho
  · cases ho
theorem opK_sound (h : Rep C V s H a w) {hs : Hints} (hE : ∀ t, memN hs.eqs t = true → EqOK P t)
    {Q : Exit → St → Heap → Prop} {o : Oper} {K : St → Heap → Prop} (hk : opK P hs Q o s H K) : o.wp P a w (Gam C K) (GamQ C Q) := by
  unfold opK at hk
  split at hk
  · rename_i x y sz ho
    obtain ⟨V', s', H', v, w', h1, h2, h3⟩ := inpK_sound h ho hk
    unfold Oper.wp
    rw [h3, Oper.upon_value]
    exact ⟨V', s', H', h2, h1⟩
  split at hk
  · exact opC_sound h hE hk
  · obtain ⟨V', s', H', hk, h'⟩ := adoptK_sound h hk
    exact opC_sound h' hE hk
theorem rep_same (h : Rep C V s H a w) {g : Nat} {x : SV} (hx : x.rep V (a.tmps.getD g undef)) : Rep C V (s.set g x) H a w := by
  refine { env := ?_, len := ?_, dfr := h.dfr, sub := h.sub, objs := h.objs, priv := h.priv, dist := h.dist, os := h.os, tape := h.tape, output := h.output, size := h.size, other := h.other }
  · intro t z hz
    simp only [St.set, nth_setNth] at hz
    by_cases hg : g = t
    · subst hg
      simp only [if_true] at hz
      split at hz
      · cases hz; exact hx
      · cases hz
    · rw [if_neg hg] at hz
      exact h.env t z hz
  · simp only [St.set, setNth_eq, List.length_set]; exact h.len
theorem guard_yields {V : Vl} {s : St} {H : Heap} {a : Act} {w : World} (h : Rep C V s H a w) {ops : Array Oper} {j g : Nat} {p : Bool} (hg : guardDst ops.toList j = some g) (hs : s.get g = .c (.v (.bool p))) :
    yielded ops a.tmps j = some p ∧ a.tmps.getD g undef = .bool p := by
  have hrep := h.get g
  rw [hs] at hrep
  obtain ⟨hrep, -⟩ := hrep
  refine ⟨?_, hrep⟩
  have hlt : g < a.tmps.size := by
    rcases get_nth (s := s) (t := g) with ⟨e, _⟩ | e
    · rw [hs] at e; cases e
    · rw [nth_eq] at e
      have := (List.getElem?_eq_some_iff.1 e).1
      have := h.len
      omega
  unfold guardDst at hg
  rw [nth_eq] at hg
  split at hg
  · rename_i o ho
    have ho' : ops[j]? = some o := by simpa using ho
    unfold yielded
    rw [ho']
    have : a.tmps[g]? = some (.bool p) := by
      rw [Array.getD_eq_getD_getElem?, Array.getElem?_eq_getElem hlt] at hrep
      rw [Array.getElem?_eq_getElem hlt]
      simpa using hrep
    simp [hg, this]
  · cases hg
theorem guard_undef {V : Vl} {s : St} {H : Heap} {a : Act} {w : World} (h : Rep C V s H a w) {ops : Array Oper} {j g : Nat} (hg : guardDst ops.toList j = some g) (hs : s.get g = .tup []) :
    yielded ops a.tmps j = none := by
  have hrep := h.get g
  rw [hs] at hrep
  obtain ⟨ys, hy, hys⟩ := hrep
  have : ys = [] := hys
  subst this
  unfold guardDst at hg
  rw [nth_eq] at hg
  split at hg
  · rename_i o ho
    have ho' : ops[j]? = some o := by simpa using ho
    unfold yielded
    rw [ho', Option.bind_some, hg, Option.bind_some]
    rw [Array.getD_eq_getD_getElem?] at hy
    cases ha : a.tmps[g]? with
    | none => rfl
    | some v => rw [ha] at hy; simp at hy; subst hy; rfl
  · cases hg
theorem opsK_sound {hs : Hints} (hE : ∀ t, memN hs.eqs t = true → EqOK P t) {Q : Exit → St → Heap → Prop} {ops : Array Oper} : ∀ (l : List Oper) {V : Vl} {s : St} {H : Heap} {a : Act} {w : World}, Rep C V s H a w →
    opsK P hs Q ops.toList l s H → wpList P ops (GamQ C Q) l a w
  | [], V, s, H, a, w, h, hk => ⟨V, s, H, h, hk⟩
  | o :: r, V, s, H, a, w, h, hk => by
    have next : ∀ a w, Gam C (fun s' H' => opsK P hs Q ops.toList r s' H') a w → wpList P ops (GamQ C Q) r a w := by
      rintro a w ⟨V, s, H, h1, h2⟩
      exact opsK_sound hE r h1 h2
    have skip : ∀ {s : St} {a : Act}, Rep C V s H a w → opsK P hs Q ops.toList r (s.put o.dst (.tup [])) H → wpList P ops (GamQ C Q) r (a.put o.dst undef) w :=
      fun h' hk' => opsK_sound hE r (h'.put (x := .tup []) ⟨[], rfl, rfl⟩ o.dst) hk'
    unfold wpList
    simp only [opsK] at hk
    split at hk
    · rename_i hg
      rw [if_pos (by simp [Region.wanted, hg])]
      exact .inl (Oper.wp_mono next (opK_sound h hE hk))
    · rename_i j b hg
      split at hk
      · exact hk.elim
      · rename_i g hgd
        split at hk
        · rename_i p hp
          obtain ⟨hy, hv⟩ := guard_yields h hgd hp
          have hset : Rep C V (s.set g (.c (.v (.bool p)))) H a w := rep_same h ⟨hv, rfl⟩
          split at hk
          · cases p with
            | true =>
              rw [if_pos (by simp [Region.wanted, hg, hy])]
              exact .inl (Oper.wp_mono next (opK_sound hset hE hk))
            | false =>
              rw [if_neg (by simp [Region.wanted, hg, hy])]
              exact skip hset hk
          · cases p with
            | true =>
              rw [if_neg (by simp [Region.wanted, hg, hy])]
              exact skip hset hk
            | false =>
              rw [if_pos (by simp [Region.wanted, hg, hy])]
              exact .inl (Oper.wp_mono next (opK_sound hset hE hk))
        · rename_i hp
          have hy := guard_undef h hgd hp
          rw [if_neg (by simp [Region.wanted, hg, hy])]
          exact skip h hk
        · exact hk.elim
end
end Sx
