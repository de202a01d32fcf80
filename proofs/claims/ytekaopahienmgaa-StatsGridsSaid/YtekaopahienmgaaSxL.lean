/- Pieces of code and whole functions: soundness. -/
import Derived.Test.YtekaopahienmgaaSxY
set_option linter.unusedVariables false
set_option linter.unusedSimpArgs false
namespace Sx
open Go
section
variable {P : Program} {C : Ctx} {V : Vl} {s : St} {H : Heap} {a : Act} {w : World}

theorem gam_then {K : St → Heap → Prop} {Q : Exit → St → Heap → Prop} {N : Act → World → Prop} (hn : ∀ V s H a w, Rep C V s H a w → K s H → N a w) :
    ∀ e a w, GamQ C (seqQ K Q) e a w → Exit.then N (GamQ C Q) e a w := by
  rintro e a w ⟨V, s, H, h, q⟩
  cases e <;> first | exact hn _ _ _ _ _ h q | exact ⟨V, s, H, h, q⟩
theorem gam_block {id : Nat} {Q : Exit → St → Heap → Prop} : ∀ e a w, GamQ C (blockQ id Q) e a w → Exit.inBlock id (GamQ C Q) e a w := by
  rintro e a w ⟨V, s, H, h, q⟩
  cases e with
  | exit i =>
    simp only [blockQ] at q
    simp only [Exit.inBlock]
    split at q
    · rename_i hb; rw [if_pos (nbt hb)]; exact ⟨V, s, H, h, q⟩
    · rename_i hb; rw [if_neg (fun e => by subst e; simp [Nat.beq_refl] at hb)]; exact ⟨V, s, H, h, q⟩
  | _ => exact ⟨V, s, H, h, q⟩
theorem least {p : Nat → Prop} (h : ∃ n, p n) : ∃ n, p n ∧ ∀ m, p m → n ≤ m := by
  obtain ⟨n, hn⟩ := h
  induction n using Nat.strongRecOn with
  | _ n ih =>
    by_cases hm : ∃ m, m < n ∧ p m
    · obtain ⟨m, h1, h2⟩ := hm
      exact ih m h1 h2
    · exact ⟨n, hn, fun m hp => Nat.not_lt.1 fun hlt => hm ⟨m, hlt, hp⟩⟩
theorem loopP_wp {α : Type} {c : Code} {Q : Exit → Act → World → Prop} {T : (α → Heap → Prop) → α → Heap → Prop} (R : α → Heap → Act → World → Prop)
    (hT : ∀ (K : α → Heap → Prop) p H a w, T K p H → R p H a w → c.wp P (Exit.then (fun a' w' => ∃ p' H', R p' H' a' w' ∧ K p' H') Q) a w)
    {p : α} {H : Heap} (h : LoopP T p H) {a : Act} {w : World} (hr : R p H a w) : (Code.loop c).wp P Q a w := by
  obtain ⟨I, μ, h0, hs⟩ := h
  have key : ∀ (a : Act) (w : World), ∃ n, (∃ p H, R p H a w ∧ I p H) → (∃ p H, R p H a w ∧ I p H ∧ μ p H = n) ∧ ∀ p H, R p H a w → I p H → n ≤ μ p H := by
    intro a w
    by_cases h : ∃ p H, R p H a w ∧ I p H
    · obtain ⟨p, H, h1, h2⟩ := h
      obtain ⟨n, hn, hl⟩ := least (p := fun n => ∃ p H, R p H a w ∧ I p H ∧ μ p H = n) ⟨_, p, H, h1, h2, rfl⟩
      exact ⟨n, fun _ => ⟨hn, fun p H h1 h2 => hl _ ⟨p, H, h1, h2, rfl⟩⟩⟩
    · exact ⟨0, fun h' => absurd h' h⟩
  have hM : ∃ M : Act → World → Nat, ∀ a w, (∃ p H, R p H a w ∧ I p H) → (∃ p H, R p H a w ∧ I p H ∧ μ p H = M a w) ∧ ∀ p H, R p H a w → I p H → M a w ≤ μ p H :=
    ⟨fun a w => (key a w).choose, fun a w => (key a w).choose_spec⟩
  obtain ⟨M, hM⟩ := hM
  refine wp_loop (fun a w => ∃ p H, R p H a w ∧ I p H) M ⟨p, H, hr, h0⟩ ?_
  intro a w h
  obtain ⟨⟨p, H, h1, h2, h3⟩, -⟩ := hM a w h
  refine wp_mono (hT _ p H a w (hs p H h2) h1) ?_
  intro e a' w' he
  cases e with
  | normal =>
    obtain ⟨p', H', h4, h5, h6⟩ := he
    exact ⟨⟨p', H', h4, h5⟩, by have := (hM a' w' ⟨p', H', h4, h5⟩).2 p' H' h4 h5; omega⟩
  | _ => exact he
/-- What is enough for a piece of code is enough. -/
theorem vc_sound {hs : Hints} (hE : ∀ t, memN hs.eqs t = true → EqOK P t) : ∀ (c : Code) {Q : Exit → St → Heap → Prop} {V : Vl} {s : St} {H : Heap} {a : Act} {w : World},
    Rep C V s H a w → vc P hs c Q s H → c.wp P (GamQ C Q) a w
  | .skip, Q, V, s, H, a, w, h, hk => wp_skip ⟨V, s, H, h, hk⟩
  | .label _, Q, V, s, H, a, w, h, hk => wp_label ⟨V, s, H, h, hk⟩
  | .ret, Q, V, s, H, a, w, h, hk => wp_ret ⟨V, s, H, h, hk⟩
  | .exit i, Q, V, s, H, a, w, h, hk => wp_exit ⟨V, s, H, h, hk⟩
  | .region id ops draw, Q, V, s, H, a, w, h, hk => by
    simp only [vc] at hk
    split at hk
    · exact wp_region_list (opsK_sound hE _ h hk)
    · split at hk
      · rename_i hB
        exact mix_sound hE h hB hk
      · split at hk
        · rename_i hB
          exact mix2_sound hE h hB hk
        · exact hk.elim
  | .cond c x y, Q, V, s, H, a, w, h, hk => by
    simp only [vc] at hk
    split at hk
    · rename_i p hp
      have hc := h.ev c
      rw [hp] at hc
      obtain ⟨hc, -⟩ := hc
      cases p with
      | true => exact wp_cond hc (vc_sound hE x h hk)
      | false => exact wp_cond hc (vc_sound hE y h hk)
    · exact hk.elim
  | .block id c, Q, V, s, H, a, w, h, hk => by
    simp only [vc] at hk
    exact wp_block (wp_mono (vc_sound hE c h hk) gam_block)
  | .seq x y, Q, V, s, H, a, w, h, hk => by
    simp only [vc] at hk
    split at hk
    · refine wp_seq (wp_mono (vc_sound hE x h hk) (gam_then ?_))
      intro V s H a w h hk
      exact vc_sound hE y h hk
    · rename_i hh _
      obtain ⟨I, h1, h2⟩ := hk
      refine wp_seq (wp_mono (vc_sound hE x h h1) (gam_then ?_))
      intro V' s' H' a' w' h' hk'
      obtain ⟨V'', p, H'', hI, h''⟩ := toHead_sound h' hk'
      exact vc_sound hE y h'' (h2 p H'' hI)
  | .loop c, Q, V, s, H, a, w, h, hk => by
    simp only [vc] at hk
    split at hk
    · exact hk.elim
    · rename_i hh _
      obtain ⟨V0, p0, H0, hl, h0⟩ := toHead_sound h hk
      refine loopP_wp (fun p H a w => ∃ V, Rep C V (rebuild hh s p) H a w) ?_ hl ⟨V0, h0⟩
      rintro K p H a w ht ⟨V, hr⟩
      refine wp_mono (vc_sound hE c hr ht) (gam_then ?_)
      intro V' s' H' a' w' h' hk'
      obtain ⟨V'', p', H'', hK, h''⟩ := toHead_sound h' hk'
      exact ⟨p', H'', ⟨V'', h''⟩, hK⟩
  | .goto _, _, _, _, _, _, _, _, hk => by simp [vc] at hk
  | .scope _, _, _, _, _, _, _, _, hk => by simp [vc] at hk
  | .refuse _, _, _, _, _, _, _, _, hk => by simp [vc] at hk
  | .rangeFunc .., _, _, _, _, _, _, _, hk => by simp [vc] at hk

def resF (tmps : Array Value) : ResultVar → Sem Value
  | .tmp t => pure (tmps.getD t undef)
  | .cell a t => do loadVar t (← asAddr (tmps.getD a undef))
theorem resK_sound (h : Rep C V s H a w) : ∀ (l : List ResultVar) {K : List SV → Prop}, resK P s l K →
    ∃ xs ys, K xs ∧ xs.length = ys.length ∧ (∀ (i : Nat) (x : SV) (y : Value), xs[i]? = some x → ys[i]? = some y → x.rep V y) ∧ (l.mapM (resF a.tmps)).run P w = .ok ys w
  | [], K, hk => ⟨[], [], hk, rfl, by simp, by simp [Sem.run]⟩
  | .tmp t :: r, K, hk => by
    obtain ⟨xs, ys, h1, h2, h3, h4⟩ := resK_sound h r hk
    refine ⟨_, a.tmps.getD t undef :: ys, h1, by simp [h2], ?_, ?_⟩
    · intro i x y hx hy
      cases i with
      | zero => simp only [List.getElem?_cons_zero, Option.some.injEq] at hx hy; subst hx hy; exact h.get t
      | succ i => exact h3 i x y (by simpa using hx) (by simpa using hy)
    · rw [List.mapM_cons]
      simp only [Sem.run_bind, resF, Sem.run_pure, Result.andThen_ok, h4]
  | .cell t ty :: r, K, hk => by
    simp only [resK] at hk
    obtain ⟨x, v, hk, hx, hv⟩ := loadK_sound (P := P) h ty (.tmp t) hk
    obtain ⟨xs, ys, h1, h2, h3, h4⟩ := resK_sound h r hk
    refine ⟨_, v :: ys, h1, by simp [h2], ?_, ?_⟩
    · intro i x y hx' hy
      cases i with
      | zero => simp only [List.getElem?_cons_zero, Option.some.injEq] at hx' hy; subst hx' hy; exact hx
      | succ i => exact h3 i x y (by simpa using hx') (by simpa using hy)
    · have hv' : (resF a.tmps (.cell t ty)).run P w = .ok v w := by
        have e : a.eval (.tmp t) = a.tmps.getD t undef := rfl
        rw [e] at hv
        unfold resF
        simp only
        generalize a.tmps.getD t undef = u at hv
        unfold Instr.loadAt Instr.sureAddr at hv
        unfold asAddr
        cases u <;> try (simp [stuck, Sem.run_bind, Sem.run] at hv; done)
        rename_i o
        cases o with
        | none => simp [stuck, Sem.run_bind, Sem.run] at hv
        | some A => exact hv
      rw [List.mapM_cons]
      simp only [Sem.run_bind, Sem.run_pure, Result.andThen_ok, hv', h4]
theorem results_run {fn : Func} {tmps : Array Value} {w : World} {ys : List Value} (h : (fn.results.toList.mapM (resF tmps)).run P w = .ok ys w) :
    (results fn tmps).run P w = .ok (tupV ys) w := by
  have e : results fn tmps = (do let vs ← fn.results.mapM (resF tmps); pure (if h : vs.size = 1 then vs[0] else .tuple vs)) := rfl
  rw [e, Array.mapM_eq_mapM_toList]
  simp only [Sem.run_bind, Sem.run_map, h, Result.andThen_ok, Sem.run_pure]
  cases ys with
  | nil => rfl
  | cons y ys => cases ys with
    | nil => rfl
    | cons z ys => simp [tupV]
theorem rep_ends (h : Rep C V s H a w) : Step C.H0 C.w0 H w :=
  ⟨h.sub, h.os, h.tape, h.output, h.size, fun b hb e => (h.other b hb e).1, fun b hb e => (h.other b hb e).2⟩
theorem leaveR_sound (h : Rep C V s H a w) {fn : Func} {R : Ending → Heap → Prop} (hk : leaveR P fn R s H) :
    ∃ v, (results fn a.tmps).run P w = .ok v w ∧ ∃ H', Step C.H0 C.w0 H' w ∧ R (.returned v) H' := by
  unfold leaveR at hk
  obtain ⟨xs, ys, h1, h2, h3, h4⟩ := resK_sound h _ hk
  obtain ⟨s1, Hl, ls, h5, h6, -⟩ := lendK_sound xs ys s H h h2 h3 h1
  exact ⟨_, results_run h4, Hl, rep_ends h6, h5⟩
theorem lend_dfr (h : Rep C V s H a w) {f : FuncId} {sites : List Nat} (hd : s.dfr = [⟨f, sites⟩]) : Rep C V ⟨s.env, s.objs, []⟩ H { a with defers := [] } w ∧ a.defers = [{ target := .fn (.func f) #[], args := ((sites.map Cap.b).map (Cap.real V)).toArray }] :=
  ⟨{ env := h.env, len := h.len, dfr := rfl, sub := h.sub, objs := h.objs, priv := h.priv, dist := h.dist, os := h.os, tape := h.tape, output := h.output, size := h.size, other := h.other },
    by rw [h.dfr, hd]; simp only [List.map_cons, List.map_nil, ADef.real, List.map_map]; rfl⟩
theorem leaveK_sound (h : Rep C V s H a w) {fn : Func} {R : Ending → Heap → Prop} (hk : leaveK P fn R s H) :
    Leaves P fn a.tmps (fun e w' => ∃ H', Step C.H0 C.w0 H' w' ∧ R e H') a.defers .returning w := by
  unfold leaveK at hk
  split at hk
  · rename_i hd
    obtain ⟨v, h1, h2⟩ := leaveR_sound h hk
    rw [h.dfr, hd]
    exact ⟨v, h1, h2⟩
  · rename_i f sites hd
    obtain ⟨h1, h2⟩ := lend_dfr h hd
    obtain ⟨s1, Hl, ls, hk, h3, hL⟩ := lendCaps_sound _ _ _ h1 hk
    obtain ⟨hc, hk⟩ := hk
    rw [h2]
    refine ⟨by simp, _, _, f, ((sites.map Cap.b).map (Cap.real V)).toArray, rfl, ?_, ?_⟩
    · simp only [invoke]
      have e1 : ((sites.map Cap.b).map (Cap.real V)).toArray ++ (#[] : Array Value) = ((sites.map Cap.b).map (Cap.real V)).toArray := by apply Array.ext'; simp
      rw [e1]
      exact callable_run hc _
    · intro c cs hcm
      obtain ⟨e, u', w', fr, ⟨H', st, ⟨v, rfl⟩, hset, hb⟩, g2, g3, g4⟩ := hk w h3.sub c cs hcm
      refine ⟨_, u', w', fr, ?_, g2, g3, g4⟩
      obtain ⟨s'', H'', hk, h5⟩ := backK_sound ls s1 H' (rep_step h3 st) hL.ok hb
      obtain ⟨v, h6, h7⟩ := leaveR_sound h5 hk
      show Leaves P fn a.tmps _ [] (settle u') w'
      rw [hset]
      exact ⟨v, h6, h7⟩
  · exact hk.elim
theorem panK_sound (h : Rep C V s H a w) {fn : Func} {R : Ending → Heap → Prop} {ch : List PanicEntry} (hk : panK P fn R ch s H) :
    Leaves P fn a.tmps (fun e w' => ∃ H', Step C.H0 C.w0 H' w' ∧ R e H') a.defers (.panicking ch) w := by
  unfold panK at hk
  split at hk
  · rename_i hd
    rw [h.dfr, hd]
    exact ⟨H, rep_ends h, hk⟩
  · rename_i f sites hd
    obtain ⟨h1, h2⟩ := lend_dfr h hd
    obtain ⟨s1, Hl, ls, hk, h3, hL⟩ := lendCaps_sound _ _ _ h1 hk
    obtain ⟨hc, hk⟩ := hk
    rw [h2]
    refine ⟨by simp, _, _, f, ((sites.map Cap.b).map (Cap.real V)).toArray, rfl, ?_, ?_⟩
    · simp only [invoke]
      have e1 : ((sites.map Cap.b).map (Cap.real V)).toArray ++ (#[] : Array Value) = ((sites.map Cap.b).map (Cap.real V)).toArray := by apply Array.ext'; simp
      rw [e1]
      exact callable_run hc _
    · intro c cs hcm
      obtain ⟨e, u', w', fr, ⟨H', st, ⟨v, rfl⟩, hb⟩, g2, g3, g4⟩ := hk w h3.sub c cs hcm
      refine ⟨_, u', w', fr, ?_, g2, g3, g4⟩
      show Leaves P fn a.tmps _ [] (settle u') w'
      rcases hb with ⟨hset, hb⟩ | ⟨c', hset, hb⟩
      · obtain ⟨s'', H'', hk, h5⟩ := backK_sound ls s1 H' (rep_step h3 st) hL.ok hb
        obtain ⟨v, h6, h7⟩ := leaveR_sound h5 hk
        rw [hset]
        exact ⟨v, h6, h7⟩
      · rw [hset]
        exact ⟨H', rep_ends (rep_step h3 st), hb⟩
  · exact hk.elim
/-- The arguments as the function finds them. -/
def argsR : List SV → List Value → Prop
  | [], [] => True
  | x :: r, y :: l => (∀ V, x.rep V y) ∧ argsR r l
  | _, _ => False
theorem argsR_get : ∀ {l : List SV} {r : List Value}, argsR l r → l.length = r.length ∧ ∀ (V : Vl) (i : Nat) (x : SV) (y : Value), l[i]? = some x → r[i]? = some y → x.rep V y
  | [], [], _ => ⟨rfl, by simp⟩
  | x :: l, y :: r, h => by
    obtain ⟨h1, h2⟩ := argsR_get h.2
    refine ⟨by simp [h1], fun V i x' y' hx hy => ?_⟩
    cases i with
    | zero => simp at hx hy; subst hx hy; exact h.1 V
    | succ i => exact h2 V i x' y' (by simpa using hx) (by simpa using hy)
  | [], _ :: _, h => h.elim
  | _ :: _, [], h => h.elim
theorem badN_len : ∀ n, (badN n).length = n
  | 0 => rfl
  | n + 1 => by simp [badN, badN_len n]
theorem badN_get : ∀ (n i : Nat) (x : SV), (badN n)[i]? = some x → x = SV.c SC.bad
  | 0, i, x, h => by simp [badN] at h
  | n + 1, 0, x, h => by simp [badN] at h; exact h.symm
  | n + 1, i + 1, x, h => badN_get n i x (by simpa [badN] using h)
/-- A function's contract from what its body asks. -/
theorem spec_of_vc {f : FuncId} {fn : Func} {hs : Hints} {args : List SV} {vs : List Value} {H : Heap} {R : Ending → Heap → Prop} (hf : P.funcs[f]? = some fn) (hc : callable P f = true)
    (hE : ∀ t, memN hs.eqs t = true → EqOK P t) (ha : argsR args vs) (h : vcFun P hs fn args R H) : Meets P f vs H R := by
  refine ⟨hc, ?_⟩
  intro w hH
  unfold vcFun at h
  split at h
  · rename_i c hb
    obtain ⟨hlen, hargs⟩ := argsR_get ha
    refine calls_of_wp_defers hf hb ?_
    let C : Ctx := ⟨w, H⟩
    have hrep : Rep C ⟨fun _ => 0, fun _ => undef⟩ ⟨args ++ badN (fn.ntmps - args.length), [], []⟩ H { tmps := vs.toArray ++ Array.replicate (fn.ntmps - vs.toArray.size) undef, defers := [] } w := by
      refine { env := ?_, len := ?_, dfr := rfl, sub := hH, objs := by simp [look], priv := by simp [look], dist := by simp [look], os := rfl, tape := rfl, output := rfl, size := Nat.le_refl _, other := fun b _ e => ⟨rfl, e⟩ }
      · intro t x hx
        rw [nth_eq] at hx
        by_cases ht : t < args.length
        · rw [List.getElem?_append_left ht] at hx
          have ht' : t < vs.length := by omega
          refine hargs _ t x _ hx ?_
          rw [Array.getD_eq_getD_getElem?, Array.getElem?_append_left (by simpa using ht')]
          simp [ht']
        · rw [List.getElem?_append_right (by omega)] at hx
          have := badN_get _ _ _ hx
          subst this
          trivial
      · simp [badN_len]; omega
    refine wp_mono (vc_sound hE c hrep h) ?_
    rintro e a w' ⟨V, s, H', hr, hq⟩
    cases e with
    | ret => exact leaveK_sound hr hq
    | normal => exact leaveK_sound hr hq
    | panic ch => exact panK_sound hr hq
    | exit i => exact hq.elim
    | goto i => exact hq.elim
    | outgrown => exact hq.elim
  · exact h.elim
end
end Sx
