/- Calls: soundness. -/
import Derived.Test.YtekaopahienmgaaSxH
set_option linter.unusedVariables false
set_option linter.unusedSimpArgs false
namespace Sx
open Go
section
variable {P : Program} {C : Ctx} {V : Vl} {s : St} {H : Heap} {a : Act} {w : World}
/-! ### What a call hands back -/
theorem comp_fits {V : Vl} {t : TypeId} {ks : List SK} {l : List Seg} (hks : kinds P t = some ks) (hf : Fits ks l) : (mkComp (isAggT P t) l).rep V (compVal (mkComp (isAggT P t) l)) := by
  cases ha : isAggT P t with
  | true => exact ⟨_, rfl, fits_rep hf⟩
  | false =>
    obtain ⟨k1, rfl⟩ := kinds_one hks ha
    obtain ⟨y, rfl, h1⟩ := fits_one hf
    exact ⟨rfl, h1⟩
theorem exComps_sound {V : Vl} : ∀ {ts : List TypeId} {ks : List (Bool × List SK)} {K : List Comp → Prop}, compKinds P ts = some ks → exComps ks K → ∃ cs, K cs ∧ CompsRep V cs (cs.map compVal)
  | [], ks, K, h, hk => by
    simp [compKinds] at h
    subst h
    exact ⟨[], hk, rfl⟩
  | t :: r, ks, K, h, hk => by
    simp only [compKinds] at h
    split at h
    · rename_i ks1 l h1 h2
      cases h
      obtain ⟨sg, hk, hf⟩ := exSegs_fits hk
      obtain ⟨cs, hk, hr⟩ := exComps_sound (V := V) h2 hk
      exact ⟨_, hk, _, _, rfl, comp_fits h1 hf, hr⟩
    · cases h
theorem retK_sound {V : Vl} {t : TypeId} {e : Ending} {K : SV → Prop} (hk : retK P t e K) : ∃ v x, e = .returned v ∧ x.rep V v ∧ K x := by
  unfold retK at hk
  split at hk
  · split at hk
    · rename_i ks hks
      obtain ⟨cs, ⟨h1, h2⟩, hr⟩ := exComps_sound (V := V) hks hk
      exact ⟨_, .tup cs, h1, ⟨_, rfl, hr⟩, h2⟩
    · exact hk.elim
  · split at hk
    · rename_i ks hks
      obtain ⟨l, ⟨h1, h2⟩, hf⟩ := exSegs_fits hk
      refine ⟨_, _, h1, ?_, h2⟩
      cases ha : isAggT P t with
      | true => exact ⟨_, rfl, fits_rep hf⟩
      | false =>
        obtain ⟨k1, rfl⟩ := kinds_one hks ha
        obtain ⟨y, rfl, h1'⟩ := fits_one hf
        exact ⟨rfl, h1'⟩
    · exact hk.elim
def CallPost (C : Ctx) (o : Oper) (a : Act) (Kp : Option (St → List PanicEntry → Heap → Prop)) (K : St → Heap → Prop) : Ending → World → Prop
  | .returned v, w' => ∃ V s' H', K s' H' ∧ Rep C V s' H' (a.put o.dst v) w'
  | .panicked c, w' => ∃ kp V s' H', Kp = some kp ∧ kp s' c H' ∧ Rep C V s' H' a w'
  | .outgrown, _ => False
/-- What a call comes to. -/
def CallGoes (P : Program) (C : Ctx) (o : Oper) (a : Act) (w : World) (Kp : Option (St → List PanicEntry → Heap → Prop)) (K : St → Heap → Prop) : Prop :=
  ∃ f args, (execOp a.eval o).run P w = .ok (.enter f args) w ∧ Calls P f args w (CallPost C o a Kp K)
theorem callable_run {f : FuncId} (h : callable P f = true) (args : Array Value) : (callFunc f args).run P w = .ok (.enter f args) w := by
  unfold callable at h
  split at h
  · rename_i fn hf
    simp only [Bool.and_eq_true, bne_iff_ne, ne_eq] at h
    unfold callFunc
    simp only [Sem.run_bind, run_program, Result.andThen_ok, hf]
    rw [if_neg (by simpa using h.2), if_neg (by simp; exact Option.isSome_iff_ne_none.1 h.1)]
    rfl
  · cases h
theorem evs_rep (h : Rep C V s H a w) (args : List Operand) : (args.map (ev s)).length = (args.map a.eval).length ∧ ∀ (i : Nat) (x : SV) (y : Value), (args.map (ev s))[i]? = some x → (args.map a.eval)[i]? = some y → x.rep V y := by
  refine ⟨by simp, fun i x y hx hy => ?_⟩
  simp at hx hy
  obtain ⟨q, hq, rfl⟩ := hx
  obtain ⟨q', hq', rfl⟩ := hy
  rw [hq] at hq'; cases hq'
  exact h.ev q
theorem callK_sound (h : Rep C V s H a w) (o : Oper) {Kp : Option (St → List PanicEntry → Heap → Prop)} {K : St → Heap → Prop} (hk : callK P o s H Kp K) : CallGoes P C o a w Kp K := by
  unfold callK at hk
  split at hk
  · rename_i f args ats ho
    have post : ∀ (s1 : St) (Hl : Heap) (ls : List Lend), Rep C V s1 Hl a w → LentOK V ls → ∀ (e : Ending) (w' : World), (∃ H', Step Hl w H' w' ∧ callR P o s1 ls Kp K e H') → CallPost C o a Kp K e w' := by
      rintro s1 Hl ls hrep hok e w' ⟨H', hstep, hR⟩
      have hrep' := rep_step hrep hstep
      have good : (retK P o.type e fun x => backK P ls s1 H' fun s' H'' => K (s'.put o.dst x) H'') → CallPost C o a Kp K e w' := by
        intro hR
        obtain ⟨v, x, rfl, hx, hb⟩ := retK_sound (V := V) hR
        obtain ⟨s', H'', h1, h2⟩ := backK_sound ls s1 H' hrep' hok hb
        exact ⟨V, _, H'', h1, h2.put hx o.dst⟩
      unfold callR at hR
      cases Kp with
      | none => exact good hR
      | some kp =>
        rcases hR with hR | ⟨c, rfl, hR⟩
        · exact good hR
        · exact ⟨kp, V, s1, H', rfl, hR, hrep'⟩
    have hargs : (args.map a.eval) = (args.toList.map a.eval).toArray := by apply Array.ext'; simp
    split at hk
    · rename_i g
      obtain ⟨s1, Hl, ls, hk, hrep, hL⟩ := lendK_sound _ _ s H h (evs_rep h args.toList).1 (evs_rep h args.toList).2 hk
      obtain ⟨hc, hk⟩ := hk
      refine ⟨g, (args.toList.map a.eval).toArray, ?_, (hk w hrep.sub).mono (post _ _ _ hrep hL.ok)⟩
      unfold execOp
      rw [ho]
      simp only [resolve, Sem.run_bind, Act.eval, Deferred.ofValue, Sem.run_pure, Result.andThen_ok, invoke]
      rw [hargs]
      have e1 : (#[] : Array Value) ++ (args.toList.map a.eval).toArray ++ #[] = (args.toList.map a.eval).toArray := by apply Array.ext'; simp
      rw [e1]
      exact callable_run hc _
    · rename_i f' _
      obtain ⟨s1, H1, l1, hk, hrep1, hL1⟩ := lendV_sound h (h.ev f) hk
      have h1 : Rep C V ⟨s.env, s1.objs, s1.dfr⟩ H1 a w := by
        have := hrep1
        rw [← hL1.env]
        exact this
      have hev : (args.toList.map (ev s)) = args.toList.map (ev s1) := by
        refine List.map_congr_left fun x _ => ?_
        cases x <;> simp [ev, St.get, hL1.env]
      rw [hev] at hk
      obtain ⟨s2, Hl, ls, hk, hrep, hL⟩ := lendK_sound _ _ s1 H1 hrep1 (evs_rep hrep1 args.toList).1 (evs_rep hrep1 args.toList).2 hk
      generalize hfv : a.eval f = fv at hk
      unfold MeetsV at hk
      split at hk
      · rename_i g first cap
        obtain ⟨hc, hk⟩ := hk
        refine ⟨g, (first.toList ++ args.toList.map a.eval ++ cap.toList).toArray, ?_, (hk w hrep.sub).mono (post _ _ _ hrep (hL1.trans hL).ok)⟩
        unfold execOp
        rw [ho]
        simp only [resolve, Sem.run_bind, hfv, Deferred.ofValue, Sem.run_pure, Result.andThen_ok, invoke]
        have : first ++ Array.map a.eval args ++ cap = (first.toList ++ args.toList.map a.eval ++ cap.toList).toArray := by apply Array.ext'; simp
        rw [this]
        exact callable_run hc _
      · exact hk.elim
  · exact hk.elim
/-- A call that keeps what it is given. -/
theorem giveK_sound (h : Rep C V s H a w) (o : Oper) {O : List (Nat × AObj)} {G : Heap} {Kp : Option (St → List PanicEntry → Heap → Prop)} {K : St → Heap → Prop} (hk : giveK P O G o s H Kp K) : CallGoes P C o a w Kp K := by
  unfold giveK at hk
  split at hk
  · rename_i g args ats ho
    have hargs : (args.map a.eval) = (args.toList.map a.eval).toArray := by apply Array.ext'; simp
    obtain ⟨s1, Hl, ls, hk, hrep, hL⟩ := lendK_sound _ _ s H h (evs_rep h args.toList).1 (evs_rep h args.toList).2 hk
    obtain ⟨hc, hk⟩ := hk
    refine ⟨g, (args.toList.map a.eval).toArray, ?_, (hk w hrep.sub).mono ?_⟩
    · unfold execOp
      rw [ho]
      simp only [resolve, Sem.run_bind, Act.eval, Deferred.ofValue, Sem.run_pure, Result.andThen_ok, invoke]
      rw [hargs]
      have e1 : (#[] : Array Value) ++ (args.toList.map a.eval).toArray ++ #[] = (args.toList.map a.eval).toArray := by apply Array.ext'; simp
      rw [e1]
      exact callable_run hc _
    · rintro e w' ⟨H', hstep, hR⟩
      have hrep' := rep_step hrep hstep
      have good : (retK P o.type e fun x => K (s1.put o.dst x) H') → CallPost C o a Kp K e w' := by
        intro hR
        obtain ⟨v, x, rfl, hx, hb⟩ := retK_sound (V := V) hR
        exact ⟨V, _, H', hb, hrep'.put hx o.dst⟩
      unfold giveR at hR
      split at hR
      · cases Kp with
        | none => exact good hR.2
        | some kp =>
          rcases hR with hR | ⟨c, rfl, hR⟩
          · exact good hR.2
          · exact ⟨kp, V, s1, H', rfl, hR, hrep'⟩
      · exact hR.elim
  · exact hk.elim
end
end Sx
