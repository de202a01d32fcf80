/- Own texts, one behind the other: SxJ, SxM, SxN, SxK, SxO, SxFast, SxP. -/
import Derived.Test.YthhjnihfjbdeeaaZ2
set_option linter.unusedVariables false
set_option linter.unusedSimpArgs false
namespace Sx
open Go
set_option linter.unusedSectionVars false
variable [Dr]
section
variable {P : Program} {C : Ctx} {V : Vl} {s : St} {H : Heap} {a : Act} {w : World}

/-- Real states that an abstract condition speaks of. -/
def Gam (C : Ctx) (K : St → Heap → Prop) (a : Act) (w : World) : Prop := ∃ V s H, Rep C V s H a w ∧ K s H
def GamQ (C : Ctx) (Q : Exit → St → Heap → Prop) (e : Exit) (a : Act) (w : World) : Prop := ∃ V s H, Rep C V s H a w ∧ Q e s H
theorem rep_weaken (h : Rep C V s H a w) {s' : St} (hl : s'.env.length ≤ a.tmps.size) (he : ∀ t x, nth s'.env t = some x → x = .c .bad ∨ x = s.get t) (hd : s'.dfr = s.dfr)
    (ho : ∀ d o, look s'.objs d = some o → look s.objs d = some o) : Rep C V s' H a w :=
  { env := fun t x e => by
      rcases he t x e with rfl | rfl
      · trivial
      · exact h.get t
    len := hl, dfr := by rw [hd]; exact h.dfr, sub := h.sub, objs := fun d o e => h.objs d o (ho d o e), priv := fun d o b e => h.priv d o b (ho d o e),
    dist := fun d o d' o' b e e' => h.dist d o d' o' b (ho d o e) (ho d' o' e'), os := h.os, tape := h.tape, output := h.output, size := h.size, other := h.other }
theorem nth_restrict (keep : List Nat) : ∀ (l : List SV) (i t : Nat), nth (restrictEnv keep l i) t = (nth l t).map fun x => match memN keep (i + t) with | true => x | false => .c .bad
  | [], i, t => by simp [restrictEnv, nth]
  | x :: r, i, 0 => by
    simp only [restrictEnv, nth, Nat.add_zero, Option.map_some]
    cases memN keep i <;> rfl
  | x :: r, i, t + 1 => by
    simp only [restrictEnv, nth, nth_restrict keep r (i + 1) t]
    rw [show i + 1 + t = i + (t + 1) by omega]
theorem restrict_len (keep : List Nat) : ∀ (l : List SV) (i : Nat), (restrictEnv keep l i).length = l.length
  | [], _ => rfl
  | x :: r, i => by simp [restrictEnv, restrict_len keep r]
theorem rep_restrict (h : Rep C V s H a w) (keep : List Nat) : Rep C V ⟨restrictEnv keep s.env 0, s.objs, s.dfr⟩ H a w := by
  refine rep_weaken h (by rw [restrict_len]; exact h.len) ?_ rfl fun _ _ e => e
  intro t x e
  simp only [nth_restrict, Nat.zero_add] at e
  cases hn : nth s.env t with
  | none => rw [hn] at e; simp at e
  | some y =>
    rw [hn] at e
    simp only [Option.map_some, Option.some.injEq] at e
    split at e
    · subst e; right; unfold St.get; rw [hn]
    · subst e; left; rfl
theorem rep_pan (h : Rep C V s H a w) (pk : Option (List Nat)) : Rep C V (panSt pk s) H a w := by
  cases pk with
  | none => exact rep_weaken h (by simp [panSt]) (by simp [panSt, nth]) rfl (by simp [panSt, look])
  | some l => exact rep_restrict h l
theorem put_same {a : Act} {d : Nat} {y : Value} (e : a.tmps.getD d undef = y) : a.put (some d) y = a := by
  subst e
  unfold Act.put
  have : a.tmps.setIfInBounds d (a.tmps.getD d undef) = a.tmps := by
    apply Array.ext
    · simp
    · intro i hi1 hi2
      rw [Array.getElem_setIfInBounds]
      split
      · rename_i q
        subst q
        rw [Array.getD_eq_getD_getElem?, Array.getElem?_eq_getElem hi2]
        rfl
      · rfl
  simp only [this]
theorem pub_one {x : SC} {y : Value} (hd : x.rep V y) {s : St} {H : Heap} {K : Value → St → Heap → List Lend → Prop} (hk : lendC x s H K) : (SC.v y).rep V y := by
  refine ⟨rfl, ?_⟩
  unfold lendC at hk
  split at hk
  · obtain ⟨rfl, h⟩ := hd; exact h
  · obtain ⟨rfl, h⟩ := hd; exact h
  · obtain rfl := hd; rfl
  · obtain rfl := hd; rfl
  · exact hk.elim
/-- What is lent of a slot's value: the slot holds it. -/
theorem pub_lend (h : Rep C V s H a w) {d : Nat} {x : SC} (hx : s.get d = .c x) {K : Value → St → Heap → List Lend → Prop} (hk : lendC x s H K) :
    ∃ v s' H' ls, K v s' H' ls ∧ Rep C V (s'.set d (.c (.v v))) H' a w ∧ Rep C V s' H' a w ∧ LendsTo V s H s' H' ls ∧ SV.rep V (.c (.v v)) v ∧ a.tmps.getD d undef = v := by
  have hd := h.get d
  rw [hx] at hd
  have hd0 : x.rep V (a.tmps.getD d undef) := hd
  obtain ⟨s', H', ls, h1, h2, h3⟩ := lendC_sound h hd0 hk
  refine ⟨_, s', H', ls, h1, ?_, h2, h3, ?_, rfl⟩
  · have h4 := h2.put (x := .c (.v (a.tmps.getD d undef))) (y := a.tmps.getD d undef) (pub_one hd0 hk) (some d)
    rw [put_same rfl] at h4
    exact h4
  · exact pub_one hd0 hk
theorem pubBoxK_sound (h : Rep C V s H a w) {d : Nat} {K : St → Heap → Prop} (hk : pubBoxK d s H K) : Gam C K a w := by
  unfold pubBoxK at hk
  split at hk
  · rename_i x hx
    obtain ⟨v, s', H', ls, h1, h2, -⟩ := pub_lend h hx hk
    exact ⟨V, _, H', h2, h1⟩
  · exact hk.elim
theorem run_subEntry (x y c : Int) (hx : 0 ≤ x) (hy : 0 ≤ y) (hy2 : y ≤ 18446744073709551615) (hc0 : 0 ≤ c) (hc : c ≤ 1) (w : World) :
    (subEntry #[.int .u64 x, .int .u64 y, .int .u64 c]).run P w =
      .ok (.tuple #[.int .u64 ((x + 18446744073709551616 - y - c) % 18446744073709551616), .int .u64 (if x < y + c then 1 else 0)]) w := by
  obtain ⟨X, rfl⟩ := Int.eq_ofNat_of_zero_le hx
  obtain ⟨Y, rfl⟩ := Int.eq_ofNat_of_zero_le hy
  have key : ∀ k : Nat, k ≤ 1 → (subEntry #[.int .u64 (X : Int), .int .u64 (Y : Int), .int .u64 (k : Int)]).run P w =
      .ok (Extern.MathBitsCarry.pair ((X + Extern.MathBitsCarry.m64 - Y - k) % Extern.MathBitsCarry.m64) (if X < Y + k then 1 else 0)) w := by
    intro k hk
    have : k = 0 ∨ k = 1 := by omega
    rcases this with rfl | rfl <;> rfl
  obtain ⟨k, rfl⟩ := Int.eq_ofNat_of_zero_le hc0
  rw [key k (by omega)]
  have hm : Extern.MathBitsCarry.m64 = 18446744073709551616 := rfl
  simp only [Extern.MathBitsCarry.pair, hm]
  have e1 : Int.ofNat ((X + 18446744073709551616 - Y - k) % 18446744073709551616) = ((X : Int) + 18446744073709551616 - Y - k) % 18446744073709551616 := by
    show (((X + 18446744073709551616 - Y - k) % 18446744073709551616 : Nat) : Int) = _
    omega
  have e2 : Int.ofNat (if X < Y + k then 1 else 0) = if (X : Int) < (Y : Int) + (k : Int) then 1 else 0 := by
    by_cases q : X < Y + k
    · rw [if_pos q, if_pos (by omega)]; rfl
    · rw [if_neg q, if_neg (by omega)]; rfl
  rw [e1, e2]
theorem extOf_call {hs : Hints} {o : Oper} (h : isCall o.op = false) : extOf hs o = none := by
  unfold extOf
  split
  · rename_i ho; rw [ho] at h; cases h
  · rfl
theorem extK_sound (h : Rep C V s H a w) {hs : Hints} {o : Oper} {g : Nat} {x y c : Operand} (ho : extOf hs o = some (g, x, y, c)) {K : SV → Prop} (hk : extK P g (ev s x) (ev s y) (ev s c) K) :
    ∃ z r, K z ∧ z.rep V r ∧ (execOp a.eval o).run P w = .ok (.value r) w := by
  unfold extOf at ho
  split at ho
  · rename_i g' args ats hop
    split at ho
    · rename_i x' y' c' _ hargs
      cases ho
      have hx := h.ev x
      have hy := h.ev y
      have hc := h.ev c
      unfold extK at hk
      split at hk
      · rename_i q1 q2 q3 va vb vc h1 h2 h3
        rw [h1] at hx; rw [h2] at hy; rw [h3] at hc
        obtain ⟨hx, -⟩ := hx
        obtain ⟨hy, -⟩ := hy
        obtain ⟨hc, -⟩ := hc
        obtain ⟨r1, r2, hcar, hk⟩ := hk
        have ea : args.map a.eval = #[.int .u64 va, .int .u64 vb, .int .u64 vc] := by
          apply Array.ext'
          rw [Array.toList_map, hargs]
          simp [hx, hy, hc]
        have e0 : (execOp a.eval o).run P w = (callFunc g #[.int .u64 va, .int .u64 vb, .int .u64 vc]).run P w := by
          unfold execOp
          rw [hop]
          simp only [resolve, Sem.run_bind, Act.eval, Deferred.ofValue, Sem.run_pure, Result.andThen_ok, invoke]
          rw [show args.map a.eval = _ from ea]
          rfl
        refine ⟨_, .tuple #[.int .u64 r1, .int .u64 r2], hk, ?_, ?_⟩
        · exact ⟨_, rfl, _, _, rfl, ⟨rfl, rfl⟩, _, _, rfl, ⟨rfl, rfl⟩, rfl⟩
        · rw [e0]
          rcases hcar with ⟨⟨fn, hf, hn, hb, hnx, he⟩, b1, b2, b3, b4, rfl, rfl⟩ | ⟨⟨fn, hf, hn, hb, hnx, he⟩, b1, b2, b3, b4, b5, rfl, rfl⟩
          · rw [run_callFunc_extern hf hn hb hnx he, run_add64 va vb vc b1 b2 b3 b4]
            rfl
          · rw [run_callFunc_extern hf hn hb hnx he, run_subEntry va vb vc b1 b2 b3 b4 b5]
            rfl
      · exact hk.elim
    · cases ho
  · cases ho
theorem opD_sound (h : Rep C V s H a w) {hs : Hints} (hE : ∀ t, memN hs.eqs t = true → EqOK P t)
    {Q : Exit → St → Heap → Prop} {o : Oper} {K : St → Heap → Prop} (hk : opD P hs Q o s H K) : wpX P o a w (Gam C K) (GamQ C Q) := by
  unfold wpX
  unfold opD at hk
  split at hk
  · obtain ⟨z, r, h1, h2, h3⟩ := valK_sound h (cfg := ⟨hs.eqs⟩) hE o hk
    rw [h3, uponX_value]
    exact ⟨V, _, H, h.put h2 o.dst, h1⟩
  · split at hk
    · obtain ⟨V', s', y, w', h1, h2, h3 | ⟨h3, rfl⟩⟩ := objK_sound h (heap_refl H) o hk
      · rw [h3, uponX_value]; exact ⟨V', s', H, h2, h1⟩
      · rw [h3, uponX_skip]; exact ⟨V', s', H, h2, h1⟩
    · obtain ⟨V', s', y, w', h1, h2, h3 | ⟨h3, rfl⟩⟩ := objK_sound h (heap_refl H) o hk
      · rw [h3, uponX_value]; exact pubBoxK_sound h2 h1
      · rw [h3, uponX_skip]; exact pubBoxK_sound h2 h1
  · obtain ⟨z, r, h1, h2, h3⟩ := readK_sound h (heap_refl H) o hk
    rw [h3, uponX_value]
    exact ⟨V, _, H, h.put h2 o.dst, h1⟩
  · obtain ⟨V', s', H', y, w', h1, h2, h3 | ⟨h3, rfl⟩⟩ := effK_sound h o hk
    · rw [h3, uponX_value]; exact ⟨V', s', H', h2, h1⟩
    · rw [h3, uponX_skip]; exact ⟨V', s', H', h2, h1⟩
  · split at hk
    · obtain ⟨nx, h1, h2⟩ := giveK_sound h o hk
      rw [h1]
      refine uponX_goes (h2.mono ?_)
      intro e w' he
      cases e with
      | returned v =>
        obtain ⟨V', s', H', h3, h4⟩ := he
        exact ⟨V', s', H', h4, h3⟩
      | panicked c =>
        obtain ⟨kp, V', s', H', h3, h4, h5⟩ := he
        unfold panicQ at h3
        split at h3
        · cases h3
          exact ⟨V', _, H', rep_pan h5 _, h4⟩
        · cases h3
      | outgrown => exact he.elim
    · split at hk
      · obtain ⟨nx, h1, h2⟩ := callK_sound h o hk
        rw [h1]
        refine uponX_goes (h2.mono ?_)
        intro e w' he
        cases e with
        | returned v =>
          obtain ⟨V', s', H', h3, h4⟩ := he
          exact ⟨V', s', H', h4, h3⟩
        | panicked c =>
          obtain ⟨kp, V', s', H', h3, h4, h5⟩ := he
          unfold panicQ at h3
          split at h3
          · cases h3
            exact ⟨V', _, H', rep_pan h5 _, h4⟩
          · cases h3
        | outgrown => exact he.elim
      · obtain ⟨nx, h1, h2⟩ := callK_sound h o hk
        rw [h1]
        refine uponX_goes (h2.mono ?_)
        intro e w' he
        cases e with
        | returned v =>
          obtain ⟨V', s', H', h3, h4⟩ := he
          obtain ⟨V2, s2, H2, h6, h7⟩ := adoptK_sound h4 h3
          exact ⟨V2, s2, H2, h7, h6⟩
        | panicked c =>
          obtain ⟨kp, V', s', H', h3, h4, h5⟩ := he
          unfold panicQ at h3
          split at h3
          · cases h3
            exact ⟨V', _, H', rep_pan h5 _, h4⟩
          · cases h3
        | outgrown => exact he.elim
  · split at hk
    · rename_i x ho
      have hx := h.ev x
      split at hk
      · rename_i t v hv
        rw [hv] at hx
        obtain ⟨hx, -⟩ := hx
        have : (execOp a.eval o).run P w = .halt (.panic (.iface t v)) w := by
          unfold execOp
          rw [ho]
          simp only [hx, Instr.panic, goPanic, Sem.run_bind, Sem.run]
          rfl
        rw [this, uponX_panic]
        exact ⟨V, _, H, rep_pan h _, hk⟩
      · exact hk.elim
    · exact hk.elim
  · split at hk
    · rename_i f args ats ho
      split at hk
      · rename_i l hl hc
        have hcap := caps_rep h args.toList (sites_caps _ hl)
        have : (execOp a.eval o).run P w = .ok (.defer { target := .fn (.func f) #[], args := args.map a.eval }) w := by
          unfold execOp
          rw [ho]
          simp only [resolve, Sem.run_bind, Act.eval, Deferred.ofValue, Sem.run_pure, Result.andThen_ok]
          simp
        rw [this, uponX_defer]
        have hargs : args.map a.eval = (l.map fun k => Value.pointer (some ⟨V.blk k, 0, none⟩)).toArray := by
          apply Array.ext'
          simp only [Array.toList_map, hcap, List.map_map]
          rfl
        have h1 : Rep C V ⟨s.env, s.objs, ⟨f, l⟩ :: s.dfr⟩ H { a with defers := { target := .fn (.func f) #[], args := args.map a.eval } :: a.defers } w :=
          { env := h.env, len := h.len, dfr := h.dfr.cons ⟨f, l⟩ (by simp only [ADef.real, hargs]), sub := h.sub, objs := h.objs, priv := h.priv, dist := h.dist, os := h.os, tape := h.tape, output := h.output, size := h.size, other := h.other }
        exact ⟨V, _, H, h1.put (x := .c .bad) trivial o.dst, hk⟩
      · exact hk.elim
    · exact hk.elim
  · exact hk.elim
theorem ovlOf_call {hs : Hints} {o : Oper} (h : isCall o.op = false) : ovlOf hs o = none := by
  unfold ovlOf
  split
  · rename_i ho; rw [ho] at h; cases h
  · rfl
theorem run_overlaps {t e : TypeId} {rs : Array TypeId} {sz : Nat} (hu : P.underlying t = some (.slice e)) (hz : sizeT P e = some sz) (hsub : H.sub w) {a b : Option Addr} {n m c d : Nat} (hk : ApartK H a b n m) :
    (Extern.SlicesOverlaps.overlaps #[t, t] rs #[.slice a n c, .slice b m d]).run P w = .ok (.bool false) w := by
  obtain ⟨i, hi, rfl⟩ := sizeT_eq hz
  have hzr : (Go.sizeOf e).run P w = .ok i.size w := run_sizeT hi
  have e1 : Sem.run P (Extern.SlicesOverlaps.overlaps #[t, t] rs #[.slice a n c, .slice b m d]) w = Sem.run P (α := Value) (do
    let some t := (#[t, t] : Array TypeId)[0]? | stuck "slices.overlaps: no parameter types"
    let .slice elem ← underlying t | stuck "slices.overlaps: slice type expected"
    let size ← sizeOf elem
    match (a : Option Addr), (b : Option Addr) with
    | some a, some b =>
      if n = 0 ∨ m = 0 ∨ size = 0 then pure (Value.bool false)
      else if a.block != b.block && (← frozen a) && (← frozen b) then unsupported .addressObserved
      else do
        if a.block != b.block then do
          noView a; noView b
          if ← mayBeOne a b then return Value.bool ((← choose (.extern "sameAddr.stringBytes" 2)) == 1)
        pure (Value.bool (a.block == b.block && a.off < b.off + m * size && b.off < a.off + n * size))
    | _, _ => pure (Value.bool false)) w := rfl
  rw [e1]
  by_cases hz0 : n = 0 ∨ m = 0 ∨ i.size = 0
  · cases a <;> cases b <;> simp [run_underlying hu, hzr, hz0]
  rcases hk with rfl | rfl | h1 | h1 | ⟨A, B, c1, d1, t1, u1, rfl, rfl, hne, hA, hB, hd⟩
  · simp [run_underlying hu, hzr]
  · cases a <;> simp [run_underlying hu, hzr]
  · exact absurd (.inl h1) hz0
  · exact absurd (.inr (.inl h1)) hz0
  have hwA := hsub _ _ hA
  have hwB := hsub _ _ hB
  have hnb : (A.block != B.block) = true := by simpa using hne
  have hnb' : (A.block == B.block) = false := by simpa using hne
  have hsa : w.shape? A.block = some (t1, c1.size) := by simp [World.shape?, hwA]
  have hsb : w.shape? B.block = some (u1, d1.size) := by simp [World.shape?, hwB]
  have hfa : w.frozen? A = false := by simp [World.frozen?, hwA]
  have hfe : w.frozen? { block := A.block, off := c1.size } = false := by simp [World.frozen?, hwA]
  cases hk : d1.size with
  | zero => exact absurd hk hd
  | succ kB =>
    rw [hk] at hsb
    simp [run_underlying hu, hzr, hz0, hnb, hnb', frozen, noView, viewAt, mayBeOne, stringish, shape, Sem.run, hsa, hsb, hfa, hfe]
theorem ovlK_sound (h : Rep C V s H a w) {hs : Hints} {o : Oper} {g : Nat} {x y : Operand} (ho : ovlOf hs o = some (g, x, y)) {K : SV → Prop} (hk : ovlK P g (ev s x) (ev s y) H K) :
    ∃ z r, K z ∧ z.rep V r ∧ (execOp a.eval o).run P w = .ok (.value r) w := by
  unfold ovlOf at ho
  split at ho
  · rename_i g' args ats hop
    split at ho
    · rename_i x' y' _ hargs
      cases ho
      have hx := h.ev x
      have hy := h.ev y
      unfold ovlK at hk
      split at hk
      · rename_i a1 n c b1 m d h1 h2
        rw [h1] at hx; rw [h2] at hy
        obtain ⟨hx, -⟩ := hx
        obtain ⟨hy, -⟩ := hy
        obtain ⟨⟨t, e, rs, sz, ⟨fn, hf, hn, hb, hnx, he⟩, hu, hz⟩, hap, hk⟩ := hk
        have ea : args.map a.eval = #[.slice a1 n c, .slice b1 m d] := by
          apply Array.ext'
          rw [Array.toList_map, hargs]
          simp [hx, hy]
        refine ⟨_, .bool false, hk, ⟨rfl, rfl⟩, ?_⟩
        unfold execOp
        rw [hop]
        simp only [resolve, Sem.run_bind, Act.eval, Deferred.ofValue, Sem.run_pure, Result.andThen_ok, invoke]
        rw [show args.map a.eval = _ from ea]
        show (callFunc g #[.slice a1 n c, .slice b1 m d]).run P w = _
        rw [run_callFunc_extern hf hn hb hnx he, run_overlaps hu hz h.sub hap]
        rfl
      · exact hk.elim
    · cases ho
  · cases ho
theorem opC_sound (h : Rep C V s H a w) {hs : Hints} (hE : ∀ t, memN hs.eqs t = true → EqOK P t)
    {Q : Exit → St → Heap → Prop} {o : Oper} {K : St → Heap → Prop} (hk : opC P hs Q o s H K) : wpX P o a w (Gam C K) (GamQ C Q) := by
  unfold opC at hk
  split at hk
  · rename_i ho
    obtain ⟨z, r, h1, h2, h3⟩ := extK_sound h ho hk
    unfold wpX
    rw [h3, uponX_value]
    exact ⟨V, _, H, h.put h2 o.dst, h1⟩
  · split at hk
    · rename_i ho
      obtain ⟨z, r, h1, h2, h3⟩ := ovlK_sound h ho hk
      unfold wpX
      rw [h3, uponX_value]
      exact ⟨V, _, H, h.put h2 o.dst, h1⟩
    · exact opD_sound h hE hk
theorem inpK_sound (h : Rep C V s H a w) {hs : Hints} {o : Oper} {x y : Operand} {sz : Nat} (ho : inpOf P hs o = some (x, y, sz)) {K : St → Heap → Prop} (hk : inpK sz (ev s x) (ev s y) o.dst s H K) :
    ∃ V' s' H' v w', K s' H' ∧ Rep C V' s' H' (a.put o.dst v) w' ∧ (execOp a.eval o).run P w = .ok (.value v) w' := by
  unfold inpOf at ho
  split at ho
  · rename_i args ats d hop hd
    split at ho
    · rename_i x' y' t t2 _ hargs hats
      split at ho
      · rename_i e sz' e2 he hu2
        cases ho
        have hx := h.ev x
        have hy := h.ev y
        unfold inpK at hk
        split at hk
        · rename_i al n c a2 m c2 hx1 hy1
          rw [hx1] at hx
          rw [hy1] at hy
          obtain ⟨hx, -⟩ := hx
          obtain ⟨hy, -⟩ := hy
          obtain ⟨hroom, es2, hsl, hk⟩ := hk
          obtain ⟨hu, i, hi, rfl⟩ := sliceElem_eq he
          obtain ⟨⟨xb, xc, hv⟩, hel2, hfc, hon2⟩ := src_real (P := P) h.sub hsl
          have hm : es2.length = m := by cases hv; rfl
          have hone : ∀ x ∈ es2.flatten, one x = true := by
            intro x hx
            obtain ⟨e, h1, h2⟩ := List.mem_flatten.1 hx
            exact hon2 e h1 x h2
          subst hm
          have e1 : ats = #[t, t2] := by apply Array.ext'; simpa using hats
          have e2 : args = #[x, y] := by apply Array.ext'; simpa using hargs
          subst e1; subst e2
          have run0 : (Builtin.append_ #[t, t2] o.type #[.slice al n c, .slice a2 es2.length c2]).run P w =
              (match al with
                | some a => (do storeCells (a.add (n * i.size)) es2.flatten; pure (.slice al (n + es2.length) c) : Sem Value)
                | none => pure (.slice al (n + es2.length) c)).run P w := by
            simp only [Builtin.append_, List.getElem?_toArray, List.getElem?_cons_zero, List.getElem?_cons_succ, Sem.run_bind, run_underlying hu, Result.andThen_ok, run_sizeT hi, run_underlying hu2, Sem.run_pure,
              Bool.false_eq_true, if_false, Builtin.lenOf, Bool.not_false, if_true]
            rw [if_pos hroom]
            simp only [Sem.run_bind, hfc, Result.andThen_ok]
            cases al <;> rfl
          have exec : ∀ w', (Builtin.append_ #[t, t2] o.type #[.slice al n c, .slice a2 es2.length c2]).run P w = .ok (.slice al (n + es2.length) c) w' →
              (execOp a.eval o).run P w = .ok (.value (.slice al (n + es2.length) c)) w' := fun w' hr => by
            unfold execOp
            rw [hop]
            simp only [resolve, Sem.run_bind, Sem.run_pure, Result.andThen_ok, invoke, builtin, List.map_toArray, List.map_cons, List.map_nil, hx, hy]
            rw [hr]
            rfl
          rcases hk with ⟨rfl, hK⟩ | ⟨A, cs, ty, rfl, ⟨hb, hs, hle⟩, hK⟩
          · refine ⟨V, _, _, .slice al (n + 0) c, w, hK, h.put (x := .c (.v (.slice al (n + 0) c))) ⟨rfl, rfl⟩ o.dst, exec _ ?_⟩
            rw [run0]
            cases al <;> simp [storeCells]
          · have hblk := h.sub _ _ hb
            have hA : A = ⟨A.block, A.off, none⟩ := by cases A; simp_all
            refine ⟨V, _, _, _, _, hK, (rep_pub h (.inl ⟨_, hb⟩) (setB_only _ _) (setB_at hblk)).put (x := .c (.v (.slice (some A) (n + es2.length) c))) ⟨rfl, rfl⟩ o.dst, exec _ ?_⟩
            rw [run0]
            have hst := storeCells_run (P := P) (b := A.block) (off := A.off + n * i.size) es2.flatten 0 w hblk (by rw [flatten_len hel2]; omega) hone
            have e3 : A.add (n * i.size) = ⟨A.block, A.off + n * i.size, none⟩ := by rw [add_spot hs]
            simp only [Sem.run_bind, e3]
            rw [hst]
            simp only [Result.andThen_ok, Sem.run_pure, Nat.add_zero]
        · exact hk.elim
      · cases ho
    · cases ho
  · cases ho
/-- What an append takes. -/
structure SrcX (P : Program) (t2 : TypeId) (v : Value) (sz by_ : Nat) (z : List Value) (w : World) (es2 : List (List Value)) : Prop where
  el : ∀ e ∈ es2, e.length = sz
  on : ∀ e ∈ es2, ∀ x ∈ e, one x = true
  kind : ((∃ e2, P.underlying t2 = some (.slice e2)) ∧ ∀ w' : World, w'.heap = w.heap → SrcRep P w' v sz es2) ∨
    (∃ k ik n, P.underlying t2 = some (.int k) ∧ v = .int ik n ∧ 0 ≤ n ∧ n * (by_ : Int) ≤ roomMax ∧ es2 = List.replicate n.toNat z) ∨
    ∃ b, P.underlying t2 = some .string ∧ v = .string b ∧ es2 = b.data.toList.map fun x => [.int .u8 (x.toNat : Int)]
theorem asrcK_sound (h : Rep C V s H a w) {t2 : TypeId} {sz by_ : Nat} {z : List Value} {y : Operand} {K : List (List Value) → Prop} (hzl : z.length = sz) (hzo : ∀ x ∈ z, one x = true) (hk : asrcK P t2 sz by_ z (ev s y) H K) : ∃ es2, SrcX P t2 (a.eval y) sz by_ z w es2 ∧ K es2 := by
  have hy := h.ev y
  unfold asrcK at hk
  split at hk
  · rename_i e2 a2 m c2 hu2 hy1
    rw [hy1] at hy
    obtain ⟨hy, -⟩ := hy
    obtain ⟨es, hsl, hk⟩ := hk
    have hs := src_real (P := P) h.sub hsl
    refine ⟨es, ⟨hs.el, hs.on, .inl ⟨⟨_, hu2⟩, fun w' e => ?_⟩⟩, hk⟩
    rw [hy]
    exact src_real (P := P) (sub_heap e h.sub) hsl
  · rename_i ik k ik' n hu2 hy1
    rw [hy1] at hy
    obtain ⟨hy, -⟩ := hy
    obtain ⟨⟨h0, h1⟩, hk⟩ := hk
    exact ⟨_, ⟨fun e he => by rw [List.eq_of_mem_replicate he]; exact hzl, fun e he => by rw [List.eq_of_mem_replicate he]; exact hzo, .inr (.inl ⟨_, _, _, hu2, hy, h0, h1, rfl⟩)⟩, hk⟩
  · rename_i b hu2 hy1
    rw [hy1] at hy
    obtain ⟨hy, -⟩ := hy
    split at hk
    · rename_i hsz
      have := nbt hsz
      refine ⟨_, ⟨fun e he => ?_, fun e he => ?_, .inr (.inr ⟨b, hu2, hy, rfl⟩)⟩, hk⟩
      · obtain ⟨z, _, rfl⟩ := List.mem_map.1 he
        rw [this]; rfl
      · obtain ⟨z, _, rfl⟩ := List.mem_map.1 he
        intro x hx; simp at hx; subst hx; rfl
    · exact hk.elim
  · exact hk.elim
theorem append_any {t t2 e : TypeId} {i : TypeInfo} {z : Value} (hu : P.underlying t = some (.slice e)) (hi : P.info? e = some i) (hz : i.zero = some z) (hzs : z.cells.size = i.size)
    {al : Option Addr} {c : Nat} {v : Value} {es es2 : List (List Value)} (hb : ∀ w' : World, w'.heap = w.heap → SrcRep P w' (.slice al es.length c) i.size es) (hx : SrcX P t2 v i.size i.bytes z.cells.toList w es2) (hby : 0 < i.bytes) (rt : TypeId) :
    (es.length + es2.length ≤ c → (Builtin.append_ #[t, t2] rt #[.slice al es.length c, v]).run P w = (match al with
      | some a => (do storeCells (a.add (es.length * i.size)) es2.flatten; pure (.slice al (es.length + es2.length) c) : Sem Value)
      | none => pure (.slice al (es.length + es2.length) c)).run P w) ∧
    (c < es.length + es2.length → (es.length + es2.length) * i.bytes ≤ roomMax → ∃ cap' cs, es.length + es2.length ≤ cap' ∧ cap' * i.size ≤ cs.size ∧ cs.toList.take ((es.length + es2.length) * i.size) = (es ++ es2).flatten ∧
      (Builtin.append_ #[t, t2] rt #[.slice al es.length c, v]).run P w = .ok (.slice (some ⟨w.heap.size, 0, none⟩) (es.length + es2.length) cap') { w with drawn := w.drawn + 1, heap := w.heap.push (.cells cs e) }) := by
  have hbi : ∀ w : World, (typeInfo e).run P w = .ok i w := fun w => by simp [typeInfo, hi]
  have hel := (hb w rfl).el
  -- what is appended, cells
  have happ : ((∃ k, P.underlying t2 = some (.int k)) ∧ ∃ ik n, v = .int ik n ∧ 0 ≤ n ∧ n * (i.bytes : Int) ≤ roomMax ∧ es2 = List.replicate n.toNat z.cells.toList) ∨
      (((∃ e2, P.underlying t2 = some (.slice e2)) ∨ P.underlying t2 = some .string) ∧ (∀ w : World, (Builtin.lenOf v).run P w = .ok es2.length w) ∧ ∀ w' : World, w'.heap = w.heap → (Builtin.firstCells i.size es2.length v).run P w' = .ok es2.flatten.toArray w') := by
    rcases hx.kind with ⟨h1, h2⟩ | ⟨k, ik, n, h1, h2, h3, h4, h5⟩ | ⟨b, h1, h2, h3⟩
    · refine .inr ⟨.inl h1, ?_, fun w' e => (h2 w' e).run⟩
      obtain ⟨xb, xc, e⟩ := (h2 w rfl).len
      subst e
      exact fun w => rfl
    · exact .inl ⟨⟨_, h1⟩, ik, n, h2, h3, h4, h5⟩
    · refine .inr ⟨.inr h1, ?_, fun w' e => ?_⟩
      · subst h2; subst h3; intro w; simp [Builtin.lenOf]
      · subst h2; subst h3
        rw [flat_one]
        simp only [Builtin.firstCells, Sem.run_pure]
        congr 1
        apply Array.ext'
        simp only [Array.toList_map]
        congr 1
        rw [ByteArray.data_extract]
        simp
        exact List.take_of_length_le (Nat.le_refl _)
  have hq : (choose (.appendCap (es.length + es2.length) c e)).run P w = .ok (es.length + es2.length + w.tape w.drawn (.appendCap (es.length + es2.length) c e) % (2 ^ 63 - (es.length + es2.length))) { w with drawn := w.drawn + 1 } := rfl
  generalize hg : es.length + es2.length + w.tape w.drawn (.appendCap (es.length + es2.length) c e) % (2 ^ 63 - (es.length + es2.length)) = nc at hq
  have hnc : es.length + es2.length ≤ nc := by omega
  have hn2 : c < es.length + es2.length → (es.length + es2.length) * i.bytes ≤ roomMax → Builtin.nextslicecap (es.length + es2.length) c * i.bytes ≤ 2 ^ 48 := fun hc hroom => by
    have h1 := nextcap_le (need := es.length + es2.length) (cap := c) (by omega)
    have h2 : Builtin.nextslicecap (es.length + es2.length) c * i.bytes ≤ 2 * (es.length + es2.length) * i.bytes := Nat.mul_le_mul_right _ h1
    unfold roomMax at hroom
    rw [Nat.mul_assoc] at h2
    omega
  have hn3 : (es.length + es2.length) * i.bytes ≤ roomMax → ¬ (((es.length + es2.length : Nat) : Int) > IntKind.i64.max) := fun hroom => by
    have : es.length + es2.length ≤ (es.length + es2.length) * i.bytes := Nat.le_mul_of_pos_right _ hby
    unfold roomMax at hroom
    have : IntKind.i64.max = 9223372036854775807 := by decide
    omega
  have hold : (Builtin.firstCells i.size es.length (.slice al es.length c)).run P { w with drawn := w.drawn + 1 } = .ok es.flatten.toArray { w with drawn := w.drawn + 1 } := (hb { w with drawn := w.drawn + 1 } rfl).run
  have fin : ∃ cs : Array Value, cs = es.flatten.toArray ++ es2.flatten.toArray ++ Builtin.zeroCells z.cells (nc - (es.length + es2.length)) ∧ nc * i.size ≤ cs.size ∧ cs.toList.take ((es.length + es2.length) * i.size) = (es ++ es2).flatten := by
    refine ⟨_, rfl, ?_, ?_⟩
    · simp only [Array.size_append, List.size_toArray, flatten_len hel, flatten_len hx.el, Builtin.zeroCells, Array.size_map, Array.size_range, hzs]
      rw [← Nat.add_mul, ← Nat.add_mul]
      exact Nat.mul_le_mul_right _ (by omega)
    · simp only [Array.toList_append, List.flatten_append]
      exact List.take_left' (by simp [flatten_len hel, flatten_len hx.el, Nat.add_mul])
  obtain ⟨cs, hcs, f1, f2⟩ := fin
  rcases happ with ⟨⟨ku, hu2⟩, ik, n, rfl, h0, h1, he2⟩ | ⟨hu2, hl, hf⟩
  · have h1' : n ≤ roomMax := by
      have e : n * 1 ≤ n * (i.bytes : Int) := Int.mul_le_mul_of_nonneg_left (show (1 : Int) ≤ (i.bytes : Int) by omega) h0
      omega
    have hw : IntKind.i64.wrap n = n := by rw [IntKind.wrap_i64]; unfold roomMax at h1'; omega
    have hai : ∀ w : World, (asInt (.int ik n)).run P w = .ok n w := fun w => by simp [asInt, asIntOf]
    have hel2 : es2.length = n.toNat := by rw [he2, List.length_replicate]
    have hap : ∀ w : World, (if n.toNat * i.size = 0 then (pure #[] : Sem (Array Value)) else do pure (Builtin.zeroCells (← zeroValue e).cells n.toNat)).run P w = .ok es2.flatten.toArray w := fun w => by
      have e9 : es2.flatten.toArray = Builtin.zeroCells z.cells n.toNat := by
        rw [he2]
        apply Array.ext'
        rw [Builtin.zeroCells, zeros_list]
      split
      · rename_i q
        rw [e9]
        have : Builtin.zeroCells z.cells n.toNat = #[] := by
          rw [← Array.size_eq_zero_iff]
          simp only [Builtin.zeroCells, Array.size_map, Array.size_range, hzs, q]
        rw [this]
        rfl
      · simp only [Sem.run_bind, run_zero hi hz, Result.andThen_ok, Sem.run_pure, e9]
    have hA : ¬ (n < 0) := by omega
    have hB : ¬ (n * (i.bytes : Int) > 2 ^ 48) := by unfold roomMax at h1; omega
    refine ⟨fun hc => ?_, fun hc hroom => ⟨nc, cs, hnc, f1, f2, ?_⟩⟩
    · simp only [Builtin.append_, List.getElem?_toArray, List.getElem?_cons_zero, List.getElem?_cons_succ, Sem.run_bind, run_underlying hu, Result.andThen_ok, run_sizeT hi, run_underlying hu2, Sem.run_pure,
        if_true, hai, hw, Bool.not_true, Bool.false_eq_true, if_false, if_neg hA, hbi, if_neg hB]
      rw [if_pos (by omega)]
      simp only [Sem.run_bind, hap, Result.andThen_ok]
      rw [hel2]
      cases al <;> rfl
    · simp only [Builtin.append_, List.getElem?_toArray, List.getElem?_cons_zero, List.getElem?_cons_succ, Sem.run_bind, run_underlying hu, Result.andThen_ok, run_sizeT hi, run_underlying hu2, Sem.run_pure,
        if_true, hai, hw, Bool.not_true, Bool.false_eq_true, if_false, if_neg hA, hbi, if_neg hB]
      have hn2 := hn2 hc hroom
      have hn3 := hn3 hroom
      rw [hel2] at hq hcs hn2 hn3 hc hroom ⊢
      rw [if_neg (by omega)]
      simp only [Sem.run_bind, hbi, Result.andThen_ok]
      rw [if_neg (fun q => hn3 q.1)]
      simp only [Sem.run_bind, hbi, Result.andThen_ok]
      rw [if_neg (by omega)]
      simp only [Sem.run_bind, hq, Result.andThen_ok, hbi, askRoom_run, hold, hap, run_zero hi hz, newRow_run, Sem.run_pure, ← hcs]
  · refine ⟨fun hc => ?_, fun hc hroom => ⟨nc, cs, hnc, f1, f2, ?_⟩⟩
    · rcases hu2 with ⟨e2, hu2⟩ | hu2
      all_goals
        simp only [Builtin.append_, List.getElem?_toArray, List.getElem?_cons_zero, List.getElem?_cons_succ, Sem.run_bind, run_underlying hu, Result.andThen_ok, run_sizeT hi, run_underlying hu2, Sem.run_pure, Bool.false_eq_true, if_false, hl, Bool.not_false, if_true]
        rw [if_pos hc]
        simp only [Sem.run_bind, hf w rfl, Result.andThen_ok]
        cases al <;> rfl
    · rcases hu2 with ⟨e2, hu2⟩ | hu2
      all_goals
        simp only [Builtin.append_, List.getElem?_toArray, List.getElem?_cons_zero, List.getElem?_cons_succ, Sem.run_bind, run_underlying hu, Result.andThen_ok, run_sizeT hi, run_underlying hu2, Sem.run_pure, Bool.false_eq_true, if_false, hl, Bool.not_false, if_true]
        rw [if_neg (by omega)]
        simp only [Sem.run_bind, hbi, Result.andThen_ok]
        rw [if_neg (fun q => hn3 hroom q.1)]
        simp only [Sem.run_bind, hbi, Result.andThen_ok]
        rw [if_neg (by have := hn2 hc hroom; omega)]
        simp only [Sem.run_bind, hq, Result.andThen_ok, hbi, askRoom_run, hold, hf { w with drawn := w.drawn + 1 } rfl, run_zero hi hz, newRow_run, Sem.run_pure, ← hcs]
theorem aprK_sound (h : Rep C V s H a w) {hs : Hints} {o : Oper} {r : Apr} (ho : aprOf P hs o = some r) {K : St → Heap → Prop} (hk : aprK P r (ev s r.x) (ev s r.y) o.dst s H K) :
    (∃ args ats, o.op = .call { callee := .builtin .append, args := args, argTypes := ats }) ∧ ∃ V' s' H' v w', K s' H' ∧ Rep C V' s' H' (a.put o.dst v) w' ∧ (execOp a.eval o).run P w = .ok (.value v) w' := by
  unfold aprOf at ho
  split at ho
  · rename_i args ats d hop hd
    refine ⟨⟨_, _, hop⟩, ?_⟩
    split at ho
    · rename_i x y t t2 _ hargs hats
      split at ho
      · rename_i e sz he
        split at ho
        · rename_i b z hb hz
          split at ho
          · rename_i hzl
            cases ho
            have hzl := nbt hzl
            have hx := h.ev x
            unfold aprK at hk
            simp only at hk
            split at hk
            · rename_i al n c hx1
              rw [hx1] at hx
              obtain ⟨hx, -⟩ := hx
              obtain ⟨hu, i, hi, rfl⟩ := sliceElem_eq he
              obtain ⟨i', zv, hi', hzv, rfl, hzo⟩ := zeroT_eq hz
              rw [hi] at hi'; cases hi'
              have hby : i.bytes = b + 1 := by
                unfold bytesT at hb; rw [hi] at hb; simpa using hb
              obtain ⟨es, hsl, hk⟩ := hk
              obtain ⟨es2, hsrc, hk1, hk2⟩ := asrcK_sound h hzl hzo hk
              have hn : es.length = n := by obtain ⟨_, _, _, e1, h1, _⟩ := hsl; cases e1; exact h1
              subst hn
              rw [← hby] at hsrc
              have hbase : ∀ w' : World, w'.heap = w.heap → SrcRep P w' (.slice al es.length c) i.size es := fun w' e => src_real (P := P) (sub_heap e h.sub) hsl
              obtain ⟨run1, run2⟩ := append_any (t := t) (c := c) hu hi hzv hzl hbase hsrc (by omega) o.type
              have e1 : ats = #[t, t2] := by apply Array.ext'; simpa using hats
              have e2 : args = #[x, y] := by apply Array.ext'; simpa using hargs
              subst e1; subst e2
              have exec : ∀ {r w'}, (Builtin.append_ #[t, t2] o.type #[.slice al es.length c, a.eval y]).run P w = .ok r w' → (execOp a.eval o).run P w = .ok (.value r) w' := fun {r w'} hr => by
                unfold execOp
                rw [hop]
                simp only [resolve, Sem.run_bind, Sem.run_pure, Result.andThen_ok, invoke, builtin, List.map_toArray, List.map_cons, List.map_nil, hx]
                rw [hr]
                rfl
              have hone : ∀ x ∈ es2.flatten, one x = true := by
                intro x hx
                obtain ⟨e, h1, h2⟩ := List.mem_flatten.1 hx
                exact hsrc.on e h1 x h2
              by_cases hc : es.length + es2.length ≤ c
              · have run0 := run1 hc
                rcases hk1 hc with ⟨rfl, hK⟩ | ⟨A, cs, ty, rfl, ⟨hb, hs, hle⟩, hK⟩
                · refine ⟨V, _, _, .slice al (es.length + 0) c, w, hK, h.put (x := .c (.v (.slice al (es.length + 0) c))) ⟨rfl, rfl⟩ o.dst, exec ?_⟩
                  rw [run0]
                  cases al <;> simp [storeCells]
                · have hblk := h.sub _ _ hb
                  have hA : A = ⟨A.block, A.off, none⟩ := by cases A; simp_all
                  refine ⟨V, _, _, _, _, hK, (rep_pub h (.inl ⟨_, hb⟩) (setB_only _ _) (setB_at hblk)).put (x := .c (.v (.slice (some A) (es.length + es2.length) c))) ⟨rfl, rfl⟩ o.dst, exec ?_⟩
                  rw [run0]
                  have hst := storeCells_run (P := P) (b := A.block) (off := A.off + es.length * i.size) es2.flatten 0 w hblk (by rw [flatten_len hsrc.el]; omega) hone
                  have e3 : A.add (es.length * i.size) = ⟨A.block, A.off + es.length * i.size, none⟩ := by rw [add_spot hs]
                  simp only [Sem.run_bind, e3]
                  rw [hst]
                  simp only [Result.andThen_ok, Sem.run_pure, Nat.add_zero]
              · obtain ⟨hroom, hk2⟩ := hk2 (by omega)
                obtain ⟨cap, cs, h1, h2, h3, h4⟩ := run2 (by omega) (by rw [hby]; exact hroom)
                have hn : H w.heap.size = none := by
                  cases hb : H w.heap.size with
                  | none => rfl
                  | some ob => have := (Array.getElem?_eq_some_iff.1 (h.sub _ _ hb)).1; omega
                have ho2 : Only w { w with drawn := w.drawn + 1, heap := w.heap.push (.cells cs e) } fun x => x = w.heap.size :=
                  ⟨rfl, ⟨rfl, fun _ => Nat.le_succ _⟩, rfl, by simp, fun b hb hlt => by simp [Array.getElem?_push]; omega⟩
                refine ⟨V, _, _, _, _, hk2 w.heap.size cap (H.upd w.heap.size (.cells cs e (0, 0))) (fun x o hx => ?_) hn (fun x o hx => ?_) ?_, (rep_pub h (.inr (Nat.le_refl _)) ho2 (by simp)).put (x := .c (.v (.slice (some ⟨w.heap.size, 0, none⟩) (es.length + es2.length) cap))) ⟨rfl, rfl⟩ o.dst, exec h4⟩
                · rw [upd_ne _ _ (fun q => by subst q; rw [hn] at hx; cases hx)]; exact hx
                · by_cases q : x = w.heap.size
                  · exact .inr q
                  · rw [upd_ne _ _ q] at hx; exact .inl hx
                · refine .inr ⟨w.heap.size, 0, cap, cs, ?_, by rw [upd_same], by rw [List.length_append]; omega, by omega, ?_, ?_, ?_⟩
                  · rw [List.length_append]
                  · intro e he
                    rcases List.mem_append.1 he with he | he
                    · exact (hbase w rfl).el e he
                    · exact hsrc.el e he
                  · rw [List.drop_zero, List.length_append]; exact h3
                  · intro e he
                    rcases List.mem_append.1 he with he | he
                    · exact (hbase w rfl).on e he
                    · exact hsrc.on e he
            · exact hk.elim
          · cases ho
        · cases ho
      · cases ho
    · cases ho
  · cases ho
theorem opK_sound (h : Rep C V s H a w) {hs : Hints} (hE : ∀ t, memN hs.eqs t = true → EqOK P t)
    {Q : Exit → St → Heap → Prop} {o : Oper} {K : St → Heap → Prop} (hk : opK P hs Q o s H K) : wpX P o a w (Gam C K) (GamQ C Q) := by
  unfold opK at hk
  split at hk
  · rename_i x y sz ho
    obtain ⟨V', s', H', v, w', h1, h2, h3⟩ := inpK_sound h ho hk
    unfold wpX
    rw [h3, uponX_value]
    exact ⟨V', s', H', h2, h1⟩
  split at hk
  · rename_i r ho
    obtain ⟨-, V', s', H', v, w', h1, h2, h3⟩ := aprK_sound h ho hk
    unfold wpX
    rw [h3, uponX_value]
    exact ⟨V', s', H', h2, h1⟩
  split at hk
  · exact opC_sound h hE hk
  · obtain ⟨V', s', H', hk, h'⟩ := adoptK_sound h hk
    exact opC_sound h' hE hk
theorem rep_same (h : Rep C V s H a w) {g : Nat} {x : SV} (hx : x.rep V (a.tmps.getD g undef)) : Rep C V (s.set g x) H a w := by
  refine { env := ?_, len := ?_, dfr := h.dfr, sub := h.sub, objs := h.objs, priv := h.priv, dist := h.dist, os := h.os, tape := h.tape, output := h.output, size := h.size, other := h.other }
  · intro t z hz
    simp only [St.set, nth_setNth] at hz
    by_cases hg : g = t
    · subst hg
      simp only [if_true] at hz
      split at hz
      · cases hz; exact hx
      · cases hz
    · rw [if_neg hg] at hz
      exact h.env t z hz
  · simp only [St.set, setNth_eq, List.length_set]; exact h.len
theorem guard_yields {V : Vl} {s : St} {H : Heap} {a : Act} {w : World} (h : Rep C V s H a w) {ops : Array Oper} {j g : Nat} {p : Bool} (hg : guardDst ops.toList j = some g) (hs : s.get g = .c (.v (.bool p))) :
    yielded ops a.tmps j = some p ∧ a.tmps.getD g undef = .bool p := by
  have hrep := h.get g
  rw [hs] at hrep
  obtain ⟨hrep, -⟩ := hrep
  refine ⟨?_, hrep⟩
  have hlt : g < a.tmps.size := by
    rcases get_nth (s := s) (t := g) with ⟨e, _⟩ | e
    · rw [hs] at e; cases e
    · rw [nth_eq] at e
      have := (List.getElem?_eq_some_iff.1 e).1
      have := h.len
      omega
  unfold guardDst at hg
  rw [nth_eq] at hg
  split at hg
  · rename_i o ho
    have ho' : ops[j]? = some o := by simpa using ho
    unfold yielded
    rw [ho']
    have : a.tmps[g]? = some (.bool p) := by
      rw [Array.getD_eq_getD_getElem?, Array.getElem?_eq_getElem hlt] at hrep
      rw [Array.getElem?_eq_getElem hlt]
      simpa using hrep
    simp [hg, this]
  · cases hg
theorem guard_undef {V : Vl} {s : St} {H : Heap} {a : Act} {w : World} (h : Rep C V s H a w) {ops : Array Oper} {j g : Nat} (hg : guardDst ops.toList j = some g) (hs : s.get g = .tup []) :
    yielded ops a.tmps j = none := by
  have hrep := h.get g
  rw [hs] at hrep
  obtain ⟨ys, hy, hys⟩ := hrep
  have : ys = [] := hys
  subst this
  unfold guardDst at hg
  rw [nth_eq] at hg
  split at hg
  · rename_i o ho
    have ho' : ops[j]? = some o := by simpa using ho
    unfold yielded
    rw [ho', Option.bind_some, hg, Option.bind_some]
    rw [Array.getD_eq_getD_getElem?] at hy
    cases ha : a.tmps[g]? with
    | none => rfl
    | some v => rw [ha] at hy; simp at hy; subst hy; rfl
  · cases hg
theorem opsK_sound {hs : Hints} (hE : ∀ t, memN hs.eqs t = true → EqOK P t) {Q : Exit → St → Heap → Prop} {ops : Array Oper} : ∀ (l : List Oper) {V : Vl} {s : St} {H : Heap} {a : Act} {w : World}, Rep C V s H a w →
    opsK P hs Q ops.toList l s H → wpListX P ops (GamQ C Q) l a w
  | [], V, s, H, a, w, h, hk => ⟨V, s, H, h, hk⟩
  | o :: r, V, s, H, a, w, h, hk => by
    have next : ∀ a w, Gam C (fun s' H' => opsK P hs Q ops.toList r s' H') a w → wpListX P ops (GamQ C Q) r a w := by
      rintro a w ⟨V, s, H, h1, h2⟩
      exact opsK_sound hE r h1 h2
    have skip : ∀ {s : St} {a : Act}, Rep C V s H a w → opsK P hs Q ops.toList r (s.put o.dst (.tup [])) H → wpListX P ops (GamQ C Q) r (a.put o.dst undef) w :=
      fun h' hk' => opsK_sound hE r (h'.put (x := .tup []) ⟨[], rfl, rfl⟩ o.dst) hk'
    unfold wpListX
    simp only [opsK] at hk
    split at hk
    · rename_i hg
      rw [if_pos (by simp [Region.wanted, hg])]
      exact wpX_mono next (opK_sound h hE hk)
    · rename_i j b hg
      split at hk
      · exact hk.elim
      · rename_i g hgd
        split at hk
        · rename_i p hp
          obtain ⟨hy, hv⟩ := guard_yields h hgd hp
          have hset : Rep C V (s.set g (.c (.v (.bool p)))) H a w := rep_same h ⟨hv, rfl⟩
          split at hk
          · cases p with
            | true =>
              rw [if_pos (by simp [Region.wanted, hg, hy])]
              exact wpX_mono next (opK_sound hset hE hk)
            | false =>
              rw [if_neg (by simp [Region.wanted, hg, hy])]
              exact skip hset hk
          · cases p with
            | true =>
              rw [if_neg (by simp [Region.wanted, hg, hy])]
              exact skip hset hk
            | false =>
              rw [if_pos (by simp [Region.wanted, hg, hy])]
              exact wpX_mono next (opK_sound hset hE hk)
        · rename_i hp
          have hy := guard_undef h hgd hp
          rw [if_neg (by simp [Region.wanted, hg, hy])]
          exact skip h hk
        · exact hk.elim
end
end Sx

set_option linter.unusedVariables false
set_option linter.unusedSimpArgs false
namespace Sx
open Go
set_option linter.unusedSectionVars false
variable [Dr]
section
variable {P : Program} {ops : Array Oper} {C : World → Prop} {PN : List PanicEntry → Act → World → Prop} {big wr rd : Nat → Bool} {n : Nat}

def pureAt (P : Program) (o : Oper) (a : Act) (w : World) (v : Value) : Prop := (execOp a.eval o).run P w = .ok (.value v) w ∨ ((execOp a.eval o).run P w = .ok .skip w ∧ v = undef)
/-- What an operation does that is no call by value. -/
def bigUpon (P : Program) (pan : List PanicEntry → World → Prop) (next : Value → World → Prop) : Result Next → Prop
  | .ok n w' => match n with
    | .value v => next v w'
    | .skip => next undef w'
    | .defer _ => False
    | n => GoesX P n w' fun e w'' => match e with | .returned v => next v w'' | .panicked c => pan c w'' | .outgrown => False
  | .halt h w' => match h with
    | .panic v => pan [{ v, recovered := false }] w'
    | _ => False
theorem bigUpon_goes {pan : List PanicEntry → World → Prop} {next : Value → World → Prop} {n : Next} {w : World}
    (h : GoesX P n w fun e w'' => match e with | .returned v => next v w'' | .panicked c => pan c w'' | .outgrown => False) : bigUpon P pan next (.ok n w) := by
  cases n <;> first | exact h | exact h.elim
def bigAt (P : Program) (PN : List PanicEntry → Act → World → Prop) (o : Oper) (a : Act) (w : World) (next : Value → World → Prop) : Prop := bigUpon P (fun c w' => PN c a w') next ((execOp a.eval o).run P w)
theorem bigUpon_mono {p p' : List PanicEntry → World → Prop} {N N' : Value → World → Prop} {r : Result Next} (h : bigUpon P p N r) (hn : ∀ v w', N v w' → N' v w') (hp : ∀ c w', p c w' → p' c w') : bigUpon P p' N' r := by
  cases r with
  | ok x w' =>
    have m : ∀ {e : Ending} {w'' : World}, (match e with | .returned v => N v w'' | .panicked c => p c w'' | .outgrown => False) → (match e with | .returned v => N' v w'' | .panicked c => p' c w'' | .outgrown => False) := fun {e w''} hq => by
      cases e with
      | returned v => exact hn _ _ hq
      | panicked c => exact hp _ _ hq
      | outgrown => exact hq
    cases x with
    | value v => exact hn _ _ h
    | skip => exact hn _ _ h
    | enter f args => exact GoesX.mono (n := .enter f args) h fun e w'' hq => m hq
    | round l f t as b => exact GoesX.mono (n := .round l f t as b) h fun e w'' hq => m hq
    | _ => exact h.elim
  | halt x w' => cases x <;> first | exact h.elim | exact hp _ _ h
theorem bigAt_mono {PN : List PanicEntry → Act → World → Prop} {o : Oper} {a : Act} {w : World} {N N' : Value → World → Prop} (h : bigAt P PN o a w N) (hn : ∀ v w', N v w' → N' v w') : bigAt P PN o a w N' := bigUpon_mono h hn fun _ _ h => h
theorem bigAt_wp {PN : List PanicEntry → Act → World → Prop} {o : Oper} {a : Act} {w : World} {K : Act → World → Prop} {Q : Exit → Act → World → Prop} (hQ : ∀ c a w, PN c a w → Q (.panic c) a w)
    (h : bigAt P PN o a w fun v w' => K (a.put o.dst v) w') : wpX P o a w K Q := by
  unfold bigAt at h
  unfold wpX
  generalize (execOp a.eval o).run P w = r at *
  cases r with
  | ok x w' =>
    have m : ∀ {e : Ending} {w'' : World}, (match e with | .returned v => K (a.put o.dst v) w'' | .panicked c => PN c a w'' | .outgrown => False) → (match e with | .returned v => K (a.put o.dst v) w'' | .panicked c => Q (.panic c) a w'' | .outgrown => False) := fun {e w''} hq => by
      cases e with
      | returned v => exact hq
      | panicked c => exact hQ _ _ _ hq
      | outgrown => exact hq
    cases x with
    | value v => exact h
    | skip => exact h
    | enter f args => exact GoesX.mono (n := .enter f args) h fun e w'' hq => m hq
    | round l f t as b => exact GoesX.mono (n := .round l f t as b) h fun e w'' hq => m hq
    | _ => exact h.elim
  | halt x w' => cases x <;> first | exact h.elim | exact hQ _ _ _ h

/-- Operation number i comes up. -/
def mOp (P : Program) (ops : Array Oper) (C : World → Prop) (PN : List PanicEntry → Act → World → Prop) (big wr rd : Nat → Bool) (i : Nat) (K : Act → World → Prop) (a : Act) (w : World) : Prop :=
  match ops[i]? with
  | none => False
  | some o => if Region.wanted o (yielded ops a.tmps) then
      (if big i then bigAt P PN o a w (fun v w' => (wr i = false → C w') ∧ K (a.put o.dst v) w') else ∃ v, (∀ w', (rd i = true → C w') → pureAt P o a w' v) ∧ K (a.put o.dst v) w)
    else K (a.put o.dst undef) w
theorem mOp_mono {i : Nat} {K K' : Act → World → Prop} {a : Act} {w : World} (h : mOp P ops C PN big wr rd i K a w) (hk : ∀ a w, K a w → K' a w) : mOp P ops C PN big wr rd i K' a w := by
  unfold mOp at *
  split at h
  · exact h.elim
  · split at h
    · rename_i hw
      rw [if_pos hw]
      split at h
      · rename_i hb; rw [if_pos hb]; exact bigAt_mono h fun v w' ⟨h1, h2⟩ => ⟨h1, hk _ _ h2⟩
      · rename_i hb; rw [if_neg hb]; obtain ⟨v, h1, h2⟩ := h; exact ⟨v, h1, hk _ _ h2⟩
    · rename_i hw; rw [if_neg hw]; exact hk _ _ h
def wpM (P : Program) (ops : Array Oper) (C : World → Prop) (PN : List PanicEntry → Act → World → Prop) (big wr rd : Nat → Bool) (n : Nat) (L : Array Bool → Act → World → Prop) : Nat → Array Bool → Act → World → Prop
  | 0, listed, a, w => L listed a w
  | f + 1, listed, a, w => Region.ready .any ops listed ≠ [] ∧ ∀ i ∈ Region.ready .any ops listed, i < n ∧ mOp P ops C PN big wr rd i (wpM P ops C PN big wr rd n L f (listed.setIfInBounds i true)) a w
/-- Something that looks into memory is still to come. -/
def Left (rd : Nat → Bool) (listed : Array Bool) : Prop := ∃ k, rd k = true ∧ listed.getD k true = false
theorem Left.back {listed : Array Bool} {i : Nat} (h : Left rd (listed.setIfInBounds i true)) : Left rd listed := by
  obtain ⟨k, h1, h2⟩ := h
  refine ⟨k, h1, ?_⟩
  by_cases hik : i = k
  · subst hik
    by_cases hs : i < listed.size
    · simp [hs] at h2
    · simp [Array.setIfInBounds, hs] at h2
  · rw [getD_set_ne true hik] at h2; exact h2
def Closed (ops : Array Oper) (listed : Array Bool) : Prop := ∀ (j : Nat) (oj : Oper), ops[j]? = some oj → listed.getD j false = true → ∀ (e : Edge), e ∈ oj.after → Region.binds .any e = true → listed.getD e.on false = true
theorem Closed.step {ops : Array Oper} {listed : Array Bool} {i : Nat} (h : Closed ops listed) (hi : i ∈ Region.ready .any ops listed) : Closed ops (listed.setIfInBounds i true) := by
  intro j oj hj hl e he hb
  have up : ∀ x, listed.getD x false = true → (listed.setIfInBounds i true).getD x false = true := fun x hx => by
    by_cases hix : i = x
    · subst hix
      by_cases hs : i < listed.size
      · simp [hs]
      · simp [hs] at hx
    · rw [getD_set_ne false hix]; exact hx
  by_cases hij : i = j
  · subst hij
    obtain ⟨_, o, ho, hall⟩ := mem_ready.1 hi
    rw [hj] at ho; cases ho
    exact up _ (hall e he hb)
  · rw [getD_set_ne false hij] at hl
    exact up _ (h j oj hj hl e he hb)
theorem reach_spec {ops : Array Oper} {listed : Array Bool} (h : Closed ops listed) {k : Nat} : ∀ (f j : Nat), reach ops f k j = true → (∀ oj, ops[j]? = some oj → ∀ (e : Edge), e ∈ oj.after → Region.binds .any e = true → listed.getD e.on false = true) → listed.getD k false = true
  | 0, j, hr, _ => by cases hr
  | f + 1, j, hr, hall => by
    unfold reach at hr
    split at hr
    · rename_i oj hoj
      simp only [List.any_eq_true, Bool.and_eq_true, Bool.or_eq_true] at hr
      obtain ⟨e, he, hb, hr⟩ := hr
      have he' : e ∈ oj.after := by simpa using he
      have h1 := hall oj hoj e he' hb
      rcases hr with hr | ⟨_, hr⟩
      · have := nbt hr; rw [← this]; exact h1
      · exact reach_spec h f e.on hr fun o ho e' he' hb' => h _ _ ho h1 e' he' hb'
    · cases hr
theorem wpAny_of_wpM {g : Nat} {L : Array Bool → Act → World → Prop} {Q : Exit → Act → World → Prop} (hwr : ∀ i k, wr i = true → rd k = true → ∀ listed, Closed ops listed → i ∈ Region.ready .any ops listed → listed.getD k false = true)
    (hQ : ∀ c a w, PN c a w → Q (.panic c) a w) (hL : ∀ listed a w, L listed a w → wpAnyX P .any ops Q g listed a w) :
    ∀ (f : Nat) (listed : Array Bool) (a : Act) (w : World), Closed ops listed → (Left rd listed → C w) → wpM P ops C PN big wr rd n L f listed a w → wpAnyX P .any ops Q (f + g) listed a w
  | 0, listed, a, w, _, hc, h => by rw [Nat.zero_add]; exact hL _ _ _ h
  | f + 1, listed, a, w, hcl, hc, h => by
    rw [show f + 1 + g = (f + g) + 1 by omega]
    refine ⟨fun h0 => absurd h0 h.1, fun i hi => ?_⟩
    have h1 := (h.2 i hi).2
    unfold mOp at h1
    unfold wpOpX
    split at h1
    · exact h1.elim
    · rename_i o ho
      simp only [ho]
      split at h1
      · rename_i hw
        rw [if_pos hw]
        split at h1
        · refine bigAt_wp hQ (bigAt_mono h1 fun v w' ⟨h2, h3⟩ => wpAny_of_wpM hwr hQ hL f _ _ _ (hcl.step hi) ?_ h3)
          intro hl
          cases hwi : wr i with
          | false => exact h2 hwi
          | true =>
            exfalso
            obtain ⟨k, hk1, hk2⟩ := hl.back
            have := hwr i k hwi hk1 listed hcl hi
            rw [getD_both hk2] at this
            cases this
        · obtain ⟨v, h2, h3⟩ := h1
          have := wpAny_of_wpM hwr hQ hL f _ _ _ (hcl.step hi) (fun hl => hc hl.back) h3
          unfold wpX
          rcases h2 w (fun hr => hc ⟨i, hr, (mem_ready.1 hi).1⟩) with h4 | ⟨h4, rfl⟩
          · rw [h4, uponX_value]; exact this
          · rw [h4, uponX_skip]; exact this
      · rename_i hw; rw [if_neg hw]; exact wpAny_of_wpM hwr hQ hL f _ _ _ (hcl.step hi) (fun hl => hc hl.back) h1
/-- What is known of an operation that only looks, or is passed over. -/
def Yl (P : Program) (ops : Array Oper) (C : World → Prop) (r : Bool) (o : Oper) (v : Value) (a : Act) : Prop :=
  (Region.wanted o (yielded ops a.tmps) = true ∧ ∀ w', (r = true → C w') → pureAt P o a w' v) ∨ (Region.wanted o (yielded ops a.tmps) = false ∧ v = undef)
theorem Yl.of_same {r : Bool} {o : Oper} {v : Value} {a a' : Act} (hy : Yl P ops C r o v a) (he : execOp a'.eval o = execOp a.eval o)
    (hw : Region.wanted o (yielded ops a'.tmps) = Region.wanted o (yielded ops a.tmps)) : Yl P ops C r o v a' := by
  unfold Yl pureAt at *
  rw [he, hw]; exact hy
theorem Yl.mOp {i : Nat} {o : Oper} {v : Value} {a : Act} {w : World} (hi : ops[i]? = some o) (hy : Yl P ops C (rd i) o v a) (hb : big i = false ∨ Region.wanted o (yielded ops a.tmps) = false) {K : Act → World → Prop} (h : K (a.put o.dst v) w) :
    mOp P ops C PN big wr rd i K a w := by
  unfold Sx.mOp
  simp only [hi]
  rcases hy with ⟨hw, hv⟩ | ⟨hw, rfl⟩
  · rcases hb with hb | hb
    · rw [if_pos hw, if_neg (by simp [hb])]; exact ⟨v, hv, h⟩
    · rw [hw] at hb; cases hb
  · rw [if_neg (by simp [hw])]; exact h
theorem yl_of_mOp {i : Nat} {o : Oper} {a : Act} {w : World} {K : Act → World → Prop} (hi : ops[i]? = some o) (hb : big i = false ∨ Region.wanted o (yielded ops a.tmps) = false) (h : mOp P ops C PN big wr rd i K a w) : ∃ v, Yl P ops C (rd i) o v a ∧ K (a.put o.dst v) w := by
  unfold mOp at h
  simp only [hi] at h
  by_cases hw : Region.wanted o (yielded ops a.tmps) = true
  · rcases hb with hb | hb
    · rw [if_pos hw, if_neg (by simp [hb])] at h
      obtain ⟨v, h1, h2⟩ := h
      exact ⟨v, .inl ⟨hw, h1⟩, h2⟩
    · rw [hw] at hb; cases hb
  · rw [if_neg hw] at h
    exact ⟨undef, .inr ⟨by simpa using hw, rfl⟩, h⟩
theorem mOp_put {j : Nat} {r : Bool} {oi oj : Oper} {v : Value} (hP : ∀ c (a : Act) w v, PN c (a.put oi.dst v) w → PN c a w) (hj : ops[j]? = some oj) (hap : oi.apart ops oj = true) (hsi : ∀ cs b, oi.op ≠ .select cs b) (hsj : ∀ cs b, oj.op ≠ .select cs b)
    {K : Act → World → Prop} {a : Act} {w : World} (hy : Yl P ops C r oi v a) (h : mOp P ops C PN big wr rd j K (a.put oi.dst v) w) :
    mOp P ops C PN big wr rd j (fun a' w' => Yl P ops C r oi v a' ∧ Region.wanted oi (yielded ops a'.tmps) = Region.wanted oi (yielded ops a.tmps) ∧ K (a'.put oi.dst v) w') a w := by
  obtain ⟨h1, h2, h3⟩ := Oper.apart_spec hap
  have keep : ∀ u, Yl P ops C r oi v (a.put oj.dst u) := fun u => hy.of_same (execOp_put oi hsi a oj.dst u h3) (wanted_put oi a oj.dst u h3)
  have want : ∀ u, Region.wanted oi (yielded ops (a.put oj.dst u).tmps) = Region.wanted oi (yielded ops a.tmps) := fun u => wanted_put oi a oj.dst u h3
  unfold mOp at *
  simp only [hj] at *
  rw [wanted_put oj a oi.dst v h1] at h
  split
  · rename_i hw
    rw [if_pos hw] at h
    split
    · rename_i hb
      rw [if_pos hb] at h
      unfold bigAt at h ⊢
      rw [execOp_put oj hsj a oi.dst v h1] at h
      exact bigUpon_mono h (fun u w' ⟨hc, hk⟩ => ⟨hc, keep u, want u, by rw [← Act.put_comm a v u h2]; exact hk⟩) fun c w' hp => hP c a w' v hp
    · rename_i hb
      rw [if_neg hb] at h
      obtain ⟨u, hu, hk⟩ := h
      refine ⟨u, fun w' hw' => ?_, keep u, want u, by rw [← Act.put_comm a v u h2]; exact hk⟩
      have := hu w' hw'
      unfold pureAt at *
      rwa [execOp_put oj hsj a oi.dst v h1] at this
  · rename_i hw
    rw [if_neg hw] at h
    exact ⟨keep _, want _, by rw [← Act.put_comm a v undef h2]; exact h⟩
theorem tailB_spec (h : tailB ops n = true) {listed : Array Bool} {i : Nat} (hi : i < n) (hun : listed.getD i true = false) : ∀ j ∈ Region.ready .any ops listed, j < n := by
  intro j hj
  rcases Nat.lt_or_ge j n with hlt | hge
  · exact hlt
  · obtain ⟨_, oj, hoj, hall⟩ := mem_ready.1 hj
    have hjs : j < ops.size := (Array.getElem?_eq_some_iff.1 hoj).1
    have h1 := List.all_eq_true.1 h j (List.mem_range.2 hjs)
    simp only [Bool.or_eq_true, Nat.blt_eq] at h1
    rcases h1 with h1 | h1
    · omega
    · obtain ⟨o', ho', e, he, hb, hon⟩ := Region.waitsFor_spec (List.all_eq_true.1 h1 i (List.mem_range.2 hi))
      have : o' = oj := Option.some.inj (ho'.symm.trans hoj)
      subst this
      have h2 := hall e he hb
      rw [hon, getD_both hun] at h2
      cases h2
/-- A quiet operation may be taken first. -/
theorem wpM_quiet {L : Array Bool → Act → World → Prop} (hL : ∀ listed a w, L listed a w → ∀ j ∈ Region.ready .any ops listed, n ≤ j) (ht : tailB ops n = true) (hsel : ∀ (j : Nat) (o : Oper) cs b, ops[j]? = some o → o.op ≠ .select cs b)
    (hP : ∀ (j : Nat) (o : Oper), ops[j]? = some o → ∀ c (a : Act) w v, PN c (a.put o.dst v) w → PN c a w)
    {i : Nat} {oi : Oper} {v : Value} (hi : ops[i]? = some oi) (hin : i < n) :
    ∀ (f : Nat) (listed : Array Bool) (a : Act) (w : World),
      (∀ j oj, ops[j]? = some oj → j ≠ i → listed.getD j true = false → (∀ e ∈ oj.after, Region.binds .any e = true → e.on ≠ i) → oi.apart ops oj = true) →
      i ∈ Region.ready .any ops listed → Yl P ops C (rd i) oi v a → (big i = false ∨ Region.wanted oi (yielded ops a.tmps) = false) →
      wpM P ops C PN big wr rd n L f (listed.setIfInBounds i true) (a.put oi.dst v) w → wpM P ops C PN big wr rd n L (f + 1) listed a w := by
  intro f
  induction f with
  | zero =>
    intro listed a w _ hr hy hb H
    have hun := (mem_ready.1 hr).1
    refine ⟨fun h => (by rw [h] at hr; cases hr), fun j hj => ?_⟩
    have hjn := tailB_spec ht hin hun j hj
    refine ⟨hjn, ?_⟩
    by_cases hji : j = i
    · subst hji; exact hy.mOp hi hb H
    · have := hL _ _ _ H j (ready_mono hj hji)
      omega
  | succ f ih =>
    intro listed a w hfree hr hy hb H
    have hun := (mem_ready.1 hr).1
    refine ⟨fun h => (by rw [h] at hr; cases hr), fun j hj => ?_⟩
    have hjn := tailB_spec ht hin hun j hj
    refine ⟨hjn, ?_⟩
    by_cases hji : j = i
    · subst hji; exact hy.mOp hi hb H
    · have h1 := (H.2 j (ready_mono hj hji)).2
      obtain ⟨hjun, oj, hoj, hall⟩ := mem_ready.1 hj
      have hnot : ∀ e ∈ oj.after, Region.binds .any e = true → e.on ≠ i := fun e he hbb heq => by
        have h1 := hall e he hbb
        rw [heq, getD_both hun] at h1
        cases h1
      have h2 := mOp_put (hP i oi hi) hoj (hfree j oj hoj hji hjun hnot) (fun cs b => hsel i oi cs b hi) (fun cs b => hsel j oj cs b hoj) hy h1
      have hfree' : ∀ k ok, ops[k]? = some ok → k ≠ i → (listed.setIfInBounds j true).getD k true = false →
          (∀ e ∈ ok.after, Region.binds .any e = true → e.on ≠ i) → oi.apart ops ok = true := fun k ok hk hki hun hno => by
        refine hfree k ok hk hki ?_ hno
        by_cases hjk : j = k
        · subst hjk; exact hjun
        · rw [getD_set_ne true hjk] at hun; exact hun
      refine mOp_mono h2 fun a' w' h3 => ih (listed.setIfInBounds j true) a' w' hfree' (ready_mono hr (Ne.symm hji)) h3.1 (hb.imp id fun hb => by rw [h3.2.1]; exact hb) ?_
      rw [Array.setIfInBounds_comm _ _ hji]
      exact h3.2.2
/-! ### One order -/
def mList (P : Program) (ops : Array Oper) (C : World → Prop) (PN : List PanicEntry → Act → World → Prop) (big wr rd : Nat → Bool) (N : Act → World → Prop) : List Nat → Act → World → Prop
  | [], a, w => N a w
  | k :: r, a, w => mOp P ops C PN big wr rd k (mList P ops C PN big wr rd N r) a w
theorem wpM_lex {fin : Array Bool → Bool} {N : Act → World → Prop} (hfin : ∀ l', fin l' = true → ∀ j ∈ Region.ready .any ops l', n ≤ j) (hsel : Region.noSelect ops = true) (ht : tailB ops n = true)
    (hP : ∀ (j : Nat) (o : Oper), ops[j]? = some o → ∀ c (a : Act) w v, PN c (a.put o.dst v) w → PN c a w) :
    ∀ (l : List Nat) (listed : Array Bool) (a : Act) (w : World), HeadInv .any ops n listed → lexB ops n big fin l listed = true → mList P ops C PN big wr rd N l a w →
      wpM P ops C PN big wr rd n (fun l' a' w' => HeadInv .any ops n l' ∧ fin l' = true ∧ N a' w') l.length listed a w
  | [], listed, a, w, inv, hB, h => ⟨inv, by simpa [lexB] using hB, h⟩
  | k :: r, listed, a, w, inv, hB, h => by
    simp only [lexB, Bool.and_eq_true] at hB
    obtain ⟨⟨hkn, hk⟩, hB'⟩ := hB
    have hkn : k < n := by simpa [Nat.blt_eq] using hkn
    have hr' : k ∈ Region.ready .any ops listed := by
      split at hk <;> simp only [Bool.and_eq_true] at hk
      · simpa using hk.2
      · simpa using hk.1
    obtain ⟨_, o, ho, _⟩ := mem_ready.1 hr'
    have hL : ∀ (l' : Array Bool) (a' : Act) (w' : World), (HeadInv .any ops n l' ∧ fin l' = true ∧ N a' w') → ∀ j ∈ Region.ready .any ops l', n ≤ j := fun l' a' w' h => hfin l' h.2.1
    have rest : ∀ a' w', mList P ops C PN big wr rd N r a' w' → wpM P ops C PN big wr rd n (fun l' a' w' => HeadInv .any ops n l' ∧ fin l' = true ∧ N a' w') r.length (listed.setIfInBounds k true) a' w' :=
      fun a' w' h' => wpM_lex hfin hsel ht hP r _ a' w' (inv.set hr' hkn) hB' h'
    simp only [mList] at h
    split at hk
    · rename_i hb
      simp only [Bool.and_eq_true, List.all_eq_true] at hk
      refine ⟨fun h0 => (by rw [h0] at hr'; cases hr'), fun j hj => ?_⟩
      have := nbt (hk.1 j hj)
      subst this
      exact ⟨hkn, mOp_mono h fun a' w' h' => rest a' w' h'⟩
    · rename_i hb
      simp only [Bool.and_eq_true] at hk
      obtain ⟨v, hy, hK⟩ := yl_of_mOp ho (.inl hb) h
      exact wpM_quiet hL ht (Region.noSelect_spec hsel) hP ho hkn r.length listed a w (Region.free_spec ho hk.2) hr' hy (.inl hb) (rest _ _ hK)
theorem tailB_all : tailB ops ops.size = true := by
  simp only [tailB, List.all_eq_true, Bool.or_eq_true]
  intro j hj
  left
  simpa [Nat.blt_eq] using hj
theorem fin2_none {l' : Array Bool} (h : fin2 ops l' = true) : Region.ready .any ops l' = [] := by
  cases hr : Region.ready .any ops l' with
  | nil => rfl
  | cons j r =>
    have hj : j ∈ Region.ready .any ops l' := by rw [hr]; simp
    simp only [fin2, List.all_eq_true] at h
    have h1 := Nat.le_of_ble_eq_true (h j hj)
    obtain ⟨_, o, ho, _⟩ := mem_ready.1 hj
    have := (Array.getElem?_eq_some_iff.1 ho).1
    omega
/-- A statement whose order is drawn, from one order. -/
theorem wp_region_mix {Q : Exit → Act → World → Prop} {a : Act} {w : World} {l : List Nat} (hm : P.follows .mixedOrders = true) (hsel : Region.noSelect ops = true) (hll : l.length = ops.size)
    (hlex : lexB ops ops.size big (fin2 ops) l (Array.replicate ops.size false) = true) (hwr : ∀ i k, wr i = true → rd k = true → ∀ listed, Closed ops listed → i ∈ Region.ready .any ops listed → listed.getD k false = true) (hC : C { w with drawn := w.drawn + 1 })
    (hQ : ∀ c a w, PN c a w → Q (.panic c) a w) (hP : ∀ (j : Nat) (o : Oper), ops[j]? = some o → ∀ c (a : Act) w v, PN c (a.put o.dst v) w → PN c a w)
    (h : mList P ops C PN big wr rd (Q .normal) l a { w with drawn := w.drawn + 1 }) : RegX P ops true Q a w := by
  have inv0 : HeadInv .any ops ops.size (Array.replicate ops.size false) :=
    ⟨by simp, fun j oj _ hl => (by rw [getD_replicate_false] at hl; cases hl), fun t h1 h2 => by omega⟩
  have h1 := wpM_lex (fun l' hf j hj => by rw [fin2_none hf] at hj; cases hj) hsel tailB_all hP l _ a _ inv0 hlex h
  refine ⟨hm, ?_⟩
  have h2 := wpAny_of_wpM (g := 0) (Q := Q) hwr hQ (fun listed a' w' hl => ⟨fin2_none hl.2.1, hl.2.2⟩) l.length _ a _ inv0.closed (fun _ => hC) h1
  rw [hll] at h2
  exact h2
end
end Sx

set_option linter.unusedVariables false
set_option linter.unusedSimpArgs false
namespace Sx
open Go
set_option linter.unusedSectionVars false
variable [Dr]
section
variable {P : Program} {C : Ctx} {V : Vl} {s : St} {H : Heap} {a : Act} {w : World}

def GoesA (P : Program) (C : Ctx) (V : Vl) (o : Oper) (a : Act) (w : World) (K : St → Prop) (H : Heap) : Prop :=
  ∃ d, o.dst = some d ∧ ∃ V' s' y w', K s' ∧ Rep C V' s' H (a.put o.dst y) w' ∧ Off d V V' ∧ Only w w' (fun _ => False) ∧ (∀ ob b, look s'.objs d = some ob → privB V' d ob = some b → w.heap.size ≤ b) ∧ ((execOp a.eval o).run P w = .ok (.value y) w' ∨ ((execOp a.eval o).run P w = .ok .skip w' ∧ y = undef))
theorem new_at {d : Nat} {l : List (Nat × AObj)} {ob0 : AObj} {V' : Vl} {n : Nat} (h : privB V' d ob0 = some n) : ∀ ob b, look (objSet l d ob0) d = some ob → privB V' d ob = some b → n ≤ b := by
  intro ob b h1 h2
  rw [look_objSet, if_pos rfl] at h1
  cases h1
  rw [h] at h2
  cases h2
  exact Nat.le_refl _
theorem allocK_sound (h : Rep C V s H a w) {Hr : Heap} (hr : Hr ≤ H) (o : Oper) (hop : isAlloc o.op = true) {K : St → Prop} (hk : objK P o s Hr K) : GoesA P C V o a w K H := by
  have hsub := le_sub hr h.sub
  unfold objK at hk
  unfold GoesA execOp
  split at hk
  · -- alloc
    rename_i t d ho hd
    rw [ho, hd]
    split at hk
    · rename_i z ks hf hz hks
      obtain ⟨i, v, hi, hv, rfl, hone⟩ := zeroT_eq hz
      split at hk
      · rename_i l hl
        obtain ⟨V', hoff, hrep, hnb⟩ := new_box h hf t (parse_rep (V := V) hl hone) (parse_refs hl)
        refine ⟨_, rfl, V', _, _, _, hk, hrep, hoff, alloc_only _ _, new_at (by simp [privB, hnb, blockOf]), .inl (exec_v ?_)⟩
        simp only [Instr.alloc, Sem.run_bind, run_zero hi hv, Result.andThen_ok, newVar, newRow_run, Sem.run_pure]
      · exact hk.elim
    · exact hk.elim
  · -- box
    rename_i t x d ho hd
    rw [ho, hd]
    split at hk
    · rename_i l hf hl
      obtain ⟨V', hoff, hrep, hnb⟩ := new_box h hf t (segs_rep (h.ev x) hl) (segs_refs (ev_refs hf x) hl)
      refine ⟨_, rfl, V', _, _, _, hk, hrep, hoff, alloc_only _ _, new_at (by simp [privB, hnb, blockOf]), .inl (exec_v ?_)⟩
      simp only [Instr.box, Sem.run_bind, newVar, newRow_run, Result.andThen_ok, Sem.run_pure]
    · exact hk.elim
  · -- store
    rename_i ho _
    rw [ho] at hop; cases hop
  · -- buildSlice
    rename_i t n parts d ho hd
    rw [ho, hd]
    split at hk
    · rename_i e sz hf he
      split at hk
      · rename_i es hes hn
        obtain ⟨hu, i, hi, rfl⟩ := sliceElem_eq he
        have hn' := Nat.le_of_ble_eq_true hn
        obtain ⟨h1, h2, h2', h3⟩ := elemsOf_rep h _ _ _ hes
        split at hk
        · rename_i z hz
          obtain ⟨i', v, hi', hv, rfl, hone⟩ := zeroT_eq hz
          have hz1 : (if n * i.size = 0 then (pure #[] : Sem (Array Value)) else do pure (← zeroValue e).cells).run P w = .ok (if n * i.size = 0 then #[] else v.cells) w := by
            split
            · rfl
            · simp only [Sem.run_bind, run_zero hi' hv, Result.andThen_ok, Sem.run_pure]
          generalize hq : (if n * i.size = 0 then #[] else v.cells) = zq at hz1
          generalize hcells : (Array.range (n * i.size)).map (zq[· % zq.size]!) = cells
          have hcl : cells.size = n * i.size := by rw [← hcells]; simp
          obtain ⟨cs, h4, h5⟩ := h3 cells [] (by simp) (by simpa using hcl) (by simp)
          have hcs : cs.size = n * i.size := by rw [← Array.length_toList, h5, List.nil_append, flatten_len h2, h1]
          obtain ⟨V', hoff, hrep, hnb⟩ := new_row h hf (es := es) (ty := e) (sz := i.size) (cap := n) (c := cs) none (w' := { w with heap := w.heap.push (.cells cs e) }) (alloc_only _ _) (by simp) (by omega) (by omega) h2
            (by rw [h5, List.nil_append, List.take_of_length_le (by rw [flatten_len h2]; exact Nat.le_refl _)]) h2'
          rw [h1] at hrep
          refine ⟨_, rfl, V', _, _, _, hk, hrep, hoff, alloc_only _ _, new_at (by simp [privB, hnb, blockOf]), .inl (exec_v ?_)⟩
          simp only [Instr.buildSlice, Sem.run_bind, run_underlying hu, Result.andThen_ok, run_sizeT hi]
          rw [if_neg (by omega)]
          by_cases hzero : n * i.size = 0
          · rw [if_pos hzero] at hq ⊢
            subst hq
            simp only [Sem.run_bind, Sem.run_pure, Result.andThen_ok, Array.toList_map]
            rw [hcells, h4]
            simp only [Sem.run_bind, newRow_run, Result.andThen_ok, Sem.run_pure]
          · rw [if_neg hzero] at hq ⊢
            subst hq
            simp only [Sem.run_bind, run_zero hi' hv, Sem.run_pure, Result.andThen_ok, Array.toList_map]
            rw [hcells, h4]
            simp only [Sem.run_bind, newRow_run, Result.andThen_ok, Sem.run_pure]
        · exact hk.elim
      · exact hk.elim
    · exact hk.elim
  · -- makeSlice
    rename_i t n c d ho hd
    rw [ho, hd]
    have hn := h.ev n
    have hc := h.ev c
    split at hk
    · rename_i e sz hf he
      split at hk
      · rename_i n' c' z by_ hn1 hc1 hz hby
        rw [hn1] at hn
        rw [hc1] at hc
        obtain ⟨hn, -⟩ := hn
        obtain ⟨hc, -⟩ := hc
        split at hk
        · rename_i hzl
          have hzl := nbt hzl
          obtain ⟨⟨h0, rfl, hroom⟩, hK⟩ := hk
          obtain ⟨hu, i, hi, rfl⟩ := sliceElem_eq he
          obtain ⟨i', v, hi', hv, rfl, hone⟩ := zeroT_eq hz
          rw [hi] at hi'; cases hi'
          have hby' : i.bytes = by_ + 1 := by simp [bytesT, hi] at hby; exact hby
          have hle : c' ≤ roomMax := by
            refine Int.le_trans ?_ hroom
            have : c' * 1 ≤ c' * ((by_ + 1 : Nat) : Int) := Int.mul_le_mul_of_nonneg_left (by omega) h0
            simpa using this
          have hwrap : IntKind.i64.wrap c' = c' := IntWalk.i64_in c' (by unfold roomMax at hle; omega)
          have hzs : v.cells.size = i.size := by simpa using hzl
          have hz1 : (if c'.toNat * i.size = 0 then (pure #[] : Sem (Array Value)) else do pure (← zeroValue e).cells).run P w = .ok (if c'.toNat * i.size = 0 then #[] else v.cells) w := by
            split
            · rfl
            · simp only [Sem.run_bind, run_zero hi hv, Result.andThen_ok, Sem.run_pure]
          generalize hq : (if c'.toNat * i.size = 0 then #[] else v.cells) = zq at hz1
          have hcells : ((Array.range (c'.toNat * i.size)).map (zq[· % zq.size]!)).toList = (List.replicate c'.toNat v.cells.toList).flatten := by
            by_cases hzero : c'.toNat * i.size = 0
            · rw [hzero]
              have : (List.replicate c'.toNat v.cells.toList).flatten = [] := by
                apply List.eq_nil_of_length_eq_zero
                rw [flatten_len (sz := i.size) (by intro e he; rw [List.eq_of_mem_replicate he]; simpa using hzl)]
                simpa using hzero
              rw [this]; simp
            · rw [if_neg hzero] at hq
              subst hq
              rw [← hzs]
              exact zeros_list _
          have hrepl : ∀ e ∈ List.replicate c'.toNat v.cells.toList, e.length = i.size := by
            intro e he; rw [List.eq_of_mem_replicate he]; simpa using hzl
          obtain ⟨V', hoff, hrep, hnb⟩ := new_row h hf (es := List.replicate c'.toNat v.cells.toList) (ty := e) (sz := i.size) (cap := c'.toNat) (c := (Array.range (c'.toNat * i.size)).map (zq[· % zq.size]!)) none (w' := { w with heap := w.heap.push (.cells ((Array.range (c'.toNat * i.size)).map (zq[· % zq.size]!)) e) }) (alloc_only _ _) (by simp) (by simp) (by simp) hrepl
            (by rw [hcells, List.take_of_length_le (by rw [flatten_len hrepl]; exact Nat.le_refl _)]) (by intro e he; rw [List.eq_of_mem_replicate he]; exact hone)
          rw [List.length_replicate] at hrep
          refine ⟨_, rfl, V', _, _, _, hK, hrep, hoff, alloc_only _ _, new_at (by simp [privB, hnb, blockOf]), .inl (exec_v ?_)⟩
          rw [hn, hc]
          have hb48 : ¬ ((i.bytes : Int) * c' > 2 ^ 48) := by
            rw [hby', Int.mul_comm]
            unfold roomMax at hroom
            omega
          have hcond : ¬ (c' < 0 || (i.bytes : Int) * c' > 2 ^ 48 || c' < 0 || c' > c') = true := by
            simp; omega
          simp only [Instr.makeSlice, Sem.run_bind, run_underlying hu, Result.andThen_ok, asInt, asIntOf, Sem.run_pure, typeInfo, run_program, hi, hwrap]
          rw [if_neg (by simpa using hcond)]
          have hask : (askRoom (c'.toNat * i.bytes)).run P w = .ok () w := by unfold askRoom; split <;> rfl
          simp only [Sem.run_bind, hask, Result.andThen_ok, run_sizeT hi]
          by_cases hzero : c'.toNat * i.size = 0
          · rw [if_pos hzero] at hq ⊢
            subst hq
            simp only [Sem.run_bind, Sem.run_pure, Result.andThen_ok, newRow_run]
          · rw [if_neg hzero] at hq ⊢
            subst hq
            simp only [Sem.run_bind, run_zero hi hv, Sem.run_pure, Result.andThen_ok, newRow_run]
        · exact hk.elim
      · exact hk.elim
    · exact hk.elim
  · -- append
    rename_i ho _
    rw [ho] at hop; cases hop
  · exact hk.elim
end
end Sx

set_option linter.unusedVariables false
set_option linter.unusedSimpArgs false
namespace Sx
open Go
set_option linter.unusedSectionVars false
variable [Dr]
section
variable {P : Program} {C : Ctx} {V : Vl} {s : St} {H : Heap} {a : Act} {w : World}

theorem only_refl (B : Nat → Prop) : Only w w B := ⟨rfl, Tp.refl _, rfl, Nat.le_refl _, fun _ _ _ => rfl⟩
theorem setNth_setNth {α : Type} : ∀ (l : List α) (n : Nat) (x y : α), setNth (setNth l n x) n y = setNth l n y
  | [], _, _, _ => rfl
  | _ :: r, 0, _, _ => rfl
  | z :: r, n + 1, x, y => by simp [setNth, setNth_setNth r n x y]
theorem rep_setbad (h : Rep C V s H a w) (t : Nat) : Rep C V (s.set t (.c .bad)) H a w := rep_same h (x := .c .bad) trivial
theorem norm_step (h : Rep C V s H a w) {t d ty sz : Nat} (hf : (s.set t (.c .bad)).free d = true) {base : Option Nat} {es : List (List Value)} (hb : baseOf s ty sz (s.get t) = some (base, es)) :
    ∃ V', Rep C V' (St.set ⟨s.env, objSet (delO s.objs base) d (.row ty sz es), s.dfr⟩ t (.c (.row d))) H a w := by
  obtain ⟨ab, cap, hbr⟩ := base_rep h (h.get t) hb
  have h1 := rep_setbad h t
  have hoff := rows_off V d (a.tmps.getD t undef)
  have hv : one (a.tmps.getD t undef) = true := by rw [hbr.val]; rfl
  have hrow : RowIn w (a.tmps.getD t undef) ty sz es := by
    rw [hbr.val]
    rcases hbr.blk with ⟨rfl, rfl⟩ | ⟨b, o, c, ty', rfl, hb1, hb2, hb3, ⟨rfl, _⟩ | ⟨hg, _⟩⟩
    · have : es = [] := List.length_eq_zero_iff.1 (by have := hbr.room; omega)
      subst this
      exact .inl ⟨rfl, rfl⟩
    · exact .inr ⟨b, o, cap, c, rfl, hb1, hbr.room, hb2, hbr.el, hb3, hbr.on⟩
    · exact hg.elim
  have h2 := rep_objs (d := d) (obj := .row ty sz es) (base := base) (V' := V.rows d (a.tmps.getD t undef)) h1 hf hoff (only_refl _) (by simpa [ObjRep, Vl.rows] using hrow) (by
    intro b hb'
    simp only [privB, Vl.rows, if_true] at hb'
    rw [hbr.val] at hb'
    rcases hbr.blk with ⟨rfl, rfl⟩ | ⟨b', o, c, ty', rfl, hb1, hb2, hb3, ⟨rfl, r, ob, g1, g2, g3⟩ | ⟨hg, _⟩⟩
    · simp [blockOf] at hb'
    · simp [blockOf] at hb'
      subst hb'
      exact .inr ⟨r, ob, g1, g2, g3⟩
    · exact hg.elim)
  have h3 := rep_same h2 (g := t) (x := .c (.row d)) (by
    show _ ∧ _
    exact ⟨by simp [Vl.rows], by simpa [Vl.rows] using hv⟩)
  refine ⟨V.rows d (a.tmps.getD t undef), ?_⟩
  have e : (St.set ⟨(s.set t (.c .bad)).env, objSet (delO (s.set t (.c .bad)).objs base) d (.row ty sz es), (s.set t (.c .bad)).dfr⟩ t (.c (.row d))) = St.set ⟨s.env, objSet (delO s.objs base) d (.row ty sz es), s.dfr⟩ t (.c (.row d)) := by
    simp only [St.set, setNth_setNth]
  rw [← e]
  exact h3
theorem normTo_sound {t d ty sz : Nat} {K : St → Prop} (h : Rep C V s H a w) (hk : normTo s t d ty sz K) : ∃ V' s', K s' ∧ Rep C V' s' H a w := by
  unfold normTo at hk
  split at hk
  · rename_i base es hf hb
    obtain ⟨V', h'⟩ := norm_step h hf hb
    exact ⟨V', _, hk, h'⟩
  · exact hk.elim
theorem normRow_sound {t ty sz : Nat} {K : St → Prop} (h : Rep C V s H a w) (hk : normRow s t ty sz K) : ∃ V' s', K s' ∧ Rep C V' s' H a w := by
  unfold normRow at hk
  have hd : Rep C V ⟨s.env, objDel s.objs t, s.dfr⟩ H a w := rep_del h t
  split at hk
  · split at hk
    · exact ⟨V, s, hk, h⟩
    · exact normTo_sound hd hk
  · split at hk
    · obtain ⟨V', s', hk', h'⟩ := normTo_sound h hk
      exact normTo_sound h' hk'
    · exact normTo_sound hd hk
  · exact normTo_sound hd hk
theorem pubSl_sound (h : Rep C V s H a w) {t : Nat} {K : St → Heap → Prop} (hk : pubSl t s H K) : ∃ s' H', K s' H' ∧ Rep C V s' H' a w := by
  unfold pubSl at hk
  split at hk
  · rename_i d hd
    split at hk
    · rename_i ty sz es hl
      obtain ⟨H', g1, g2, g3, g4, g5, g6⟩ := lend_row h hl (.row ty sz) (.inl rfl)
      have hx := h.get t
      rw [hd] at hx
      obtain ⟨hx, hone⟩ := hx
      obtain ⟨a0, c0, e⟩ : ∃ a c, V.row d = .slice a es.length c := by
        rcases g4 with ⟨e, rfl⟩ | ⟨b, o, cap, c, e, _⟩
        · exact ⟨none, 0, e⟩
        · exact ⟨_, _, e⟩
      rw [e] at g2 g3 g4
      refine ⟨_, H', hk a0 c0 H' g1 g2 g3 g4, ?_⟩
      have h4 := g5.put (x := .c (.v (.slice a0 es.length c0))) (y := .slice a0 es.length c0) ⟨rfl, rfl⟩ (some t)
      rw [put_same (by rw [hx, e])] at h4
      exact h4
    · exact hk.elim
  · exact ⟨s, H, hk, h⟩
theorem normRows_sound : ∀ (l : List SlotH) {V : Vl} {s : St} {H : Heap} {K : St → Heap → Prop}, Rep C V s H a w → normRows l s H K → ∃ V' s' H', K s' H' ∧ Rep C V' s' H' a w
  | [], V, s, H, K, h, hk => ⟨V, s, H, hk, h⟩
  | .f t k :: r, V, s, H, K, h, hk => by
    simp only [normRows] at hk
    split at hk
    · obtain ⟨s', H', hk, h'⟩ := pubSl_sound h hk
      exact normRows_sound r h' hk
    · exact normRows_sound r h hk
  | .row t ty sz :: r, V, s, H, K, h, hk => by
    simp only [normRows] at hk
    obtain ⟨V', s', hk, h'⟩ := normRow_sound h hk
    exact normRows_sound r h' hk
  | .own t ty sz :: r, V, s, H, K, h, hk => by
    simp only [normRows] at hk
    split at hk
    · obtain ⟨V', s', H', hk, h'⟩ := adoptK_sound (rep_del h t) hk
      exact normRows_sound r h' hk
    · obtain ⟨V', s', hk, h'⟩ := normRow_sound h hk
      exact normRows_sound r h' hk
theorem getK_spec : ∀ (k : FK) (v : Value) {K : k.ty → Prop}, k.getK v K → ∃ x, K x ∧ v = k.mk x := by
  intro k v K h
  cases k <;> cases v <;> simp only [FK.getK] at h <;> first
    | exact h.elim
    | exact ⟨_, h, rfl⟩
    | (split at h
       · rename_i hk; have := sameK_eq hk; subst this; exact ⟨_, h, rfl⟩
       · exact h.elim)
theorem eqSC_spec {x y : SC} {X : Prop} (h : eqSC x y X) : x = y ∧ X := by
  unfold eqSC at h
  split at h
  · split at h
    · rename_i hk; have := sameK_eq hk; subst this; exact ⟨by rw [h.1], h.2⟩
    · exact h.elim
  · exact ⟨by rw [h.1], h.2⟩
  · exact ⟨by rw [h.1], h.2⟩
  · exact ⟨by rw [h.1, h.2.1, h.2.2.1], h.2.2.2⟩
  · exact ⟨by rw [h.1], h.2⟩
  · exact ⟨by rw [h.1], h.2⟩
  · split at h
    · rename_i hk; have := nbt hk; subst this; exact ⟨by rw [h.1], h.2⟩
    · exact h.elim
  · split at h
    · rename_i hk; have := nbt hk; subst this; exact ⟨rfl, h⟩
    · exact h.elim
  · exact ⟨rfl, h⟩
  · exact h
theorem eqSegs_spec : ∀ {l r : List Seg} {X : Prop}, eqSegs l r X → l = r ∧ X
  | [], [], X, h => ⟨rfl, h⟩
  | .c x :: l, .c y :: r, X, h => by
    obtain ⟨e1, h1⟩ := eqSC_spec h
    obtain ⟨e2, h2⟩ := eqSegs_spec h1
    exact ⟨by rw [e1, e2], h2⟩
  | .ints k n xs :: l, .ints k' n' ys :: r, X, h => by
    simp only [eqSegs] at h
    split at h
    · rename_i hk
      simp only [Bool.and_eq_true] at hk
      have := sameK_eq hk.1; subst this
      have := nbt hk.2; subst this
      obtain ⟨e2, h2⟩ := eqSegs_spec h.2
      exact ⟨by rw [h.1, e2], h2⟩
    · exact h.elim
  | [], _ :: _, X, h => by simp [eqSegs] at h
  | .c _ :: _, [], X, h => by simp [eqSegs] at h
  | .ints _ _ _ :: _, [], X, h => by simp [eqSegs] at h
  | .c _ :: _, .ints _ _ _ :: _, X, h => by simp [eqSegs] at h
  | .ints _ _ _ :: _, .c _ :: _, X, h => by simp [eqSegs] at h
theorem eqSV_spec {x y : SV} {X : Prop} (h : eqSV x y X) : x = y ∧ X := by
  unfold eqSV at h
  split at h
  · obtain ⟨e1, h1⟩ := eqSC_spec h; exact ⟨by rw [e1], h1⟩
  · obtain ⟨e1, h1⟩ := eqSegs_spec h; exact ⟨by rw [e1], h1⟩
  · exact h
theorem eqSVs_spec : ∀ {l r : List SV} {X : Prop}, eqSVs l r X → l = r ∧ X
  | [], [], X, h => ⟨rfl, h⟩
  | x :: l, y :: r, X, h => by
    obtain ⟨e1, h1⟩ := eqSV_spec h
    obtain ⟨e2, h2⟩ := eqSVs_spec h1
    exact ⟨by rw [e1, e2], h2⟩
  | [], _ :: _, X, h => by simp [eqSVs] at h
  | _ :: _, [], X, h => by simp [eqSVs] at h
theorem eqO_spec {x y : Option AObj} {X : Prop} (h : eqO x y X) : x = y ∧ X := by
  unfold eqO at h
  split at h
  · exact ⟨rfl, h⟩
  · split at h
    · rename_i hk; have := nbt hk; subst this
      obtain ⟨e1, h1⟩ := eqSegs_spec h
      exact ⟨by rw [e1], h1⟩
    · exact h.elim
  · split at h
    · rename_i hk
      simp only [Bool.and_eq_true] at hk
      have := nbt hk.1; subst this
      have := nbt hk.2; subst this
      exact ⟨by rw [h.1], h.2⟩
    · exact h.elim
  · exact h.elim
theorem eqD_spec {x y : List ADef} {X : Prop} (h : eqD x y X) : x = y ∧ X := by
  unfold eqD at h
  split at h
  · exact ⟨rfl, h⟩
  · exact h
def SlotsM (s : St) : (l : List SlotH) → PTy (l.map SlotH.pk) → Prop
  | [], _ => True
  | .f t k :: r, x => s.get t = .c (.v (k.mk x.1)) ∧ SlotsM s r x.2
  | .row t ty sz :: r, x => s.get t = .c (.row t) ∧ look s.objs t = some (.row ty sz x.1) ∧ SlotsM s r x.2
  | .own t ty sz :: r, x => s.get t = .c (.row t) ∧ look s.objs t = some (.row ty sz x.1) ∧ SlotsM s r x.2
theorem getSlots_spec : ∀ (l : List SlotH) {K : PTy (l.map SlotH.pk) → Prop}, getSlots s l K → ∃ p, K p ∧ SlotsM s l p
  | [], K, h => ⟨(), h, trivial⟩
  | .f t k :: r, K, h => by
    simp only [getSlots] at h
    split at h
    · rename_i v hv
      obtain ⟨x, h', rfl⟩ := getK_spec k v h
      obtain ⟨p, h1, h2⟩ := getSlots_spec r h'
      exact ⟨(x, p), h1, hv, h2⟩
    · exact h.elim
  | .row t ty sz :: r, K, h => by
    simp only [getSlots] at h
    split at h
    · rename_i d ty' sz' es hd hl
      split at h
      · rename_i hb
        simp only [Bool.and_eq_true] at hb
        have := nbt hb.1.1; subst this
        have := nbt hb.1.2; subst this
        have := nbt hb.2; subst this
        obtain ⟨p, h1, h2⟩ := getSlots_spec r h
        exact ⟨(es, p), h1, hd, hl, h2⟩
      · exact h.elim
    · exact h.elim
  | .own t ty sz :: r, K, h => by
    simp only [getSlots] at h
    split at h
    · rename_i d ty' sz' es hd hl
      split at h
      · rename_i hb
        simp only [Bool.and_eq_true] at hb
        have := nbt hb.1.1; subst this
        have := nbt hb.1.2; subst this
        have := nbt hb.2; subst this
        obtain ⟨p, h1, h2⟩ := getSlots_spec r h
        exact ⟨(es, p), h1, hd, hl, h2⟩
      · exact h.elim
    · exact h.elim
theorem getSegs_spec : ∀ (l : List SegH) (sg : List Seg) {K : PTy (l.map SegH.pk) → Prop}, getSegs l sg K → ∃ p, K p ∧ sg = mkSegs l p
  | [], [], K, h => ⟨(), h, rfl⟩
  | .f k :: r, .c (.v v) :: sg, K, h => by
    simp only [getSegs] at h
    obtain ⟨x, h', rfl⟩ := getK_spec k v h
    obtain ⟨p, h1, rfl⟩ := getSegs_spec r sg h'
    exact ⟨(x, p), h1, rfl⟩
  | .ints k n :: r, .ints k' n' xs :: sg, K, h => by
    simp only [getSegs] at h
    split at h
    · rename_i hb
      simp only [Bool.and_eq_true] at hb
      have := sameK_eq hb.1; subst this
      have := nbt hb.2; subst this
      obtain ⟨p, h1, rfl⟩ := getSegs_spec r sg h
      exact ⟨(xs, p), h1, rfl⟩
    · exact h.elim
  | [], _ :: _, K, h => by simp [getSegs] at h
  | .f k :: r, [], K, h => by simp [getSegs] at h
  | .ints k n :: r, [], K, h => by simp [getSegs] at h
  | .f k :: r, .ints _ _ _ :: _, K, h => by simp [getSegs] at h
  | .ints k n :: r, .c _ :: _, K, h => by simp [getSegs] at h
  | .f k :: r, .c (.box _ _) :: _, K, h => by simp [getSegs] at h
  | .f k :: r, .c (.boxi _ _ _ _) :: _, K, h => by simp [getSegs] at h
  | .f k :: r, .c (.arr _ _ _ _ _) :: _, K, h => by simp [getSegs] at h
  | .f k :: r, .c (.row _) :: _, K, h => by simp [getSegs] at h
  | .f k :: r, .c (.sub _ _ _ _) :: _, K, h => by simp [getSegs] at h
  | .f k :: r, .c (.cell _ _ _ _) :: _, K, h => by simp [getSegs] at h
  | .f k :: r, .c (.clo _ _ _) :: _, K, h => by simp [getSegs] at h
  | .f k :: r, .c .bad :: _, K, h => by simp [getSegs] at h
theorem getObjs_spec {s0 : St} : ∀ (l : List ObjH) {K : PTy2 (l.map ObjH.pks) → Prop}, getObjs s0 s l K → ∃ p, K p ∧ ∀ d o, look (mkObjs s0 l p) d = some o → look s.objs d = some o
  | [], K, h => ⟨(), h, by simp [mkObjs, look]⟩
  | .keep d :: r, K, h => by
    obtain ⟨h0, h⟩ := eqO_spec h
    obtain ⟨p, h1, h2⟩ := getObjs_spec r h
    refine ⟨((), p), h1, ?_⟩
    intro d' o e
    simp only [mkObjs] at e
    split at e
    · rename_i o' ho'
      simp only [look] at e
      split at e
      · rename_i hb; have := nbt hb; subst this; cases e; rw [h0]; exact ho'
      · exact h2 _ _ e
    · exact h2 _ _ e
  | .box d ty l :: r, K, h => by
    simp only [getObjs] at h
    split at h
    · rename_i ty' segs hl
      split at h
      · rename_i hb
        have := nbt hb; subst this
        obtain ⟨x, h', rfl⟩ := getSegs_spec l segs h
        obtain ⟨p, h1, h2⟩ := getObjs_spec r h'
        refine ⟨(x, p), h1, ?_⟩
        intro d' o e
        simp only [mkObjs, look] at e
        split at e
        · rename_i hb; have := nbt hb; subst this; cases e; exact hl
        · exact h2 _ _ e
      · exact h.elim
    · exact h.elim
theorem set_get {s : St} {t t' : Nat} {x : SV} : ∀ y, nth (s.set t x).env t' = some y → (t = t' ∧ y = x) ∨ nth s.env t' = some y := by
  intro y hy
  simp only [St.set, nth_setNth] at hy
  by_cases h : t = t'
  · rw [if_pos h] at hy
    split at hy
    · cases hy; exact .inl ⟨h, rfl⟩
    · cases hy
  · rw [if_neg h] at hy; exact .inr hy
theorem setSlots_spec {s2 : St} : ∀ (l : List SlotH) (p : PTy (l.map SlotH.pk)) (s : St), SlotsM s2 l p → (∀ t x, nth s.env t = some x → x = .c .bad ∨ x = s2.get t) → (∀ d o, look s.objs d = some o → look s2.objs d = some o) →
    (∀ t x, nth (setSlots l p s).env t = some x → x = .c .bad ∨ x = s2.get t) ∧ (∀ d o, look (setSlots l p s).objs d = some o → look s2.objs d = some o) ∧ (setSlots l p s).env.length = s.env.length ∧ (setSlots l p s).dfr = s.dfr
  | [], p, s, _, h1, h2 => ⟨h1, h2, rfl, rfl⟩
  | .f t k :: r, p, s, hm, h1, h2 => by
    obtain ⟨hm1, hm2⟩ := hm
    simp only [setSlots]
    obtain ⟨g1, g2, g3, g4⟩ := setSlots_spec r p.2 (s.set t (.c (.v (k.mk p.1)))) hm2 (fun t' x hx => by
      rcases set_get _ hx with ⟨rfl, rfl⟩ | hx
      · exact .inr hm1.symm
      · exact h1 _ _ hx) h2
    exact ⟨g1, g2, by rw [g3]; simp [St.set, setNth_eq], by rw [g4]; rfl⟩
  | .row t ty sz :: r, p, s, hm, h1, h2 => by
    obtain ⟨hm1, hm2, hm3⟩ := hm
    simp only [setSlots]
    obtain ⟨g1, g2, g3, g4⟩ := setSlots_spec r p.2 (St.set ⟨s.env, objSet s.objs t (.row ty sz p.1), s.dfr⟩ t (.c (.row t))) hm3 (fun t' x hx => by
      rcases set_get _ hx with ⟨rfl, rfl⟩ | hx
      · exact .inr hm1.symm
      · exact h1 _ _ hx) (fun d o e => by
      simp only [St.set, look_objSet] at e
      split at e
      · rename_i hd; subst hd; cases e; exact hm2
      · exact h2 _ _ e)
    exact ⟨g1, g2, by rw [g3]; simp [St.set, setNth_eq], by rw [g4]; rfl⟩
  | .own t ty sz :: r, p, s, hm, h1, h2 => by
    obtain ⟨hm1, hm2, hm3⟩ := hm
    simp only [setSlots]
    obtain ⟨g1, g2, g3, g4⟩ := setSlots_spec r p.2 (St.set ⟨s.env, objSet s.objs t (.row ty sz p.1), s.dfr⟩ t (.c (.row t))) hm3 (fun t' x hx => by
      rcases set_get _ hx with ⟨rfl, rfl⟩ | hx
      · exact .inr hm1.symm
      · exact h1 _ _ hx) (fun d o e => by
      simp only [St.set, look_objSet] at e
      split at e
      · rename_i hd; subst hd; cases e; exact hm2
      · exact h2 _ _ e)
    exact ⟨g1, g2, by rw [g3]; simp [St.set, setNth_eq], by rw [g4]; rfl⟩
theorem sameLen_eq : ∀ {l r : List SV}, sameLen l r = true → l.length = r.length
  | [], [], _ => rfl
  | _ :: l, _ :: r, h => by simp [sameLen_eq (l := l) (r := r) (by simpa [sameLen] using h)]
  | [], _ :: _, h => by simp [sameLen] at h
  | _ :: _, [], h => by simp [sameLen] at h
theorem gets_eq {s s' : St} : ∀ {l : List Nat}, gets s l = gets s' l → ∀ t, memN l t = true → s.get t = s'.get t
  | [], _, t, h => by simp [memN] at h
  | x :: r, e, t, h => by
    simp only [gets, List.cons.injEq] at e
    simp only [memN] at h
    split at h
    · rename_i hb; have := nbt hb; subst this; exact e.1
    · exact gets_eq e.2 t h
/-- A state that is taken as one at the head. -/
theorem toHead_sound (h : Rep C V s H a w) {hh : LHint} {s0 : St} {K : hh.Par → Heap → Prop} (hk : toHead hh s0 s H K) : ∃ V' p H', K p H' ∧ Rep C V' (rebuild hh s0 p) H' a w := by
  unfold toHead at hk
  obtain ⟨V', s2, H2, hk, h2⟩ := normRows_sound _ (rep_restrict h _) hk
  split at hk
  · rename_i hlen
    obtain ⟨hfd, hk⟩ := eqD_spec hk
    obtain ⟨hfe, hk⟩ := eqSVs_spec hk
    obtain ⟨p1, hk, hm⟩ := getSlots_spec _ hk
    obtain ⟨p2, hk, ho⟩ := getObjs_spec _ hk
    have hl := sameLen_eq hlen
    refine ⟨V', (p1, p2), H2, hk, ?_⟩
    unfold rebuild
    obtain ⟨g1, g2, g3, g4⟩ := setSlots_spec hh.slots p1 ⟨restrictEnv hh.fix s0.env 0, mkObjs s0 hh.objs p2, s0.dfr⟩ hm (fun t x e => by
      simp only [nth_restrict, Nat.zero_add] at e
      cases hn : nth s0.env t with
      | none => rw [hn] at e; simp at e
      | some y =>
        rw [hn] at e
        simp only [Option.map_some, Option.some.injEq] at e
        split at e
        · rename_i hb
          subst e
          right
          rw [gets_eq hfe t hb]
          unfold St.get
          rw [hn]
        · subst e; left; rfl) ho
    exact rep_weaken h2 (by rw [g3]; simp only [restrict_len]; rw [← hl]; exact h2.len) g1 (by rw [g4]; exact hfd.symm) g2
  · exact hk.elim
end
end Sx

set_option linter.unusedVariables false
set_option linter.unusedSimpArgs false
namespace Sx
open Go
set_option linter.unusedSectionVars false
variable [Dr]

/-! ### One value -/
theorem sc_exact {V : Vl} {x : SC} {y y' : Value} (hx : exactC x = true) (h : x.rep V y) (h' : x.rep V y') : y = y' := by
  cases x <;> simp only [exactC] at hx <;> try cases hx
  all_goals simp only [SC.rep] at h h'
  · rw [h.1, h'.1]
  · rw [h, h']
  · rw [h.2, h'.2]
  · rw [h.1, h'.1]
  · obtain ⟨A, n, cap, h1, h2, h3⟩ := h
    obtain ⟨A', n', cap', h1', h2', h3'⟩ := h'
    rw [h1] at h1'
    cases h1'
    rw [h3, h3']
theorem segs_exact {V : Vl} : ∀ {l : List Seg} {y y' : List Value}, exactS l = true → SegsRep V l y → SegsRep V l y' → y = y'
  | [], y, y', _, h, h' => by
    have e : y = [] := h
    have e' : y' = [] := h'
    rw [e, e']
  | .c x :: r, y, y', hx, h, h' => by
    simp only [exactS, Bool.and_eq_true] at hx
    obtain ⟨z, l, rfl, h1, h2⟩ := h
    obtain ⟨z', l', rfl, h1', h2'⟩ := h'
    rw [sc_exact hx.1 h1 h1', segs_exact hx.2 h2 h2']
  | .ints k n xs :: r, y, y', hx, h, h' => by
    obtain ⟨_, l, rfl, h2⟩ := h
    obtain ⟨_, l', rfl, h2'⟩ := h'
    rw [segs_exact (l := r) hx h2 h2']
theorem comps_exact {V : Vl} : ∀ {l : List Comp} {y y' : List Value}, exactP l = true → CompsRep V l y → CompsRep V l y' → y = y'
  | [], y, y', _, h, h' => by
    have e : y = [] := h
    have e' : y' = [] := h'
    rw [e, e']
  | .c x :: r, y, y', hx, h, h' => by
    simp only [exactP, Bool.and_eq_true] at hx
    obtain ⟨z, l, rfl, h1, h2⟩ := h
    obtain ⟨z', l', rfl, h1', h2'⟩ := h'
    rw [sc_exact hx.1 h1 h1', comps_exact hx.2 h2 h2']
  | .agg s :: r, y, y', hx, h, h' => by
    simp only [exactP, Bool.and_eq_true] at hx
    obtain ⟨z, l, rfl, ⟨c, rfl, h1⟩, h2⟩ := h
    obtain ⟨z', l', rfl, ⟨c', rfl, h1'⟩, h2'⟩ := h'
    rw [segs_exact hx.1 h1 h1', comps_exact hx.2 h2 h2']
theorem sv_exact {V : Vl} {x : SV} {y y' : Value} (hx : exactV x = true) (h : x.rep V y) (h' : x.rep V y') : y = y' := by
  cases x with
  | c x => exact sc_exact hx h h'
  | agg l =>
    obtain ⟨c, rfl, h⟩ := h
    obtain ⟨c', rfl, h'⟩ := h'
    rw [segs_exact hx h h']
  | tup l =>
    obtain ⟨c, rfl, h⟩ := h
    obtain ⟨c', rfl, h'⟩ := h'
    rw [comps_exact hx h h']

/-! ### What is asked of a value is asked of one -/
def Pk {α : Type} (X : (α → Prop) → Prop) (K : α → Prop) : Prop := ∃ z, K z ∧ ∀ K' : α → Prop, K' z → X K'
theorem Pk.map {α β : Type} {X : (α → Prop) → Prop} {f : α → β} {K : β → Prop} (h : Pk X fun a => K (f a)) : Pk (fun K' => X fun a => K' (f a)) K := by
  obtain ⟨z, h1, h2⟩ := h
  exact ⟨f z, h1, fun K' h => h2 _ h⟩
section
variable {P : Program}
theorem pk_now {α : Type} {z : α} {K : α → Prop} (h : K z) : Pk (fun K' => K' z) K := ⟨z, h, fun _ h => h⟩
theorem pk_and {α : Type} {p : Prop} {X : (α → Prop) → Prop} {K : α → Prop} (hp : p) (h : Pk X K) : Pk (fun K' => p ∧ X K') K := by
  obtain ⟨z, h1, h2⟩ := h
  exact ⟨z, h1, fun K' h => ⟨hp, h2 K' h⟩⟩
theorem pk_ptr {p : Option Addr} {α : Type} {F : Addr → (α → Prop) → Prop} {K : α → Prop} (hF : ∀ a, F a K → Pk (F a) K) (h : PtrK p fun a => F a K) : Pk (fun K' => PtrK p fun a => F a K') K := by
  cases p with
  | none => exact h.elim
  | some a => exact hF a h
theorem mkK_pick {b : Bool} {l : List Seg} {K : SV → Prop} (h : mkK b l K) : Pk (mkK b l) K := by
  unfold mkK at *
  split at h
  · exact pk_now h
  · split at h
    · exact pk_now h
    · exact h.elim
theorem intK_pick {op : BinOp} {k : IntKind} {x y : Int} {K : Value → Prop} (h : intK op k x y K) : Pk (intK op k x y) K := by
  unfold intK at *
  split at h <;> first | exact h.elim | exact pk_now h | exact pk_and h.1 (pk_now h.2)
theorem eqK_pick {l l' : List Seg} {acc : Option Bool} {K : Bool → Prop} (h : eqK l l' acc K) : Pk (eqK l l' acc) K := by
  fun_induction eqK l l' acc K
  all_goals first
    | exact h.elim
    | (rename_i ih; obtain ⟨z, h1, h2⟩ := ih h; exact ⟨z, h1, fun K' h => by have := h2 K' h; simp_all [eqK]⟩)
    | exact ⟨_, h, fun K' h => by simp_all [eqK]⟩
theorem eqlK_pick {eqs : List TypeId} {t : TypeId} {x y : SV} {K : Bool → Prop} (h : eqlK P eqs t x y K) : Pk (eqlK P eqs t x y) K := by
  unfold eqlK at *
  split at h
  all_goals first
    | exact h.elim
    | exact pk_now h
    | (split at h
       · split at h
         · exact eqK_pick h
         · exact h.elim
       · exact h.elim)
theorem binK_pick {eqs : List TypeId} {op : BinOp} {t : TypeId} {x y : SV} {K : SV → Prop} (h : binK P eqs op t x y K) : Pk (binK P eqs op t x y) K := by
  unfold binK at h ⊢
  split at h
  · split at h
    · exact pk_and h.1 (pk_now h.2)
    · exact pk_and h.1 (pk_now h.2)
    · split at h
      · exact (intK_pick h).map
      · exact h.elim
  · split at h
    · exact (eqlK_pick h).map
    · exact (eqlK_pick h).map
    · exact pk_now h
    · exact pk_now h
    · exact h.elim
  · split at h
    · exact (eqlK_pick h).map
    · exact (eqlK_pick h).map
    · exact h.elim
theorem foldK_pick {f : Int → Int → Int} {k : IntKind} : ∀ {l : List SV} {a : Int} {K : SV → Prop}, foldK f k a l K → Pk (foldK f k a l) K
  | [], a, K, h => pk_now h
  | .c (.v (.int k' b)) :: r, a, K, h => foldK_pick (l := r) h
  | .c (.v (.bool _)) :: r, a, K, h => h.elim
  | .c (.v (.float _ _)) :: r, a, K, h => h.elim
  | .c (.v (.complex _ _ _)) :: r, a, K, h => h.elim
  | .c (.v (.string _)) :: r, a, K, h => h.elim
  | .c (.v (.pointer _)) :: r, a, K, h => h.elim
  | .c (.v (.slice _ _ _)) :: r, a, K, h => h.elim
  | .c (.v (.map _)) :: r, a, K, h => h.elim
  | .c (.v (.chan _)) :: r, a, K, h => h.elim
  | .c (.v (.func _ _ _)) :: r, a, K, h => h.elim
  | .c (.v .nilFunc) :: r, a, K, h => h.elim
  | .c (.v (.iface _ _)) :: r, a, K, h => h.elim
  | .c (.v .nilIface) :: r, a, K, h => h.elim
  | .c (.v (.agg _)) :: r, a, K, h => h.elim
  | .c (.v (.tuple _)) :: r, a, K, h => h.elim
  | .c (.box _ _) :: r, a, K, h => h.elim
  | .c (.boxi _ _ _ _) :: r, a, K, h => h.elim
  | .c (.arr _ _ _ _ _) :: r, a, K, h => h.elim
  | .c (.row _) :: r, a, K, h => h.elim
  | .c (.sub _ _ _ _) :: r, a, K, h => h.elim
  | .c (.cell _ _ _ _) :: r, a, K, h => h.elim
  | .c .bad :: r, a, K, h => h.elim
  | .agg _ :: r, a, K, h => h.elim
  | .tup _ :: r, a, K, h => h.elim
theorem boundsK_pick {lo hi : Option SV} {len cap : Nat} {α : Type} {F : Nat → Nat → α} {K : α → Prop} (h : boundsK lo hi len cap fun l h => K (F l h)) : Pk (fun K' => boundsK lo hi len cap fun l h => K' (F l h)) K := by
  unfold boundsK at *
  split at h
  · exact pk_now h
  · exact pk_and h.1 (pk_now h.2)
  · exact pk_and h.1 (pk_now h.2)
  · exact pk_and h.1 (pk_and h.2.1 (pk_now h.2.2))
  · exact h.elim
theorem sliceK_pick {t : TypeId} {x : SV} {lo hi : Option SV} {s : St} {K : SV → Prop} (h : sliceK P t x lo hi s K) : Pk (sliceK P t x lo hi s) K := by
  unfold sliceK at *
  split at h
  all_goals first
    | exact h.elim
    | (split at h
       · first
         | exact boundsK_pick h
         | (split at h
            · first
              | exact boundsK_pick h
              | (split at h
                 · exact boundsK_pick h
                 · exact h.elim)
            · exact h.elim)
       · exact h.elim)
theorem indexK_pick {t : TypeId} {x : SV} {n : Int} {s : St} {K : SV → Prop} (h : indexK P t x n s K) : Pk (indexK P t x n s) K := by
  unfold indexK at *
  repeat' split at h
  all_goals first
    | exact h.elim
    | exact pk_and h.1 (pk_now h.2)
    | exact pk_and h.1 (pk_ptr (fun a h => pk_now h) h.2)
theorem capK_pick {t : TypeId} {x : SV} {K : SV → Prop} (h : capK P t x K) : Pk (capK P t x) K := by
  unfold capK at *
  split at h
  · exact pk_now h
  · exact h.elim
theorem lenK_pick {t : TypeId} {x : SV} {s : St} {K : SV → Prop} (h : lenK P t x s K) : Pk (lenK P t x s) K := by
  unfold lenK at *
  repeat' split at h
  all_goals first
    | exact h.elim
    | exact pk_now h
theorem ex_pick {k : CK} {α : Type} {F : Value → (α → Prop) → Prop} {K : α → Prop} (hF : ∀ v, F v K → Pk (F v) K) (h : k.ex fun v => F v K) : Pk (fun K' => k.ex fun v => F v K') K := by
  cases k <;> simp only [CK.ex] at h ⊢
  case int k => obtain ⟨n, h⟩ := h; obtain ⟨z, h1, h2⟩ := hF _ h; exact ⟨z, h1, fun K' h => ⟨n, h2 _ h⟩⟩
  case bool => obtain ⟨n, h⟩ := h; obtain ⟨z, h1, h2⟩ := hF _ h; exact ⟨z, h1, fun K' h => ⟨n, h2 _ h⟩⟩
  case str => obtain ⟨n, h⟩ := h; obtain ⟨z, h1, h2⟩ := hF _ h; exact ⟨z, h1, fun K' h => ⟨n, h2 _ h⟩⟩
  case ptr => obtain ⟨n, h⟩ := h; obtain ⟨z, h1, h2⟩ := hF _ h; exact ⟨z, h1, fun K' h => ⟨n, h2 _ h⟩⟩
  case slice => obtain ⟨n, m, c, h⟩ := h; obtain ⟨z, h1, h2⟩ := hF _ h; exact ⟨z, h1, fun K' h => ⟨n, m, c, h2 _ h⟩⟩
  case map => obtain ⟨n, h⟩ := h; obtain ⟨z, h1, h2⟩ := hF _ h; exact ⟨z, h1, fun K' h => ⟨n, h2 _ h⟩⟩
  case chan => obtain ⟨n, h⟩ := h; obtain ⟨z, h1, h2⟩ := hF _ h; exact ⟨z, h1, fun K' h => ⟨n, h2 _ h⟩⟩
  case func => obtain ⟨n, h0, h⟩ := h; obtain ⟨z, h1, h2⟩ := hF _ h; exact ⟨z, h1, fun K' h => ⟨n, h0, h2 _ h⟩⟩
  case iface => obtain ⟨n, h0, h⟩ := h; obtain ⟨z, h1, h2⟩ := hF _ h; exact ⟨z, h1, fun K' h => ⟨n, h0, h2 _ h⟩⟩
theorem exSegs_pick {α : Type} : ∀ {ks : List SK} {F : List Seg → (α → Prop) → Prop} {K : α → Prop}, (∀ l, F l K → Pk (F l) K) → (exSegs ks fun l => F l K) → Pk (fun K' => exSegs ks fun l => F l K') K
  | [], F, K, hF, h => hF _ h
  | .c k :: r, F, K, hF, h => ex_pick (F := fun v K => exSegs r fun l => F (.c (.v v) :: l) K) (fun v h => exSegs_pick (F := fun l K => F (.c (.v v) :: l) K) (fun l h => hF _ h) h) h
  | .ints k n :: r, F, K, hF, h => by
    obtain ⟨xs, hx, h⟩ := h
    obtain ⟨z, h1, h2⟩ := exSegs_pick (F := fun l K => F (.ints k n xs :: l) K) (fun l h => hF _ h) h
    exact ⟨z, h1, fun K' h => ⟨xs, hx, h2 _ h⟩⟩
theorem loadK_pick {t : TypeId} {x : SV} {s : St} {K : SV → Prop} (h : loadK P t x s K) : Pk (loadK P t x s) K := by
  unfold loadK at *
  repeat' split at h
  all_goals first
    | exact h.elim
    | exact mkK_pick h
    | exact pk_now h
    | exact exSegs_pick (fun l h => pk_and h.1 (pk_now h.2)) h
theorem taZero_pick {as : TypeId} {K : SV → Prop} (h : taZero P as K) : Pk (taZero P as) K := by
  unfold taZero at *
  repeat' split at h
  all_goals first
    | exact h.elim
    | exact pk_now h
theorem taK_pick {as : TypeId} {x : SV} {K : SV → Prop} (h : taK P as x K) : Pk (taK P as x) K := by
  unfold taK at *
  repeat' split at h
  all_goals first
    | exact h.elim
    | exact pk_now h
    | exact taZero_pick h
theorem valK_pick {cfg : Cfg} {op : Op} {s : St} {K : SV → Prop} (h : valK P cfg op s K) : Pk (valK P cfg op s) K := by
  unfold valK at *
  split at h
  all_goals first
    | exact h.elim
    | exact pk_now h
    | exact binK_pick h
    | exact sliceK_pick h
    | exact loadK_pick h
    | exact taK_pick h
    | (repeat' split at h
       all_goals first
         | exact h.elim
         | exact pk_now h
         | exact pk_ptr (fun a h => pk_now h) h
         | exact indexK_pick h
         | exact lenK_pick h
         | exact capK_pick h
         | exact foldK_pick h
         | exact mkK_pick h
         | exact pk_and h.1 (pk_now h.2)
         | exact pk_and h.1 (pk_and h.2.1 (pk_and h.2.2.1 (pk_now h.2.2.2)))
         | (obtain ⟨bs, h1, h2⟩ := h; exact ⟨_, h2, fun K' h => ⟨bs, h1, h⟩⟩))
theorem pk_ex {β α : Type} {F : β → (α → Prop) → Prop} {K : α → Prop} (hF : ∀ v, F v K → Pk (F v) K) (h : ∃ b, F b K) : Pk (fun K' => ∃ b, F b K') K := by
  obtain ⟨b, h⟩ := h
  obtain ⟨z, h1, h2⟩ := hF _ h
  exact ⟨z, h1, fun K' h => ⟨b, h2 _ h⟩⟩
theorem readK_pick {op : Op} {s : St} {H : Heap} {K : SV → Prop} (h : readK P op s H K) : Pk (readK P op s H) K := by
  unfold readK at *
  split at h
  · split at h
    · split at h
      · exact pk_ptr (F := fun a K => exSegs _ fun l => H.has a (flatD l) ∧ K _) (fun a h => exSegs_pick (fun l h => pk_and h.1 (pk_now h.2)) h) h
      · exact h.elim
    · exact h.elim
  · split at h
    · split at h
      · split at h
        · refine exSegs_pick (fun l h => ?_) h
          split at h
          · exact pk_ex (fun b h => pk_and h.1 (pk_now h.2)) h
          · exact pk_and h.1 (pk_now h.2)
        · exact h.elim
      · exact h.elim
    · exact h.elim
  · split at h
    · split at h
      · rename_i r _ _
        cases r with
        | none => exact h.elim
        | some r => exact pk_ex (fun b h => pk_ex (fun c h => pk_and h.1 (pk_now h.2)) h) h
      · rename_i r _ _
        cases r with
        | none => exact h.elim
        | some r => exact pk_ex (fun b h => pk_ex (fun c h => pk_ex (fun d h => pk_ex (fun e h => pk_ex (fun f h => pk_and h.1 (pk_now h.2)) h) h) h) h) h
      · exact h.elim
    · exact h.elim
  · split at h
    · split at h
      · obtain ⟨bs, h1, h2⟩ := h
        exact ⟨_, h2, fun K' h => ⟨bs, h1, h⟩⟩
      · exact h.elim
    · exact h.elim
  · exact h.elim
end
end Sx

set_option linter.unusedVariables false
set_option linter.unusedSimpArgs false
namespace Sx
open Go
set_option linter.unusedSectionVars false
variable [Dr]
/-! ### Numbers as sets -/
theorem bit_one (k i : Nat) : Nat.testBit (Nat.shiftLeft 1 k) i = decide (k = i) := by
  show Nat.testBit (1 <<< k) i = _
  rw [Nat.testBit_shiftLeft]
  by_cases h : k = i
  · subst h; simp
  · rcases Nat.lt_or_ge i k with q | q
    · simp [h, Nat.not_le.2 q]
    · have h2 : i - k ≠ 0 := by omega
      have h3 : Nat.testBit 1 (i - k) = false := by
        cases e : Nat.testBit 1 (i - k) with
        | false => rfl
        | true => exact (h2 (Nat.testBit_one_eq_true_iff_self_eq_zero.1 e)).elim
      simp [h, q, h3]
theorem bit_lor (a b i : Nat) : Nat.testBit (Nat.lor a b) i = (a.testBit i || b.testBit i) := Nat.testBit_or a b i
theorem bit_land (a b i : Nat) : Nat.testBit (Nat.land a b) i = (a.testBit i && b.testBit i) := Nat.testBit_and a b i
theorem hasN_false {m b : Nat} (h : hasN m b = false) (i : Nat) : ¬ (m.testBit i = true ∧ b.testBit i = true) := by
  have e : Nat.land m b = 0 := by
    unfold hasN at h
    exact Nat.eq_of_beq_eq_true (by simpa using h)
  rintro ⟨h1, h2⟩
  have := bit_land m b i
  rw [e, h1, h2] at this
  simp at this
theorem hasN_true {m b : Nat} (h : hasN m b = true) : ∃ i, m.testBit i = true ∧ b.testBit i = true := by
  have e : Nat.land m b ≠ 0 := fun e => by unfold hasN at h; rw [e] at h; simp at h
  obtain ⟨i, hi⟩ := Nat.exists_testBit_of_ne_zero e
  rw [bit_land, Bool.and_eq_true] at hi
  exact ⟨i, hi⟩
theorem hasN_one (m k : Nat) : hasN m (Nat.shiftLeft 1 k) = m.testBit k := by
  cases h : hasN m (Nat.shiftLeft 1 k) with
  | true =>
    obtain ⟨i, h1, h2⟩ := hasN_true h
    rw [bit_one] at h2
    have : k = i := of_decide_eq_true h2
    rw [this, h1]
  | false =>
    cases q : m.testBit k with
    | false => rfl
    | true => exact (hasN_false h k ⟨q, by rw [bit_one]; simp⟩).elim
theorem bitsOf_test : ∀ (l : List Nat) (i : Nat), (bitsOf l).testBit i = l.contains i
  | [], i => by simp [bitsOf]
  | x :: r, i => by
    rw [bitsOf, bit_lor, bit_one, bitsOf_test r i, List.contains_cons]
    congr 1
    by_cases h : x = i
    · subst h; simp
    · have : ¬ (i = x) := fun e => h e.symm
      simp [h, this]
theorem sub_test {d m : Nat} (h : Nat.beq (Nat.land d m) d = true) {i : Nat} (hi : d.testBit i = true) : m.testBit i = true := by
  have e := Nat.eq_of_beq_eq_true h
  have := bit_land d m i
  rw [e, hi] at this
  simpa using this.symm
theorem test_sub {d m : Nat} (h : ∀ i, d.testBit i = true → m.testBit i = true) : Nat.beq (Nat.land d m) d = true := by
  have : Nat.land d m = d := Nat.eq_of_testBit_eq fun i => by
    rw [bit_land]
    cases e : d.testBit i with
    | false => rfl
    | true => rw [h i e]; rfl
  rw [this]; simp
/-! ### Rows -/
theorem depL_mem {l : List Edge} {j : Nat} : j ∈ depL l ↔ ∃ e ∈ l, Region.binds .any e = true ∧ e.on = j := by
  induction l with
  | nil => simp [depL]
  | cons e r ih =>
    unfold depL
    split
    · rename_i h
      simp only [List.mem_cons, ih]
      constructor
      · rintro (rfl | ⟨e', h1, h2, h3⟩)
        · exact ⟨e, .inl rfl, h, rfl⟩
        · exact ⟨e', .inr h1, h2, h3⟩
      · rintro ⟨e', rfl | h1, h2, h3⟩
        · exact .inl h3.symm
        · exact .inr ⟨e', h1, h2, h3⟩
    · rename_i h
      simp only [List.mem_cons, ih]
      constructor
      · rintro ⟨e', h1, h2, h3⟩; exact ⟨e', .inr h1, h2, h3⟩
      · rintro ⟨e', rfl | h1, h2, h3⟩
        · rw [h] at h2; cases h2
        · exact ⟨e', h1, h2, h3⟩
theorem tmpL_mem {f : Operand → Option Nat} (h1 : ∀ t, f (.tmp t) = some t) (h2 : ∀ v, f (.const v) = none) (h3 : ∀ v, f (.global v) = none) (h4 : ∀ v, f (.func v) = none) {l : List Operand} {t : Nat} : t ∈ l.filterMap f ↔ t ∈ tmpL l := by
  induction l with
  | nil => simp [tmpL]
  | cons x r ih =>
    cases x <;> simp only [tmpL, List.filterMap_cons, h1, h2, h3, h4, List.mem_cons, ih]
theorem looksL_mem {ops : Array Oper} {o : Oper} {t : Nat} : t ∈ looksL ops.toList o ↔ t ∈ o.looksAt ops := by
  unfold looksL Oper.looksAt
  rw [List.mem_append]
  rw [tmpL_mem (fun _ => rfl) (fun _ => rfl) (fun _ => rfl) (fun _ => rfl)]
  cases o.guard with
  | none => simp
  | some gb =>
    obtain ⟨g, b⟩ := gb
    have e : nth ops.toList g = ops[g]? := by rw [nth_eq, Array.getElem?_toList]
    simp only [e]
    cases hg : ops[g]? with
    | none => simp
    | some o' =>
      cases hd : o'.dst with
      | none => simp [hd]
      | some d =>
        simp only [Option.bind_some, hd, Option.toList_some, List.mem_cons, List.mem_singleton, List.not_mem_nil, or_false]
        exact Or.comm
theorem rowsOf_get {ops : List Oper} {big : Nat → Bool} : ∀ (l : List Oper) (b k : Nat), nth (rowsOf ops big b l) k = (l[k]?).map (rowOf ops big (b + k))
  | [], b, k => by simp [rowsOf, nth]
  | o :: r, b, 0 => by simp [rowsOf, nth]
  | o :: r, b, k + 1 => by
    simp only [rowsOf, nth, List.getElem?_cons_succ]
    rw [rowsOf_get r (b + 1) k, show b + 1 + k = b + (k + 1) by omega]
theorem rowsOf_mem {ops : List Oper} {big : Nat → Bool} {l : List Oper} {j : Nat} {o : Oper} (h : l[j]? = some o) : rowOf ops big j o ∈ rowsOf ops big 0 l := by
  have := rowsOf_get (ops := ops) (big := big) l 0 j
  rw [h, nth_eq] at this
  have := List.mem_of_getElem? this
  simpa using this
/-- A number and an array tell the same. -/
structure MaskOf (n m : Nat) (listed : Array Bool) : Prop where
  size : listed.size = n
  bit : ∀ i, m.testBit i = listed.getD i false
theorem MaskOf.none (n : Nat) : MaskOf n 0 (Array.replicate n false) := ⟨by simp, fun i => by simp [Array.getD_eq_getD_getElem?, Array.getElem?_replicate]; split <;> rfl⟩
theorem MaskOf.unl {n m : Nat} {listed : Array Bool} (h : MaskOf n m listed) {i : Nat} (hi : i < n) : listed.getD i true = m.testBit i := by
  rw [h.bit i]
  have : i < listed.size := by rw [h.size]; exact hi
  simp [Array.getD_eq_getD_getElem?, Array.getElem?_eq_getElem this]
theorem MaskOf.set {n m : Nat} {listed : Array Bool} (h : MaskOf n m listed) {k : Nat} (hk : k < n) : MaskOf n (Nat.lor m (Nat.shiftLeft 1 k)) (listed.setIfInBounds k true) :=
  ⟨by simpa using h.size, fun i => by
    rw [bit_lor, bit_one, h.bit i]
    by_cases q : k = i
    · subst q
      have : k < listed.size := by rw [h.size]; exact hk
      simp [this]
    · rw [getD_set_ne false q]; simp [q]⟩
section
variable {ops : Array Oper} {big : Nat → Bool} {m : Nat} {listed : Array Bool}
theorem rdyF_iff (h : MaskOf ops.size m listed) {k : Nat} {o : Oper} (ho : ops[k]? = some o) : rdyF m (rowOf ops.toList big k o) = true ↔ k ∈ Region.ready .any ops listed := by
  have hk := (Array.getElem?_eq_some_iff.1 ho).1
  rw [mem_ready]
  unfold rdyF
  simp only [rowOf, hasN_one]
  rw [h.unl hk]
  cases hm : m.testBit k with
  | true => simp
  | false =>
    simp only [true_and]
    constructor
    · intro hd
      refine ⟨o, ho, fun e he hb => ?_⟩
      rw [← h.bit]
      refine sub_test hd ?_
      rw [bitsOf_test]
      simpa using depL_mem.2 ⟨e, by simpa using he, hb, rfl⟩
    · rintro ⟨o', ho', hall⟩
      rw [ho] at ho'; cases ho'
      refine test_sub fun i hi => ?_
      rw [bitsOf_test] at hi
      obtain ⟨e, he, hb, rfl⟩ := depL_mem.1 (by simpa using hi)
      rw [h.bit]
      exact hall e (by simpa using he) hb
theorem soleF_all {b : Nat} : ∀ {l : List Rw}, soleF m b l = true → ∀ x ∈ l, rdyF m x = true → b.testBit x.i = true
  | [], _, x, hx => by cases hx
  | y :: r, h, x, hx => by
    unfold soleF at h
    intro hr
    rcases List.mem_cons.1 hx with rfl | hx
    · rw [hr] at h
      simp only at h
      split at h
      · rename_i q; rw [hasN_one] at q; exact q
      · cases h
    · split at h
      · split at h
        · exact soleF_all h x hx hr
        · cases h
      · exact soleF_all h x hx hr
theorem soleF_sound (h : MaskOf ops.size m listed) {b : Nat} (ho : soleF m b (rowsOf ops.toList big 0 ops.toList) = true) : ∀ j ∈ Region.ready .any ops listed, b.testBit j = true := by
  intro j hj
  obtain ⟨_, o, hoj, _⟩ := mem_ready.1 hj
  exact soleF_all ho _ (rowsOf_mem (by simpa using hoj)) ((rdyF_iff h hoj).2 hj)
theorem apF_sound {i j : Nat} {oi oj : Oper} (h : apF (rowOf ops.toList big i oi) (rowOf ops.toList big j oj) = true) : oi.apart ops oj = true := by
  unfold apF at h
  simp only [rowOf] at h
  split at h
  · cases h
  · rename_i h1
    have h2 : hasN (match oj.dst with | some d => Nat.shiftLeft 1 d | none => 0) (bitsOf (looksL ops.toList oi)) = false := by rw [Bool.not_eq_true'] at h; exact h
    unfold Oper.apart
    rw [Bool.and_eq_true]
    constructor
    · cases hd : oi.dst with
      | none => rfl
      | some d =>
        rw [hd] at h1
        simp only at h1
        have h3 := hasN_false h1 d
        rw [bit_one, bit_lor, bitsOf_test] at h3
        simp only [decide_true, true_and, Bool.or_eq_true, not_or] at h3
        simp only [Bool.and_eq_true, Bool.not_eq_true', bne_iff_ne, ne_eq]
        refine ⟨?_, fun e => ?_⟩
        · cases q : (oj.looksAt ops).contains d with
          | false => rfl
          | true => exact (h3.1 (by simpa using looksL_mem.2 (by simpa using q))).elim
        · rw [e] at h3
          exact h3.2 (by rw [bit_one]; simp)
    · cases hd : oj.dst with
      | none => rfl
      | some d =>
        rw [hd] at h2
        simp only at h2
        have h3 := hasN_false h2 d
        rw [bit_one, bitsOf_test] at h3
        simp only [decide_true, true_and] at h3
        simp only [Bool.not_eq_true']
        cases q : (oi.looksAt ops).contains d with
        | false => rfl
        | true => exact (h3 (by simpa using looksL_mem.2 (by simpa using q))).elim
theorem freeF_all {b : Nat} {x : Rw} : ∀ {l : List Rw}, freeF m b x l = true → ∀ y ∈ l, (Nat.lor m b).testBit y.i = true ∨ (∃ i, y.deps.testBit i = true ∧ b.testBit i = true) ∨ apF x y = true
  | [], _, y, hy => by cases hy
  | z :: r, h, y, hy => by
    unfold freeF at h
    rcases List.mem_cons.1 hy with rfl | hy
    · split at h
      · rename_i q; rw [hasN_one] at q; exact .inl q
      · split at h
        · rename_i q; exact .inr (.inl (hasN_true q))
        · split at h
          · rename_i q; exact .inr (.inr q)
          · cases h
    · split at h
      · exact freeF_all h y hy
      · split at h
        · exact freeF_all h y hy
        · split at h
          · exact freeF_all h y hy
          · cases h
theorem freeF_sound (h : MaskOf ops.size m listed) {i : Nat} {oi : Oper} (ho : ops[i]? = some oi) (hf : freeF m (Nat.shiftLeft 1 i) (rowOf ops.toList big i oi) (rowsOf ops.toList big 0 ops.toList) = true) : Region.free .any ops listed i = true := by
  unfold Region.free
  simp only [ho, List.all_eq_true, List.mem_range]
  intro j hj
  have hoj : ops[j]? = some ops[j] := Array.getElem?_eq_getElem hj
  rw [h.unl hj]
  simp only [hoj]
  rcases freeF_all hf _ (rowsOf_mem (big := big) (j := j) (o := ops[j]) (by rw [Array.getElem?_toList]; exact hoj)) with q | ⟨d, q1, q2⟩ | q
  · rw [bit_lor, bit_one] at q
    simp only [rowOf, Bool.or_eq_true, decide_eq_true_eq] at q
    rcases q with q | q
    · simp [q]
    · have : i = j := of_decide_eq_true q
      simp [this]
  · rw [bit_one] at q2
    have : i = d := of_decide_eq_true q2
    subst this
    simp only [rowOf, bitsOf_test] at q1
    obtain ⟨e, he, hb, hon⟩ := depL_mem.1 (by simpa using q1)
    have : (ops[j]).after.any (fun e => Region.binds .any e && e.on == i) = true := Array.any_eq_true'.2 ⟨e, by simpa using he, by simp [hb, hon]⟩
    simp [this]
  · simp [apF_sound q]
theorem lexF_sound {fin : Array Bool → Bool} {finM : Nat → Bool} (hfin : ∀ m listed, MaskOf ops.size m listed → finM m = true → fin listed = true) : ∀ (l : List Nat) (m : Nat) (listed : Array Bool), MaskOf ops.size m listed →
    lexF (rowsOf ops.toList big 0 ops.toList) finM l m = true → lexB ops ops.size big fin l listed = true
  | [], m, listed, h, hl => hfin m listed h hl
  | k :: r, m, listed, h, hl => by
    unfold lexF at hl
    rw [rowsOf_get] at hl
    simp only [Nat.zero_add] at hl
    have e : ops.toList[k]? = ops[k]? := by simp
    rw [e] at hl
    cases ho : ops[k]? with
    | none => rw [ho] at hl; simp at hl
    | some o =>
      rw [ho] at hl
      have hk := (Array.getElem?_eq_some_iff.1 ho).1
      simp only [Option.map_some] at hl
      split at hl
      · rename_i hr
        have hr' := (rdyF_iff h ho).1 hr
        split at hl
        · rename_i hc
          unfold lexB
          rw [Bool.and_eq_true, Bool.and_eq_true]
          refine ⟨⟨by simpa [Nat.blt_eq] using hk, ?_⟩, lexF_sound hfin r _ _ (h.set hk) hl⟩
          simp only [rowOf] at hc
          split at hc
          · rename_i hb
            simp only [Bool.and_eq_true, List.all_eq_true]
            refine ⟨fun j hj => ?_, by simpa using hr'⟩
            have := soleF_sound h hc j hj
            rw [bit_one] at this
            have : k = j := of_decide_eq_true this
            subst this; simp
          · rename_i hb
            simp only [Bool.and_eq_true]
            exact ⟨by simpa using hr', freeF_sound h ho hc⟩
        · cases hl
      · cases hl
theorem finF_sound {m : Nat} {listed : Array Bool} (h : MaskOf ops.size m listed) (hf : finF (rowsOf ops.toList big 0 ops.toList) m = true) : fin2 ops listed = true := by
  unfold fin2
  rw [List.all_eq_true]
  intro j hj
  have := soleF_sound h hf j hj
  simp at this
theorem lex2F_sound {pb : List Nat} : ∀ (l : List Nat) (m : Nat) (listed : Array Bool), MaskOf ops.size m listed → lex2F pb ops (tab2 ops) l m = true → lex2 pb ops l listed = true
  | [], m, listed, h, hl => finF_sound h hl
  | k :: r, m, listed, h, hl => by
    unfold lex2F tab2 at hl
    rw [rowsOf_get] at hl
    simp only [Nat.zero_add] at hl
    have e : ops.toList[k]? = ops[k]? := by simp
    rw [e] at hl
    cases ho : ops[k]? with
    | none => rw [ho] at hl; simp at hl
    | some o =>
      rw [ho] at hl
      have hk := (Array.getElem?_eq_some_iff.1 ho).1
      simp only [Option.map_some] at hl
      split at hl
      · rename_i hr
        have hr' := (rdyF_iff h ho).1 hr
        split at hl
        · rename_i hu
          split at hl
          · rename_i hc
            unfold lex2
            simp only [Bool.and_eq_true]
            refine ⟨by simpa [Nat.blt_eq] using hk, by simpa using hr', ?_, ?_, lex2F_sound r _ _ (h.set hk) hl⟩
            · rw [List.all_eq_true]
              intro j hj
              have := soleF_sound h hu j hj
              rw [bitsOf_test] at this
              exact this
            · split
              · rename_i hb
                rw [hb] at hc
                exact freeF_sound h ho hc
              · rfl
          · cases hl
        · cases hl
      · cases hl
end
end Sx

set_option linter.unusedVariables false
set_option linter.unusedSimpArgs false
namespace Sx
open Go
set_option linter.unusedSectionVars false
variable [Dr]
/-- Blocks that the calls of a statement may write. -/
def Chg (X : Nat → Prop) (Hs G : Heap) (we : World) (b : Nat) : Prop := b < we.heap.size ∧ ((Hs b ≠ none ∧ G b = none) ∨ X b)
abbrev Kept (X : Nat → Prop) (Hs G : Heap) (we w : World) : Prop := Only we w (Chg X Hs G we)
structure Reg (X : Nat → Prop) (C : Ctx) (we : World) (s0 : St) (Hs G : Heap) (V : Vl) (s : St) (H : Heap) (a : Act) (w : World) : Prop where
  rep : Rep C V s H a w
  only : Kept X Hs G we w
  keep : ∀ d o, look s0.objs d = some o → look s.objs d = some o
  low : ∀ d o b, look s0.objs d = some o → privB V d o = some b → b < we.heap.size
  hs : ∀ d o b, look s0.objs d = some o → privB V d o = some b → Hs b = none ∧ ¬ X b
  sub : Hs.sub we
  gs : G ≤ Hs
  le : G ≤ H
  cur : ∀ b, b < we.heap.size → Hs b = none → ¬ X b → H b = none
  base : C.w0.heap.size ≤ we.heap.size
  dr : Dr.on → C.w0.drawn ≤ we.drawn
  oth : ∀ b, b < C.w0.heap.size → C.H0 b = none → Hs b = none
  xs : ∀ b, X b → Hs b = none ∧ (C.w0.heap.size ≤ b ∨ C.H0 b ≠ none)
  new : ∀ d o b, look s.objs d = some o → look s0.objs d = none → privB V d o = some b → b < we.heap.size → Chg X Hs G we b
section
variable {P : Program} {X : Nat → Prop} {C : Ctx} {we : World} {s0 : St} {Hs G : Heap} {V : Vl} {s : St} {H : Heap} {a : Act} {w : World}
theorem Kept.trans {w1 w2 w3 : World} (h : Kept X Hs G w1 w2) (h' : Only w2 w3 fun _ => False) : Kept X Hs G w1 w3 :=
  ⟨h'.os.trans h.os, h'.tape.trans h.tape, h'.output.trans h.output, Nat.le_trans h.size h'.size, fun b hn hb => (h'.block b (fun h => h) (Nat.lt_of_lt_of_le hb h.size)).trans (h.block b hn hb)⟩
theorem sub_lt {H : Heap} {w : World} (h : H.sub w) {b : Nat} {o : Obj} (e : H b = some o) : b < w.heap.size := (Array.getElem?_eq_some_iff.1 (h b o e)).1
theorem Reg.there (r : Reg X C we s0 Hs G V s H a w) {w' : World} (hw : Kept X Hs G we w') : Rep C V ⟨s.env, s0.objs, s.dfr⟩ G a w' := by
  have h := r.rep
  have same : ∀ b, b < we.heap.size → ¬ Chg X Hs G we b → w'.heap[b]? = w.heap[b]? := fun b hb hn => (hw.block b hn hb).trans (r.only.block b hn hb).symm
  have nopriv : ∀ d o b, look s0.objs d = some o → privB V d o = some b → ¬ Chg X Hs G we b := fun d o b e hb hc => hc.2.elim (fun q => q.1 (r.hs d o b e hb).1) (r.hs d o b e hb).2
  refine { env := h.env, len := h.len, dfr := h.dfr, sub := ?_, objs := ?_, priv := ?_, dist := fun d o d' o' b e e' => h.dist d o d' o' b (r.keep _ _ e) (r.keep _ _ e'), os := ?_, tape := ?_, output := ?_, size := ?_, other := ?_ }
  · intro b o e
    have hs := r.gs b o e
    rw [hw.block b (fun hc => hc.2.elim (fun q => by rw [q.2] at e; cases e) (fun q => by rw [(r.xs b q).1] at hs; cases hs)) (sub_lt r.sub hs)]
    exact r.sub b o hs
  · intro d o e
    have ho := h.objs d o (r.keep d o e)
    cases o with
    | box ty l =>
      obtain ⟨cs, h1, h2⟩ := ho
      exact ⟨cs, h1, by rw [same _ (r.low d _ _ e rfl) (nopriv d _ _ e rfl)]; exact h2⟩
    | row ty sz es => exact rowIn_same ho fun b hb => same _ (r.low d _ _ e hb) (nopriv d _ _ e hb)
  · intro d o b e hb
    obtain ⟨h1, h2, h3⟩ := h.priv d o b (r.keep d o e) hb
    refine ⟨?_, h2, Nat.lt_of_lt_of_le (r.low d o b e hb) hw.size⟩
    cases hq : G b with
    | none => rfl
    | some x => rw [r.le b x hq] at h1; cases h1
  · rw [hw.os, ← r.only.os]; exact h.os
  · exact ⟨hw.tape.eq.trans (r.only.tape.eq.symm.trans h.tape.eq), fun q => Nat.le_trans (r.dr q) (hw.tape.dr q)⟩
  · rw [hw.output, ← r.only.output]; exact h.output
  · exact Nat.le_trans r.base hw.size
  · intro b hb e
    obtain ⟨h1, h2⟩ := h.other b hb e
    refine ⟨?_, ?_⟩
    · rw [← h1]; exact same b (Nat.lt_of_lt_of_le hb r.base) fun hc => hc.2.elim (fun q => q.1 (r.oth b hb e)) (fun q => by rcases (r.xs b q).2 with q | q; omega; exact q e)
    · cases hq : G b with
      | none => rfl
      | some x => rw [r.le b x hq] at h2; cases h2
theorem Reg.put (r : Reg X C we s0 Hs G V s H a w) {x : SV} {y : Value} (hx : x.rep V y) (d : Option Nat) : Reg X C we s0 Hs G V (s.put d x) H (a.put d y) w :=
  { rep := r.rep.put hx d, only := r.only, keep := by cases d <;> exact r.keep, low := r.low, hs := r.hs, sub := r.sub, gs := r.gs, le := r.le, cur := r.cur, base := r.base, dr := r.dr, oth := r.oth, xs := r.xs, new := by cases d <;> exact r.new }
theorem Reg.set (r : Reg X C we s0 Hs G V s H a w) {g : Nat} {x : SV} (hx : x.rep V (a.tmps.getD g undef)) : Reg X C we s0 Hs G V (s.set g x) H a w :=
  { rep := rep_same r.rep hx, only := r.only, keep := r.keep, low := r.low, hs := r.hs, sub := r.sub, gs := r.gs, le := r.le, cur := r.cur, base := r.base, dr := r.dr, oth := r.oth, xs := r.xs, new := r.new }
theorem exactK_eq {x : SV} {X : Prop} (h : exactK x X) : exactV x = true ∧ X := by
  unfold exactK at h
  split at h
  · rename_i e; exact ⟨e, h⟩
  · exact h.elim
theorem quiet_sound (r : Reg X C we s0 Hs G V s H a w) {hs : Hints} (hE : ∀ t, memN hs.eqs t = true → EqOK P t) (o : Oper) {K : SV → Prop}
    (hk : valK P ⟨hs.eqs⟩ o.op ⟨s.env, s0.objs, s.dfr⟩ (fun x => exactK x (K x)) ∨ readK P o.op ⟨s.env, s0.objs, s.dfr⟩ G fun x => exactK x (K x)) :
    ∃ v, (∀ w', Kept X Hs G we w' → pureAt P o a w' v) ∧ ∃ x, K x ∧ x.rep V v := by
  have one : ∃ z, exactV z = true ∧ K z ∧ ∀ w', Kept X Hs G we w' → ∃ v, z.rep V v ∧ (execOp a.eval o).run P w' = .ok (.value v) w' := by
    rcases hk with hk | hk
    · obtain ⟨z, h1, h2⟩ := valK_pick hk
      obtain ⟨h1, h3⟩ := exactK_eq h1
      refine ⟨z, h1, h3, fun w' hw' => ?_⟩
      obtain ⟨z', v, rfl, h4, h5⟩ := valK_sound (r.there hw') (cfg := ⟨hs.eqs⟩) hE o (h2 (· = z) rfl)
      exact ⟨v, h4, h5⟩
    · obtain ⟨z, h1, h2⟩ := readK_pick hk
      obtain ⟨h1, h3⟩ := exactK_eq h1
      refine ⟨z, h1, h3, fun w' hw' => ?_⟩
      obtain ⟨z', v, rfl, h4, h5⟩ := readK_sound (r.there hw') (heap_refl _) o (h2 (· = z) rfl)
      exact ⟨v, h4, h5⟩
  obtain ⟨z, h1, h2, h3⟩ := one
  obtain ⟨v, h4, _⟩ := h3 w r.only
  refine ⟨v, fun w' hw' => ?_, z, h2, h4⟩
  obtain ⟨v', h5, h6⟩ := h3 w' hw'
  rw [sv_exact h1 h4 h5]
  exact .inl h6
theorem quiet_slice (r : Reg X C we s0 Hs G V s H a w) {hs : Hints} (o : Oper) (hsl : isSl o.op = true) {K : SV → Prop}
    (hk : valK P ⟨hs.eqs⟩ o.op ⟨s.env, s0.objs, s.dfr⟩ K) : ∃ v, (∀ w', pureAt P o a w' v) ∧ ∃ x, K x ∧ x.rep V v := by
  unfold isSl at hsl
  split at hsl
  · rename_i t x lo hi ho
    rw [ho] at hk
    obtain ⟨z, v, h1, h2, h3⟩ := sliceK_sound (r.there r.only) t x lo hi hk
    refine ⟨v, fun w' => .inl ?_, z, h1, h2⟩
    unfold execOp; rw [ho]
    exact exec_v (h3 w')
  · cases hsl
theorem free_look {d : Nat} (h : s.free d = true) : look s.objs d = none := by
  cases hl : look s.objs d with
  | none => rfl
  | some o => exact absurd rfl (free_obj h d o hl).1
theorem alloc_state {o : Oper} (hop : isAlloc o.op = true) {K : St → Prop} (hk : objK P o s H K) : ∃ d, o.dst = some d ∧ s.free d = true ∧ objK P o s H fun s' => K s' ∧ ∀ x ob, x ≠ d → (look s'.objs x = some ob ↔ look s.objs x = some ob) := by
  have key : ∀ (d : Nat) (ob : AObj) (x : Nat) (ob' : AObj), x ≠ d → (look (objSet s.objs d ob) x = some ob' ↔ look s.objs x = some ob') := by
    intro d ob x ob' h
    rw [look_objSet, if_neg (Ne.symm h)]
  obtain ⟨dst, op, type, pos, after, guard⟩ := o
  cases op <;> simp only [isAlloc] at hop <;> try cases hop
  all_goals (cases dst with
    | none => simp only [objK] at hk
    | some d => ?_)
  all_goals simp only [objK] at hk ⊢
  · split at hk
    · rename_i hf _ _
      split at hk
      · exact ⟨d, rfl, hf, by simp only [*]; exact ⟨trivial, key d _⟩⟩
      · exact hk.elim
    · exact hk.elim
  · split at hk
    · rename_i hf _
      exact ⟨d, rfl, hf, by simp only [*]; exact ⟨trivial, key d _⟩⟩
    · exact hk.elim
  · split at hk
    · rename_i hf _
      split at hk
      · split at hk
        · exact ⟨d, rfl, hf, by simp only [*]; exact ⟨trivial, key d _⟩⟩
        · exact hk.elim
      · exact hk.elim
    · exact hk.elim
  · split at hk
    · rename_i hf _
      split at hk
      · split at hk
        · exact ⟨d, rfl, hf, by simp only [*]; exact ⟨⟨trivial, trivial, trivial⟩, trivial, key d _⟩⟩
        · exact hk.elim
      · exact hk.elim
    · exact hk.elim
theorem alloc_reg (r : Reg X C we s0 Hs G V s H a w) {o : Oper} (hop : isAlloc o.op = true) {K : St → Prop} (hk : objK P o s H K) :
    ∃ V' s' y w', K s' ∧ Reg X C we s0 Hs G V' s' H (a.put o.dst y) w' ∧ ((execOp a.eval o).run P w = .ok (.value y) w' ∨ ((execOp a.eval o).run P w = .ok .skip w' ∧ y = undef)) := by
  obtain ⟨d, hd, hf, hk⟩ := alloc_state hop hk
  obtain ⟨d', hd', V', s', y, w', ⟨hK, hl⟩, hrep, hoff, ho, hnew, hrun⟩ := allocK_sound r.rep (heap_refl _) o hop hk
  rw [hd] at hd'
  cases hd'
  refine ⟨V', s', y, w', hK, ⟨hrep, Kept.trans r.only ho, ?_, ?_, ?_, r.sub, r.gs, r.le, r.cur, r.base, r.dr, r.oth, r.xs, ?_⟩, hrun⟩
  · intro x ob e
    have hx := r.keep x ob e
    refine (hl x ob ?_).2 hx
    rintro rfl
    rw [free_look hf] at hx
    cases hx
  · intro x ob b e hb
    have hx := r.keep x ob e
    rw [privB_off hoff (by rintro rfl; rw [free_look hf] at hx; cases hx)] at hb
    exact r.low x ob b e hb
  · intro x ob b e hb
    have hx := r.keep x ob e
    rw [privB_off hoff (by rintro rfl; rw [free_look hf] at hx; cases hx)] at hb
    exact r.hs x ob b e hb
  · intro x ob b e e0 hb
    by_cases hx : x = d
    · subst hx
      have := Nat.le_trans r.only.size (hnew ob b e hb)
      exact fun q => absurd q (by omega)
    · rw [privB_off hoff hx] at hb
      exact r.new x ob b ((hl x ob hx).1 e) e0 hb
theorem delLs_sub : ∀ (ls : List Lend) {H : Heap} {b : Nat} {o : Obj}, delLs H ls b = some o → H b = some o
  | [], H, b, o, h => h
  | x :: r, H, b, o, h => by
    have := delLs_sub r h
    cases hq : blockOf x.val with
    | none => rw [hq] at this; exact this
    | some c =>
      rw [hq] at this
      simp only [Heap.delO, Heap.del] at this
      split at this
      · cases this
      · exact this
theorem delLs_mem : ∀ (ls : List Lend) {H : Heap} {x : Lend} {b : Nat}, x ∈ ls → blockOf x.val = some b → delLs H ls b = none
  | y :: r, H, x, b, hx, hb => by
    rcases List.mem_cons.1 hx with rfl | hx
    · cases hq : delLs H (x :: r) b with
      | none => rfl
      | some o =>
        have := delLs_sub r hq
        rw [hb] at this
        simp [Heap.delO, Heap.del] at this
    · exact delLs_mem r hx hb
theorem delLs_keep : ∀ (ls : List Lend) {H : Heap} {b : Nat}, (∀ x ∈ ls, blockOf x.val ≠ some b) → delLs H ls b = H b
  | [], H, b, h => rfl
  | x :: r, H, b, h => by
    unfold delLs
    rw [delLs_keep r fun y hy => h y (List.mem_cons_of_mem _ hy)]
    cases hq : blockOf x.val with
    | none => rfl
    | some c =>
      have : b ≠ c := by rintro rfl; exact h x (List.mem_cons_self ..) hq
      simp [Heap.delO, Heap.del, this]
/-- A call that leaves what is looked at as it was. -/
theorem call_reg (r : Reg X C we s0 Hs G V s H a w) {s1 : St} {Hl H' : Heap} {ls : List Lend} {w' : World} (hl : Rep C V s1 Hl a w) (hL : LendsTo V s H s1 Hl ls) (hs : Step Hl w H' w') (hk : Keep G H Hl H') :
    Reg X C we s0 Hs G V s (delLs H' ls) a w' := by
  have h := r.rep
  have same : ∀ b, b < w.heap.size → (H b = none ∨ G b ≠ none) → w'.heap[b]? = w.heap[b]? := by
    intro b hb hc
    cases hq : Hl b with
    | none => exact hs.other b hb hq
    | some o =>
      rw [hl.sub b o hq]
      refine hs.sub b o (hk b o hq ?_)
      rcases hc with hc | hc
      · exact .inl hc
      · right
        cases hg : G b with
        | none => exact absurd hg hc
        | some o' =>
          have := hL.up b o' (r.le b o' hg)
          rw [hq] at this
          exact this.symm
  have gone : ∀ b, b < w.heap.size → (Hl b = none ∨ ∃ x ∈ ls, blockOf x.val = some b) → delLs H' ls b = none := by
    rintro b hb (hq | ⟨x, hx, hb'⟩)
    · have := hs.fresh b hb hq
      cases hq : delLs H' ls b with
      | none => rfl
      | some o => rw [delLs_sub ls hq] at this; cases this
    · exact delLs_mem ls hx hb'
  have lent0 : ∀ x ∈ ls, ∀ b, blockOf x.val = some b → H b = none := fun x hx b hb => by
    obtain ⟨o, h1, h2⟩ := hL.src x hx
    exact (h.priv _ _ b h1 (by rw [h2, hb])).1
  refine ⟨?_, ⟨hs.os.trans r.only.os, hs.tape.trans r.only.tape, hs.output.trans r.only.output, Nat.le_trans r.only.size hs.size, ?_⟩, r.keep, r.low, r.hs, r.sub, r.gs, ?_, ?_, r.base, r.dr, r.oth, r.xs, r.new⟩
  · refine { env := h.env, len := h.len, dfr := h.dfr, sub := fun b o e => hs.sub b o (delLs_sub ls e), objs := ?_, priv := ?_, dist := h.dist, os := hs.os.trans h.os, tape := hs.tape.trans h.tape, output := hs.output.trans h.output, size := Nat.le_trans h.size hs.size, other := ?_ }
    · intro d o e
      have ho := h.objs d o e
      have hp : ∀ b, privB V d o = some b → w'.heap[b]? = w.heap[b]? := fun b hb => same b (h.priv d o b e hb).2.2 (.inl (h.priv d o b e hb).1)
      cases o with
      | box ty l =>
        obtain ⟨cs, h1, h2⟩ := ho
        exact ⟨cs, h1, by rw [hp _ rfl]; exact h2⟩
      | row ty sz es => exact rowIn_same ho fun b hb => hp b hb
    · intro d o b e hb
      obtain ⟨h1, h2, h3⟩ := h.priv d o b e hb
      refine ⟨gone b h3 ?_, h2, Nat.lt_of_lt_of_le h3 hs.size⟩
      rcases hL.gone d o e with e1 | ⟨x, hx, rfl⟩
      · exact .inl (hl.priv d o b e1 hb).1
      · obtain ⟨o', g1, g2⟩ := hL.src x hx
        rw [e] at g1; cases g1
        exact .inr ⟨x, hx, by rw [← g2]; exact hb⟩
    · intro b hb e
      obtain ⟨h1, h2⟩ := hl.other b hb e
      have hbw := Nat.lt_of_lt_of_le hb h.size
      exact ⟨(hs.other b hbw h2).trans h1, gone b hbw (.inl h2)⟩
  · intro b hn hb
    rw [← r.only.block b hn hb]
    refine same b (Nat.lt_of_lt_of_le hb r.only.size) ?_
    cases hq : Hs b with
    | none => exact .inl (r.cur b hb hq fun hx => hn ⟨hb, .inr hx⟩)
    | some o => right; intro hg; exact hn ⟨hb, .inl ⟨by rw [hq]; simp, hg⟩⟩
  · intro b o e
    have e1 := r.le b o e
    rw [delLs_keep ls fun y hy hb => by rw [lent0 y hy b hb] at e1; cases e1]
    exact hk b o (hL.up b o e1) (.inr e)
  · intro b hb e hX
    refine gone b (Nat.lt_of_lt_of_le hb r.only.size) ?_
    cases hq : Hl b with
    | none => exact .inl rfl
    | some o =>
      rcases hL.low b o hq with e1 | e1
      · rw [r.cur b hb e hX] at e1; cases e1
      · exact .inr e1
def PanEnv (pk : Option (List Nat)) (s : St) : Prop := ∀ t x, nth s.env t = some x → x = .c .bad ∨ ∃ l, pk = some l ∧ memN l t = true
def PanN (C : Ctx) (hs : Hints) (Q : Exit → St → Heap → Prop) (c : List PanicEntry) (a : Act) (w : World) : Prop := ∃ V s H, PanEnv hs.pk s ∧ Rep C V s H a w ∧ Q (.panic c) s H
theorem panSt_env (pk : Option (List Nat)) (s : St) : PanEnv pk (panSt pk s) := by
  intro t x e
  cases pk with
  | none => simp [panSt, nth] at e
  | some l =>
    simp only [panSt, nth_restrict, Nat.zero_add] at e
    cases hn : nth s.env t with
    | none => rw [hn] at e; simp at e
    | some y =>
      rw [hn] at e
      simp only [Option.map_some, Option.some.injEq] at e
      split at e
      · rename_i hb; exact .inr ⟨l, rfl, hb⟩
      · exact .inl e.symm
theorem panN_put {hs : Hints} {Q : Exit → St → Heap → Prop} {ops : Array Oper} (hd : noDst ops.toList hs.pk = true) : ∀ (j : Nat) (o : Oper), ops[j]? = some o → ∀ c (a : Act) w v, PanN C hs Q c (a.put o.dst v) w → PanN C hs Q c a w := by
  rintro j o ho c a w v ⟨V, s, H, he, h, q⟩
  refine ⟨V, s, H, he, ?_, q⟩
  refine { env := ?_, len := ?_, dfr := ?_, sub := h.sub, objs := h.objs, priv := h.priv, dist := h.dist, os := h.os, tape := h.tape, output := h.output, size := h.size, other := h.other }
  · intro t x hx
    have h1 := h.env t x hx
    rcases he t x hx with rfl | ⟨l, hl, hm⟩
    · trivial
    · cases hod : o.dst with
      | none => rw [hod] at h1; exact h1
      | some d =>
        rw [hod] at h1
        have hdt : d ≠ t := by
          rintro rfl
          rw [hl] at hd
          simp only [noDst, List.all_eq_true] at hd
          have := hd o (by
            obtain ⟨h1, h2⟩ := Array.getElem?_eq_some_iff.1 ho
            rw [← h2]; simp)
          rw [hod] at this
          simp [hm] at this
        have : (a.put (some d) v).tmps.getD t undef = a.tmps.getD t undef := by
          simp only [Act.put, Array.getD_eq_getD_getElem?, Array.getElem?_setIfInBounds, if_neg hdt]
        rw [this] at h1
        exact h1
  · have := h.len
    cases hod : o.dst with
    | none => rw [hod] at this; exact this
    | some d => rw [hod] at this; simpa [Act.put] using this
  · have := h.dfr
    cases hod : o.dst with
    | none => rw [hod] at this; exact this
    | some d => rw [hod] at this; exact this
def KeepPost (X : Nat → Prop) (C : Ctx) (we : World) (s0 : St) (Hs G : Heap) (V : Vl) (hs : Hints) (Q : Exit → St → Heap → Prop) (o : Oper) (a : Act) (K : St → Heap → Prop) : Ending → World → Prop
  | .returned v, w' => Kept X Hs G we w' ∧ ∃ s' H', K s' H' ∧ Reg X C we s0 Hs G V s' H' (a.put o.dst v) w'
  | .panicked c, w' => PanN C hs Q c a w'
  | .outgrown, _ => False
/-- A call of the head. -/
theorem keep_sound (r : Reg X C we s0 Hs G V s H a w) {hs : Hints} {Q : Exit → St → Heap → Prop} (o : Oper) {K : St → Heap → Prop} (hk : keepK P G o s H (panicQ hs Q) K) :
    bigAt P (PanN C hs Q) o a w fun v w' => Kept X Hs G we w' ∧ ∃ s' H', K s' H' ∧ Reg X C we s0 Hs G V s' H' (a.put o.dst v) w' := by
  unfold keepK at hk
  split at hk
  · rename_i f args ats ho
    have post : ∀ (s1 : St) (Hl : Heap) (ls : List Lend), Rep C V s1 Hl a w → LendsTo V s H s1 Hl ls → ∀ (e : Ending) (w' : World), (∃ H', Step Hl w H' w' ∧ keepR P G H Hl o s s1 ls (panicQ hs Q) K e H') →
        KeepPost X C we s0 Hs G V hs Q o a K e w' := by
      rintro s1 Hl ls hrep hL e w' ⟨H', hstep, hR⟩
      have good : (Keep G H Hl H' ∧ retK P o.type e fun x => K (s.put o.dst x) (delLs H' ls)) →
          KeepPost X C we s0 Hs G V hs Q o a K e w' := by
        rintro ⟨hkp, hR⟩
        obtain ⟨v, x, rfl, hx, hb⟩ := retK_sound (V := V) hR
        have hreg := call_reg r hrep hL hstep hkp
        exact ⟨hreg.only, _, _, hb, hreg.put hx o.dst⟩
      unfold keepR at hR
      split at hR
      · exact good hR
      · rename_i kp hkp
        rcases hR with hR | ⟨c, rfl, hR⟩
        · exact good hR
        · unfold panicQ at hkp
          split at hkp
          · cases hkp
            exact ⟨V, _, H', panSt_env _ _, rep_pan (rep_step hrep hstep) _, hR⟩
          · cases hkp
    have hargs : (args.map a.eval) = (args.toList.map a.eval).toArray := by apply Array.ext'; simp
    unfold bigAt
    split at hk
    · rename_i g
      obtain ⟨s1, Hl, ls, hk, hrep, hL⟩ := lendK_sound _ _ s H r.rep (evs_rep r.rep args.toList).1 (evs_rep r.rep args.toList).2 hk
      obtain ⟨hc, hk⟩ := hk
      have hrun : (execOp a.eval o).run P w = .ok (.enter g (args.toList.map a.eval).toArray) w := by
        unfold execOp
        rw [ho]
        simp only [resolve, Sem.run_bind, Act.eval, Deferred.ofValue, Sem.run_pure, Result.andThen_ok, invoke]
        rw [hargs]
        have e1 : (#[] : Array Value) ++ (args.toList.map a.eval).toArray ++ #[] = (args.toList.map a.eval).toArray := by apply Array.ext'; simp
        rw [e1]
        exact callable_run hc _
      rw [hrun]
      refine (hk w hrep.sub).mono fun e w' hq => ?_
      have hp := post _ _ _ hrep hL e w' hq
      cases e <;> exact hp
    · rename_i f' _
      obtain ⟨s1, H1, l1, hk, hrep1, hL1⟩ := lendV_sound r.rep (r.rep.ev f) hk
      have hev : (args.toList.map (ev s)) = args.toList.map (ev s1) := by
        refine List.map_congr_left fun x _ => ?_
        cases x <;> simp [ev, St.get, hL1.env]
      rw [hev] at hk
      obtain ⟨s2, Hl, ls, hk, hrep, hL⟩ := lendK_sound _ _ s1 H1 hrep1 (evs_rep hrep1 args.toList).1 (evs_rep hrep1 args.toList).2 hk
      generalize hfv : a.eval f = fv at hk
      unfold MeetsV at hk
      split at hk
      · rename_i g first cap
        obtain ⟨hc, hk⟩ := hk
        have hrun : (execOp a.eval o).run P w = .ok (.enter g (first.toList ++ args.toList.map a.eval ++ cap.toList).toArray) w := by
          unfold execOp
          rw [ho]
          simp only [resolve, Sem.run_bind, hfv, Deferred.ofValue, Sem.run_pure, Result.andThen_ok, invoke]
          have : first ++ Array.map a.eval args ++ cap = (first.toList ++ args.toList.map a.eval ++ cap.toList).toArray := by apply Array.ext'; simp
          rw [this]
          exact callable_run hc _
        rw [hrun]
        refine (hk w hrep.sub).mono fun e w' hq => ?_
        have hp := post _ _ _ hrep (hL1.trans hL) e w' hq
        cases e <;> exact hp
      · rename_i l first cap
        obtain ⟨fn, tm, am, bd, hy, hr⟩ := hk w hrep.sub
        have hrun : (execOp a.eval o).run P w = .ok (.round l fn tm am bd) w := by
          unfold execOp
          rw [ho]
          simp only [resolve, Sem.run_bind, hfv, Deferred.ofValue, Sem.run_pure, Result.andThen_ok, invoke]
          have : first ++ Array.map a.eval args = (first.toList ++ args.toList.map a.eval).toArray := by apply Array.ext'; simp
          rw [this]
          exact hy
        rw [hrun]
        refine hr.mono fun e w' hq => ?_
        have hp := post _ _ _ hrep (hL1.trans hL) e w' hq
        cases e <;> exact hp
      · exact hk.elim
  · exact hk.elim
theorem lsOff_eq {O : List (Nat × AObj)} : ∀ {ls : List Lend}, lsOff O ls = true → ∀ x ∈ ls, look O x.site = none
  | [], _, x, hx => by cases hx
  | y :: r, h, x, hx => by
    simp only [lsOff, Bool.and_eq_true] at h
    rcases List.mem_cons.1 hx with rfl | hx
    · have h1 := h.1
      split at h1
      · assumption
      · cases h1
    · exact lsOff_eq h.2 x hx
/-- A call that keeps what it is given. -/
theorem give_sound (r : Reg X C we s0 Hs G V s H a w) {hs : Hints} {Q : Exit → St → Heap → Prop} (o : Oper) {K : St → Heap → Prop} (hk : giveK P s0.objs G o s H (panicQ hs Q) K) :
    bigAt P (PanN C hs Q) o a w fun v w' => Kept X Hs G we w' ∧ ∃ s' H', K s' H' ∧ Reg X C we s0 Hs G V s' H' (a.put o.dst v) w' := by
  unfold giveK at hk
  split at hk
  · rename_i g args ats ho
    have hargs : (args.map a.eval) = (args.toList.map a.eval).toArray := by apply Array.ext'; simp
    unfold bigAt
    obtain ⟨s1, Hl, ls, hk, hrep, hL⟩ := lendK_sound _ _ s H r.rep (evs_rep r.rep args.toList).1 (evs_rep r.rep args.toList).2 hk
    obtain ⟨hc, hk⟩ := hk
    have hrun : (execOp a.eval o).run P w = .ok (.enter g (args.toList.map a.eval).toArray) w := by
      unfold execOp
      rw [ho]
      simp only [resolve, Sem.run_bind, Act.eval, Deferred.ofValue, Sem.run_pure, Result.andThen_ok, invoke]
      rw [hargs]
      have e1 : (#[] : Array Value) ++ (args.toList.map a.eval).toArray ++ #[] = (args.toList.map a.eval).toArray := by apply Array.ext'; simp
      rw [e1]
      exact callable_run hc _
    rw [hrun]
    refine (hk w hrep.sub).mono fun e w' ⟨H', hstep, hR⟩ => ?_
    have hrep' := rep_step hrep hstep
    have good : lsOff s0.objs ls = true → (G ≤ H' ∧ retK P o.type e fun x => K (s1.put o.dst x) H') → KeepPost X C we s0 Hs G V hs Q o a K e w' := by
      rintro hoff ⟨hG, hR⟩
      obtain ⟨v, x, rfl, hx, hb⟩ := retK_sound (V := V) hR
      have priv : ∀ x ∈ ls, ∀ b, blockOf x.val = some b → b < we.heap.size → Chg X Hs G we b := fun x hx b hb hlt => by
        obtain ⟨ob, h1, h2⟩ := hL.src x hx
        exact r.new x.site ob b h1 (lsOff_eq hoff x hx) (by rw [h2, hb]) hlt
      have hreg : Reg X C we s0 Hs G V s1 H' a w' := by
        refine ⟨hrep', ⟨hstep.os.trans r.only.os, hstep.tape.trans r.only.tape, hstep.output.trans r.only.output, Nat.le_trans r.only.size hstep.size, fun b hn hlt => ?_⟩, fun d ob e => ?_, r.low, r.hs, r.sub, r.gs, hG, fun b hlt e hX => ?_, r.base, r.dr, r.oth, r.xs, fun d ob b e e0 hb hlt => ?_⟩
        · rw [← r.only.block b hn hlt]
          have hlt' := Nat.lt_of_lt_of_le hlt r.only.size
          cases hq : Hl b with
          | none => exact hstep.other b hlt' hq
          | some ob =>
            rcases hL.low b ob hq with e | ⟨x, hx, hbx⟩
            · cases hg : G b with
              | none =>
                refine absurd ⟨hlt, ?_⟩ hn
                by_cases hX : X b
                · exact .inr hX
                · refine .inl ⟨fun h0 => ?_, hg⟩
                  rw [r.cur b hlt h0 hX] at e; cases e
              | some o' =>
                have e1 := hG b o' hg
                have e2 := r.le b o' hg
                rw [e] at e2
                cases e2
                rw [hstep.sub b _ e1, r.rep.sub b _ e]
            · exact absurd (priv x hx b hbx hlt) hn
        · rcases hL.gone d ob (r.keep d ob e) with h | ⟨x, hx, rfl⟩
          · exact h
          · rw [lsOff_eq hoff x hx] at e; cases e
        · have hlt' := Nat.lt_of_lt_of_le hlt r.only.size
          have hl : Hl b = none := by
            cases hq : Hl b with
            | none => rfl
            | some ob =>
              rcases hL.low b ob hq with e' | ⟨x, hx, hbx⟩
              · rw [r.cur b hlt e hX] at e'; cases e'
              · rcases (priv x hx b hbx hlt).2 with h | h
                · exact absurd e h.1
                · exact absurd h hX
          exact hstep.fresh b hlt' hl
        · exact r.new d ob b (hL.sub d ob e) e0 hb hlt
      exact ⟨hreg.only, _, _, hb, hreg.put hx o.dst⟩
    have hp : KeepPost X C we s0 Hs G V hs Q o a K e w' := by
      unfold giveR at hR
      split at hR
      · rename_i hoff
        split at hR
        · exact good hoff hR
        · rename_i kp hkp
          rcases hR with hR | ⟨c, rfl, hR⟩
          · exact good hoff hR
          · unfold panicQ at hkp
            split at hkp
            · cases hkp
              exact ⟨V, _, H', panSt_env _ _, rep_pan hrep' _, hR⟩
            · cases hkp
      · exact hR.elim
    cases e <;> exact hp
  · exact hk.elim
/-- What was built becomes known memory. -/
theorem pubRow_reg (r : Reg X C we s0 Hs G V s H a w) {d : Nat} {K : St → Heap → Prop} (hk : pubMixK s0.objs d s H K) : ∃ s' H', K s' H' ∧ Reg X C we s0 Hs G V s' H' a w := by
  unfold pubMixK at hk
  split at hk
  · rename_i x hx
    obtain ⟨v, s', H', ls, h1, h2, h2', hL, h4, h5⟩ := pub_lend r.rep hx hk
    split at h1
    · rename_i hoff
      refine ⟨_, H', h1, ?_⟩
      have priv : ∀ x ∈ ls, ∀ b, blockOf x.val = some b → b < we.heap.size → Chg X Hs G we b := fun x hx b hb hlt => by
        obtain ⟨ob, h1, h2⟩ := hL.src x hx
        exact r.new x.site ob b h1 (lsOff_eq hoff x hx) (by rw [h2, hb]) hlt
      refine ⟨h2, r.only, fun d ob e => ?_, r.low, r.hs, r.sub, r.gs, heap_trans r.le hL.up, fun b hlt e hX => ?_, r.base, r.dr, r.oth, r.xs, fun d ob b e e0 hb hlt => r.new d ob b (hL.sub d ob e) e0 hb hlt⟩
      · rcases hL.gone d ob (r.keep d ob e) with h | ⟨x, hx, rfl⟩
        · exact h
        · rw [lsOff_eq hoff x hx] at e; cases e
      · cases hq : H' b with
        | none => rfl
        | some ob =>
          exfalso
          rcases hL.low b ob hq with e' | ⟨x, hx, hbx⟩
          · rw [r.cur b hlt e hX] at e'; cases e'
          · rcases (priv x hx b hbx hlt).2 with h | h
            · exact absurd e h.1
            · exact absurd h hX
    · exact h1.elim
  · exact hk.elim
/-- What comes to one thing whatever memory is. -/
def WL (P : Program) {α : Type} (m : Sem α) : Prop := ∀ w v w1, m.run P w = .ok v w1 → w1 = w ∧ ∀ w', m.run P w' = .ok v w'
theorem wl_pure {α : Type} (x : α) : WL P (pure x : Sem α) := by intro w v w1 h; simp only [Sem.run_pure] at h; cases h; exact ⟨rfl, fun _ => rfl⟩
theorem wl_bind {α β : Type} {m : Sem α} {f : α → Sem β} (hm : WL P m) (hf : ∀ x, WL P (f x)) : WL P (m >>= f) := by
  intro w v w1 h
  rw [Sem.run_bind] at h
  cases hr : m.run P w with
  | ok u w2 =>
    rw [hr] at h
    obtain ⟨rfl, h1⟩ := hm w u w2 hr
    obtain ⟨rfl, h2⟩ := hf u _ v w1 h
    exact ⟨rfl, fun w' => by rw [Sem.run_bind, h1 w']; exact h2 w'⟩
  | halt x w2 => rw [hr] at h; cases h
theorem wl_halt {α : Type} (x : Halt) : WL P (.halt x : Sem α) := by intro w v w1 h; cases h
theorem wl_program : WL P program := by intro w v w1 h; rw [run_program] at h; cases h; exact ⟨rfl, fun w' => run_program ..⟩
theorem wl_underlying (t : TypeId) : WL P (underlying t) := by
  unfold underlying
  refine wl_bind wl_program fun p => ?_
  split
  · exact wl_pure _
  · exact wl_halt _
theorem wl_info (t : TypeId) : WL P (typeInfo t) := by
  unfold typeInfo
  refine wl_bind wl_program fun p => ?_
  split
  · exact wl_pure _
  · exact wl_halt _
theorem wl_size (t : TypeId) : WL P (Go.sizeOf t) := by
  unfold Go.sizeOf
  exact wl_bind (wl_info t) fun i => wl_pure _
theorem wl_sure (v : Value) : WL P (Instr.sureAddr v) := by
  unfold Instr.sureAddr
  split
  · exact wl_pure _
  · exact wl_halt _
/-- What never comes to a value. -/
def NoV (P : Program) {α : Type} (m : Sem α) : Prop := ∀ w v w1, m.run P w ≠ .ok v w1
theorem NoV.wl {α : Type} {m : Sem α} (h : NoV P m) : WL P m := fun w v w1 e => absurd e (h w v w1)
theorem noV_bind {α β : Type} {m : Sem α} {f : α → Sem β} (hf : ∀ x, NoV P (f x)) : NoV P (m >>= f) := by
  intro w v w1 h
  rw [Sem.run_bind] at h
  cases hr : m.run P w with
  | ok u w2 => rw [hr] at h; exact hf u w2 v w1 h
  | halt x w2 => rw [hr] at h; cases h
theorem noV_halt {α : Type} (x : Halt) : NoV P (.halt x : Sem α) := by intro w v w1 h; cases h
theorem noV_panic {α : Type} (e : RuntimeError) : NoV P (runtimePanic e : Sem α) := by
  unfold runtimePanic
  refine noV_bind fun p => ?_
  repeat' first
    | exact noV_halt _
    | refine noV_bind fun _ => ?_
    | split
theorem wl_bounds {α : Type} (k : IntKind) (x y : Int) (c : BoundsCode) : WL P (boundsPanic k x y c : Sem α) := by
  refine NoV.wl ?_
  unfold boundsPanic
  dsimp only
  split
  · exact noV_bind fun s => noV_panic _
  · exact noV_bind fun s => noV_panic _
theorem wl_asInt (v : Value) : WL P (asIntOf v) := by
  unfold asIntOf
  split
  · exact wl_pure _
  · exact wl_halt _
  · exact wl_halt _
theorem wl_indexAt (t : TypeId) (x i : Value) {w w1 : World} {v : Value} (h : (Instr.indexAt t x i).run P w = .ok v w1) : ∀ w', (Instr.indexAt t x i).run P w' = .ok v w' := by
  have wl : WL P (Instr.indexAt t x i) := by
    unfold Instr.indexAt
    repeat' first
      | exact wl_pure _
      | exact wl_halt _
      | exact wl_asInt _
      | exact wl_underlying _
      | exact wl_sure _
      | exact wl_size _
      | apply wl_bounds
      | refine wl_bind ?_ fun _ => ?_
      | split
      | dsimp only
  exact (wl w v w1 h).2
theorem wl_fieldAt (t : TypeId) (x : Value) (f : Nat) {fd : Field} {z : Nat} (hf : fieldOf P t f = some fd) (hz : sizeT P fd.type = some (z + 1)) {w w1 : World} {v : Value} (h : (Instr.fieldAt t x f).run P w = .ok v w1) : ∀ w', (Instr.fieldAt t x f).run P w' = .ok v w' := by
  have wl : WL P (Instr.fieldAt t x f) := by
    unfold fieldOf at hf
    split at hf
    · rename_i fs hu
      obtain ⟨i, hi, hsz⟩ := sizeT_eq hz
      intro w v w1 h
      unfold Instr.fieldAt at h ⊢
      simp only [Sem.run_bind, run_underlying hu, Result.andThen_ok, hf] at h ⊢
      obtain ⟨p, rfl⟩ : ∃ p, x = .pointer p := by
        cases x <;> first | exact ⟨_, rfl⟩ | (exfalso; simp [Instr.sureAddr, stuck, Sem.run_bind, Sem.run] at h; done)
      cases p with
      | none => simp [Instr.sureAddr, stuck, Sem.run_bind, Sem.run] at h
      | some a =>
        have hz' : ¬ (i.size = 0) := by omega
        simp only [Instr.sureAddr, Sem.run_pure, Result.andThen_ok, fieldPlace, Sem.run_bind, run_sizeT hi, hz', if_false] at h ⊢
        cases h
        exact ⟨rfl, fun _ => rfl⟩
    · cases hf
  exact (wl w v w1 h).2
theorem wl_arith {op : BinOp} (ho : op = .add ∨ op = .sub) {t : TypeId} {x y : Operand} {k k' : IntKind} {a b : Int} {w w1 : World} {r : Value}
    (h : (do eqGuard op t x y (.int k a) (.int k' b); binOp op t (.int k a) (.int k' b) : Sem Value).run P w = .ok r w1) : ∀ w', (do eqGuard op t x y (.int k a) (.int k' b); binOp op t (.int k a) (.int k' b) : Sem Value).run P w' = .ok r w' := by
  have wl : WL P (do eqGuard op t x y (.int k a) (.int k' b); binOp op t (.int k a) (.int k' b) : Sem Value) := by
    refine wl_bind ?_ fun _ => ?_
    · rcases ho with rfl | rfl <;> (unfold eqGuard; exact wl_pure _)
    · rcases ho with rfl | rfl
      all_goals
        unfold binOp
        dsimp only
        split
        · exact wl_halt _
        · unfold Op.intArith
          repeat' first
            | exact wl_pure _
            | exact wl_halt _
            | split
  exact (wl w r w1 h).2
theorem wl_arith2 {op : BinOp} (ho : op = .add ∨ op = .sub) {t : TypeId} {x y : Operand} {u v : Value} {k k' : IntKind} {a b : Int} (e1 : u = .int k a) (e2 : v = .int k' b) {w w1 : World} {r : Value}
    (h : (do eqGuard op t x y u v; binOp op t u v : Sem Value).run P w = .ok r w1) : ∀ w', (do eqGuard op t x y u v; binOp op t u v : Sem Value).run P w' = .ok r w' := by
  subst e1; subst e2
  exact wl_arith ho h
theorem val_ints {cfg : Cfg} {op : BinOp} {t r : TypeId} {x y : Operand} {s : St} {K : SV → Prop} (hk : valK P cfg (.binOp op t x y r) s K) (ho : op = .add ∨ op = .sub) :
    (∃ k a, ev s x = .c (.v (.int k a))) ∧ ∃ k a, ev s y = .c (.v (.int k a)) := by
  simp only [valK] at hk
  unfold binK at hk
  split at hk
  · rename_i e1 e2; exact ⟨⟨_, _, e1⟩, ⟨_, _, e2⟩⟩
  · rcases ho with rfl | rfl <;> exact hk.elim
  · rcases ho with rfl | rfl <;> exact hk.elim
/-- What is added are numbers. -/
def IntsIn (o : Oper) (ρ : Operand → Value) : Prop := (∀ op t x y r, o.op = .binOp op t x y r → (op = .add ∨ op = .sub) → (∃ k a, ρ x = .int k a) ∧ ∃ k a, ρ y = .int k a) ∧ (∀ x, o.op = .nilCheck x → ∃ p, ρ x = .pointer p) ∧ ∀ t x, o.op = .unOp .not t x → ∃ b, ρ x = .bool b
theorem ints_in (h : Rep C V s H a w) {cfg : Cfg} {o : Oper} {K : SV → Prop} (hk : valK P cfg o.op s K) : IntsIn o a.eval := by
  refine ⟨fun op t x y r ho hop => ?_, fun x ho => ?_, fun t x ho => ?_⟩
  · rw [ho] at hk
    obtain ⟨⟨k, n, e1⟩, ⟨k', n', e2⟩⟩ := val_ints hk hop
    have h1 := h.ev x
    have h2 := h.ev y
    rw [e1] at h1; rw [e2] at h2
    exact ⟨⟨k, n, h1.1⟩, ⟨k', n', h2.1⟩⟩
  · rw [ho] at hk
    simp only [valK] at hk
    have h1 := h.ev x
    split at hk
    · rename_i e; rw [e] at h1; exact ⟨_, h1.1⟩
    · rename_i e; rw [e] at h1; exact ⟨_, h1⟩
    · rename_i e; rw [e] at h1; exact ⟨_, h1.2⟩
    · rename_i e; rw [e] at h1
      obtain ⟨A, n, cap, _, _, e'⟩ := h1
      exact ⟨_, e'⟩
    · exact hk.elim
  · rw [ho] at hk
    simp only [valK] at hk
    have h1 := h.ev x
    split at hk
    · rename_i e; rw [e] at h1; exact ⟨_, h1.1⟩
    · exact hk.elim
theorem quiet2_free {o : Oper} (hq : quiet2 P o.op = true) {ρ : Operand → Value} (hin : IntsIn o ρ) {w : World} {v : Value} {w1 : World} (h : (execOp ρ o).run P w = .ok (.value v) w1) : ∀ w', (execOp ρ o).run P w' = .ok (.value v) w' := by
  intro w'
  have key : ∀ (m : Sem Value), (∀ w v w1, m.run P w = .ok v w1 → ∀ w', m.run P w' = .ok v w') → (do pure (Next.value (← m)) : Sem Next).run P w = .ok (.value v) w1 → (do pure (Next.value (← m)) : Sem Next).run P w' = .ok (.value v) w' := by
    intro m hm h
    rw [Sem.run_bind] at h ⊢
    cases hr : m.run P w with
    | ok u w2 =>
      rw [hr] at h
      simp only [Result.andThen_ok, Sem.run_pure] at h
      cases h
      rw [hm w _ _ hr w']
      rfl
    | halt x w2 => rw [hr] at h; cases h
  unfold quiet2 at hq
  unfold execOp at h ⊢
  split at hq
  · rename_i t x i ho
    rw [ho] at h ⊢
    exact key _ (fun w v w1 h => wl_indexAt t _ _ h) h
  · rename_i x ho
    rw [ho] at h ⊢
    simp only [Sem.run_pure] at h ⊢; cases h; rfl
  · rename_i x ho
    rw [ho] at h ⊢
    simp only [Sem.run_pure] at h ⊢; cases h; rfl
  · rename_i x ho
    obtain ⟨p, hp⟩ := hin.2.1 x ho
    rw [ho] at h ⊢
    cases p with
    | none => simp only [hp] at h; cases h
    | some A => simp only [hp, Sem.run_pure] at h ⊢; cases h; rfl
  · rename_i t x ho
    obtain ⟨b, hb⟩ := hin.2.2 t x ho
    rw [ho] at h ⊢
    exact key _ (fun w v w1 h w' => by
      rw [hb] at h ⊢
      cases h; rfl) h
  · rename_i t x f ho
    rw [ho] at h ⊢
    split at hq
    · rename_i fd hf
      split at hq
      · rename_i z hz
        exact key _ (fun w v w1 h => wl_fieldAt t _ f hf hz h) h
      · cases hq
    · cases hq
  · rename_i t x y z ho
    rw [ho] at h ⊢
    obtain ⟨⟨k, n, e1⟩, ⟨k', n', e2⟩⟩ := hin.1 _ _ _ _ _ ho (.inl rfl)
    exact key _ (fun w v w1 h => wl_arith2 (.inl rfl) e1 e2 h) h
  · rename_i t x y z ho
    rw [ho] at h ⊢
    obtain ⟨⟨k, n, e1⟩, ⟨k', n', e2⟩⟩ := hin.1 _ _ _ _ _ ho (.inr rfl)
    exact key _ (fun w v w1 h => wl_arith2 (.inr rfl) e1 e2 h) h
  · cases hq
theorem quiet2_noskip {o : Oper} (hq : quiet2 P o.op = true) {ρ : Operand → Value} (hin : IntsIn o ρ) {w w1 : World} (h : (execOp ρ o).run P w = .ok .skip w1) : False := by
  have key : ∀ (m : Sem Value), (do pure (Next.value (← m)) : Sem Next).run P w = .ok .skip w1 → False := by
    intro m h
    rw [Sem.run_bind] at h
    cases hr : m.run P w with
    | ok u w2 => rw [hr] at h; simp only [Result.andThen_ok, Sem.run_pure] at h; cases h
    | halt x w2 => rw [hr] at h; cases h
  unfold quiet2 at hq
  unfold execOp at h
  split at hq
  · rename_i ho; rw [ho] at h; exact key _ h
  · rename_i ho; rw [ho] at h; cases h
  · rename_i ho; rw [ho] at h; cases h
  · rename_i x ho
    obtain ⟨p, hp⟩ := hin.2.1 x ho
    rw [ho] at h
    cases p with
    | none => simp only [hp] at h; cases h
    | some A => simp only [hp, Sem.run_pure] at h; cases h
  · rename_i ho; rw [ho] at h; exact key _ h
  · rename_i ho; rw [ho] at h; exact key _ h
  · rename_i ho; rw [ho] at h; exact key _ h
  · rename_i ho; rw [ho] at h; exact key _ h
  · cases hq
/-- One operation of the head. -/
theorem mixOp_sound (r : Reg X C we s0 Hs G V s H a w) {hs : Hints} (hE : ∀ t, memN hs.eqs t = true → EqOK P t) {Q : Exit → St → Heap → Prop} {ops : Array Oper} {k : Nat} {o : Oper} (hnw : wrN hs.late ops.toList k = false) (hk0 : ops[k]? = some o) (hw : Region.wanted o (yielded ops a.tmps) = true)
    {K : St → Heap → Prop} {N : Act → World → Prop} (hN : ∀ V s H a w, Reg X C we s0 Hs G V s H a w → K s H → N a w) (hk : mixOp P hs Q s0 G o s H K) : mOp P ops (Kept X Hs G we) (PanN C hs Q) (bigN ops.toList) (wrN hs.late ops.toList) (rdN P ops.toList) k N a w := by
  have hwo : wrO o = false := by
    have : wrN hs.late ops.toList k = wrL hs.late o := by
      unfold wrN
      rw [nth_eq]
      simp [hk0]
    rw [this] at hnw
    unfold wrL at hnw
    simp only [Bool.or_eq_false_iff] at hnw
    exact hnw.2
  have hbig : bigN ops.toList k = bigO o := by
    unfold bigN
    rw [nth_eq]
    simp [hk0, hwo]
  unfold mOp
  simp only [hk0]
  rw [if_pos hw, hbig]
  unfold mixOp at hk
  split at hk
  · rename_i hc
    rw [if_pos (by simp [bigO, hc])]
    exact bigAt_mono (keep_sound r o hk) fun v w' ⟨h1, s', H', h2, h3⟩ => ⟨fun _ => h1, hN _ _ _ _ _ h3 h2⟩
  · rename_i hc
    split at hk
    · rename_i ha
      rw [if_pos (by simp [bigO, ha])]
      split at hk
      · obtain ⟨V', s', y, w', h1, h2, h3 | ⟨h3, rfl⟩⟩ := alloc_reg r ha hk
        · unfold bigAt; rw [h3]; exact ⟨fun _ => h2.only, hN _ _ _ _ _ h2 h1⟩
        · unfold bigAt; rw [h3]; exact ⟨fun _ => h2.only, hN _ _ _ _ _ h2 h1⟩
      · obtain ⟨V', s', y, w', h1, h2, h3 | ⟨h3, rfl⟩⟩ := alloc_reg r ha hk
        · obtain ⟨s2, H2, g1, g2⟩ := pubRow_reg h2 h1
          unfold bigAt; rw [h3]; exact ⟨fun _ => h2.only, hN _ _ _ _ _ g2 g1⟩
        · obtain ⟨s2, H2, g1, g2⟩ := pubRow_reg h2 h1
          unfold bigAt; rw [h3]; exact ⟨fun _ => h2.only, hN _ _ _ _ _ g2 g1⟩
    · rename_i ha
      rw [if_neg (by simp [bigO, ha, hc])]
      -- what looks into memory: its value hangs on what is there; else it hangs on nothing
      have fin : IntsIn o a.eval → ∀ v, (∀ w', Kept X Hs G we w' → pureAt P o a w' v) → ∀ w', (rdN P ops.toList k = true → Kept X Hs G we w') → pureAt P o a w' v := by
        intro hin v hv w' hr
        cases hq : rdN P ops.toList k with
        | true => exact hv w' (hr hq)
        | false =>
          have hq2 : quiet2 P o.op = true := by
            unfold rdN at hq
            rw [nth_eq] at hq
            simp only [Array.getElem?_toList, hk0, Bool.and_eq_false_iff, Bool.not_eq_false'] at hq
            rcases hq with hq | hq
            · simp only [wrO, hq, Bool.not_false, Bool.and_true, Bool.not_eq_false'] at hwo
              simp [bigO, ha, hc] at hwo
            · exact hq
          rcases hv w r.only with h1 | ⟨h1, _⟩
          · exact .inl (quiet2_free hq2 hin h1 w')
          · exfalso; exact quiet2_noskip hq2 hin h1
      split at hk
      · split at hk
        · rename_i hsl
          obtain ⟨v, h1, x, h2, h3⟩ := quiet_slice r o hsl hk
          exact ⟨v, fun w' _ => h1 w', hN _ _ _ _ _ (r.put h3 o.dst) h2⟩
        obtain ⟨v, h1, x, h2, h3⟩ := quiet_sound r hE o (.inl hk)
        exact ⟨v, fin (ints_in (r.there r.only) hk) v h1, hN _ _ _ _ _ (r.put h3 o.dst) h2⟩
      · obtain ⟨v, h1, x, h2, h3⟩ := quiet_sound r hE o (.inr hk)
        exact ⟨v, fin ⟨fun op t x y r ho => by rw [ho] at hk; exact hk.elim, fun x ho => by rw [ho] at hk; exact hk.elim, fun t x ho => by rw [ho] at hk; exact hk.elim⟩ v h1, hN _ _ _ _ _ (r.put h3 o.dst) h2⟩
      · exact hk.elim
theorem ext_call {hs : Hints} {o : Oper} (h : isCall o.op = false) : extOf hs o = none ∧ ovlOf hs o = none := ⟨extOf_call h, ovlOf_call h⟩
/-- A call behind the head. -/
theorem late_sound (h : Rep C V s H a w) {hs : Hints} (hE : ∀ t, memN hs.eqs t = true → EqOK P t) {Q : Exit → St → Heap → Prop} {o : Oper} (hcl : isCall o.op = true) {K : St → Heap → Prop} (hk : opC P hs Q o s H K) :
    bigAt P (PanN C hs Q) o a w fun v w' => ∃ V s' H', Rep C V s' H' (a.put o.dst v) w' ∧ K s' H' := by
  unfold bigAt
  unfold opC at hk
  split at hk
  · rename_i g x y c ho
    obtain ⟨v, r, h1, h2, h3⟩ := extK_sound h ho hk
    rw [h3]
    exact ⟨V, _, H, h.put h2 o.dst, h1⟩
  · split at hk
    · rename_i g x y ho
      obtain ⟨v, r, h1, h2, h3⟩ := ovlK_sound h ho hk
      rw [h3]
      exact ⟨V, _, H, h.put h2 o.dst, h1⟩
    · have pan : ∀ {K' : St → Heap → Prop} {c w'}, CallPost C o a (panicQ hs Q) K' (.panicked c) w' → PanN C hs Q c a w' := by
        rintro K' c w' ⟨kp, V', s', H', h3, h4, h5⟩
        unfold panicQ at h3
        split at h3
        · cases h3
          exact ⟨V', _, H', panSt_env _ _, rep_pan h5 _, h4⟩
        · cases h3
      have hcls : clsOf P o s = .call := by
        unfold isCall at hcl
        split at hcl
        · rename_i ho; unfold clsOf; rw [ho]
        · cases hcl
      unfold opD at hk
      rw [hcls] at hk
      simp only at hk
      split at hk
      · obtain ⟨nx, h1, h2⟩ := giveK_sound h o hk
        rw [h1]
        refine bigUpon_goes (h2.mono ?_)
        intro e w' he
        cases e with
        | returned v => obtain ⟨V', s', H', h3, h4⟩ := he; exact ⟨V', s', H', h4, h3⟩
        | panicked c => exact pan he
        | outgrown => exact he.elim
      · split at hk
        · obtain ⟨nx, h1, h2⟩ := callK_sound h o hk
          rw [h1]
          refine bigUpon_goes (h2.mono ?_)
          intro e w' he
          cases e with
          | returned v => obtain ⟨V', s', H', h3, h4⟩ := he; exact ⟨V', s', H', h4, h3⟩
          | panicked c => exact pan he
          | outgrown => exact he.elim
        · obtain ⟨nx, h1, h2⟩ := callK_sound h o hk
          rw [h1]
          refine bigUpon_goes (h2.mono ?_)
          intro e w' he
          cases e with
          | returned v =>
            obtain ⟨V', s', H', h3, h4⟩ := he
            obtain ⟨V2, s2, H2, h6, h7⟩ := adoptK_sound h4 h3
            exact ⟨V2, s2, H2, h7, h6⟩
          | panicked c => exact pan he
          | outgrown => exact he.elim
/-- One operation behind the head. -/
theorem opK_tail {C' : World → Prop} (h : Rep C V s H a w) {hs : Hints} (hE : ∀ t, memN hs.eqs t = true → EqOK P t) {Q : Exit → St → Heap → Prop} {ops : Array Oper} {k : Nat} {o : Oper} (hk0 : ops[k]? = some o) (hw : Region.wanted o (yielded ops a.tmps) = true) (ht : (isLate hs.late o || ((wrO o && tailOp o.op) || (quiet2 P o.op && !bigO o && !wrO o))) = true)
    {K : St → Heap → Prop} {N : Act → World → Prop} (hN : ∀ V s H a w, Rep C V s H a w → K s H → N a w) (hk : opK P hs Q o s H K) : mOp P ops C' (PanN C hs Q) (bigN ops.toList) (wrN hs.late ops.toList) (rdN P ops.toList) k N a w := by
  have hbig : bigN ops.toList k = (bigO o || wrO o) := by
    unfold bigN
    rw [nth_eq]
    simp [hk0]
  have hwr : wrN hs.late ops.toList k = wrL hs.late o := by
    unfold wrN
    rw [nth_eq]
    simp [hk0]
  have hrd : rdN P ops.toList k = (quietOp o.op && !quiet2 P o.op) := by
    unfold rdN
    rw [nth_eq]
    simp [hk0]
  -- the operation on a state
  have core : ∀ {V : Vl} {s : St} {H : Heap}, Rep C V s H a w → opC P hs Q o s H K → mOp P ops C' (PanN C hs Q) (bigN ops.toList) (wrN hs.late ops.toList) (rdN P ops.toList) k N a w := by
    intro V s H h hk
    unfold mOp
    simp only [hk0]
    rw [if_pos hw, hbig, hwr, hrd]
    cases hlt : isLate hs.late o with
    | true =>
      have hcl : isCall o.op = true := by
        unfold isLate at hlt
        unfold isCall
        split at hlt
        · rename_i ho; first | rw [ho] | rfl
        · cases hlt
      rw [if_pos (by simp [bigO, hcl])]
      exact bigAt_mono (late_sound h hE hcl hk) fun v w' ⟨V, s, H, h1, h2⟩ => ⟨fun q => (by simp [wrL, hlt] at q), hN _ _ _ _ _ h1 h2⟩
    | false =>
    rw [hlt, Bool.false_or] at ht
    simp only [Bool.false_or, wrL, hlt]
    simp only [Bool.or_eq_true, Bool.and_eq_true, Bool.not_eq_true'] at ht
    rcases ht with ⟨hwo, ht⟩ | ⟨⟨hq, hb⟩, hwo⟩
    rotate_left
    · rw [hb, hwo]
      simp only [Bool.or_self, Bool.false_eq_true, if_false]
      have hcls : clsOf P o s = .val := by
        unfold quiet2 at hq
        unfold clsOf
        split at hq
        all_goals rename_i ho
        all_goals first | cases hq; done | (rw [ho])
      have hx : extOf hs o = none ∧ ovlOf hs o = none := ext_call (by
        unfold quiet2 at hq
        split at hq
        all_goals rename_i ho
        all_goals first | cases hq; done | (rw [ho]; rfl))
      unfold opC at hk
      rw [hx.1, hx.2] at hk
      simp only at hk
      unfold opD at hk
      rw [hcls] at hk
      obtain ⟨z, r, h1, h2, h3⟩ := valK_sound h (cfg := ⟨hs.eqs⟩) hE o hk
      exact ⟨r, fun w' _ => .inl (quiet2_free hq (ints_in h hk) h3 w'), hN _ _ _ _ _ (h.put h2 o.dst) h1⟩
    · rw [hwo]
      simp only [Bool.or_true, if_true]
      unfold bigAt
      have hx : extOf hs o = none ∧ ovlOf hs o = none := ext_call (by
        unfold tailOp at ht
        cases hi : isCall o.op
        · rfl
        · unfold isCall at hi
          split at hi
          · rename_i ho2; rw [ho2] at ht; cases ht
          · cases hi)
      unfold opC at hk
      rw [hx.1, hx.2] at hk
      simp only at hk
      unfold opD at hk
      split at hk
      · obtain ⟨z, r, h1, h2, h3⟩ := valK_sound h (cfg := ⟨hs.eqs⟩) hE o hk
        rw [h3]
        exact ⟨fun h => (by cases h), hN _ _ _ _ _ (h.put h2 o.dst) h1⟩
      · split at hk
        · obtain ⟨V', s', y, w', h1, h2, h3 | ⟨h3, rfl⟩⟩ := objK_sound h (heap_refl H) o hk
          · rw [h3]; exact ⟨fun h => (by cases h), hN _ _ _ _ _ h2 h1⟩
          · rw [h3]; exact ⟨fun h => (by cases h), hN _ _ _ _ _ h2 h1⟩
        · obtain ⟨V', s', y, w', h1, h2, h3 | ⟨h3, rfl⟩⟩ := objK_sound h (heap_refl H) o hk
          · obtain ⟨V2, s2, H2, h4, h5⟩ := pubBoxK_sound h2 h1
            rw [h3]; exact ⟨fun h => (by cases h), hN _ _ _ _ _ h4 h5⟩
          · obtain ⟨V2, s2, H2, h4, h5⟩ := pubBoxK_sound h2 h1
            rw [h3]; exact ⟨fun h => (by cases h), hN _ _ _ _ _ h4 h5⟩
      · obtain ⟨z, r, h1, h2, h3⟩ := readK_sound h (heap_refl H) o hk
        rw [h3]
        exact ⟨fun h => (by cases h), hN _ _ _ _ _ (h.put h2 o.dst) h1⟩
      · obtain ⟨V', s', H', y, w', h1, h2, h3 | ⟨h3, rfl⟩⟩ := effK_sound h o hk
        · rw [h3]; exact ⟨fun h => (by cases h), hN _ _ _ _ _ h2 h1⟩
        · rw [h3]; exact ⟨fun h => (by cases h), hN _ _ _ _ _ h2 h1⟩
      · exfalso
        have nocall : ∀ {K' : St → Heap → Prop}, callK P o s H (panicQ hs Q) K' → False := by
          intro K' hk
          unfold callK at hk
          split at hk
          · rename_i ho; rw [ho] at ht; cases ht
          · exact hk
        split at hk
        · unfold giveK at hk
          split at hk
          · rename_i ho; rw [ho] at ht; cases ht
          · exact hk
        split at hk
        · exact nocall hk
        · exact nocall hk
      · split at hk
        · rename_i x ho
          have hx := h.ev x
          split at hk
          · rename_i t v hv
            rw [hv] at hx
            obtain ⟨hx, -⟩ := hx
            have : (execOp a.eval o).run P w = .halt (.panic (.iface t v)) w := by
              unfold execOp
              rw [ho]
              simp only [hx, Instr.panic, goPanic, Sem.run_bind, Sem.run]
              rfl
            rw [this]
            exact ⟨V, _, H, panSt_env _ _, rep_pan h _, hk⟩
          · exact hk.elim
        · exact hk.elim
      · exfalso
        split at hk
        · rename_i ho; rw [ho] at ht; cases ht
        · exact hk
      · exact hk.elim
  unfold opK at hk
  split at hk
  · rename_i x y sz hio
    obtain ⟨V', s', H', v, w', h1, h2, h3⟩ := inpK_sound h hio hk
    have hop : ∃ args ats, o.op = .call { callee := .builtin .append, args := args, argTypes := ats } := by
      unfold inpOf at hio
      split at hio
      · rename_i args ats d hop hd; exact ⟨_, _, hop⟩
      · cases hio
    obtain ⟨args, ats, hop⟩ := hop
    have hb : bigO o = false := by simp [bigO, hop, isAlloc, isCall]
    have hwo : wrO o = true := by simp [wrO, hb, hop, quietOp]
    unfold mOp
    simp only [hk0]
    rw [if_pos hw, hbig, hwr, hrd]
    simp only [wrL, hwo, hb, Bool.or_true, if_true]
    unfold bigAt
    rw [h3]
    exact ⟨fun h => (by cases h), hN _ _ _ _ _ h2 h1⟩
  split at hk
  · rename_i r hao
    obtain ⟨⟨args, ats, hop⟩, V', s', H', v, w', h1, h2, h3⟩ := aprK_sound h hao hk
    have hb : bigO o = false := by simp [bigO, hop, isAlloc, isCall]
    have hwo : wrO o = true := by simp [wrO, hb, hop, quietOp]
    unfold mOp
    simp only [hk0]
    rw [if_pos hw, hbig, hwr, hrd]
    simp only [wrL, hwo, hb, Bool.or_true, if_true]
    unfold bigAt
    rw [h3]
    exact ⟨fun h => (by cases h), hN _ _ _ _ _ h2 h1⟩
  split at hk
  · exact core h hk
  · obtain ⟨V', s', H', hk, h'⟩ := adoptK_sound h hk
    exact core h' hk
theorem tail_sound {C' : World → Prop} {hs : Hints} (hE : ∀ t, memN hs.eqs t = true → EqOK P t) {Q : Exit → St → Heap → Prop} {ops : Array Oper} : ∀ (l : List Nat) {V : Vl} {s : St} {H : Heap} {a : Act} {w : World}, tailOps P hs.late ops.toList l = true →
    Rep C V s H a w → opsK P hs Q ops.toList (pickO ops.toList l) s H → mList P ops C' (PanN C hs Q) (bigN ops.toList) (wrN hs.late ops.toList) (rdN P ops.toList) (GamQ C Q .normal) l a w
  | [], V, s, H, a, w, hl, r, hk => ⟨V, s, H, r, hk⟩
  | k :: l, V, s, H, a, w, hl, r, hk => by
    simp only [tailOps, Bool.and_eq_true] at hl
    obtain ⟨ht, hl⟩ := hl
    split at ht
    · rename_i o ho
      have hk0 : ops[k]? = some o := by rw [nth_eq] at ho; simpa using ho
      have hp : pickO ops.toList (k :: l) = o :: pickO ops.toList l := by simp only [pickO, ho]
      rw [hp] at hk
      have next : ∀ V s H a w, Rep C V s H a w → opsK P hs Q ops.toList (pickO ops.toList l) s H → mList P ops C' (PanN C hs Q) (bigN ops.toList) (wrN hs.late ops.toList) (rdN P ops.toList) (GamQ C Q .normal) l a w :=
        fun V s H a w r hk => tail_sound hE l hl r hk
      have skip : ∀ {s : St}, Region.wanted o (yielded ops a.tmps) = false → Rep C V s H a w → opsK P hs Q ops.toList (pickO ops.toList l) (s.put o.dst (.tup [])) H →
          mOp P ops C' (PanN C hs Q) (bigN ops.toList) (wrN hs.late ops.toList) (rdN P ops.toList) k (mList P ops C' (PanN C hs Q) (bigN ops.toList) (wrN hs.late ops.toList) (rdN P ops.toList) (GamQ C Q .normal) l) a w := by
        intro s hw r hk
        unfold mOp
        simp only [hk0]
        rw [if_neg (by simp [hw])]
        exact next _ _ _ _ _ (r.put (x := .tup []) ⟨[], rfl, rfl⟩ o.dst) hk
      simp only [mList]
      simp only [opsK] at hk
      split at hk
      · rename_i hg
        exact opK_tail r hE hk0 (by simp [Region.wanted, hg]) ht next hk
      · rename_i j b hg
        split at hk
        · exact hk.elim
        · rename_i g hgd
          split at hk
          · rename_i p hp
            obtain ⟨hy, hv⟩ := guard_yields r hgd hp
            have hset : Rep C V (s.set g (.c (.v (.bool p)))) H a w := rep_same r ⟨hv, rfl⟩
            split at hk
            · cases p with
              | true => exact opK_tail hset hE hk0 (by simp [Region.wanted, hg, hy]) ht next hk
              | false => exact skip (by simp [Region.wanted, hg, hy]) hset hk
            · cases p with
              | true => exact skip (by simp [Region.wanted, hg, hy]) hset hk
              | false => exact opK_tail hset hE hk0 (by simp [Region.wanted, hg, hy]) ht next hk
          · rename_i hp
            exact skip (by simp [Region.wanted, hg, guard_undef r hgd hp]) r hk
          · exact hk.elim
    · cases ht
theorem mixK_sound {hs : Hints} (hE : ∀ t, memN hs.eqs t = true → EqOK P t) {Q : Exit → St → Heap → Prop} {ops : Array Oper} {T : St → Heap → Prop} {N : Act → World → Prop} (hN : ∀ V s H a w, Reg X C we s0 Hs G V s H a w → T s H → N a w) : ∀ (l : List Nat) {V : Vl} {s : St} {H : Heap} {a : Act} {w : World}, (∀ k ∈ l, k < ops.size ∧ wrN hs.late ops.toList k = false) →
    Reg X C we s0 Hs G V s H a w → mixK P hs Q s0 G ops.toList T (pickO ops.toList l) s H → mList P ops (Kept X Hs G we) (PanN C hs Q) (bigN ops.toList) (wrN hs.late ops.toList) (rdN P ops.toList) N l a w
  | [], V, s, H, a, w, hl, r, hk => hN _ _ _ _ _ r hk
  | k :: l, V, s, H, a, w, hl, r, hk => by
    obtain ⟨hlt, hnw⟩ := hl k (List.mem_cons_self ..)
    have hk0 : ops[k]? = some ops[k] := Array.getElem?_eq_getElem hlt
    generalize ops[k] = o at hk0
    have hp : pickO ops.toList (k :: l) = o :: pickO ops.toList l := by
      simp only [pickO, nth_eq]
      have : ops.toList[k]? = some o := by simpa using hk0
      rw [this]
    rw [hp] at hk
    have next : ∀ V s H a w, Reg X C we s0 Hs G V s H a w → mixK P hs Q s0 G ops.toList T (pickO ops.toList l) s H → mList P ops (Kept X Hs G we) (PanN C hs Q) (bigN ops.toList) (wrN hs.late ops.toList) (rdN P ops.toList) N l a w :=
      fun V s H a w r hk => mixK_sound hE hN l (fun k hk => hl k (List.mem_cons_of_mem _ hk)) r hk
    have skip : ∀ {s : St}, Region.wanted o (yielded ops a.tmps) = false → Reg X C we s0 Hs G V s H a w → mixK P hs Q s0 G ops.toList T (pickO ops.toList l) (s.put o.dst (.tup [])) H →
        mOp P ops (Kept X Hs G we) (PanN C hs Q) (bigN ops.toList) (wrN hs.late ops.toList) (rdN P ops.toList) k (mList P ops (Kept X Hs G we) (PanN C hs Q) (bigN ops.toList) (wrN hs.late ops.toList) (rdN P ops.toList) N l) a w := by
      intro s hw r hk
      unfold mOp
      simp only [hk0]
      rw [if_neg (by simp [hw])]
      exact next _ _ _ _ _ (r.put (x := .tup []) ⟨[], rfl, rfl⟩ o.dst) hk
    simp only [mList]
    simp only [mixK] at hk
    split at hk
    · rename_i hg
      exact mixOp_sound r hE hnw hk0 (by simp [Region.wanted, hg]) next hk
    · rename_i j b hg
      split at hk
      · exact hk.elim
      · rename_i g hgd
        split at hk
        · rename_i p hp
          obtain ⟨hy, hv⟩ := guard_yields r.rep hgd hp
          have hset : Reg X C we s0 Hs G V (s.set g (.c (.v (.bool p)))) H a w := r.set ⟨hv, rfl⟩
          split at hk
          · cases p with
            | true => exact mixOp_sound hset hE hnw hk0 (by simp [Region.wanted, hg, hy]) next hk
            | false => exact skip (by simp [Region.wanted, hg, hy]) hset hk
          · cases p with
            | true => exact skip (by simp [Region.wanted, hg, hy]) hset hk
            | false => exact mixOp_sound hset hE hnw hk0 (by simp [Region.wanted, hg, hy]) next hk
        · rename_i hp
          exact skip (by simp [Region.wanted, hg, guard_undef r.rep hgd hp]) r hk
        · exact hk.elim
theorem rep_drawn (h : Rep C V s H a w) : Rep C V s H a { w with drawn := w.drawn + 1 } :=
  { env := h.env, len := h.len, dfr := h.dfr, sub := h.sub, objs := fun d o e => by
      have := h.objs d o e
      cases o with
      | box ty l => exact this
      | row ty sz es => exact rowIn_same this fun _ _ => rfl
    priv := h.priv, dist := h.dist, os := h.os, tape := ⟨h.tape.eq, fun q => Nat.le_trans (h.tape.dr q) (Nat.le_succ _)⟩, output := h.output, size := h.size, other := h.other }
theorem lexB_lt {ops : Array Oper} {n : Nat} {big : Nat → Bool} {fin : Array Bool → Bool} : ∀ (l : List Nat) (listed : Array Bool), lexB ops n big fin l listed = true → ∀ k ∈ l, k < n
  | [], _, _, k, hk => by cases hk
  | j :: r, listed, h, k, hk => by
    simp only [lexB, Bool.and_eq_true] at h
    rcases List.mem_cons.1 hk with rfl | hk
    · simpa [Nat.blt_eq] using h.1.1
    · exact lexB_lt r _ h.2 k hk
theorem mList_append {ops : Array Oper} {C' : World → Prop} {PN : List PanicEntry → Act → World → Prop} {big wr rd : Nat → Bool} {N : Act → World → Prop} : ∀ (l l2 : List Nat) {a : Act} {w : World},
    mList P ops C' PN big wr rd (mList P ops C' PN big wr rd N l2) l a w → mList P ops C' PN big wr rd N (l ++ l2) a w
  | [], l2, a, w, h => h
  | k :: l, l2, a, w, h => by
    simp only [List.cons_append, mList] at h ⊢
    exact mOp_mono h fun a w h => mList_append l l2 h
/-! ### Cuts inside the head -/
/-- What only looks leaves all but its results. -/
structure SameF (fix : List Nat) (s s' : St) : Prop where
  objs : s'.objs = s.objs
  dfr : s'.dfr = s.dfr
  len : s'.env.length = s.env.length
  fix : ∀ t, memN fix t = true → s'.get t = s.get t
theorem SameF.set {fix : List Nat} {s s1 : St} (h : SameF fix s s1) {d : Nat} (hd : memN fix d = false) (x : SV) : SameF fix s (s1.set d x) :=
  ⟨h.objs, h.dfr, by rw [← h.len]; simp [St.set, setNth_eq], fun t ht => by
    rw [← h.fix t ht]
    have hne : d ≠ t := fun e => by subst e; rw [hd] at ht; cases ht
    simp only [St.get, St.set, nth_setNth, if_neg hne]⟩
theorem SameF.put {fix : List Nat} {s s1 : St} (h : SameF fix s s1) {d : Option Nat} (hd : freeOf fix d = true) (x : SV) : SameF fix s (s1.put d x) := by
  cases d with
  | none => exact h
  | some d => exact h.set (by simpa [freeOf] using hd) x
theorem mixOp_pick {hs : Hints} {Q : Exit → St → Heap → Prop} {o : Oper} {K : St → Heap → Prop} (hc : isCall o.op = false) (ha : isAlloc o.op = false) (h : mixOp P hs Q s0 G o s H K) :
    ∃ x, K (s.put o.dst x) H ∧ ∀ K' : St → Heap → Prop, K' (s.put o.dst x) H → mixOp P hs Q s0 G o s H K' := by
  unfold mixOp at h
  rw [hc, ha] at h
  simp only at h
  split at h
  · rename_i hcl
    split at h
    · rename_i hsl
      obtain ⟨z, h1, h2⟩ := valK_pick h
      refine ⟨z, h1, fun K' hk => ?_⟩
      unfold mixOp
      rw [hc, ha]
      simp only [hcl, hsl]
      exact h2 _ hk
    · rename_i hsl
      obtain ⟨z, h1, h2⟩ := valK_pick h
      obtain ⟨he, h1⟩ := exactK_eq h1
      refine ⟨z, h1, fun K' hk => ?_⟩
      unfold mixOp
      rw [hc, ha]
      simp only [hcl, hsl]
      exact h2 _ (by unfold exactK; rw [he]; exact hk)
  · rename_i hcl
    obtain ⟨z, h1, h2⟩ := readK_pick h
    obtain ⟨he, h1⟩ := exactK_eq h1
    refine ⟨z, h1, fun K' hk => ?_⟩
    unfold mixOp
    rw [hc, ha]
    simp only [hcl]
    exact h2 _ (by unfold exactK; rw [he]; exact hk)
  · exact h.elim
theorem mixK_same {hs : Hints} {Q : Exit → St → Heap → Prop} {ops : List Oper} {hh : LHint} {T : St → Heap → Prop} {sb : St} : ∀ (l : List Oper) (s : St), cutOK ops hh l = true → SameF hh.fix sb s →
    mixK P hs Q s0 G ops T l s H → mixK P hs Q s0 G ops (fun s' H' => T s' H' ∧ SameF hh.fix sb s' ∧ H' = H) l s H
  | [], s, _, hf, h => ⟨h, hf, rfl⟩
  | o :: r, s, hc, hf, h => by
    simp only [cutOK, Bool.and_eq_true, Bool.not_eq_true'] at hc
    obtain ⟨⟨hc1, hc2, hc3, hc4⟩, hc5⟩ := hc
    have one : ∀ s1, SameF hh.fix sb s1 → mixOp P hs Q s0 G o s1 H (fun s' H' => mixK P hs Q s0 G ops T r s' H') →
        mixOp P hs Q s0 G o s1 H (fun s' H' => mixK P hs Q s0 G ops (fun s' H' => T s' H' ∧ SameF hh.fix sb s' ∧ H' = H) r s' H') := fun s1 hf1 hk => by
      obtain ⟨x, h1, h2⟩ := mixOp_pick hc1 hc2 hk
      exact h2 _ (mixK_same r _ hc5 (hf1.put hc3 x) h1)
    unfold mixK at h ⊢
    split at h
    · rename_i hg
      exact one s hf h
    · rename_i j b hg
      split at h
      · exact h.elim
      · rename_i g hgd
        have hgf : memN hh.fix g = false := by simpa [guardFree, hg, hgd, freeOf] using hc4
        split at h
        · rename_i p hp
          cases b <;> cases p
          · exact one _ (hf.set hgf _) h
          · exact mixK_same r _ hc5 ((hf.set hgf _).put hc3 _) h
          · exact mixK_same r _ hc5 ((hf.set hgf _).put hc3 _) h
          · exact one _ (hf.set hgf _) h
        · exact mixK_same r _ hc5 (hf.put hc3 _) h
        · exact h.elim
theorem cutAt_app {rc : List (Nat × LHint)} : ∀ {l l1 l2 : List Oper} {h : LHint}, cutAt rc l = some (l1, h, l2) → l = l1 ++ l2
  | [], _, _, _, e => by cases e
  | o :: r, l1, l2, h, e => by
    unfold cutAt at e
    have again : ∀ {x : Option (List Oper × LHint × List Oper)}, (match cutAt rc r with | some (l1, h, l2) => some (o :: l1, h, l2) | none => none) = x → x = some (l1, h, l2) → o :: r = l1 ++ l2 := by
      intro x e1 e2
      subst e2
      split at e1
      · rename_i a1 h1 a2 e3
        cases e1
        rw [cutAt_app e3]; rfl
      · cases e1
    split at e
    · split at e
      · cases e; rfl
      · exact again rfl e
    · exact again rfl e
theorem cutOK_onlyF {ops : List Oper} {hh : LHint} : ∀ {l : List Oper}, cutOK ops hh l = true → onlyF hh.slots = true
  | [], h => h
  | o :: r, h => by
    simp only [cutOK, Bool.and_eq_true] at h
    exact cutOK_onlyF h.2
theorem setSlots_objs : ∀ (l : List SlotH) (p : PTy (l.map SlotH.pk)) (s : St), onlyF l = true → (setSlots l p s).objs = s.objs
  | [], p, s, _ => rfl
  | .f t k :: r, p, s, h => by
    simp only [setSlots]
    rw [setSlots_objs r p.2 _ h]
    rfl
  | .row _ _ _ :: r, p, s, h => by cases h
  | .own _ _ _ :: r, p, s, h => by cases h
theorem pickO_app (ops : List Oper) : ∀ l l2, pickO ops (l ++ l2) = pickO ops l ++ pickO ops l2
  | [], l2 => rfl
  | k :: r, l2 => by
    simp only [List.cons_append, pickO]
    split
    · rw [pickO_app ops r l2]; rfl
    · exact pickO_app ops r l2
theorem pickO_len (ops : List Oper) : ∀ l, (∀ k ∈ l, k < ops.length) → (pickO ops l).length = l.length
  | [], _ => rfl
  | k :: r, h => by
    have hk := h k (List.mem_cons_self ..)
    simp only [pickO, nth_eq, List.getElem?_eq_getElem hk, List.length_cons]
    rw [pickO_len ops r fun j hj => h j (List.mem_cons_of_mem _ hj)]
theorem Reg.env {s1 : St} (r : Reg X C we s0 Hs G V s H a w) (h : Rep C V s1 H a w) (ho : s1.objs = s.objs) : Reg X C we s0 Hs G V s1 H a w :=
  { rep := h, only := r.only, keep := by rw [ho]; exact r.keep, low := r.low, hs := r.hs, sub := r.sub, gs := r.gs, le := r.le, cur := r.cur, base := r.base, dr := r.dr, oth := r.oth, xs := r.xs, new := by rw [ho]; exact r.new }
theorem mixC_sound {hs : Hints} (hE : ∀ t, memN hs.eqs t = true → EqOK P t) {Q : Exit → St → Heap → Prop} {ops : Array Oper} {T : St → Heap → Prop} {N : Act → World → Prop} (hN : ∀ V s H a w, Reg X C we s0 Hs G V s H a w → T s H → N a w) : ∀ (n : Nat) (l : List Nat) {V : Vl} {s : St} {H : Heap} {a : Act} {w : World}, (∀ k ∈ l, k < ops.size ∧ wrN hs.late ops.toList k = false) →
    Reg X C we s0 Hs G V s H a w → mixC P hs Q s0 G ops.toList T n (pickO ops.toList l) s H → mList P ops (Kept X Hs G we) (PanN C hs Q) (bigN ops.toList) (wrN hs.late ops.toList) (rdN P ops.toList) N l a w
  | 0, l, V, s, H, a, w, hl, r, hk => mixK_sound hE hN l hl r hk
  | n + 1, l, V, s, H, a, w, hl, r, hk => by
    unfold mixC at hk
    split at hk
    · exact mixK_sound hE hN l hl r hk
    · rename_i l1 hh l2 hcut
      split at hk
      · rename_i hok
        have happ := cutAt_app hcut
        have hlen := pickO_len ops.toList l fun k hk => by simpa using (hl k hk).1
        have hsp : l.take l1.length ++ l.drop l1.length = l := List.take_append_drop _ _
        have e1 : pickO ops.toList (l.take l1.length) ++ pickO ops.toList (l.drop l1.length) = l1 ++ l2 := by rw [← pickO_app, hsp, happ]
        have hl1 : (pickO ops.toList (l.take l1.length)).length = l1.length := by
          rw [pickO_len _ _ fun k hk => by simpa using (hl k (List.mem_of_mem_take hk)).1, List.length_take, ← hlen, happ, List.length_append]
          omega
        obtain ⟨e2, e3⟩ := List.append_inj e1 hl1
        obtain ⟨I, hA, hB⟩ := hk
        have hA := mixK_same (P := P) (hs := hs) (Q := Q) (sb := s) l1 s hok ⟨rfl, rfl, rfl, fun _ _ => rfl⟩ hA
        rw [← e2] at hA
        rw [← hsp]
        refine mList_append _ _ (mixK_sound hE (N := mList P ops (Kept X Hs G we) (PanN C hs Q) (bigN ops.toList) (wrN hs.late ops.toList) (rdN P ops.toList) N (l.drop l1.length)) ?_ (l.take l1.length) (fun k hk => hl k (List.mem_of_mem_take hk)) r hA)
        rintro V' s' H' a' w' r' ⟨hg, hf, rfl⟩
        obtain ⟨p, hI, hm⟩ := getSlots_spec _ hg
        have hk2 := hB p _ hI
        have hF := cutOK_onlyF hok
        obtain ⟨g1, g2, g3, g4⟩ := setSlots_spec hh.slots p ⟨restrictEnv hh.fix s.env 0, s.objs, s.dfr⟩ hm (fun t x e => by
          simp only [nth_restrict, Nat.zero_add] at e
          cases hn : nth s.env t with
          | none => rw [hn] at e; simp at e
          | some y =>
            rw [hn] at e
            simp only [Option.map_some, Option.some.injEq] at e
            split at e
            · rename_i hb
              subst e
              right
              rw [hf.fix t hb]
              unfold St.get
              rw [hn]
            · subst e; left; rfl) (fun d o e => by rw [hf.objs]; exact e)
        have hrep := rep_weaken r'.rep (s' := setSlots hh.slots p ⟨restrictEnv hh.fix s.env 0, s.objs, s.dfr⟩) (by rw [g3]; simp only [restrict_len]; rw [← hf.len]; exact r'.rep.len) g1 (by rw [g4]; exact hf.dfr.symm) g2
        have r2 := r'.env hrep (by rw [setSlots_objs _ _ _ hF]; exact hf.objs.symm)
        rw [← e3] at hk2
        exact mixC_sound hE hN n _ (fun k hk => hl k (List.mem_of_mem_drop hk)) r2 hk2
      · exact hk.elim
theorem head_tail (lt : List Nat) (ops : List Oper) : ∀ l, headOf lt ops l ++ tailOf lt ops l = l
  | [] => rfl
  | k :: r => by
    unfold headOf tailOf
    split
    · rfl
    · rw [List.cons_append, head_tail lt ops r]
theorem head_nw (lt : List Nat) (ops : List Oper) : ∀ l, ∀ k ∈ headOf lt ops l, k ∈ l ∧ wrN lt ops k = false
  | [], k, hk => by cases hk
  | j :: r, k, hk => by
    unfold headOf at hk
    split at hk
    · cases hk
    · rename_i hj
      rcases List.mem_cons.1 hk with rfl | hk
      · exact ⟨List.mem_cons_self .., hj⟩
      · exact ⟨List.mem_cons_of_mem _ (head_nw lt ops r k hk).1, (head_nw lt ops r k hk).2⟩
/-- A statement whose order is drawn. -/
theorem mix_sound {hs : Hints} (hE : ∀ t, memN hs.eqs t = true → EqOK P t) {Q : Exit → St → Heap → Prop} {ops : Array Oper} (h : Rep C V s H a w) (hB : drawOK P hs ops = true)
    (hk : drawK P hs Q ops (pickO ops.toList (headOf hs.late ops.toList (schedO ops))) (pickO ops.toList (tailOf hs.late ops.toList (schedO ops))) s H) : RegX P ops true (GamQ C Q) a w := by
  have h' := rep_drawn h
  simp only [drawOK, Bool.and_eq_true] at hB
  obtain ⟨hB, hnd, hm⟩ := hB
  simp only [mixB, Bool.and_eq_true] at hB
  obtain ⟨⟨⟨⟨hsel, hll⟩, hwr⟩, htl⟩, hlexF⟩ := hB
  have hlex := lexF_sound (fin := fin2 ops) (fun m l h hf => finF_sound h hf) _ _ _ (MaskOf.none ops.size) hlexF
  have hlt : ∀ k ∈ headOf hs.late ops.toList (schedO ops), k < ops.size ∧ wrN hs.late ops.toList k = false := fun k hk =>
    ⟨lexB_lt _ _ hlex k (head_nw _ _ _ k hk).1, (head_nw _ _ _ k hk).2⟩
  have reg : ∀ G : Heap, G ≤ H → Reg (fun _ => False) C { w with drawn := w.drawn + 1 } s H G V s H a { w with drawn := w.drawn + 1 } := fun G hG =>
    { rep := h', only := only_refl _, keep := fun _ _ e => e, low := fun d o b e hb => (h'.priv d o b e hb).2.2, hs := fun d o b e hb => ⟨(h'.priv d o b e hb).1, fun q => q⟩, sub := h'.sub, gs := hG, le := hG, cur := fun _ _ e _ => e,
      base := h'.size, dr := h'.tape.dr, oth := fun b hb e => (h'.other b hb e).2, xs := fun _ q => q.elim, new := fun d o b e e' _ => by rw [e] at e'; cases e' }
  have hwait : ∀ i k, wrN hs.late ops.toList i = true → rdN P ops.toList k = true → ∀ listed, Closed ops listed → i ∈ Region.ready .any ops listed → listed.getD k false = true := by
    intro i k hi hk listed hcl hr
    obtain ⟨_, o, ho, hall⟩ := mem_ready.1 hr
    have his := (Array.getElem?_eq_some_iff.1 ho).1
    have hks : k < ops.size := by
      unfold rdN at hk
      rw [nth_eq] at hk
      split at hk
      · rename_i o' ho'; have := (List.getElem?_eq_some_iff.1 ho').1; simpa using this
      · cases hk
    have h1 := List.all_eq_true.1 hwr i (List.mem_range.2 his)
    rw [hi] at h1
    simp only [Bool.not_true, Bool.false_or] at h1
    have h2 := List.all_eq_true.1 h1 k (List.mem_range.2 hks)
    rw [hk] at h2
    simp only [Bool.not_true, Bool.false_or] at h2
    simp only [Bool.not_true, Bool.false_or, waitB] at h2
    split at h2
    · obtain ⟨o', ho', e, he, hb, hon⟩ := Region.waitsFor_spec h2
      have : o' = o := Option.some.inj (ho'.symm.trans ho)
      subst this
      rw [← hon]
      exact hall e he hb
    · exact reach_spec hcl _ _ h2 fun oj hoj e he hb => by
        rw [ho] at hoj; cases hoj
        exact hall e he hb
  have fin : ∀ G : Heap, G ≤ H → mixC P hs Q s G ops.toList (opsK P hs Q ops.toList (pickO ops.toList (tailOf hs.late ops.toList (schedO ops)))) hs.rcuts.length (pickO ops.toList (headOf hs.late ops.toList (schedO ops))) s H → RegX P ops true (GamQ C Q) a w := by
    intro G hG hk
    have := mixC_sound hE (N := mList P ops (Kept (fun _ => False) H G { w with drawn := w.drawn + 1 }) (PanN C hs Q) (bigN ops.toList) (wrN hs.late ops.toList) (rdN P ops.toList) (GamQ C Q .normal) (tailOf hs.late ops.toList (schedO ops)))
      (fun V s H a w r hk => tail_sound hE _ htl r.rep hk) _ _ hlt (reg G hG) hk
    have := mList_append _ _ this
    rw [head_tail] at this
    exact wp_region_mix (C := Kept (fun _ => False) H G { w with drawn := w.drawn + 1 }) (PN := PanN C hs Q) hm hsel (nbt hll) hlex hwait (only_refl _) (fun c a w ⟨V, s, H, _, h1, h2⟩ => ⟨V, s, H, h1, h2⟩) (panN_put hnd) this
  unfold drawK at hk
  split at hk
  · exact fin H (heap_refl H) hk
  · split at hk
    · obtain ⟨G, hG, hk⟩ := hk
      exact fin G hG hk
    · exact fin _ (fun b o e => by cases e) hk
end
end Sx
