/- Values of operations: slices, elements, lengths, loads of private variables: soundness. -/
import Derived.Test.YtekaopahienmgaaSxC
set_option linter.unusedVariables false
set_option linter.unusedSimpArgs false
namespace Sx
open Go
section
variable {P : Program} {C : Ctx} {V : Vl} {s : St} {H : Heap} {a : Act} {w : World}

theorem sliceBound_ok {k : IntKind} {i : Int} {y : Nat} {code : BoundsCode} (h : 0 ≤ i ∧ i ≤ (y : Int)) : (Instr.sliceBound (.int k i) y code).run P w = .ok i.toNat w := by
  simp [Instr.sliceBound, asIntOf, h]
theorem boundsK_hi {x : SV} {len cap : Nat} {K : Nat → Nat → Prop} (hk : boundsK none (some x) len cap K) : ∃ k i, x = .c (.v (.int k i)) ∧ (0 ≤ i ∧ i ≤ (cap : Int)) ∧ K 0 i.toNat := by
  unfold boundsK at hk
  split at hk
  · simp_all
  · rename_i k i h1 h2; cases h2; exact ⟨_, _, rfl, hk⟩
  · simp_all
  · simp_all
  · exact hk.elim
theorem boundsK_lo {x : SV} {len cap : Nat} {K : Nat → Nat → Prop} (hk : boundsK (some x) none len cap K) : ∃ k i, x = .c (.v (.int k i)) ∧ (0 ≤ i ∧ i ≤ (len : Int)) ∧ K i.toNat len := by
  unfold boundsK at hk
  split at hk
  · simp_all
  · simp_all
  · rename_i k i h1 h2; cases h1; exact ⟨_, _, rfl, hk⟩
  · simp_all
  · exact hk.elim
theorem boundsK_both {x y : SV} {len cap : Nat} {K : Nat → Nat → Prop} (hk : boundsK (some x) (some y) len cap K) :
    ∃ k i k' j, x = .c (.v (.int k i)) ∧ y = .c (.v (.int k' j)) ∧ (0 ≤ j ∧ j ≤ (cap : Int)) ∧ (0 ≤ i ∧ i ≤ (j.toNat : Int)) ∧ K i.toNat j.toNat := by
  unfold boundsK at hk
  split at hk
  · simp_all
  · simp_all
  · simp_all
  · rename_i k i k' j h1 h2; cases h1; cases h2; exact ⟨_, _, _, _, rfl, rfl, hk⟩
  · exact hk.elim
theorem bounds_sound (h : Rep C V s H a w) (lo hi : Option Operand) (b : Bool) {len capK cap : Nat} (hc : capK ≤ cap) {K : Nat → Nat → Prop}
    (hk : boundsK (lo.map (ev s)) (hi.map (ev s)) len capK K) :
    ∃ l h, K l h ∧ l ≤ h ∧ (h ≤ capK ∨ h = len) ∧ ∀ w, (Instr.sliceBounds b len cap (lo.map a.eval) (hi.map a.eval) none).run P w = .ok (l, h, cap) w := by
  cases lo with
  | none => cases hi with
    | none => exact ⟨0, len, hk, Nat.zero_le _, .inr rfl, fun _ => by simp [Instr.sliceBounds]⟩
    | some hi =>
      simp only [Option.map_none, Option.map_some] at hk ⊢
      have hr := h.ev hi
      obtain ⟨k, i, e, h1, h3⟩ := boundsK_hi hk
      rw [e] at hr
      obtain ⟨hr, -⟩ := hr
      refine ⟨0, i.toNat, h3, Nat.zero_le _, .inl (by omega), fun w => ?_⟩
      simp only [Instr.sliceBounds, hr]
      rw [Sem.run_bind]
      simp only [Sem.run_pure, Result.andThen_ok, Sem.run_bind]
      rw [sliceBound_ok ⟨h1.1, by omega⟩]
      rfl
  | some lo => cases hi with
    | none =>
      simp only [Option.map_none, Option.map_some] at hk ⊢
      have hr := h.ev lo
      obtain ⟨k, i, e, h1, h3⟩ := boundsK_lo hk
      rw [e] at hr
      obtain ⟨hr, -⟩ := hr
      refine ⟨i.toNat, len, h3, by omega, .inr rfl, fun w => ?_⟩
      simp only [Instr.sliceBounds, hr]
      rw [Sem.run_bind]
      simp only [Sem.run_pure, Result.andThen_ok, Sem.run_bind]
      simp only [Option.isSome_none, Bool.false_eq_true, if_false]
      rw [sliceBound_ok ⟨h1.1, by omega⟩]
      rfl
    | some hi =>
      simp only [Option.map_some] at hk ⊢
      have hr := h.ev lo
      have hr' := h.ev hi
      obtain ⟨k, i, k', j, e1, e2, h1, h3, h5⟩ := boundsK_both hk
      rw [e1] at hr
      rw [e2] at hr'
      obtain ⟨hr, -⟩ := hr
      obtain ⟨hr', -⟩ := hr'
      refine ⟨i.toNat, j.toNat, h5, by omega, .inl (by omega), fun w => ?_⟩
      simp only [Instr.sliceBounds, hr, hr']
      rw [Sem.run_bind]
      simp only [Sem.run_pure, Result.andThen_ok, Sem.run_bind]
      rw [sliceBound_ok ⟨h1.1, by omega⟩]
      simp only [Result.andThen_ok, Option.isSome_none, Bool.false_eq_true, if_false]
      rw [sliceBound_ok ⟨h3.1, by omega⟩]
      rfl

theorem elemOf_eq {t e : TypeId} {sz : Nat} (he : elemOf P t = some (e, sz)) :
    (P.underlying t = some (.slice e) ∨ ∃ m, P.underlying t = some (.array m e)) ∧ ∃ i, P.info? e = some i ∧ i.size = sz := by
  unfold elemOf at he
  split at he
  · split at he
    · rename_i hz; cases he
      refine ⟨.inl (by assumption), ?_⟩
      unfold sizeT at hz; split at hz
      · cases hz; exact ⟨_, by assumption, rfl⟩
      · cases hz
    · cases he
  · split at he
    · rename_i hz; cases he
      refine ⟨.inr ⟨_, by assumption⟩, ?_⟩
      unfold sizeT at hz; split at hz
      · cases hz; exact ⟨_, by assumption, rfl⟩
      · cases hz
    · cases he
  · cases he
theorem run_sizeT {e : TypeId} {i : TypeInfo} (h : P.info? e = some i) : (Go.sizeOf e).run P w = .ok i.size w := by
  simp [Go.sizeOf, typeInfo, h]
theorem add_spot {A : Addr} (hs : A.spot = none) (n : Nat) : A.add n = ⟨A.block, A.off + n, none⟩ := by
  unfold Addr.add
  split
  · rename_i e; subst e; cases A; simp_all
  · cases A; simp_all
theorem sliceK_sound (h : Rep C V s H a w) (t : TypeId) (x : Operand) (lo hi : Option Operand) {K : SV → Prop} (hk : sliceK P t (ev s x) (lo.map (ev s)) (hi.map (ev s)) s K) :
    ∃ z r, K z ∧ z.rep V r ∧ ∀ w, (Instr.sliceAt t (a.eval x) (lo.map a.eval) (hi.map a.eval) none).run P w = .ok r w := by
  have hx := h.ev x
  generalize ev s x = sx at hk hx
  generalize a.eval x = u at hx
  unfold sliceK at hk
  split at hk
  · -- a real slice
    obtain ⟨rfl, -⟩ := hx
    split at hk
    · rename_i b n c _ _ e e' sz hu he
      obtain ⟨l, hh, hK, hle, -, hr⟩ := bounds_sound (P := P) h lo hi true (Nat.le_refl c) hk
      obtain ⟨hu', i, hi', rfl⟩ := elemOf_eq he
      have : e' = e := by
        rcases hu' with h1 | ⟨m, h1⟩
        · rw [hu] at h1; cases h1; rfl
        · rw [hu] at h1; cases h1
      subst this
      refine ⟨_, _, hK, ⟨rfl, rfl⟩, fun w => ?_⟩
      simp [Instr.sliceAt, run_underlying hu, Instr.slice, hr, run_sizeT hi', subAddr]
    · exact hk.elim
  · -- a string
    obtain ⟨rfl, -⟩ := hx
    split at hk
    · rename_i b _ hu
      obtain ⟨l, hh, hK, hle, -, hr⟩ := bounds_sound (P := P) h lo hi false (Nat.le_refl b.size) hk
      exact ⟨_, _, hK, ⟨rfl, rfl⟩, fun w => by simp [Instr.sliceAt, run_underlying hu, Instr.slice, hr]⟩
    · exact hk.elim
  · -- a row
    obtain ⟨hx, -⟩ := hx
    split at hk
    · rename_i rr _ _ _ e e' sz' ty sz es hu he hl
      split at hk
      · rename_i hb
        have := nbt hb; subst this
        have ho := h.objs _ _ hl
        obtain ⟨hu', i, hi', rfl⟩ := elemOf_eq he
        have : e' = e := by
          rcases hu' with h1 | ⟨m, h1⟩
          · rw [hu] at h1; cases h1; rfl
          · rw [hu] at h1; cases h1
        subst this
        rcases ho with ⟨hv, rfl⟩ | ⟨b, o, cap, c, hv, hb1, hcap, _⟩
        · obtain ⟨l, hh, hK, hle, hle2, hr⟩ := bounds_sound (P := P) h lo hi true (Nat.le_refl 0) hk
          have h0 : hh = 0 := by rcases hle2 with h | h <;> simpa using h
          subst h0
          have l0 : l = 0 := by omega
          subst l0
          refine ⟨_, _, hK, ⟨none, 0, 0, none, hv, rfl, Nat.le_refl _, Nat.le_refl _, Nat.le_refl _, fun _ => ⟨rfl, rfl, rfl⟩, by simp⟩, fun w => ?_⟩
          rw [hx, hv]
          simp only [List.length_nil] at hr
          simp [Instr.sliceAt, run_underlying hu, Instr.slice, hr, run_sizeT hi']
        · obtain ⟨l, hh, hK, hle, hle2, hr⟩ := bounds_sound (P := P) h lo hi true hcap hk
          have hh2 : hh ≤ es.length := by rcases hle2 with h | h <;> omega
          refine ⟨_, _, hK, ⟨_, _, cap, if cap = l then some ⟨b, o, none⟩ else some ((⟨b, o, none⟩ : Addr).add (l * i.size)), hv, rfl, hle, hh2, hcap, by simp, ?_⟩, fun w => ?_⟩
          · intro A hA
            cases hA
            by_cases hcl : cap = l
            · rw [if_pos hcl]
              exact ⟨rfl, o, rfl, fun hl => by omega, by rw [← hcl]; simp⟩
            · rw [if_neg hcl, add_spot rfl]
              refine ⟨rfl, _, rfl, fun _ => rfl, ?_⟩
              have : l * i.size + (cap - l) * i.size = cap * i.size := by rw [← Nat.add_mul]; congr 1; omega
              simp only; omega
          · rw [hx, hv]
            by_cases hc : cap = l
            · subst hc; simp [Instr.sliceAt, run_underlying hu, Instr.slice, hr, run_sizeT hi']
            · simp [Instr.sliceAt, run_underlying hu, Instr.slice, hr, run_sizeT hi', hc]
      · exact hk.elim
    · exact hk.elim
  · -- a part of a row
    split at hk
    · rename_i rr sz l0 h0 _ _ e e' sz' hu he
      split at hk
      · rename_i hb
        have := nbt hb; subst this
        obtain ⟨hu', i, hi', rfl⟩ := elemOf_eq he
        have : e' = e := by
          rcases hu' with h1 | ⟨m, h1⟩
          · rw [hu] at h1; cases h1; rfl
          · rw [hu] at h1; cases h1
        subst this
        obtain ⟨a0, n, cap, a', hv, rfl, hle0, hn, hcap, ha0, hA⟩ := hx
        obtain ⟨l, hh, hK, hle, hle2, hr⟩ := bounds_sound (P := P) (cap := cap - l0) h lo hi true (by omega) hk
        have hh2 : hh ≤ h0 - l0 := by rcases hle2 with h | h <;> omega
        refine ⟨_, _, hK, ⟨a0, n, cap, if cap - l0 = l then a' else a'.map (·.add (l * i.size)), hv, rfl, by omega, by omega, hcap, fun e => by obtain ⟨h1, h2, h3⟩ := ha0 e; refine ⟨h1, h2, ?_⟩; rw [h3]; split <;> rfl, ?_⟩, fun w => ?_⟩
        · intro A h1
          obtain ⟨h2, o', h3, h4, h5⟩ := hA A h1
          refine ⟨h2, ?_⟩
          by_cases hcl : cap - l0 = l
          · rw [if_pos hcl]
            refine ⟨o', h3, fun hl => by omega, ?_⟩
            have : cap - (l0 + l) = 0 := by omega
            rw [this]; omega
          · rw [if_neg hcl, h3]
            refine ⟨o' + l * i.size, by simp [add_spot], fun hl => ?_, ?_⟩
            · rw [h4 (by omega), Nat.add_mul, Nat.add_assoc]
            · have : l * i.size + (cap - (l0 + l)) * i.size = (cap - l0) * i.size := by rw [← Nat.add_mul]; congr 1; omega
              omega
        · have e1 : l0 + hh - (l0 + l) = hh - l := by omega
          have e2 : cap - (l0 + l) = cap - l0 - l := by omega
          rw [e1, e2]
          simp [Instr.sliceAt, run_underlying hu, Instr.slice, hr, run_sizeT hi']
      · exact hk.elim
    · exact hk.elim
  · -- an array
    simp only [SV.rep, SC.rep] at hx
    split at hk
    · rename_i bb oo _ _ _ m e ty segs e' hu hl he
      split at hk
      · rename_i k n xs rest hf
        split at hk
        · rename_i hb
          have := nbt hb; subst this
          obtain ⟨l, hh, hK, hle, hle2, hr⟩ := bounds_sound (P := P) h lo hi false (Nat.le_refl n) hk
          have hh2 : hh ≤ n := by rcases hle2 with h | h <;> omega
          obtain ⟨hu', i, hi', h1⟩ := elemOf_eq he
          have : e' = e := by
            rcases hu' with h1 | ⟨m, h1⟩
            · rw [hu] at h1; cases h1
            · rw [hu] at h1; cases h1; rfl
          subst this
          refine ⟨_, _, hK, ⟨some (if n = l then ⟨V.blk bb, oo, none⟩ else (⟨V.blk bb, oo, none⟩ : Addr).add (l * i.size)), rfl, hle, hh2, ?_⟩, fun w => ?_⟩
          · intro hl
            rw [if_neg (by omega), add_spot rfl, h1, Nat.mul_one]
          · rw [hx]
            simp [Instr.sliceAt, run_underlying hu, Instr.sureAddr, hr, run_sizeT hi']
        · exact hk.elim
      · exact hk.elim
    · exact hk.elim
  · -- a part of an array
    split at hk
    · rename_i bb oo n l0 h0 _ _ e e' hu he
      obtain ⟨a', rfl, hle0, hn, hA⟩ := hx
      obtain ⟨l, hh, hK, hle, hle2, hr⟩ := bounds_sound (P := P) (cap := n - l0) h lo hi true (by omega) hk
      have hh2 : hh ≤ h0 - l0 := by rcases hle2 with h | h <;> omega
      obtain ⟨hu', i, hi', h1⟩ := elemOf_eq he
      refine ⟨_, _, hK, ⟨if n - l0 = l then a' else a'.map (·.add (l * i.size)), rfl, by omega, by omega, ?_⟩, fun w => ?_⟩
      · intro hl
        rw [if_neg (by omega), hA (by omega)]
        simp [add_spot, h1, Nat.add_assoc]
      · have e1 : l0 + hh - (l0 + l) = hh - l := by omega
        have e2 : n - (l0 + l) = n - l0 - l := by omega
        have : e' = e := by
          rcases hu' with h1 | ⟨m, h1⟩
          · rw [hu] at h1; cases h1; rfl
          · rw [hu] at h1; cases h1
        subst this
        rw [e1, e2]
        simp [Instr.sliceAt, run_underlying hu, Instr.slice, hr, run_sizeT hi']
    · exact hk.elim
  · exact hk.elim

theorem ptrK {p : Option Addr} {K : Addr → Prop} (h : PtrK p K) : ∃ A, p = some A ∧ K A := by
  cases p with
  | none => exact h.elim
  | some A => exact ⟨A, rfl, h⟩
theorem row_addr {V : Vl} {w : World} {r ty sz : Nat} {es : List (List Value)} (ho : RowIn w (V.row r) ty sz es) {n : Nat} (hn : n < es.length) :
    ∃ b o cap, V.row r = .slice (some ⟨b, o, none⟩) es.length cap := by
  rcases ho with ⟨_, rfl⟩ | ⟨b, o, cap, c, hv, _⟩
  · simp at hn
  · exact ⟨b, o, cap, hv⟩
theorem indexK_sound (h : Rep C V s H a w) (t : TypeId) (x : Operand) {k : IntKind} {n : Int} {K : SV → Prop} (hk : indexK P t (ev s x) n s K) :
    ∃ z r, K z ∧ z.rep V r ∧ (Instr.indexAt t (a.eval x) (.int k n)).run P w = .ok r w := by
  have hx := h.ev x
  generalize ev s x = sx at hk hx
  generalize a.eval x = u at hx
  unfold indexK at hk
  split at hk
  · rename_i len e e' sz hu he
    obtain ⟨hu', i, hi', hsz⟩ := elemOf_eq he
    have : e' = e := by
      rcases hu' with h1 | ⟨m, h1⟩
      · rw [hu] at h1; cases h1
      · rw [hu] at h1; cases h1; rfl
    subst this
    have run : ∀ A : Addr, 0 ≤ n → n < (len : Int) → (Instr.indexAt t (.pointer (some A)) (.int k n)).run P w = .ok (.pointer (some (A.add (n.toNat * sz)))) w := by
      intro A h0 h1
      simp [Instr.indexAt, asIntOf, run_underlying hu, Instr.sureAddr, h0, h1, run_sizeT hi', hsz]
    split at hk
    · rename_i b o
      simp only [SV.rep, SC.rep] at hx
      subst hx
      split at hk
      · split at hk
        · split at hk
          · rename_i hm h1
            have := nbt h1; subst this
            have := nbt hm; subst this
            obtain ⟨⟨h0, h1⟩, hK⟩ := hk
            exact ⟨_, _, hK, ⟨by omega, rfl⟩, by rw [run _ h0 h1, add_spot rfl, Nat.mul_one]⟩
          · exact hk.elim
        · obtain ⟨⟨h0, h1⟩, hK⟩ := hk
          exact ⟨_, _, hK, rfl, by rw [run _ h0 h1, add_spot rfl]⟩
      · exact hk.elim
    · obtain ⟨⟨h0, h1⟩, hK⟩ := hk
      obtain ⟨A, m, cap, hv, hs, rfl⟩ := hx
      exact ⟨_, _, hK, ⟨A, m, cap, hv, hs, rfl⟩, by rw [run _ h0 h1, add_spot rfl]; simp [Nat.add_assoc]⟩
    · obtain ⟨⟨h0, h1⟩, hK⟩ := hk
      obtain ⟨rfl, -⟩ := hx
      obtain ⟨A, rfl, hK⟩ := ptrK hK
      exact ⟨_, _, hK, ⟨rfl, rfl⟩, run _ h0 h1⟩
    · exact hk.elim
  · rename_i e e' sz hu he
    obtain ⟨hu', i, hi', hsz⟩ := elemOf_eq he
    have : e' = e := by
      rcases hu' with h1 | ⟨m, h1⟩
      · rw [hu] at h1; cases h1; rfl
      · rw [hu] at h1; cases h1
    subst this
    have run : ∀ (A : Addr) (len cap : Nat), 0 ≤ n → n < (len : Int) → (Instr.indexAt t (.slice (some A) len cap) (.int k n)).run P w = .ok (.pointer (some (A.add (n.toNat * sz)))) w := by
      intro A len cap h0 h1
      simp [Instr.indexAt, asIntOf, run_underlying hu, Instr.sureAddr, h0, h1, run_sizeT hi', hsz]
    split at hk
    · obtain ⟨⟨h0, h1⟩, hK⟩ := hk
      obtain ⟨rfl, -⟩ := hx
      obtain ⟨A, rfl, hK⟩ := ptrK hK
      exact ⟨_, _, hK, ⟨rfl, rfl⟩, run _ _ _ h0 h1⟩
    · obtain ⟨hx, -⟩ := hx
      split at hk
      · rename_i hl
        split at hk
        · rename_i hz
          have := nbt hz; subst this
          obtain ⟨⟨h0, h1⟩, hK⟩ := hk
          obtain ⟨b, o, cap, hv⟩ := row_addr (h.objs _ _ hl) (n := n.toNat) (by omega)
          refine ⟨_, _, hK, ⟨_, _, _, hv, rfl, rfl⟩, ?_⟩
          rw [hx, hv, run _ _ _ h0 h1, add_spot rfl]; rfl
        · exact hk.elim
      · exact hk.elim
    · split at hk
      · rename_i hz
        have := nbt hz; subst this
        obtain ⟨⟨h0, h1⟩, hK⟩ := hk
        obtain ⟨a0, m, cap, a', hv, rfl, hle, hm, hcap, ha0, hA⟩ := hx
        cases a0 with
        | none => have := (ha0 rfl).1; omega
        | some A =>
          obtain ⟨hs, o', h2, h3, h4⟩ := hA A rfl
          refine ⟨_, _, hK, ⟨_, _, _, hv, hs, rfl⟩, ?_⟩
          rw [h2, h3 (by omega), run _ _ _ h0 h1, add_spot rfl]
          simp [Nat.add_mul, Nat.add_assoc]
      · exact hk.elim
    · split at hk
      · rename_i hz
        have := nbt hz; subst this
        obtain ⟨⟨h0, h1⟩, hK⟩ := hk
        obtain ⟨a', rfl, hle, hm, hA⟩ := hx
        refine ⟨_, _, hK, ⟨by omega, rfl⟩, ?_⟩
        rw [hA (by omega), run _ _ _ h0 h1, add_spot rfl]
        simp [Nat.add_assoc]
      · exact hk.elim
    · exact hk.elim
  · exact hk.elim

theorem lenK_sound (h : Rep C V s H a w) (t : TypeId) (x : Operand) (ty : TypeId) {K : SV → Prop} (hk : lenK P t (ev s x) s K) :
    ∃ z r, K z ∧ z.rep V r ∧ (Builtin.len_ #[t] ty #[a.eval x]).run P w = .ok r w := by
  have hx := h.ev x
  generalize ev s x = sx at hk hx
  generalize a.eval x = u at hx
  unfold lenK at hk
  split at hk
  · rename_i hu
    obtain ⟨rfl, -⟩ := hx
    exact ⟨_, _, hk, ⟨rfl, rfl⟩, by simp [Builtin.len_, run_underlying hu, goInt]⟩
  · rename_i hu
    obtain ⟨rfl, -⟩ := hx
    exact ⟨_, _, hk, ⟨rfl, rfl⟩, by simp [Builtin.len_, run_underlying hu, goInt]⟩
  · rename_i hu
    obtain ⟨hx, -⟩ := hx
    split at hk
    · rename_i hl
      rcases h.objs _ _ hl with ⟨hv, rfl⟩ | ⟨b, o, cap, c, hv, _⟩
      · exact ⟨_, _, hk, ⟨rfl, rfl⟩, by rw [hx, hv]; simp [Builtin.len_, run_underlying hu, goInt]⟩
      · exact ⟨_, _, hk, ⟨rfl, rfl⟩, by rw [hx, hv]; simp [Builtin.len_, run_underlying hu, goInt]⟩
    · exact hk.elim
  · rename_i hu
    obtain ⟨a0, n, cap, a', hv, rfl, _⟩ := hx
    exact ⟨_, _, hk, ⟨rfl, rfl⟩, by simp [Builtin.len_, run_underlying hu, goInt]⟩
  · rename_i hu
    obtain ⟨a', rfl, _⟩ := hx
    exact ⟨_, _, hk, ⟨rfl, rfl⟩, by simp [Builtin.len_, run_underlying hu, goInt]⟩
  · rename_i hu
    exact ⟨_, _, hk, ⟨rfl, rfl⟩, by simp [Builtin.len_, run_underlying hu, goInt]⟩
  · rename_i hu
    obtain ⟨rfl, -⟩ := hx
    exact ⟨_, _, hk, ⟨rfl, rfl⟩, by simp [Builtin.len_, run_underlying hu, goInt]⟩
  · exact hk.elim
theorem sizeT_eq {t : TypeId} {z : Nat} (h : sizeT P t = some z) : ∃ i, P.info? t = some i ∧ i.size = z := by
  unfold sizeT at h
  split at h
  · cases h; exact ⟨_, by assumption, rfl⟩
  · cases h
theorem isAgg_run {t : TypeId} {d : TypeDesc} (h : P.underlying t = some d) : (isAgg t).run P w = .ok (isAggT P t) w := by
  unfold isAgg isAggT
  simp only [Sem.run_bind, run_underlying h, Result.andThen_ok, h]
  cases d <;> rfl
theorem loadCellsFrom_run {A : Addr} : ∀ (n i : Nat) (acc : Array Value) (l : List Value), l.length = n → (∀ j x, l[j]? = some x → w.cell? (A.add (i + j)) = some x) →
    (loadCellsFrom A i n acc).run P w = .ok (acc ++ l.toArray) w := by
  intro n
  induction n with
  | zero => intro i acc l hl _; have : l = [] := by simpa using hl
            subst this; simp [loadCellsFrom]
  | succ n ih =>
    intro i acc l hl hc
    obtain ⟨x, r, rfl⟩ : ∃ x r, l = x :: r := by cases l <;> simp_all
    have h0 := hc 0 x rfl
    simp only [Nat.add_zero] at h0
    simp only [loadCellsFrom, Sem.run_bind, load, Sem.run, h0, Result.andThen_ok]
    rw [ih (i + 1) (acc.push x) r (by simpa using hl) (fun j y hj => by have := hc (j + 1) y (by simpa using hj); rwa [show i + 1 + j = i + (j + 1) by omega])]
    simp
theorem loadVar_agg {t : TypeId} {d : TypeDesc} {i : TypeInfo} {A : Addr} {l : List Value} (hu : P.underlying t = some d) (hi : P.info? t = some i) (ha : isAggT P t = true) (hl : l.length = i.size)
    (hc : ∀ j x, l[j]? = some x → w.cell? (A.add j) = some x) : (loadVar t A).run P w = .ok (.agg l.toArray) w := by
  unfold loadVar
  simp only [Sem.run_bind, isAgg_run hu, Result.andThen_ok, ha, if_true, run_sizeT hi, loadCells]
  rw [loadCellsFrom_run i.size 0 #[] l hl (by simpa using hc)]
  simp
theorem loadVar_one {t : TypeId} {d : TypeDesc} {A : Addr} {x : Value} (hu : P.underlying t = some d) (ha : isAggT P t = false) (hc : w.cell? A = some x) : (loadVar t A).run P w = .ok x w := by
  unfold loadVar
  simp only [Sem.run_bind, isAgg_run hu, Result.andThen_ok, ha, load, Sem.run, hc]
  simp [Sem.run, hc]
/-- A load of cells that are known, as a value of the type. -/
theorem loadVar_segs {V : Vl} {t : TypeId} {i : TypeInfo} {d : TypeDesc} {A : Addr} {l : List Seg} {cs : List Value} (hu : P.underlying t = some d) (hi : P.info? t = some i) (hs : SegsRep V l cs) (hl : cs.length = i.size)
    (hc : ∀ j x, cs[j]? = some x → w.cell? (A.add j) = some x) (h1 : isAggT P t = false → ∃ x, l = [.c x]) :
    ∃ r, (mkSV (isAggT P t) l).rep V r ∧ (loadVar t A).run P w = .ok r w := by
  cases ha : isAggT P t with
  | true => exact ⟨_, ⟨cs, rfl, hs⟩, loadVar_agg hu hi ha hl hc⟩
  | false =>
    obtain ⟨x, rfl⟩ := h1 ha
    obtain ⟨y, l', rfl, hx, hl'⟩ := hs
    exact ⟨y, hx, loadVar_one hu ha (hc 0 y rfl)⟩

/-- What a type's kinds say of segments. -/
def Fits : List SK → List Seg → Prop
  | [], l => l = []
  | .c _ :: r, l => ∃ x l', l = .c (.v x) :: l' ∧ one x = true ∧ Fits r l'
  | .ints k n :: r, l => ∃ xs l', l = .ints k n xs :: l' ∧ xs.length = n ∧ Fits r l'
theorem CK.ex_one {k : CK} {K : Value → Prop} (h : k.ex K) : ∃ x, K x ∧ one x = true := by
  cases k with
  | int k => obtain ⟨n, h⟩ := h; exact ⟨_, h, rfl⟩
  | bool => obtain ⟨n, h⟩ := h; exact ⟨_, h, rfl⟩
  | str => obtain ⟨n, h⟩ := h; exact ⟨_, h, rfl⟩
  | ptr => obtain ⟨n, h⟩ := h; exact ⟨_, h, rfl⟩
  | slice => obtain ⟨_, _, _, h⟩ := h; exact ⟨_, h, rfl⟩
  | map => obtain ⟨n, h⟩ := h; exact ⟨_, h, rfl⟩
  | chan => obtain ⟨n, h⟩ := h; exact ⟨_, h, rfl⟩
  | func => obtain ⟨n, h1, h⟩ := h; exact ⟨_, h, h1⟩
  | iface => obtain ⟨n, h1, h⟩ := h; exact ⟨_, h, h1⟩
theorem exSegs_fits : ∀ {ks : List SK} {K : List Seg → Prop}, exSegs ks K → ∃ l, K l ∧ Fits ks l
  | [], K, h => ⟨[], h, rfl⟩
  | .c k :: r, K, h => by
    obtain ⟨x, hx, h1⟩ := CK.ex_one h
    obtain ⟨l, hl, hf⟩ := exSegs_fits hx
    exact ⟨_, hl, x, l, rfl, h1, hf⟩
  | .ints k n :: r, K, h => by
    obtain ⟨xs, hn, hx⟩ := h
    obtain ⟨l, hl, hf⟩ := exSegs_fits hx
    exact ⟨_, hl, xs, l, rfl, hn, hf⟩
theorem fits_rep {V : Vl} : ∀ {ks : List SK} {l : List Seg}, Fits ks l → SegsRep V l (flatD l)
  | [], l, h => by simp only [Fits] at h; subst h; rfl
  | .c k :: r, l, h => by
    obtain ⟨x, l', rfl, h1, hf⟩ := h
    exact ⟨x, flatD l', rfl, ⟨rfl, h1⟩, fits_rep hf⟩
  | .ints k n :: r, l, h => by
    obtain ⟨xs, l', rfl, hn, hf⟩ := h
    exact ⟨hn, flatD l', rfl, fits_rep hf⟩
theorem kinds_one {t : TypeId} {ks : List SK} (h : kinds P t = some ks) (ha : isAggT P t = false) : ∃ k, ks = [.c k] := by
  unfold kinds kindsOf at h
  unfold isAggT at ha
  split at h <;> first | (cases h; exact ⟨_, rfl⟩) | skip
  · simp_all
  · simp_all
  · cases h
theorem fits_one {k : CK} {l : List Seg} (h : Fits [.c k] l) : ∃ x, l = [.c (.v x)] ∧ one x = true := by
  obtain ⟨x, l', rfl, h1, hf⟩ := h
  simp only [Fits] at hf
  subst hf
  exact ⟨x, rfl, h1⟩
theorem kinds_und {t : TypeId} {ks : List SK} (h : kinds P t = some ks) : ∃ d, P.underlying t = some d := by
  unfold kinds kindsOf at h
  cases hu : P.underlying t with
  | none => rw [hu] at h; cases h
  | some d => exact ⟨d, rfl⟩
/-- A load of cells of a type, told by its kinds. -/
theorem loadVar_fits {V : Vl} {t : TypeId} {i : TypeInfo} {A : Addr} {ks : List SK} {l : List Seg} (hks : kinds P t = some ks) (hi : P.info? t = some i) (hf : Fits ks l) (hl : isAggT P t = true → (flatD l).length = i.size)
    (hc : ∀ j x, (flatD l)[j]? = some x → w.cell? (A.add j) = some x) :
    ∃ r, (mkSV (isAggT P t) l).rep V r ∧ (loadVar t A).run P w = .ok r w ∧ r = mkVal (isAggT P t) (flatD l) := by
  obtain ⟨d, hu⟩ := kinds_und hks
  cases ha : isAggT P t with
  | true => exact ⟨_, ⟨_, rfl, fits_rep hf⟩, loadVar_agg hu hi ha (hl ha) hc, rfl⟩
  | false =>
    obtain ⟨k, rfl⟩ := kinds_one hks ha
    obtain ⟨x, rfl, h1⟩ := fits_one hf
    exact ⟨x, ⟨rfl, h1⟩, loadVar_one hu ha (hc 0 x rfl), rfl⟩
theorem cell_block {w : World} {A : Addr} {c : Array Value} {ty : TypeId} {fz : Nat × Nat} (h : w.heap[A.block]? = some (.cells c ty fz)) (hs : A.spot = none) : w.cell? A = c[A.off]? := by
  simp [World.cell?, h, hs]
theorem fits_len : ∀ {ks : List SK} {l : List Seg}, Fits ks l → (flatD l).length = skLen ks
  | [], l, h => by simp only [Fits] at h; subst h; rfl
  | .c k :: r, l, h => by
    obtain ⟨x, l', rfl, h1, hf⟩ := h
    simp [flatD, skLen, fits_len hf]
  | .ints k n :: r, l, h => by
    obtain ⟨xs, l', rfl, hn, hf⟩ := h
    simp [flatD, skLen, fits_len hf, hn]
theorem flatten_get {sz : Nat} : ∀ {es : List (List Value)}, (∀ e ∈ es, e.length = sz) → ∀ {j q : Nat} {e : List Value}, es[j]? = some e → q < sz → es.flatten[j * sz + q]? = e[q]?
  | [], _, j, q, e, he, _ => by simp at he
  | e0 :: r, hes, j, q, e, he, hq => by
    have h0 : e0.length = sz := hes _ (by simp)
    cases j with
    | zero =>
      simp at he
      subst he
      rw [List.flatten_cons, List.getElem?_append_left (by omega)]
      simp
    | succ j =>
      simp at he
      rw [List.flatten_cons, List.getElem?_append_right (by rw [Nat.succ_mul]; omega)]
      rw [← flatten_get (fun e h => hes e (by simp [h])) he hq]
      congr 1
      rw [Nat.succ_mul, h0]; omega
theorem row_cell {w : World} {b o ty sz : Nat} {c : Array Value} {es : List (List Value)} {fz : Nat × Nat} (hb : w.heap[b]? = some (.cells c ty fz)) (hes : ∀ e ∈ es, e.length = sz)
    (hfl : (c.toList.drop o).take (es.length * sz) = es.flatten) {j q : Nat} {e : List Value} (he : es[j]? = some e) (hq : q < sz) : w.cell? ⟨b, o + j * sz + q, none⟩ = e[q]? := by
  rw [cell_block hb rfl, ← flatten_get hes he hq, ← hfl]
  have hj : j < es.length := (List.getElem?_eq_some_iff.1 he).1
  have : j * sz + q < es.length * sz := by
    have : (j + 1) * sz ≤ es.length * sz := Nat.mul_le_mul_right _ hj
    rw [Nat.succ_mul] at this; omega
  rw [List.getElem?_take_of_lt this, List.getElem?_drop]
  simp [Nat.add_assoc]
theorem loadK_sound (h : Rep C V s H a w) (t : TypeId) (x : Operand) {K : SV → Prop} (hk : loadK P t (ev s x) s K) :
    ∃ z r, K z ∧ z.rep V r ∧ (Instr.loadAt t (a.eval x)).run P w = .ok r w := by
  have hx := h.ev x
  generalize ev s x = sx at hk hx
  generalize a.eval x = u at hx
  have run : ∀ A, (Instr.loadAt t (.pointer (some A))).run P w = (loadVar t A).run P w := fun A => by simp [Instr.loadAt, Instr.sureAddr]
  unfold loadK at hk
  split at hk
  · rename_i b o
    simp only [SV.rep, SC.rep] at hx
    subst hx
    split at hk
    · rename_i ty segs z d hl hz hu
      obtain ⟨cs, hcs, hb⟩ := h.objs _ _ hl
      obtain ⟨i, hi, rfl⟩ := sizeT_eq hz
      split at hk
      · rename_i r hr
        obtain ⟨h1, h2⟩ := segFrom_rep _ _ hcs hr
        split at hk
        · rename_i l hl2
          obtain ⟨h3, h4⟩ := segTake_rep _ _ h1 hl2
          have hlen : ((cs.drop o).take i.size).length = i.size := by simp at h4 ⊢; omega
          have hc : ∀ j x, ((cs.drop o).take i.size)[j]? = some x → w.cell? ((⟨V.blk b, o, none⟩ : Addr).add j) = some x := by
            intro j x hj
            rw [add_spot rfl, cell_block hb rfl]
            have hj' : j < i.size := by have := (List.getElem?_eq_some_iff.1 hj).1; omega
            rw [List.getElem?_take_of_lt hj', List.getElem?_drop] at hj
            simpa using hj
          unfold mkK at hk
          split at hk
          · rename_i ha
            exact ⟨_, _, hk, ⟨_, rfl, h3⟩, by rw [run, loadVar_agg hu hi ha hlen hc]⟩
          · rename_i ha
            split at hk
            · obtain ⟨y, l', e, hy, hl'⟩ := h3
              refine ⟨_, y, hk, hy, ?_⟩
              rw [run]
              exact loadVar_one hu ha (hc 0 y (by rw [e]; rfl))
            · exact hk.elim
        · exact hk.elim
      · exact hk.elim
    · exact hk.elim
  · rename_i b o n j
    obtain ⟨hj, rfl⟩ := hx
    split at hk
    · rename_i ty segs k hl hu
      obtain ⟨cs, hcs, hb⟩ := h.objs _ _ hl
      split at hk
      · rename_i k' m xs rest hr
        obtain ⟨h1, h2⟩ := segFrom_rep _ _ hcs hr
        split at hk
        · rename_i hm
          have := nbt hm; subst this
          obtain ⟨hn, l', e, hl'⟩ := h1
          refine ⟨_, _, hk, ⟨rfl, rfl⟩, ?_⟩
          rw [run]
          refine loadVar_one hu (by simp [isAggT, hu]) ?_
          rw [cell_block hb rfl]
          have : cs[o + j]? = some (.int k' (xs.getD j 0)) := by
            rw [← List.getElem?_drop, e, List.getElem?_append_left (by simp; omega)]
            simp [hn, hj]
          simpa using this
        · exact hk.elim
      · exact hk.elim
    · exact hk.elim
  · rename_i r sz j o
    obtain ⟨A, n, cap, hv, hs, rfl⟩ := hx
    split at hk
    · rename_i ty sz' es ks z hl hks hz
      split at hk
      · rename_i hb
        simp only [Bool.and_eq_true] at hb
        have := nbt hb.1; subst this
        have hsk := nbt hb.2
        obtain ⟨i, hi, rfl⟩ := sizeT_eq hz
        obtain ⟨l, ⟨⟨e, he, heq⟩, hK⟩, hf⟩ := exSegs_fits hk
        rcases h.objs _ _ hl with ⟨hv', rfl⟩ | ⟨b, o', cap', c, hv', hb, hcap, hc1, hes, hfl, hon⟩
        · simp at he
        · rw [hv'] at hv
          cases hv
          have hlen := fits_len hf
          rw [hsk] at hlen
          have hel : e.length = sz := hes e (List.mem_of_getElem? he)
          have hle : i.size ≤ sz - o := by rw [← heq] at hlen; simp at hlen; omega
          have hc : ∀ q x, (flatD l)[q]? = some x → w.cell? ((⟨b, o' + j * sz + o, none⟩ : Addr).add q) = some x := by
            intro q x hq
            have hq' : q < i.size := by have := (List.getElem?_eq_some_iff.1 hq).1; omega
            rw [add_spot rfl]
            show w.cell? ⟨b, o' + j * sz + o + q, none⟩ = some x
            have hrow := row_cell (q := o + q) hb hes hfl he (by omega)
            rw [← Nat.add_assoc] at hrow
            rw [hrow]
            rw [← heq, List.getElem?_take_of_lt hq', List.getElem?_drop] at hq
            exact hq
          obtain ⟨r, h1, h2, _⟩ := loadVar_fits (V := V) hks hi hf (fun _ => hlen) hc
          exact ⟨_, r, hK, h1, by rw [run]; exact h2⟩
      · exact hk.elim
    · exact hk.elim
  · exact hk.elim
end
end Sx
