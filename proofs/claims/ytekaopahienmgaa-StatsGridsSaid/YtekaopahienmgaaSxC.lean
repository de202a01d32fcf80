/- Values of operations: soundness. -/
import Derived.Test.YtekaopahienmgaaSxB
set_option linter.unusedVariables false
set_option linter.unusedSimpArgs false
namespace Sx
open Go

def eqR : List Seg → List Seg → Option Bool → Option Bool
  | [], [], acc => match acc with | some b => some b | none => some true
  | .c (.v (.int k a)) :: l, .c (.v (.int k' b)) :: l', acc => match sameK k k' with
    | true => eqR l l' (some (andO acc (a == b)))
    | false => none
  | .c (.v (.bool a)) :: l, .c (.v (.bool b)) :: l', acc => eqR l l' (some (andO acc (a == b)))
  | .c (.v (.string a)) :: l, .c (.v (.string b)) :: l', acc => eqR l l' (some (andO acc (a == b)))
  | .ints k _ a :: l, .ints k' _ b :: l', acc => match sameK k k' with
    | true => eqR l l' (some (andO acc (a == b)))
    | false => none
  | _, _, _ => none
theorem eqK_R : ∀ (l l' : List Seg) (acc : Option Bool) (K : Bool → Prop), eqK l l' acc K → ∃ b, eqR l l' acc = some b ∧ K b := by
  intro l l' acc K h
  fun_induction eqK l l' acc K <;> simp_all [eqR]
def intLens : List Seg → Prop
  | [] => True
  | .c _ :: r => intLens r
  | .ints _ n xs :: r => xs.length = n ∧ intLens r
theorem intLens_of {V : Vl} : ∀ {l : List Seg} {cs : List Value}, SegsRep V l cs → intLens l
  | [], _, _ => trivial
  | .c x :: r, cs, h => by obtain ⟨y, l1, rfl, hx, hr⟩ := h; show intLens r; exact intLens_of hr
  | .ints k n xs :: r, cs, h => by obtain ⟨hn, l1, rfl, hr⟩ := h; exact ⟨hn, intLens_of hr⟩
/-- At this type == is of all cells. -/
structure EqOK (P : Program) (t : TypeId) : Prop where
  guard : P.eqGuardType P.depth t = false
  run : ∀ ks, kinds P t = some ks → ∀ (l l' : List Seg) (cs cs' : List Value) (b : Bool) (w : World), shapeOK ks l = true → shapeOK ks l' = true → intLens l → intLens l' →
    flat l = some cs → flat l' = some cs' → eqR l l' none = some b → (Op.equal t (.agg cs.toArray) (.agg cs'.toArray)).run P w = .ok b w
theorem eqR_flat : ∀ (l l' : List Seg) (acc : Option Bool) (b : Bool), eqR l l' acc = some b → (∃ cs, flat l = some cs) ∧ ∃ cs, flat l' = some cs := by
  intro l l' acc b h
  fun_induction eqR l l' acc <;> simp_all [flat]
  all_goals (rename_i ih; obtain ⟨⟨c1, h1⟩, c2, h2⟩ := ih; simp [h1, h2])

section
variable {P : Program} {w : World}
theorem exec_v {s : Sem Value} {y : Value} {w' : World} (h : s.run P w = .ok y w') : ((do pure (Next.value (← s)) : Sem Next)).run P w = .ok (.value y) w' := by
  rw [Sem.run_bind, h]; rfl
theorem sameK_eq {k k' : IntKind} (h : sameK k k' = true) : k = k' := by cases k <;> cases k' <;> first | rfl | simp [sameK] at h
theorem eqGuard_of {op : BinOp} {t : TypeId} {x y : Operand} {u v : Value} (h : ∀ cs ds, u = .agg cs → v = .agg ds → P.eqGuardType P.depth t = false) (h2 : u ≠ .nilIface) :
    (eqGuard op t x y u v).run P w = .ok () w := by
  unfold eqGuard
  cases op <;> first
    | (simp; done)
    | (cases u <;> cases v <;> first
        | (simp; done)
        | (exact absurd rfl h2)
        | (simp [h _ _ rfl rfl]))
theorem intK_sound {op : BinOp} {k : IntKind} {a b : Int} {K : Value → Prop} (hs : op ≠ .shl) (hs' : op ≠ .shr) (hk : intK op k a b K) (t : TypeId) :
    ∃ r, K r ∧ one r = true ∧ (binOp op t (.int k a) (.int k b)).run P w = .ok r w := by
  cases op <;> simp only [intK] at hk <;> first
    | exact absurd rfl hs
    | exact absurd rfl hs'
    | exact ⟨_, hk, rfl, by simp [binOp, Op.intArith, Op.intBits, Op.intCmp, bitOp]⟩
    | exact ⟨_, hk.2, rfl, by simp [binOp, Op.intDiv, hk.1]⟩
theorem run_equal {t : TypeId} {x y : Value} {b : Bool} (h : (Op.equal t x y).run P w = .ok b w) (hn : ∀ k n, x ≠ .int k n) (hf : ∀ k n, x ≠ .float k n) (hc : ∀ k a b, x ≠ .complex k a b)
    (hs : ∀ a, x ≠ .string a) : (binOp .eql t x y).run P w = .ok (.bool b) w ∧ (binOp .neq t x y).run P w = .ok (.bool (!b)) w := by
  constructor <;> (cases x <;> first | exact absurd rfl (hn _ _) | exact absurd rfl (hf _ _) | exact absurd rfl (hc _ _ _) | exact absurd rfl (hs _) | (cases y <;> simp [binOp, h]))
theorem equal_bool {t : TypeId} (h : P.underlying t = some .bool) (a b : Bool) : (Op.equal t (.bool a) (.bool b)).run P w = .ok (a == b) w := run_equalIn_bool w 9999 t a b h
theorem equalIn_ptr {d : Nat} {t e : TypeId} (h : P.underlying t = some (.pointer e)) (a : Option Addr) : (Op.equalIn (d + 1) t (.pointer a) (.pointer none)).run P w = .ok a.isNone w := by
  cases a <;> simp [Op.equalIn, run_underlying h]
theorem equalIn_slice {d : Nat} {t e : TypeId} (h : P.underlying t = some (.slice e)) (a : Option Addr) (n c n' c' : Nat) : (Op.equalIn (d + 1) t (.slice a n c) (.slice none n' c')).run P w = .ok a.isNone w := by
  cases a <;> simp [Op.equalIn, run_underlying h]
theorem equalIn_map {d : Nat} {t k e : TypeId} (h : P.underlying t = some (.map k e)) (a : Option Nat) : (Op.equalIn (d + 1) t (.map a) (.map none)).run P w = .ok a.isNone w := by
  cases a <;> simp [Op.equalIn, run_underlying h]
theorem eqlK_sound {V : Vl} {eqs : List TypeId} (hE : ∀ t, memN eqs t = true → EqOK P t) {t : TypeId} {x y : Operand} {sx sy : SV} {u v : Value}
    (hx : sx.rep V u) (hy : sy.rep V v) {K : Bool → Prop} (hk : eqlK P eqs t sx sy K) (op : BinOp) :
    ∃ b, K b ∧ (eqGuard op t x y u v).run P w = .ok () w ∧ (binOp .eql t u v).run P w = .ok (.bool b) w ∧ (binOp .neq t u v).run P w = .ok (.bool (!b)) w := by
  unfold eqlK at hk
  split at hk
  · obtain ⟨rfl, -⟩ := hx
    obtain ⟨rfl, -⟩ := hy
    rename_i hu
    exact ⟨_, hk, eqGuard_of (by simp) (by simp), run_equal (equal_bool hu _ _) (by simp) (by simp) (by simp) (by simp)⟩
  · obtain ⟨rfl, -⟩ := hx
    obtain ⟨rfl, -⟩ := hy
    exact ⟨_, hk, eqGuard_of (by simp) (by simp), by simp [binOp, Op.stringOp], by simp [binOp, Op.stringOp]⟩
  · obtain ⟨rfl, -⟩ := hx
    obtain ⟨rfl, -⟩ := hy
    rename_i a hu
    exact ⟨_, hk, eqGuard_of (by simp) (by simp), run_equal (equalIn_ptr (d := 9999) hu a) (by simp) (by simp) (by simp) (by simp)⟩
  · obtain ⟨rfl, -⟩ := hx
    obtain ⟨rfl, -⟩ := hy
    rename_i a _ _ _ _ hu
    exact ⟨_, hk, eqGuard_of (by simp) (by simp), run_equal (equalIn_slice (d := 9999) hu a _ _ _ _) (by simp) (by simp) (by simp) (by simp)⟩
  · obtain ⟨rfl, -⟩ := hx
    obtain ⟨rfl, -⟩ := hy
    rename_i a hu
    exact ⟨_, hk, eqGuard_of (by simp) (by simp), run_equal (equalIn_map (d := 9999) hu a) (by simp) (by simp) (by simp) (by simp)⟩
  · have hx' := hx
    simp only [SV.rep, SC.rep] at hx'
    subst hx'
    obtain ⟨rfl, -⟩ := hy
    rename_i hu
    exact ⟨_, hk, eqGuard_of (by simp) (by simp), run_equal (equalIn_ptr (d := 9999) hu (some _)) (by simp) (by simp) (by simp) (by simp)⟩
  · split at hk
    · split at hk
      · obtain ⟨b, hb, hK⟩ := eqK_R _ _ _ _ hk
        obtain ⟨cs, rfl, hcs⟩ := hx
        obtain ⟨ds, rfl, hds⟩ := hy
        rename_i hm hks _ _ hs1 hs2
        have E := hE _ hm
        obtain ⟨⟨c1, h1⟩, c2, h2⟩ := eqR_flat _ _ _ _ hb
        have e1 := flat_rep hcs h1
        have e2 := flat_rep hds h2
        subst e1; subst e2
        exact ⟨b, hK, eqGuard_of (fun _ _ _ _ => E.guard) (by simp), run_equal (E.run _ hks _ _ _ _ b w hs1 hs2 (intLens_of hcs) (intLens_of hds) h1 h2 hb) (by simp) (by simp) (by simp) (by simp)⟩
      · exact hk.elim
    · exact hk.elim
  · exact hk.elim
theorem binK_sound {V : Vl} {eqs : List TypeId} (hE : ∀ t, memN eqs t = true → EqOK P t) {op : BinOp} {t : TypeId} {x y : Operand} {sx sy : SV} {u v : Value}
    (hx : sx.rep V u) (hy : sy.rep V v) {K : SV → Prop} (hk : binK P eqs op t sx sy K) :
    ∃ z r, K z ∧ z.rep V r ∧ ((do eqGuard op t x y u v; binOp op t u v : Sem Value)).run P w = .ok r w := by
  unfold binK at hk
  split at hk
  · obtain ⟨rfl, -⟩ := hx
    obtain ⟨rfl, -⟩ := hy
    rename_i k a k' b
    have hg : ∀ op, (eqGuard op t x y (.int k a) (.int k' b)).run P w = .ok () w := fun op => eqGuard_of (by simp) (by simp)
    split at hk
    · exact ⟨_, _, hk.2, ⟨rfl, rfl⟩, by rw [Sem.run_bind, hg]; simp [binOp, Op.shift, shlI, Int.not_lt.2 hk.1]⟩
    · exact ⟨_, _, hk.2, ⟨rfl, rfl⟩, by rw [Sem.run_bind, hg]; simp [binOp, Op.shift, shrI, Int.not_lt.2 hk.1]⟩
    · split at hk
      · rename_i hs1 hs2 _ hsk
        have e := sameK_eq hsk
        subst e
        obtain ⟨r, h1, h2, h3⟩ := intK_sound (w := w) (P := P) (by intro e; exact hs1 e) (by intro e; exact hs2 e) hk t
        exact ⟨_, _, h1, ⟨rfl, h2⟩, by rw [Sem.run_bind, hg]; exact h3⟩
      · exact hk.elim
  · split at hk
    · obtain ⟨b, h1, h2, h3, h4⟩ := eqlK_sound (w := w) (x := x) (y := y) hE hx hy hk .eql
      exact ⟨_, _, h1, ⟨rfl, rfl⟩, by rw [Sem.run_bind, h2]; exact h3⟩
    · obtain ⟨b, h1, h2, h3, h4⟩ := eqlK_sound (w := w) (x := x) (y := y) hE hx hy hk .neq
      exact ⟨_, _, h1, ⟨rfl, rfl⟩, by rw [Sem.run_bind, h2]; exact h4⟩
    · exact hk.elim
end
end Sx
