/- Drawn orders: what an operation that only looks comes to is one thing. -/
import Derived.Test.YtekaopahienmgaaSxN
import Derived.Test.YtekaopahienmgaaSxK
set_option linter.unusedVariables false
set_option linter.unusedSimpArgs false
namespace Sx
open Go

/-! ### One value -/
theorem sc_exact {V : Vl} {x : SC} {y y' : Value} (hx : exactC x = true) (h : x.rep V y) (h' : x.rep V y') : y = y' := by
  cases x <;> simp only [exactC] at hx <;> try cases hx
  all_goals simp only [SC.rep] at h h'
  · rw [h.1, h'.1]
  · rw [h, h']
  · rw [h.2, h'.2]
  · rw [h.1, h'.1]
  · obtain ⟨A, n, cap, h1, h2, h3⟩ := h
    obtain ⟨A', n', cap', h1', h2', h3'⟩ := h'
    rw [h1] at h1'
    cases h1'
    rw [h3, h3']
theorem segs_exact {V : Vl} : ∀ {l : List Seg} {y y' : List Value}, exactS l = true → SegsRep V l y → SegsRep V l y' → y = y'
  | [], y, y', _, h, h' => by
    have e : y = [] := h
    have e' : y' = [] := h'
    rw [e, e']
  | .c x :: r, y, y', hx, h, h' => by
    simp only [exactS, Bool.and_eq_true] at hx
    obtain ⟨z, l, rfl, h1, h2⟩ := h
    obtain ⟨z', l', rfl, h1', h2'⟩ := h'
    rw [sc_exact hx.1 h1 h1', segs_exact hx.2 h2 h2']
  | .ints k n xs :: r, y, y', hx, h, h' => by
    obtain ⟨_, l, rfl, h2⟩ := h
    obtain ⟨_, l', rfl, h2'⟩ := h'
    rw [segs_exact (l := r) hx h2 h2']
theorem comps_exact {V : Vl} : ∀ {l : List Comp} {y y' : List Value}, exactP l = true → CompsRep V l y → CompsRep V l y' → y = y'
  | [], y, y', _, h, h' => by
    have e : y = [] := h
    have e' : y' = [] := h'
    rw [e, e']
  | .c x :: r, y, y', hx, h, h' => by
    simp only [exactP, Bool.and_eq_true] at hx
    obtain ⟨z, l, rfl, h1, h2⟩ := h
    obtain ⟨z', l', rfl, h1', h2'⟩ := h'
    rw [sc_exact hx.1 h1 h1', comps_exact hx.2 h2 h2']
  | .agg s :: r, y, y', hx, h, h' => by
    simp only [exactP, Bool.and_eq_true] at hx
    obtain ⟨z, l, rfl, ⟨c, rfl, h1⟩, h2⟩ := h
    obtain ⟨z', l', rfl, ⟨c', rfl, h1'⟩, h2'⟩ := h'
    rw [segs_exact hx.1 h1 h1', comps_exact hx.2 h2 h2']
theorem sv_exact {V : Vl} {x : SV} {y y' : Value} (hx : exactV x = true) (h : x.rep V y) (h' : x.rep V y') : y = y' := by
  cases x with
  | c x => exact sc_exact hx h h'
  | agg l =>
    obtain ⟨c, rfl, h⟩ := h
    obtain ⟨c', rfl, h'⟩ := h'
    rw [segs_exact hx h h']
  | tup l =>
    obtain ⟨c, rfl, h⟩ := h
    obtain ⟨c', rfl, h'⟩ := h'
    rw [comps_exact hx h h']

/-! ### What is asked of a value is asked of one -/
def Pk {α : Type} (X : (α → Prop) → Prop) (K : α → Prop) : Prop := ∃ z, K z ∧ ∀ K' : α → Prop, K' z → X K'
theorem Pk.map {α β : Type} {X : (α → Prop) → Prop} {f : α → β} {K : β → Prop} (h : Pk X fun a => K (f a)) : Pk (fun K' => X fun a => K' (f a)) K := by
  obtain ⟨z, h1, h2⟩ := h
  exact ⟨f z, h1, fun K' h => h2 _ h⟩
section
variable {P : Program}
theorem pk_now {α : Type} {z : α} {K : α → Prop} (h : K z) : Pk (fun K' => K' z) K := ⟨z, h, fun _ h => h⟩
theorem pk_and {α : Type} {p : Prop} {X : (α → Prop) → Prop} {K : α → Prop} (hp : p) (h : Pk X K) : Pk (fun K' => p ∧ X K') K := by
  obtain ⟨z, h1, h2⟩ := h
  exact ⟨z, h1, fun K' h => ⟨hp, h2 K' h⟩⟩
theorem pk_ptr {p : Option Addr} {α : Type} {F : Addr → (α → Prop) → Prop} {K : α → Prop} (hF : ∀ a, F a K → Pk (F a) K) (h : PtrK p fun a => F a K) : Pk (fun K' => PtrK p fun a => F a K') K := by
  cases p with
  | none => exact h.elim
  | some a => exact hF a h
theorem mkK_pick {b : Bool} {l : List Seg} {K : SV → Prop} (h : mkK b l K) : Pk (mkK b l) K := by
  unfold mkK at *
  split at h
  · exact pk_now h
  · split at h
    · exact pk_now h
    · exact h.elim
theorem intK_pick {op : BinOp} {k : IntKind} {x y : Int} {K : Value → Prop} (h : intK op k x y K) : Pk (intK op k x y) K := by
  unfold intK at *
  split at h <;> first | exact h.elim | exact pk_now h | exact pk_and h.1 (pk_now h.2)
theorem eqK_pick {l l' : List Seg} {acc : Option Bool} {K : Bool → Prop} (h : eqK l l' acc K) : Pk (eqK l l' acc) K := by
  fun_induction eqK l l' acc K
  all_goals first
    | exact h.elim
    | (rename_i ih; obtain ⟨z, h1, h2⟩ := ih h; exact ⟨z, h1, fun K' h => by have := h2 K' h; simp_all [eqK]⟩)
    | exact ⟨_, h, fun K' h => by simp_all [eqK]⟩
theorem eqlK_pick {eqs : List TypeId} {t : TypeId} {x y : SV} {K : Bool → Prop} (h : eqlK P eqs t x y K) : Pk (eqlK P eqs t x y) K := by
  unfold eqlK at *
  split at h
  all_goals first
    | exact h.elim
    | exact pk_now h
    | (split at h
       · split at h
         · exact eqK_pick h
         · exact h.elim
       · exact h.elim)
theorem binK_pick {eqs : List TypeId} {op : BinOp} {t : TypeId} {x y : SV} {K : SV → Prop} (h : binK P eqs op t x y K) : Pk (binK P eqs op t x y) K := by
  unfold binK at h ⊢
  split at h
  · split at h
    · exact pk_and h.1 (pk_now h.2)
    · exact pk_and h.1 (pk_now h.2)
    · split at h
      · exact (intK_pick h).map
      · exact h.elim
  · split at h
    · exact (eqlK_pick h).map
    · exact (eqlK_pick h).map
    · exact h.elim
theorem foldK_pick {f : Int → Int → Int} {k : IntKind} : ∀ {l : List SV} {a : Int} {K : SV → Prop}, foldK f k a l K → Pk (foldK f k a l) K
  | [], a, K, h => pk_now h
  | .c (.v (.int k' b)) :: r, a, K, h => foldK_pick (l := r) h
  | .c (.v (.bool _)) :: r, a, K, h => h.elim
  | .c (.v (.float _ _)) :: r, a, K, h => h.elim
  | .c (.v (.complex _ _ _)) :: r, a, K, h => h.elim
  | .c (.v (.string _)) :: r, a, K, h => h.elim
  | .c (.v (.pointer _)) :: r, a, K, h => h.elim
  | .c (.v (.slice _ _ _)) :: r, a, K, h => h.elim
  | .c (.v (.map _)) :: r, a, K, h => h.elim
  | .c (.v (.chan _)) :: r, a, K, h => h.elim
  | .c (.v (.func _ _ _)) :: r, a, K, h => h.elim
  | .c (.v .nilFunc) :: r, a, K, h => h.elim
  | .c (.v (.iface _ _)) :: r, a, K, h => h.elim
  | .c (.v .nilIface) :: r, a, K, h => h.elim
  | .c (.v (.agg _)) :: r, a, K, h => h.elim
  | .c (.v (.tuple _)) :: r, a, K, h => h.elim
  | .c (.box _ _) :: r, a, K, h => h.elim
  | .c (.boxi _ _ _ _) :: r, a, K, h => h.elim
  | .c (.arr _ _ _ _ _) :: r, a, K, h => h.elim
  | .c (.row _) :: r, a, K, h => h.elim
  | .c (.sub _ _ _ _) :: r, a, K, h => h.elim
  | .c (.cell _ _ _ _) :: r, a, K, h => h.elim
  | .c .bad :: r, a, K, h => h.elim
  | .agg _ :: r, a, K, h => h.elim
  | .tup _ :: r, a, K, h => h.elim
theorem boundsK_pick {lo hi : Option SV} {len cap : Nat} {α : Type} {F : Nat → Nat → α} {K : α → Prop} (h : boundsK lo hi len cap fun l h => K (F l h)) : Pk (fun K' => boundsK lo hi len cap fun l h => K' (F l h)) K := by
  unfold boundsK at *
  split at h
  · exact pk_now h
  · exact pk_and h.1 (pk_now h.2)
  · exact pk_and h.1 (pk_now h.2)
  · exact pk_and h.1 (pk_and h.2.1 (pk_now h.2.2))
  · exact h.elim
theorem sliceK_pick {t : TypeId} {x : SV} {lo hi : Option SV} {s : St} {K : SV → Prop} (h : sliceK P t x lo hi s K) : Pk (sliceK P t x lo hi s) K := by
  unfold sliceK at *
  split at h
  all_goals first
    | exact h.elim
    | (split at h
       · first
         | exact boundsK_pick h
         | (split at h
            · first
              | exact boundsK_pick h
              | (split at h
                 · exact boundsK_pick h
                 · exact h.elim)
            · exact h.elim)
       · exact h.elim)
theorem indexK_pick {t : TypeId} {x : SV} {n : Int} {s : St} {K : SV → Prop} (h : indexK P t x n s K) : Pk (indexK P t x n s) K := by
  unfold indexK at *
  repeat' split at h
  all_goals first
    | exact h.elim
    | exact pk_and h.1 (pk_now h.2)
    | exact pk_and h.1 (pk_ptr (fun a h => pk_now h) h.2)
theorem lenK_pick {t : TypeId} {x : SV} {s : St} {K : SV → Prop} (h : lenK P t x s K) : Pk (lenK P t x s) K := by
  unfold lenK at *
  repeat' split at h
  all_goals first
    | exact h.elim
    | exact pk_now h
theorem ex_pick {k : CK} {α : Type} {F : Value → (α → Prop) → Prop} {K : α → Prop} (hF : ∀ v, F v K → Pk (F v) K) (h : k.ex fun v => F v K) : Pk (fun K' => k.ex fun v => F v K') K := by
  cases k <;> simp only [CK.ex] at h ⊢
  case int k => obtain ⟨n, h⟩ := h; obtain ⟨z, h1, h2⟩ := hF _ h; exact ⟨z, h1, fun K' h => ⟨n, h2 _ h⟩⟩
  case bool => obtain ⟨n, h⟩ := h; obtain ⟨z, h1, h2⟩ := hF _ h; exact ⟨z, h1, fun K' h => ⟨n, h2 _ h⟩⟩
  case str => obtain ⟨n, h⟩ := h; obtain ⟨z, h1, h2⟩ := hF _ h; exact ⟨z, h1, fun K' h => ⟨n, h2 _ h⟩⟩
  case ptr => obtain ⟨n, h⟩ := h; obtain ⟨z, h1, h2⟩ := hF _ h; exact ⟨z, h1, fun K' h => ⟨n, h2 _ h⟩⟩
  case slice => obtain ⟨n, m, c, h⟩ := h; obtain ⟨z, h1, h2⟩ := hF _ h; exact ⟨z, h1, fun K' h => ⟨n, m, c, h2 _ h⟩⟩
  case map => obtain ⟨n, h⟩ := h; obtain ⟨z, h1, h2⟩ := hF _ h; exact ⟨z, h1, fun K' h => ⟨n, h2 _ h⟩⟩
  case chan => obtain ⟨n, h⟩ := h; obtain ⟨z, h1, h2⟩ := hF _ h; exact ⟨z, h1, fun K' h => ⟨n, h2 _ h⟩⟩
  case func => obtain ⟨n, h0, h⟩ := h; obtain ⟨z, h1, h2⟩ := hF _ h; exact ⟨z, h1, fun K' h => ⟨n, h0, h2 _ h⟩⟩
  case iface => obtain ⟨n, h0, h⟩ := h; obtain ⟨z, h1, h2⟩ := hF _ h; exact ⟨z, h1, fun K' h => ⟨n, h0, h2 _ h⟩⟩
theorem exSegs_pick {α : Type} : ∀ {ks : List SK} {F : List Seg → (α → Prop) → Prop} {K : α → Prop}, (∀ l, F l K → Pk (F l) K) → (exSegs ks fun l => F l K) → Pk (fun K' => exSegs ks fun l => F l K') K
  | [], F, K, hF, h => hF _ h
  | .c k :: r, F, K, hF, h => ex_pick (F := fun v K => exSegs r fun l => F (.c (.v v) :: l) K) (fun v h => exSegs_pick (F := fun l K => F (.c (.v v) :: l) K) (fun l h => hF _ h) h) h
  | .ints k n :: r, F, K, hF, h => by
    obtain ⟨xs, hx, h⟩ := h
    obtain ⟨z, h1, h2⟩ := exSegs_pick (F := fun l K => F (.ints k n xs :: l) K) (fun l h => hF _ h) h
    exact ⟨z, h1, fun K' h => ⟨xs, hx, h2 _ h⟩⟩
theorem loadK_pick {t : TypeId} {x : SV} {s : St} {K : SV → Prop} (h : loadK P t x s K) : Pk (loadK P t x s) K := by
  unfold loadK at *
  repeat' split at h
  all_goals first
    | exact h.elim
    | exact mkK_pick h
    | exact pk_now h
    | exact exSegs_pick (fun l h => pk_and h.1 (pk_now h.2)) h
theorem taZero_pick {as : TypeId} {K : SV → Prop} (h : taZero P as K) : Pk (taZero P as) K := by
  unfold taZero at *
  repeat' split at h
  all_goals first
    | exact h.elim
    | exact pk_now h
theorem taK_pick {as : TypeId} {x : SV} {K : SV → Prop} (h : taK P as x K) : Pk (taK P as x) K := by
  unfold taK at *
  repeat' split at h
  all_goals first
    | exact h.elim
    | exact pk_now h
    | exact taZero_pick h
theorem valK_pick {cfg : Cfg} {op : Op} {s : St} {K : SV → Prop} (h : valK P cfg op s K) : Pk (valK P cfg op s) K := by
  unfold valK at *
  split at h
  all_goals first
    | exact h.elim
    | exact pk_now h
    | exact binK_pick h
    | exact sliceK_pick h
    | exact loadK_pick h
    | exact taK_pick h
    | (repeat' split at h
       all_goals first
         | exact h.elim
         | exact pk_now h
         | exact pk_ptr (fun a h => pk_now h) h
         | exact indexK_pick h
         | exact lenK_pick h
         | exact foldK_pick h
         | exact mkK_pick h
         | exact pk_and h.1 (pk_now h.2)
         | exact pk_and h.1 (pk_and h.2.1 (pk_and h.2.2.1 (pk_now h.2.2.2))))
theorem pk_ex {β α : Type} {F : β → (α → Prop) → Prop} {K : α → Prop} (hF : ∀ v, F v K → Pk (F v) K) (h : ∃ b, F b K) : Pk (fun K' => ∃ b, F b K') K := by
  obtain ⟨b, h⟩ := h
  obtain ⟨z, h1, h2⟩ := hF _ h
  exact ⟨z, h1, fun K' h => ⟨b, h2 _ h⟩⟩
theorem readK_pick {op : Op} {s : St} {H : Heap} {K : SV → Prop} (h : readK P op s H K) : Pk (readK P op s H) K := by
  unfold readK at *
  split at h
  · split at h
    · split at h
      · exact pk_ptr (F := fun a K => exSegs _ fun l => H.has a (flatD l) ∧ K _) (fun a h => exSegs_pick (fun l h => pk_and h.1 (pk_now h.2)) h) h
      · exact h.elim
    · exact h.elim
  · split at h
    · split at h
      · split at h
        · refine exSegs_pick (fun l h => ?_) h
          split at h
          · exact pk_ex (fun b h => pk_and h.1 (pk_now h.2)) h
          · exact pk_and h.1 (pk_now h.2)
        · exact h.elim
      · exact h.elim
    · exact h.elim
  · split at h
    · split at h
      · exact pk_ex (fun b h => pk_ex (fun c h => pk_and h.1 (pk_now h.2)) h) h
      · exact h.elim
    · exact h.elim
  · exact h.elim
end
end Sx
