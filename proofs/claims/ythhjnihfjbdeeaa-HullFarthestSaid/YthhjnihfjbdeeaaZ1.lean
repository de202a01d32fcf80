/- Own texts, one behind the other: SxWp, SxA, SxB, SxC, SxD. -/
import Derived.Calls
import Derived.Orders
import Derived.OrdersIn
import Derived.RangeFuncLeaves
import Derived.RangeFuncSeq
import Derived.TacticsIn
import Derived.Defers
import Derived.KernelRfl
import Derived.Below
import Derived.WalkKit
import Derived.StillTail
import Derived.Laws.Externs
import Derived.Laws.IdiomStrings
set_option linter.unusedVariables false
set_option linter.unusedSimpArgs false
namespace Sx
open Go
/-- The wide fence, in a round or in none. -/
abbrev FX (ro : Option Nat) : Fence := { Fence.wide with round := ro }
/-- What is entered ends so. -/
def GoesX (P : Program) : Next → World → (Ending → World → Prop) → Prop
  | .enter f args, w, R => Calls P f args w R
  | .round l f tmps assign body, w, R => RoundIn Fence.wide 0 P l f tmps assign body w R
  | _, _, _ => False
section
variable {P : Program} {ops : Array Oper} {Q Q' : Exit → Act → World → Prop}
theorem GoesX.mono {n : Next} {w : World} {R R' : Ending → World → Prop} (h : GoesX P n w R) (hr : ∀ e w', R e w' → R' e w') : GoesX P n w R' := by
  cases n <;> simp only [GoesX] at h ⊢
  case enter => exact h.mono hr
  case round => exact h.mono hr
/-- What an operation does, by how its step ends. -/
def uponX (P : Program) (o : Oper) (a : Act) (next : Act → World → Prop) (Q : Exit → Act → World → Prop) : Result Next → Prop
  | .ok n w' => match n with
    | .value v => next (a.put o.dst v) w'
    | .skip => next (a.put o.dst undef) w'
    | .defer d => next ({ a with defers := d :: a.defers }.put o.dst undef) w'
    | n => GoesX P n w' fun e w'' => match e with
      | .returned v => next (a.put o.dst v) w''
      | .panicked c => Q (.panic c) a w''
      | .outgrown => False
  | .halt h w' => match h with
    | .panic v => Q (.panic [{ v, recovered := false }]) a w'
    | _ => False
def wpX (P : Program) (o : Oper) (a : Act) (w : World) (next : Act → World → Prop) (Q : Exit → Act → World → Prop) : Prop := uponX P o a next Q ((execOp a.eval o).run P w)
theorem uponX_value (o : Oper) (a : Act) (next : Act → World → Prop) (v : Value) (w : World) : uponX P o a next Q (.ok (.value v) w) = next (a.put o.dst v) w := rfl
theorem uponX_skip (o : Oper) (a : Act) (next : Act → World → Prop) (w : World) : uponX P o a next Q (.ok .skip w) = next (a.put o.dst undef) w := rfl
theorem uponX_defer (o : Oper) (a : Act) (next : Act → World → Prop) (d : Deferred) (w : World) : uponX P o a next Q (.ok (.defer d) w) = next ({ a with defers := d :: a.defers }.put o.dst undef) w := rfl
theorem uponX_panic (o : Oper) (a : Act) (next : Act → World → Prop) (v : Value) (w : World) : uponX P o a next Q (.halt (.panic v) w) = Q (.panic [{ v, recovered := false }]) a w := rfl
theorem uponX_goes {o : Oper} {a : Act} {next : Act → World → Prop} {n : Next} {w : World}
    (h : GoesX P n w fun e w'' => match e with | .returned v => next (a.put o.dst v) w'' | .panicked c => Q (.panic c) a w'' | .outgrown => False) : uponX P o a next Q (.ok n w) := by
  cases n <;> first | exact h | exact h.elim
theorem uponX_mono {o : Oper} {a : Act} {next next' : Act → World → Prop} (hn : ∀ a w, next a w → next' a w) (hQ : ∀ e a w, Q e a w → Q' e a w) {r : Result Next} (h : uponX P o a next Q r) : uponX P o a next' Q' r := by
  cases r with
  | ok n w =>
    cases n with
    | value v => exact hn _ _ h
    | skip => exact hn _ _ h
    | defer d => exact hn _ _ h
    | enter f args => exact GoesX.mono (n := .enter f args) h fun e w' he => by cases e <;> first | exact hn _ _ he | exact hQ _ _ _ he | exact he
    | round l f t am b => exact GoesX.mono (n := .round l f t am b) h fun e w' he => by cases e <;> first | exact hn _ _ he | exact hQ _ _ _ he | exact he
    | _ => exact h.elim
  | halt x w => cases x <;> first | exact hQ _ _ _ h | exact h.elim
theorem wpX_mono {o : Oper} {a : Act} {w : World} {next next' : Act → World → Prop} (hn : ∀ a w, next a w → next' a w) (h : wpX P o a w next Q) : wpX P o a w next' Q := uponX_mono hn (fun _ _ _ h => h) h
theorem callsIn_of {n : Nat} {ro : Option Nat} {f : FuncId} {args : Array Value} {w : World} {R : Ending → World → Prop} (h : Calls P f args w R) : CallsIn (FX ro) n P f args w R := by
  have := (callsIn_wide (n := n)).2 h
  exact this
theorem roundIn_of {n : Nat} {ro : Option Nat} {l : Nat} {f : FuncId} {t : Array Value} {am b : Code} {w : World} {R : Ending → World → Prop} (h : RoundIn Fence.wide 0 P l f t am b w R) : RoundIn (FX ro) n P l f t am b w R :=
  ⟨trivial, fun c cs _ => h.2 c cs (room_wide _)⟩
/-- No defer statement. -/
def noDf (o : Oper) : Bool := match o.op with
  | .defer _ => false
  | _ => true
theorem wpIn_of_X {n : Nat} {ro : Option Nat} {o : Oper} {a : Act} {w : World} {K : Act → World → Prop} (hd : ro = none ∨ noDf o = true) (h : wpX P o a w K Q) : o.wpIn (FX ro) n P a w K Q := by
  refine ⟨fun _ _ => trivial, ?_⟩
  have e : o.semAt (FX ro).round a.eval = execOp a.eval o := by
    rcases hd with hd | hd
    · subst hd; rfl
    · exact Oper.semAt_eq _ _ _ fun c hc => by unfold noDf at hd; rw [hc] at hd; cases hd
  rw [e]
  unfold wpX at h
  generalize (execOp a.eval o).run P w = r at *
  cases r with
  | ok x w' =>
    cases x <;> simp only [uponX, GoesX] at h <;> simp only [Oper.uponIn]
    case value v => exact h
    case skip => exact h
    case defer d => exact h
    case enter f args =>
      refine ⟨by simp [FX, Fence.wide], callsIn_of (h.mono fun e w'' he => ?_)⟩
      cases e <;> first | exact he | exact he.elim
    case round l f t am b =>
      refine ⟨by simp [FX, Fence.wide], roundIn_of (h.mono fun e w'' he => ?_)⟩
      cases e <;> first | exact he | exact he.elim
  | halt x w' => cases x <;> first | exact h.elim | exact h

/-- Operations in a row. -/
def wpListX (P : Program) (ops : Array Oper) (Q : Exit → Act → World → Prop) : List Oper → Act → World → Prop
  | [], a, w => Q .normal a w
  | o :: rest, a, w => if Region.wanted o (yielded ops a.tmps) then wpX P o a w (wpListX P ops Q rest) Q else wpListX P ops Q rest (a.put o.dst undef) w
def wpOpX (P : Program) (ops : Array Oper) (Q : Exit → Act → World → Prop) (i : Nat) (K : Act → World → Prop) (a : Act) (w : World) : Prop :=
  match ops[i]? with
  | none => K a w
  | some o => if Region.wanted o (yielded ops a.tmps) then wpX P o a w K Q else K (a.put o.dst undef) w
/-- In whatever order. -/
def wpAnyX (P : Program) (md : Region.Mode) (ops : Array Oper) (Q : Exit → Act → World → Prop) : Nat → Array Bool → Act → World → Prop
  | 0, listed, a, w => Region.ready md ops listed = [] ∧ Q .normal a w
  | fuel + 1, listed, a, w =>
    (Region.ready md ops listed = [] → Q .normal a w) ∧
    ∀ i ∈ Region.ready md ops listed, wpOpX P ops Q i (wpAnyX P md ops Q fuel (listed.setIfInBounds i true)) a w
theorem wpListIn_of_X {n : Nat} {ro : Option Nat} : ∀ (l : List Oper) (a : Act) (w : World), (ro = none ∨ ∀ o ∈ l, noDf o = true) → wpListX P ops Q l a w → wpListIn (FX ro) n P ops Q l a w
  | [], a, w, _, h => h
  | o :: r, a, w, hd, h => by
    unfold wpListX at h
    unfold wpListIn
    have hr : ro = none ∨ ∀ o ∈ r, noDf o = true := hd.imp_right fun h o ho => h o (List.mem_cons_of_mem _ ho)
    split at h
    · rename_i hw
      rw [if_pos hw]
      exact wpIn_of_X (hd.imp_right fun h => h o (List.mem_cons_self ..)) (wpX_mono (fun a w h => wpListIn_of_X r a w hr h) h)
    · rename_i hw
      rw [if_neg hw]
      exact ⟨fun _ _ => trivial, wpListIn_of_X r _ _ hr h⟩
theorem wpAnyIn_of_X {n : Nat} {ro : Option Nat} {md : Region.Mode} (hd : ro = none ∨ ∀ (i : Nat) (o : Oper), ops[i]? = some o → noDf o = true) : ∀ (f : Nat) (listed : Array Bool) (a : Act) (w : World), wpAnyX P md ops Q f listed a w → wpAnyIn (FX ro) n P md ops Q f listed a w
  | 0, _, _, _, h => h
  | f + 1, listed, a, w, h => by
    refine ⟨h.1, fun i hi => ?_⟩
    have h1 := h.2 i hi
    unfold wpOpX at h1
    unfold wpOpIn
    split at h1
    · rename_i ho; simp only [ho]; exact wpAnyIn_of_X hd f _ _ _ h1
    · rename_i o ho
      simp only [ho]
      split at h1
      · rename_i hw
        rw [if_pos hw]
        exact wpIn_of_X (hd.imp_right fun h => h i o ho) (wpX_mono (fun a w h => wpAnyIn_of_X hd f _ a w h) h1)
      · rename_i hw
        rw [if_neg hw]
        exact ⟨fun _ _ => trivial, wpAnyIn_of_X hd f _ _ _ h1⟩
/-- A region. -/
def RegX (P : Program) (ops : Array Oper) (draw : Bool) (Q : Exit → Act → World → Prop) (a : Act) (w : World) : Prop := match draw with
  | false => wpListX P ops Q ops.toList a w
  | true => P.follows .mixedOrders = true ∧ wpAnyX P .any ops Q ops.size (Array.replicate ops.size false) a { w with drawn := w.drawn + 1 }
theorem regIn {n : Nat} {ro : Option Nat} {id : Nat} {draw : Bool} {a : Act} {w : World} (hd : ro = none ∨ ∀ o ∈ ops.toList, noDf o = true) (h : RegX P ops draw Q a w) : (Code.region id ops draw).wpIn (FX ro) n P Q a w := by
  cases draw with
  | false => exact wpIn_region_list (wpListIn_of_X _ _ _ hd h)
  | true => exact wpIn_region_any h.1 (wpAnyIn_of_X (hd.imp_right fun h i o ho => h o (by have := List.mem_of_getElem? (by simpa using ho : ops.toList[i]? = some o); exact this)) _ _ _ _ h.2)
end
end Sx

set_option linter.unusedVariables false
set_option linter.unusedSimpArgs false
namespace Sx
open Go

/-- A value of one cell. -/
def one : Value → Bool
  | .agg _ | .tuple _ => false
  | _ => true
/-! ### Heaps -/
/-- What is known of memory: some blocks, whole. -/
abbrev Heap := Nat → Option Obj
def Heap.upd (H : Heap) (r : Nat) (o : Obj) : Heap := fun b => if b = r then some o else H b
def Heap.del (H : Heap) (r : Nat) : Heap := fun b => if b = r then none else H b
def Heap.le (H H' : Heap) : Prop := ∀ b o, H b = some o → H' b = some o
instance : LE Heap := ⟨Heap.le⟩
/-- It holds of a world. -/
def Heap.sub (H : Heap) (w : World) : Prop := ∀ b o, H b = some o → w.heap[b]? = some o
def Heap.cell? (H : Heap) (a : Addr) : Option Value :=
  match H a.block with
  | some (.cells c _ _) => if a.spot.isSome then none else c[a.off]?
  | _ => none
/-- At a place these cells stand, one behind the other. -/
def Heap.has (H : Heap) (a : Addr) (l : List Value) : Prop := ∀ j x, l[j]? = some x → H.cell? (a.add j) = some x

/-- Whether contracts also tell that draws only go on (asked of functions that the library's sorting calls). -/
class Dr where
  on : Prop
set_option linter.unusedSectionVars false
variable [Dr]
/-- The tape is as it was; draws only go on. -/
structure Tp (w' w : World) : Prop where
  eq : w'.tape = w.tape
  dr : Dr.on → w.drawn ≤ w'.drawn
theorem Tp.trans {a b c : World} (h : Tp a b) (h' : Tp b c) : Tp a c := ⟨h.eq.trans h'.eq, fun q => Nat.le_trans (h'.dr q) (h.dr q)⟩
theorem Tp.refl (w : World) : Tp w w := ⟨rfl, fun _ => Nat.le_refl _⟩
/-- What a call may do to memory of which H is known, so that H' is known then: nothing to other blocks that were there. -/
structure Step (H : Heap) (w : World) (H' : Heap) (w' : World) : Prop where
  sub : H'.sub w'
  os : w'.os = w.os
  tape : Tp w' w
  output : w'.output = w.output
  size : w.heap.size ≤ w'.heap.size
  other : ∀ b, b < w.heap.size → H b = none → w'.heap[b]? = w.heap[b]?
  fresh : ∀ b, b < w.heap.size → H b = none → H' b = none

def callable (P : Program) (f : FuncId) : Bool :=
  match P.funcs[f]? with
  | some fn => fn.body.isSome && fn.name != "runtime.NumGoroutine"
  | none => false
/-- The contract of a function: called with these arguments wherever H holds, it ends as R tells. -/
def Meets (P : Program) (f : FuncId) (args : List Value) (H : Heap) (R : Ending → Heap → Prop) : Prop :=
  callable P f = true ∧ ∀ w, H.sub w → Calls P f args.toArray w fun e w' => ∃ H', Step H w H' w' ∧ R e H'
/-- The contract of a function that is called by a defer: it may change the mode of the function that it leaves. -/
def MeetsD (P : Program) (f : FuncId) (args : List Value) (u : FrameMode) (H : Heap) (R : Ending → FrameMode → Heap → Prop) : Prop :=
  callable P f = true ∧ ∀ w, H.sub w → CallsDIn Fence.wide 0 P f args.toArray u w fun e u' w' => ∃ H', Step H w H' w' ∧ R e u' H'
/-- The contract of a call of yield. -/
def MeetsY (P : Program) (l : Nat) (args : List Value) (H : Heap) (R : Ending → Heap → Prop) : Prop :=
  ∀ w, H.sub w → ∃ f tmps assign body, (Instr.yield l args.toArray).run P w = .ok (.round l f tmps assign body) w ∧
    RoundIn Fence.wide 0 P l f tmps assign body w fun e w' => ∃ H', Step H w H' w' ∧ R e H'
/-- The contract of a function value. -/
def MeetsV (P : Program) (fv : Value) (args : List Value) (H : Heap) (R : Ending → Heap → Prop) : Prop :=
  match fv with
  | .func (.func f) first cap => Meets P f (first.toList ++ args ++ cap.toList) H R
  | .func (.yield l) first _ => MeetsY P l (first.toList ++ args) H R
  | _ => False

/-! ### Slices -/
/-- A slice value reads as these elements, each so many cells. -/
def SliceAt (H : Heap) (v : Value) (sz : Nat) (es : List (List Value)) : Prop :=
  ∃ a n c, v = .slice a n c ∧ es.length = n ∧ n ≤ c ∧ (∀ e ∈ es, e.length = sz) ∧ (∀ e ∈ es, ∀ x ∈ e, one x = true) ∧
    ∀ i e, es[i]? = some e → ∃ A, a = some A ∧ A.spot = none ∧ H.has (A.add (i * sz)) e
/-- A slice value that has its block alone. -/
def RowAt (H : Heap) (v : Value) (ty : TypeId) (sz : Nat) (es : List (List Value)) : Prop :=
  (v = .slice none 0 0 ∧ es = []) ∨
  ∃ b o cap c, v = .slice (some ⟨b, o, none⟩) es.length cap ∧ H b = some (.cells c ty (0, 0)) ∧ es.length ≤ cap ∧ o + cap * sz ≤ c.size ∧
    (∀ e ∈ es, e.length = sz) ∧ (c.toList.drop o).take (es.length * sz) = es.flatten ∧ ∀ e ∈ es, ∀ x ∈ e, one x = true
def blockOf : Value → Option Nat
  | .slice (some a) _ _ => some a.block
  | .pointer (some a) => some a.block
  | .map (some r) => some r
  | _ => none

/-! ### Abstract states -/
/-- A cell's value: a real one; an address in a private variable, or in an element of a private row; a private row, or a part of it. -/
inductive Cap where
  | b (s : Nat)
  | v (x : Value)
inductive SC where
  | v (x : Value)
  | box (s off : Nat)
  | boxi (s off n i : Nat)
  | arr (s off n lo hi : Nat)
  | row (s : Nat)
  | sub (s sz lo hi : Nat)
  | cell (s sz i off : Nat)
  | clo (fn : Fn) (first : List Value) (caps : List Cap)
  | bad
inductive Seg where
  | c (x : SC)
  | ints (k : IntKind) (n : Nat) (xs : List Int)
inductive Comp where
  | c (x : SC)
  | agg (l : List Seg)
inductive SV where
  | c (x : SC)
  | agg (l : List Seg)
  | tup (l : List Comp)
inductive AObj where
  | box (ty : TypeId) (l : List Seg)
  | row (ty : TypeId) (sz : Nat) (es : List (List Value))
/-- A deferred call: of a function, with the addresses of private variables. -/
structure ADef where
  f : FuncId
  sites : List Nat
structure St where
  env : List SV
  objs : List (Nat × AObj)
  dfr : List ADef

def nth {α : Type} : List α → Nat → Option α
  | [], _ => none
  | x :: _, 0 => some x
  | _ :: r, n + 1 => nth r n
def setNth {α : Type} : List α → Nat → α → List α
  | [], _, _ => []
  | _ :: r, 0, y => y :: r
  | x :: r, n + 1, y => x :: setNth r n y
def St.get (s : St) (t : Nat) : SV := match nth s.env t with | some x => x | none => .c .bad
def St.set (s : St) (t : Nat) (x : SV) : St := ⟨setNth s.env t x, s.objs, s.dfr⟩
def St.put (s : St) (d : Option Nat) (x : SV) : St := match d with | some t => s.set t x | none => s
def look : List (Nat × AObj) → Nat → Option AObj
  | [], _ => none
  | (k, o) :: r, s => match Nat.beq k s with | true => some o | false => look r s
def objSet : List (Nat × AObj) → Nat → AObj → List (Nat × AObj)
  | [], s, o => [(s, o)]
  | (k, x) :: r, s, o => match Nat.beq k s with | true => (k, o) :: r | false => (k, x) :: objSet r s o
def objDel : List (Nat × AObj) → Nat → List (Nat × AObj)
  | [], _ => []
  | (k, x) :: r, s => match Nat.beq k s with | true => objDel r s | false => (k, x) :: objDel r s
def ev (s : St) : Operand → SV
  | .tmp t => s.get t
  | .const x => match x with | .agg _ | .tuple _ => .c .bad | x => .c (.v x)
  | .global g => .c (.v (.pointer (some ⟨g, 0, none⟩)))
  | .func f => .c (.v (.func (.func f) #[] #[]))

/-! ### Reading abstract values as real ones -/
def SC.real : SC → Option Value
  | .v x => some x
  | _ => none
def flat : List Seg → Option (List Value)
  | [] => some []
  | .c (.v x) :: r => match flat r with | some l => some (x :: l) | none => none
  | .c _ :: _ => none
  | .ints k _ xs :: r => match flat r with | some l => some (xs.map (.int k) ++ l) | none => none
/-- The same, of segments that are real. -/
def flatD : List Seg → List Value
  | [] => []
  | .c (.v x) :: r => x :: flatD r
  | .c _ :: r => undef :: flatD r
  | .ints k _ xs :: r => xs.map (.int k) ++ flatD r
def segLen : List Seg → Nat
  | [] => 0
  | .c _ :: r => segLen r + 1
  | .ints _ n _ :: r => n + segLen r
/-- A value as one handed to a call: its Value, where it is real. -/
def SV.val : SV → Option Value
  | .c (.v x) => some x
  | .agg l => match flat l with | some cs => some (.agg cs.toArray) | none => none
  | _ => none
def capsOf : List SV → Option (List Cap)
  | [] => some []
  | .c (.box d 0) :: r => match capsOf r with | some l => some (.b d :: l) | none => none
  | .c (.v x) :: r => match capsOf r with | some l => some (.v x :: l) | none => none
  | _ => none
def sitesOf : List SV → Option (List Nat)
  | [] => some []
  | .c (.box d 0) :: r => match sitesOf r with | some l => some (d :: l) | none => none
  | _ => none
def vals : List SV → Option (List Value)
  | [] => some []
  | x :: r => match x.val with
    | some v => match vals r with | some l => some (v :: l) | none => none
    | none => none

/-! ### Types -/
inductive CK where
  | int (k : IntKind) | bool | str | ptr | slice | map | chan | func | iface
inductive SK where
  | c (k : CK)
  | ints (k : IntKind) (n : Nat)
def appK : Option (List SK) → Option (List SK) → Option (List SK)
  | some a, some b => some (a ++ b)
  | _, _ => none
def repK : Nat → Option (List SK) → Option (List SK)
  | 0, _ => some []
  | n + 1, a => appK a (repK n a)
def kindsOf (P : Program) : Nat → TypeId → Option (List SK)
  | 0, _ => none
  | n + 1, t => match P.underlying t with
    | some (.int k) => some [.c (.int k)]
    | some .bool => some [.c .bool]
    | some .string => some [.c .str]
    | some (.pointer _) => some [.c .ptr]
    | some (.slice _) => some [.c .slice]
    | some (.map _ _) => some [.c .map]
    | some (.chan _ _) => some [.c .chan]
    | some (.func _ _ _) => some [.c .func]
    | some (.interface _) => some [.c .iface]
    | some (.struct fs) => fs.toList.foldr (fun f r => appK (kindsOf P n f.type) r) (some [])
    | some (.array m e) => match P.underlying e with
      | some (.int k) => some [.ints k m]
      | _ => repK m (kindsOf P n e)
    | _ => none
def kinds (P : Program) (t : TypeId) : Option (List SK) := kindsOf P 40 t
def skLen : List SK → Nat
  | [] => 0
  | .c _ :: r => skLen r + 1
  | .ints _ n :: r => n + skLen r
def isAggT (P : Program) (t : TypeId) : Bool :=
  match P.underlying t with
  | some (.struct _) | some (.array _ _) => true
  | _ => false
def sizeT (P : Program) (t : TypeId) : Option Nat := match P.info? t with | some i => some i.size | none => none
def bytesT (P : Program) (t : TypeId) : Option Nat := match P.info? t with | some i => some i.bytes | none => none
def zeroV (P : Program) (t : TypeId) : Option Value := match P.info? t with | some i => i.zero | none => none
def oneAll : List Value → Bool
  | [] => true
  | x :: r => one x && oneAll r
def zeroT (P : Program) (t : TypeId) : Option (List Value) := match zeroV P t with
  | some z => match oneAll z.cells.toList with | true => some z.cells.toList | false => none
  | none => none
def sameK : IntKind → IntKind → Bool
  | .i8, .i8 | .i16, .i16 | .i32, .i32 | .i64, .i64 | .u8, .u8 | .u16, .u16 | .u32, .u32 | .u64, .u64 => true
  | _, _ => false
def takeInts (k : IntKind) : Nat → List Value → Option (List Int × List Value)
  | 0, l => some ([], l)
  | n + 1, .int k' x :: l => match sameK k k' with
    | true => match takeInts k n l with | some (xs, r) => some (x :: xs, r) | none => none
    | false => none
  | _, _ => none
/-- Zero values are plain: the ints' kinds are the type's. -/
def parse : List SK → List Value → Option (List Seg)
  | [], [] => some []
  | .c _ :: ks, x :: l => match parse ks l with | some r => some (.c (.v x) :: r) | none => none
  | .ints k n :: ks, l => match takeInts k n l with
    | some (xs, l') => match parse ks l' with | some r => some (.ints k n xs :: r) | none => none
    | none => none
  | _, _ => none

/-! ### Conditions -/
/-- A test that is not decided. -/
def Br (p : Bool) (A B : Prop) : Prop := match p with | true => A | false => B
def PtrK (p : Option Addr) (K : Addr → Prop) : Prop := match p with | some a => K a | none => False
def CK.ex : CK → (Value → Prop) → Prop
  | .int k, K => ∃ n : Int, K (.int k n)
  | .bool, K => ∃ b : Bool, K (.bool b)
  | .str, K => ∃ s : ByteArray, K (.string s)
  | .ptr, K => ∃ a : Option Addr, K (.pointer a)
  | .slice, K => ∃ (a : Option Addr) (n c : Nat), K (.slice a n c)
  | .map, K => ∃ r : Option Nat, K (.map r)
  | .chan, K => ∃ r : Option Nat, K (.chan r)
  | .func, K => ∃ f : Value, one f = true ∧ K f
  | .iface, K => ∃ x : Value, one x = true ∧ K x
def exSegs : List SK → (List Seg → Prop) → Prop
  | [], K => K []
  | .c k :: r, K => k.ex fun x => exSegs r fun l => K (.c (.v x) :: l)
  | .ints k n :: r, K => ∃ xs : List Int, xs.length = n ∧ exSegs r fun l => K (.ints k n xs :: l)
def mkK (agg : Bool) (l : List Seg) (K : SV → Prop) : Prop := match agg with
  | true => K (.agg l)
  | false => match l with | [.c x] => K (.c x) | _ => False
/-- The value of a type out of its segments. -/
def mkSV (agg : Bool) (l : List Seg) : SV := match agg with
  | true => .agg l
  | false => match l with | [.c x] => .c x | _ => .c .bad

/-! ### Operations on numbers -/
def bitOp (op : BinOp) (k : IntKind) (x y : Int) : Int :=
  match op with
  | .and => k.wrap (BitVec.ofInt k.bits x &&& BitVec.ofInt k.bits y).toNat
  | .or => k.wrap (BitVec.ofInt k.bits x ||| BitVec.ofInt k.bits y).toNat
  | .xor => k.wrap (BitVec.ofInt k.bits x ^^^ BitVec.ofInt k.bits y).toNat
  | _ => k.wrap (BitVec.ofInt k.bits x &&& ~~~ BitVec.ofInt k.bits y).toNat
def shlI (k : IntKind) (x y : Int) : Int := k.wrap (x * 2 ^ (min y.toNat k.bits))
def shrI (k : IntKind) (x y : Int) : Int := x.fdiv (2 ^ (min y.toNat k.bits))
def intK (op : BinOp) (k : IntKind) (x y : Int) (K : Value → Prop) : Prop :=
  match op with
  | .add => K (.int k (k.wrap (x + y)))
  | .sub => K (.int k (k.wrap (x - y)))
  | .mul => K (.int k (k.wrap (x * y)))
  | .quo => y ≠ 0 ∧ K (.int k (k.wrap (x.tdiv y)))
  | .rem => y ≠ 0 ∧ K (.int k (x.tmod y))
  | .and => K (.int k (bitOp .and k x y))
  | .or => K (.int k (bitOp .or k x y))
  | .xor => K (.int k (bitOp .xor k x y))
  | .andNot => K (.int k (bitOp .andNot k x y))
  | .eql => K (.bool (x == y))
  | .neq => K (.bool (x != y))
  | .lss => K (.bool (decide (x < y)))
  | .leq => K (.bool (decide (x ≤ y)))
  | .gtr => K (.bool (decide (x > y)))
  | .geq => K (.bool (decide (x ≥ y)))
  | _ => False
def andO : Option Bool → Bool → Bool
  | none, b => b
  | some a, b => a && b
def eqK : List Seg → List Seg → Option Bool → (Bool → Prop) → Prop
  | [], [], acc, K => match acc with | some b => K b | none => K true
  | .c (.v (.int k a)) :: l, .c (.v (.int k' b)) :: l', acc, K => match sameK k k' with
    | true => eqK l l' (some (andO acc (a == b))) K
    | false => False
  | .c (.v (.bool a)) :: l, .c (.v (.bool b)) :: l', acc, K => eqK l l' (some (andO acc (a == b))) K
  | .c (.v (.string a)) :: l, .c (.v (.string b)) :: l', acc, K => eqK l l' (some (andO acc (a == b))) K
  | .ints k _ a :: l, .ints k' _ b :: l', acc, K => match sameK k k' with
    | true => eqK l l' (some (andO acc (a == b))) K
    | false => False
  | _, _, _, _ => False
def memN : List Nat → Nat → Bool
  | [], _ => false
  | x :: r, n => match Nat.beq x n with | true => true | false => memN r n
def shapeOK : List SK → List Seg → Bool
  | [], [] => true
  | .c (.int k) :: r, .c (.v (.int k' _)) :: l => match sameK k k' with | true => shapeOK r l | false => false
  | .c .bool :: r, .c (.v (.bool _)) :: l => shapeOK r l
  | .c .str :: r, .c (.v (.string _)) :: l => shapeOK r l
  | .ints k n :: r, .ints k' m _ :: l => match sameK k k', Nat.beq n m with | true, true => shapeOK r l | _, _ => false
  | _, _ => false
/-- == of two values that are no integers. -/
def eqlK (P : Program) (eqs : List TypeId) (t : TypeId) (x y : SV) (K : Bool → Prop) : Prop :=
  match P.underlying t, x, y with
  | some .bool, .c (.v (.bool a)), .c (.v (.bool b)) => K (a == b)
  | some .string, .c (.v (.string a)), .c (.v (.string b)) => K (a.toList == b.toList)
  | some (.pointer _), .c (.v (.pointer a)), .c (.v (.pointer none)) => K a.isNone
  | some (.slice _), .c (.v (.slice a _ _)), .c (.v (.slice none _ _)) => K a.isNone
  | some (.map _ _), .c (.v (.map a)), .c (.v (.map none)) => K a.isNone
  | some (.chan _ _), .c (.v (.chan a)), .c (.v (.chan none)) => K a.isNone
  | some (.pointer _), .c (.box _ _), .c (.v (.pointer none)) => K false
  | _, .agg a, .agg b => match memN eqs t, kinds P t with
    | true, some ks => match shapeOK ks a, shapeOK ks b with
      | true, true => eqK a b none K
      | _, _ => False
    | _, _ => False
  | _, _, _ => False
def binK (P : Program) (eqs : List TypeId) (op : BinOp) (t : TypeId) (x y : SV) (K : SV → Prop) : Prop :=
  match x, y with
  | .c (.v (.int k a)), .c (.v (.int k' b)) => match op with
    | .shl => 0 ≤ b ∧ K (.c (.v (.int k (shlI k a b))))
    | .shr => 0 ≤ b ∧ K (.c (.v (.int k (shrI k a b))))
    | op => match sameK k k' with
      | true => intK op k a b fun v => K (.c (.v v))
      | false => False
  | .c (.v (.string a)), .c (.v (.string b)) => match op with
    | .eql => eqlK P eqs t (.c (.v (.string a))) (.c (.v (.string b))) fun b => K (.c (.v (.bool b)))
    | .neq => eqlK P eqs t (.c (.v (.string a))) (.c (.v (.string b))) fun b => K (.c (.v (.bool (!b))))
    | .lss => K (.c (.v (.bool (Op.bytesLess a.toList b.toList))))
    | .gtr => K (.c (.v (.bool (!(Op.bytesLess a.toList b.toList || (a.toList == b.toList))))))
    | _ => False
  | x, y => match op with
    | .eql => eqlK P eqs t x y fun b => K (.c (.v (.bool b)))
    | .neq => eqlK P eqs t x y fun b => K (.c (.v (.bool (!b))))
    | _ => False
def maxI (x y : Int) : Int := if y > x then y else x
def minI (x y : Int) : Int := if y < x then y else x
def foldK (f : Int → Int → Int) (k : IntKind) : Int → List SV → (SV → Prop) → Prop
  | a, [], K => K (.c (.v (.int k a)))
  | a, .c (.v (.int k' b)) :: r, K => foldK f k (f a b) r K
  | _, _, _ => False

/-! ### Addresses and parts -/
def fieldOf (P : Program) (t : TypeId) (f : Nat) : Option Field :=
  match P.underlying t with
  | some (.struct fs) => fs[f]?
  | _ => none
/-- The segments from a cell on, so many cells. -/
def segFrom : List Seg → Nat → Option (List Seg)
  | l, 0 => some l
  | .c _ :: r, n + 1 => segFrom r n
  | .ints _ m _ :: r, n + 1 => match Nat.ble m (n + 1) with | true => segFrom r (n + 1 - m) | false => none
  | [], _ + 1 => none
def segTake : List Seg → Nat → Option (List Seg)
  | _, 0 => some []
  | .c x :: r, n + 1 => match segTake r n with | some l => some (.c x :: l) | none => none
  | .ints k m xs :: r, n + 1 => match Nat.ble m (n + 1) with
    | true => match segTake r (n + 1 - m) with | some l => some (.ints k m xs :: l) | none => none
    | false => none
  | [], _ + 1 => none

def appO {α : Type} : Option (List α) → Option (List α) → Option (List α)
  | some a, some b => some (a ++ b)
  | _, _ => none
/-- With other segments from a cell on. -/
def segPut (l : List Seg) (off : Nat) (new : List Seg) : Option (List Seg) :=
  appO (segTake l off) (appO (some new) (segFrom l (off + segLen new)))
def SV.segs : SV → Option (List Seg)
  | .c .bad => none
  | .c x => some [.c x]
  | .agg l => some l
  | .tup _ => none
def subAddr (a : Option Addr) (c l sz : Nat) : Option Addr := if c = l then a else a.map (·.add (l * sz))
/-- The bounds of a slice expression with two, over a length, a room. -/
def boundsK (lo hi : Option SV) (len cap : Nat) (K : Nat → Nat → Prop) : Prop :=
  match lo, hi with
  | none, none => K 0 len
  | none, some (.c (.v (.int _ h))) => (0 ≤ h ∧ h ≤ cap) ∧ K 0 h.toNat
  | some (.c (.v (.int _ l))), none => (0 ≤ l ∧ l ≤ len) ∧ K l.toNat len
  | some (.c (.v (.int _ l))), some (.c (.v (.int _ h))) => (0 ≤ h ∧ h ≤ cap) ∧ (0 ≤ l ∧ l ≤ h.toNat) ∧ K l.toNat h.toNat
  | _, _ => False
def elemOf (P : Program) (t : TypeId) : Option (TypeId × Nat) :=
  match P.underlying t with
  | some (.slice e) => match sizeT P e with | some z => some (e, z) | none => none
  | some (.array _ e) => match sizeT P e with | some z => some (e, z) | none => none
  | _ => none
def sliceK (P : Program) (t : TypeId) (x : SV) (lo hi : Option SV) (s : St) (K : SV → Prop) : Prop :=
  match x with
  | .c (.v (.slice a n c)) => match P.underlying t, elemOf P t with
    | some (.slice _), some (_, sz) => boundsK lo hi n c fun l h => K (.c (.v (.slice (subAddr a c l sz) (h - l) (c - l))))
    | _, _ => False
  | .c (.v (.string b)) => match P.underlying t with
    | some .string => boundsK lo hi b.size b.size fun l h => K (.c (.v (.string (b.extract l h))))
    | _ => False
  | .c (.row r) => match P.underlying t, elemOf P t, look s.objs r with
    | some (.slice _), some (_, sz'), some (.row _ sz es) => match Nat.beq sz sz' with
      | true => boundsK lo hi es.length es.length fun l h => K (.c (.sub r sz l h))
      | false => False
    | _, _, _ => False
  | .c (.sub r sz l0 h0) => match P.underlying t, elemOf P t with
    | some (.slice _), some (_, sz') => match Nat.beq sz sz' with
      | true => boundsK lo hi (h0 - l0) (h0 - l0) fun l h => K (.c (.sub r sz (l0 + l) (l0 + h)))
      | false => False
    | _, _ => False
  | .c (.box b o) => match P.underlying t, look s.objs b, elemOf P t with
    | some (.array m e), some (.box _ segs), some (_, 1) => match segFrom segs o with
      | some (.ints _ n _ :: _) => match Nat.beq n m with
        | true => boundsK lo hi n n fun l h => K (.c (.arr b o n l h))
        | false => False
      | _ => False
    | _, _, _ => False
  | .c (.arr b o n l0 h0) => match P.underlying t, elemOf P t with
    | some (.slice _), some (_, 1) => boundsK lo hi (h0 - l0) (h0 - l0) fun l h => K (.c (.arr b o n (l0 + l) (l0 + h)))
    | _, _ => False
  | _ => False
def indexK (P : Program) (t : TypeId) (x : SV) (n : Int) (s : St) (K : SV → Prop) : Prop :=
  match P.underlying t, elemOf P t with
  | some (.array len _), some (_, sz) => match x with
    | .c (.box b o) => match look s.objs b with
      | some (.box _ segs) => match segFrom segs o with
        | some (.ints _ m _ :: _) => match Nat.beq m len, Nat.beq sz 1 with
          | true, true => (0 ≤ n ∧ n < len) ∧ K (.c (.boxi b o m n.toNat))
          | _, _ => False
        | _ => (0 ≤ n ∧ n < len) ∧ K (.c (.box b (o + n.toNat * sz)))
      | _ => False
    | .c (.cell r z i o) => (0 ≤ n ∧ n < len) ∧ K (.c (.cell r z i (o + n.toNat * sz)))
    | .c (.v (.pointer p)) => (0 ≤ n ∧ n < len) ∧ PtrK p fun a => K (.c (.v (.pointer (some (a.add (n.toNat * sz))))))
    | _ => False
  | some (.slice _), some (_, sz) => match x with
    | .c (.v (.slice a len _)) => (0 ≤ n ∧ n < len) ∧ PtrK a fun A => K (.c (.v (.pointer (some (A.add (n.toNat * sz))))))
    | .c (.row r) => match look s.objs r with
      | some (.row _ z es) => match Nat.beq z sz with
        | true => (0 ≤ n ∧ n < es.length) ∧ K (.c (.cell r sz n.toNat 0))
        | false => False
      | _ => False
    | .c (.sub r z lo hi) => match Nat.beq z sz with
      | true => (0 ≤ n ∧ n < ((hi - lo : Nat) : Int)) ∧ K (.c (.cell r sz (lo + n.toNat) 0))
      | false => False
    | .c (.arr b o m lo hi) => match Nat.beq sz 1 with
      | true => (0 ≤ n ∧ n < ((hi - lo : Nat) : Int)) ∧ K (.c (.boxi b o m (lo + n.toNat)))
      | false => False
    | _ => False
  | _, _ => False
/-- Parts of a struct or an array that is built: where each lies, how many cells it has. -/
def placeOf (P : Program) (t : TypeId) (i : Nat) : Option (Nat × Nat) :=
  match P.underlying t with
  | some (.struct fs) => match fs[i]? with
    | some f => match sizeT P f.type with | some z => some (f.offset, z) | none => none
    | none => none
  | some (.array _ e) => match sizeT P e with | some z => some (i * z, z) | none => none
  | _ => none
def buildSegs (P : Program) (t : TypeId) (s : St) : List (Nat × Operand) → List Seg → Option (List Seg)
  | [], l => some l
  | (i, x) :: r, l => match placeOf P t i, (ev s x).segs with
    | some (off, z), some new => match Nat.beq (segLen new) z with
      | true => match segPut l off new with | some l' => buildSegs P t s r l' | none => none
      | false => none
    | _, _ => none
def buildInts (s : St) (k : IntKind) : List (Nat × Operand) → List Int → Option (List Int)
  | [], xs => some xs
  | (i, x) :: r, xs => match ev s x with
    | .c (.v (.int k' n)) => match sameK k k', nth xs i with | true, some _ => buildInts s k r (setNth xs i n) | _, _ => none
    | _ => none
def isIfaceT (P : Program) (t : TypeId) : Bool := match P.underlying t with | some (.interface _) => true | _ => false
def lenK (P : Program) (t : TypeId) (x : SV) (s : St) (K : SV → Prop) : Prop :=
  match P.underlying t, x with
  | some .string, .c (.v (.string b)) => K (.c (.v (.int .i64 (b.size : Int))))
  | some (.slice _), .c (.v (.slice _ n _)) => K (.c (.v (.int .i64 (n : Int))))
  | some (.slice _), .c (.row r) => match look s.objs r with
    | some (.row _ _ es) => K (.c (.v (.int .i64 (es.length : Int))))
    | _ => False
  | some (.slice _), .c (.sub _ _ lo hi) => K (.c (.v (.int .i64 ((hi - lo : Nat) : Int))))
  | some (.slice _), .c (.arr _ _ _ lo hi) => K (.c (.v (.int .i64 ((hi - lo : Nat) : Int))))
  | some (.array m _), _ => K (.c (.v (.int .i64 (m : Int))))
  | some (.map _ _), .c (.v (.map none)) => K (.c (.v (.int .i64 0)))
  | _, _ => False
def capK (P : Program) (t : TypeId) (x : SV) (K : SV → Prop) : Prop :=
  match P.underlying t, x with
  | some (.slice _), .c (.v (.slice _ _ c)) => K (.c (.v (.int .i64 (c : Int))))
  | _, _ => False
/-- A load from a private variable, or from an element of a private row. -/
def loadK (P : Program) (t : TypeId) (x : SV) (s : St) (K : SV → Prop) : Prop :=
  match x with
  | .c (.box b o) => match look s.objs b, sizeT P t, P.underlying t with
    | some (.box _ segs), some z, some _ => match segFrom segs o with
      | some r => match segTake r z with
        | some l => mkK (isAggT P t) l K
        | none => False
      | none => False
    | _, _, _ => False
  | .c (.boxi b o n i) => match look s.objs b, P.underlying t with
    | some (.box _ segs), some (.int _) => match segFrom segs o with
      | some (.ints k m xs :: _) => match Nat.beq m n with
        | true => K (.c (.v (.int k (xs.getD i 0))))
        | false => False
      | _ => False
    | _, _ => False
  | .c (.cell r sz i o) => match look s.objs r, kinds P t, sizeT P t with
    | some (.row _ sz' es), some ks, some z => match Nat.beq sz sz' && Nat.beq (skLen ks) z with
      | true => exSegs ks fun l => (∃ e, es[i]? = some e ∧ (e.drop o).take z = flatD l) ∧ K (mkSV (isAggT P t) l)
      | false => False
    | _, _, _ => False
  | _ => False
def compSV : Comp → SV
  | .c x => .c x
  | .agg l => .agg l
structure Cfg where
  eqs : List TypeId
/-- An assertion that fails: the zero value. -/
def taZero (P : Program) (as : TypeId) (K : SV → Prop) : Prop :=
  match kinds P as, zeroV P as, isAggT P as with
  | some ks, some (.agg c), true => match parse ks c.toList, oneAll c.toList with
    | some l, true => K (.tup [.agg l, .c (.v (.bool false))])
    | _, _ => False
  | _, _, _ => False
/-- An assertion with ok, to a type that is a struct. -/
def taK (P : Program) (as : TypeId) (x : SV) (K : SV → Prop) : Prop :=
  match P.underlying as, x with
  | some (.interface _), _ => False
  | some _, .c (.v (.iface t v)) => match Nat.beq t as with
    | true => match kinds P as, v, isAggT P as with
      | some ks, .agg c, true => match parse ks c.toList, oneAll c.toList with
        | some l, true => K (.tup [.agg l, .c (.v (.bool true))])
        | _, _ => False
      | _, _, _ => False
    | false => taZero P as K
  | some _, .c (.v .nilIface) => taZero P as K
  | _, _ => False
/-- An octet as the element of a slice. -/
def byteV (b : UInt8) : List Value := [.int .u8 (b.toNat : Int)]
/-- A value that an operation makes of values and private variables. -/
def valK (P : Program) (cfg : Cfg) (op : Op) (s : St) (K : SV → Prop) : Prop :=
  match op with
  | .move x | .assign x => K (ev s x)
  | .pick c a b => match ev s c with
    | .c (.v (.bool p)) => K (match p with | true => ev s a | false => ev s b)
    | _ => False
  | .nilCheck x => match ev s x with
    | .c (.v (.pointer p)) => PtrK p fun a => K (.c (.v (.pointer (some a))))
    | .c (.box b o) => K (.c (.box b o))
    | .c (.boxi b o n i) => K (.c (.boxi b o n i))
    | .c (.cell r z i o) => K (.c (.cell r z i o))
    | _ => False
  | .binOp op t x y _ => binK P cfg.eqs op t (ev s x) (ev s y) K
  | .unOp .not _ x => match ev s x with
    | .c (.v (.bool b)) => K (.c (.v (.bool (!b))))
    | _ => False
  | .unOp .neg _ x => match ev s x with
    | .c (.v (.int k n)) => K (.c (.v (.int k (k.wrap (0 - n)))))
    | _ => False
  | .convert src dst x => match P.underlying src, P.underlying dst, ev s x with
    | some _, some (.int k), .c (.v (.int _ n)) => K (.c (.v (.int k (k.wrap n))))
    | some _, some .string, .c (.v (.string b)) => K (.c (.v (.string b)))
    | some (.slice e), some .string, .c (.row r) => match P.underlying e, look s.objs r with
      | some (.int .u8), some (.row _ sz es) => match Nat.beq sz 1 with
        | true => ∃ bs : List UInt8, es = bs.map byteV ∧ K (.c (.v (.string ⟨bs.toArray⟩)))
        | false => False
      | _, _ => False
    | _, _, _ => False
  | .fieldAddr t x f => match fieldOf P t f with
    | some fd => match sizeT P fd.type with
      | some (_ + 1) => match ev s x with
        | .c (.box b o) => K (.c (.box b (o + fd.offset)))
        | .c (.cell r z i o) => K (.c (.cell r z i (o + fd.offset)))
        | .c (.v (.pointer p)) => PtrK p fun a => K (.c (.v (.pointer (some (a.add fd.offset)))))
        | _ => False
      | _ => False
    | none => False
  | .indexAddr t x i => match ev s i with
    | .c (.v (.int _ n)) => indexK P t (ev s x) n s K
    | _ => False
  | .index t x i => match P.underlying t, ev s x, ev s i with
    | some .string, .c (.v (.string b)), .c (.v (.int _ n)) => (0 ≤ n ∧ n < (b.size : Int)) ∧ K (.c (.v (.int .u8 (((b.data.toList.getD n.toNat 0).toNat : Nat) : Int))))
    | some (.array len e), .agg (.ints k m xs :: []), .c (.v (.int _ n)) => match Nat.beq m len, sizeT P e, P.underlying e with
      | true, some 1, some (.int _) => (0 ≤ n ∧ n < (len : Int)) ∧ K (.c (.v (.int k (xs.getD n.toNat 0))))
      | _, _, _ => False
    | _, _, _ => False
  | .field t x f => match fieldOf P t f, ev s x with
    | some fd, .agg l => match sizeT P fd.type, segFrom l fd.offset, P.underlying fd.type with
      | some z, some r, some _ => match segTake r z with
        | some l' => mkK (isAggT P fd.type) l' K
        | none => False
      | _, _, _ => False
    | _, _ => False
  | .extract x i => match ev s x with
    | .tup l => match nth l i with | some c => K (compSV c) | none => False
    | _ => False
  | .slice t x lo hi none => sliceK P t (ev s x) (lo.map (ev s)) (hi.map (ev s)) s K
  | .slice t x (some lo) (some hi) (some mx) => match P.underlying t, elemOf P t, ev s x, ev s lo, ev s hi, ev s mx with
    | some (.slice _), some (_, sz), .c (.v (.slice a _ c)), .c (.v (.int _ l)), .c (.v (.int _ h)), .c (.v (.int _ m)) =>
      (0 ≤ m ∧ m ≤ (c : Int)) ∧ (0 ≤ h ∧ h ≤ m) ∧ (0 ≤ l ∧ l ≤ h) ∧ K (.c (.v (.slice (subAddr a m.toNat l.toNat sz) (h.toNat - l.toNat) (m.toNat - l.toNat))))
    | _, _, _, _, _, _ => False
  | .build t parts => match zeroT P t, kinds P t with
    | some z, some ks => match parse ks z with
      | some l => match P.underlying t with
        | some (.struct _) => match buildSegs P t s parts.toList l with | some l' => K (.agg l') | none => False
        | some (.array _ e) => match l with
          | [.ints k n xs] => match buildInts s k parts.toList xs, sizeT P e with
            | some xs', some 1 => K (.agg [.ints k n xs'])
            | _, _ => False
          | _ => False
        | _ => False
      | none => False
    | _, _ => False
  | .makeInterface t x => match isIfaceT P t, P.underlying t, (ev s x).val with
    | false, some _, some v => K (.c (.v (.iface t v)))
    | _, _, _ => False
  | .makeFunc fn first cap => match vals (first.toList.map (ev s)), vals (cap.toList.map (ev s)), capsOf (cap.toList.map (ev s)) with
    | some a, some b, _ => K (.c (.v (.func fn a.toArray b.toArray)))
    | some a, none, some cs => K (.c (.clo fn a cs))
    | _, _, _ => False
  | .load t x => loadK P t (ev s x) s K
  | .typeAssert x _ as true => taK P as (ev s x) K
  | .call { callee := .builtin .len, args, argTypes } => match argTypes.toList, args.toList with
    | [t], [x] => lenK P t (ev s x) s K
    | _, _ => False
  | .call { callee := .builtin .cap, args, argTypes } => match argTypes.toList, args.toList with
    | [t], [x] => capK P t (ev s x) K
    | _, _ => False
  | .call { callee := .builtin .max, args, argTypes := _ } => match args.toList.map (ev s) with
    | .c (.v (.int k a)) :: r => foldK maxI k a r K
    | _ => False
  | .call { callee := .builtin .min, args, argTypes := _ } => match args.toList.map (ev s) with
    | .c (.v (.int k a)) :: r => foldK minI k a r K
    | _ => False
  | _ => False

/-! ### Private variables and rows -/
def SC.refs (d : Nat) : SC → Bool
  | .box s _ | .boxi s _ _ _ | .arr s _ _ _ _ | .row s | .sub s _ _ _ | .cell s _ _ _ => Nat.beq s d
  | .clo _ _ caps => caps.any fun c => match c with | .b s => Nat.beq s d | .v _ => false
  | _ => false
def Seg.refs (d : Nat) : Seg → Bool
  | .c x => x.refs d
  | _ => false
def Comp.refs (d : Nat) : Comp → Bool
  | .c x => x.refs d
  | .agg l => l.any (Seg.refs d)
def SV.refs (d : Nat) : SV → Bool
  | .c x => x.refs d
  | .agg l => l.any (Seg.refs d)
  | .tup l => l.any (Comp.refs d)
def AObj.refs (d : Nat) : AObj → Bool
  | .box _ l => l.any (Seg.refs d)
  | .row _ _ _ => false
/-- Nothing leads to a variable of this name; there is none. -/
def St.free (s : St) (d : Nat) : Bool :=
  !(s.env.any (SV.refs d)) && (!(s.objs.any fun (k, o) => Nat.beq k d || o.refs d) && !(s.dfr.any fun x => x.sites.any fun k => Nat.beq k d))
def noBad : List Seg → Bool
  | [] => true
  | .c .bad :: _ => false
  | .c (.v _) :: r => noBad r
  | .c (.box _ _) :: r => noBad r
  | .c (.boxi _ _ _ _) :: r => noBad r
  | .c (.arr _ _ _ _ _) :: r => noBad r
  | .c (.row _) :: r => noBad r
  | .c (.sub _ _ _ _) :: r => noBad r
  | .c (.cell _ _ _ _) :: r => noBad r
  | .c (.clo _ _ _) :: r => noBad r
  | .ints _ _ _ :: r => noBad r
def sliceElem (P : Program) (t : TypeId) : Option (TypeId × Nat) :=
  match P.underlying t with
  | some (.slice e) => match sizeT P e with | some z => some (e, z) | none => none
  | _ => none
def elemsOf (P : Program) (sz : Nat) (s : St) : List (Nat × Operand) → Nat → Nat → Option (List (List Value))
  | [], _, 0 => some []
  | _ :: _, _, 0 => none
  | [], _, _ + 1 => none
  | (i, x) :: r, j, n + 1 => match Nat.beq i j, (ev s x).segs with
    | true, some l => match flat l with
      | some cs => match Nat.beq cs.length sz, elemsOf P sz s r (j + 1) n with
        | true, some es => some (cs :: es)
        | _, _ => none
      | none => none
    | _, _ => none
def cellPut (es : List (List Value)) (i o : Nat) (xs : List Value) : List (List Value) :=
  es.modify i fun e => e.take o ++ xs ++ e.drop (o + xs.length)
/-- What is appended, where it is private or nil. -/
def srcOf (s : St) (sz : Nat) : SV → Option (List (List Value))
  | .c (.row r) => match look s.objs r with
    | some (.row _ sz' es) => match Nat.beq sz sz' with | true => some es | false => none
    | _ => none
  | .c (.sub r z lo hi) => match look s.objs r with
    | some (.row _ sz' es) => match Nat.beq sz sz', Nat.beq z sz with | true, true => some ((es.drop lo).take (hi - lo)) | _, _ => none
    | _ => none
  | .c (.arr b off n lo hi) => match look s.objs b, Nat.beq sz 1 with
    | some (.box _ l), true => match segFrom l off with
      | some (.ints k m xs :: _) => match Nat.beq m n with
        | true => some (((xs.drop lo).take (hi - lo)).map fun v => [.int k v])
        | false => none
      | _ => none
    | _, _ => none
  | _ => none
/-- What is appended to: the row that goes, and its elements. -/
def baseOf (s : St) (ty sz : Nat) : SV → Option (Option Nat × List (List Value))
  | .c (.row r) => match look s.objs r with
    | some (.row ty' sz' es) => match Nat.beq ty ty', Nat.beq sz sz' with | true, true => some (some r, es) | _, _ => none
    | _ => none
  | .c (.sub r z lo hi) => match look s.objs r with
    | some (.row ty' sz' es) => match Nat.beq ty ty', Nat.beq sz sz', Nat.beq z sz with | true, true, true => some (some r, (es.drop lo).take (hi - lo)) | _, _, _ => none
    | _ => none
  | .c (.v (.slice none 0 0)) => some (none, [])
  | _ => none
def delO (l : List (Nat × AObj)) : Option Nat → List (Nat × AObj)
  | none => l
  | some r => objDel l r
def SV.site : SV → Option Nat
  | .c (.row r) | .c (.sub r _ _ _) => some r
  | _ => none
def sameN : Option Nat → Option Nat → Bool
  | some a, some b => Nat.beq a b
  | _, _ => false
def roomMax : Nat := 140737488355328
/-- A row, made by an append. -/
def rowK (s : St) (d ty sz bytes : Nat) (base : Option Nat) (es : List (List Value)) (K : St → Prop) : Prop :=
  es.length * bytes ≤ roomMax ∧ K (St.set ⟨s.env, objSet (delO s.objs base) d (.row ty sz es), s.dfr⟩ d (.c (.row d)))
/-- The variable or row that a store writes into. -/
def storeSite : SV → Option Nat
  | .c (.box d _) | .c (.boxi d _ _ _) => some d
  | .c (.cell r _ _ _) => some r
  | _ => none
/-- Operations that make a private variable or a row, or write into one. -/
def objK (P : Program) (o : Oper) (s : St) (H : Heap) (K : St → Prop) : Prop :=
  match o.op, o.dst with
  | .alloc t, some d => match s.free d, zeroT P t, kinds P t with
    | true, some z, some ks => match parse ks z with
      | some l => K (St.set ⟨s.env, objSet s.objs d (.box t l), s.dfr⟩ d (.c (.box d 0)))
      | none => False
    | _, _, _ => False
  | .box t x, some d => match s.free d, (ev s x).segs with
    | true, some l => K (St.set ⟨s.env, objSet s.objs d (.box t l), s.dfr⟩ d (.c (.box d 0)))
    | _, _ => False
  | .store t a x, none => match ev s a with
    | .c (.box b off) => match look s.objs b, (ev s x).segs, sizeT P t with
      | some (.box ty l), some new, some z => match Nat.beq (segLen new) z && noBad new, segPut l off new with
        | true, some l' => K ⟨s.env, objSet s.objs b (.box ty l'), s.dfr⟩
        | _, _ => False
      | _, _, _ => False
    | .c (.boxi b off n i) => match look s.objs b, ev s x, sizeT P t with
      | some (.box ty l), .c (.v (.int k v)), some 1 => match segFrom l off with
        | some (.ints k' m xs :: _) => match Nat.beq m n, sameK k k', segPut l off [.ints k' m (xs.set i v)] with
          | true, true, some l' => K ⟨s.env, objSet s.objs b (.box ty l'), s.dfr⟩
          | _, _, _ => False
        | _ => False
      | _, _, _ => False
    | .c (.cell r sz' i off) => match look s.objs r, (ev s x).segs, sizeT P t with
      | some (.row ty sz es), some new, some z => match flat new with
        | some cs => match Nat.beq cs.length z, Nat.ble (off + z) sz, Nat.beq sz sz' with
          | true, true, true => i < es.length ∧ K ⟨s.env, objSet s.objs r (.row ty sz (match Nat.beq z sz with | true => es.set i cs | false => cellPut es i off cs)), s.dfr⟩
          | _, _, _ => False
        | none => False
      | _, _, _ => False
    | _ => False
  | .buildSlice t n parts, some d => match s.free d, sliceElem P t with
    | true, some (e, sz) => match elemsOf P sz s parts.toList 0 n, Nat.ble (n * sz) 16777216 with
      | some es, true => match zeroT P e with
        | some _ => K (St.set ⟨s.env, objSet s.objs d (.row e sz es), s.dfr⟩ d (.c (.row d)))
        | none => False
      | _, _ => False
    | _, _ => False
  | .makeSlice t n c, some d => match s.free d, sliceElem P t with
    | true, some (e, sz) => match ev s n, ev s c, zeroT P e, bytesT P e with
      | .c (.v (.int .i64 n)), .c (.v (.int .i64 c)), some z, some (by_ + 1) => match Nat.beq z.length sz with
        | true => (0 ≤ n ∧ c = n ∧ n * ((by_ + 1 : Nat) : Int) ≤ roomMax) ∧ K (St.set ⟨s.env, objSet s.objs d (.row e sz (List.replicate n.toNat z)), s.dfr⟩ d (.c (.row d)))
        | false => False
      | _, _, _, _ => False
    | _, _ => False
  | .call { callee := .builtin .append, args, argTypes }, some d => match s.free d, argTypes.toList, args.toList with
    | true, [t, t2], [x, y] => match P.underlying t2, sliceElem P t with
      | some (.slice _), some (e, sz) => match bytesT P e, zeroT P e with
        | some (by_ + 1), some z => match Nat.beq z.length sz with
          | true => match ev s x with
            | .c (.arr b off n 0 hi) => match look s.objs b, srcOf s sz (ev s y), Nat.beq sz 1, Nat.beq hi n && Nat.ble 1 n with
              | some (.box _ l), some (x1 :: es2), true, true => match segFrom l off with
                | some (.ints k m xs :: _) => match Nat.beq m n with
                  | true => rowK s d e sz (by_ + 1) none ((xs.map fun v => [.int k v]) ++ x1 :: es2) K
                  | false => False
                | _ => False
              | _, _, _, _ => False
            | x' => match baseOf s e sz x' with
              | some (base, es) => match ev s y with
                | .c (.v (.slice a n c)) => ∃ es2, SliceAt H (.slice a n c) sz es2 ∧ rowK s d e sz (by_ + 1) base (es ++ es2) K
                | y' => match srcOf s sz y', sameN base y'.site with
                  | some es2, false => rowK s d e sz (by_ + 1) base (es ++ es2) K
                  | _, _ => False
              | none => False
          | false => False
        | _, _ => False
      | _, _ => False
    | _, _, _ => False
  | _, _ => False

/-- The row that an append takes. -/
def appSite (s : St) (o : Oper) : Option Nat := match o.op with
  | .call { callee := .builtin .append, args, argTypes := _ } => (match args.toList with | x :: _ => (ev s x).site | [] => none)
  | _ => none
def isAlloc : Op → Bool
  | .alloc _ | .box _ _ | .buildSlice _ _ _ | .makeSlice _ _ _ => true
  | _ => false

/-! ### What looks into memory -/
def keyAt (es : List MapEntry) (x : Int) : Option Value :=
  match es with
  | [] => none
  | e :: r => match e.key with
    | .int _ y => if x = y then some e.val else keyAt r x
    | _ => keyAt r x
def IntKeys (k : IntKind) (es : List MapEntry) : Prop := ∀ e ∈ es, ∃ n, e.key = .int k n
/-- A map of numbers: what stands at a key, and whether anything does. -/
def LookAt (H : Heap) (r : Option Nat) (k : IntKind) (x : Int) (zero v : Value) (ok : Bool) : Prop :=
  match r with
  | none => v = zero ∧ ok = false
  | some r => ∃ es clk, H r = some (.map es clk) ∧ IntKeys k es.toList ∧
    match keyAt es.toList x with
    | some u => u = v ∧ ok = true
    | none => v = zero ∧ ok = false
def mkVal (agg : Bool) (l : List Value) : Value := match agg with
  | true => .agg l.toArray
  | false => match l with | [x] => x | _ => undef
def mkComp (agg : Bool) (l : List Seg) : Comp := match agg with
  | true => .agg l
  | false => match l with | [.c x] => .c x | _ => .c .bad
def MapK (r : Option Nat) (K : Nat → Prop) : Prop := match r with | some r => K r | none => False
def readK (P : Program) (op : Op) (s : St) (H : Heap) (K : SV → Prop) : Prop :=
  match op with
  | .load t x => match ev s x, kinds P t, sizeT P t with
    | .c (.v (.pointer p)), some ks, some z => match Nat.beq (skLen ks) z with
      | true => PtrK p fun a => exSegs ks fun l => H.has a (flatD l) ∧ K (mkSV (isAggT P t) l)
      | false => False
    | _, _, _ => False
  | .lookup t x i ok => match P.underlying t, ev s x, ev s i with
    | some (.map kt et), .c (.v (.map r)), .c (.v (.int k n)) => match P.underlying kt, kinds P et, zeroV P et with
      | some (.int k'), some ks, some z => match sameK k k' with
        | true => exSegs ks fun l => match ok with
          | true => ∃ b, LookAt H r k n z (mkVal (isAggT P et) (flatD l)) b ∧ K (.tup [mkComp (isAggT P et) l, .c (.v (.bool b))])
          | false => (∃ b, LookAt H r k n z (mkVal (isAggT P et) (flatD l)) b) ∧ K (mkSV (isAggT P et) l)
        | false => False
      | _, _, _ => False
    | _, _, _ => False
  | .call { callee := .builtin .len, args, argTypes } => match argTypes.toList, args.toList with
    | [t], [x] => match P.underlying t, ev s x with
      | some (.map _ _), .c (.v (.map r)) => MapK r fun r => ∃ es clk, H r = some (.map es clk) ∧ K (.c (.v (.int .i64 (es.size : Int))))
      | some (.chan _ _), .c (.v (.chan r)) => MapK r fun r => ∃ cap buf cl sd rc, H r = some (.chan cap buf cl sd rc false) ∧ K (.c (.v (.int .i64 (buf.size : Int))))
      | _, _ => False
    | _, _ => False
  | .convert src dst x => match P.underlying src, P.underlying dst, ev s x with
    | some (.slice e), some .string, .c (.v (.slice a n c)) => match P.underlying e with
      | some (.int .u8) => ∃ bs : List UInt8, SliceAt H (.slice a n c) 1 (bs.map byteV) ∧ K (.c (.v (.string ⟨bs.toArray⟩)))
      | _ => False
    | _, _, _ => False
  | _ => False

/-! ### What is handed over -/
inductive LK where
  | row (ty sz : Nat)
  | box (ty : Nat)
  | gone
structure Lend where
  site : Nat
  val : Value
  kind : LK
def St.del (s : St) (d : Nat) : St := ⟨s.env, objDel s.objs d, s.dfr⟩
/-- What stands in a variable that is told: its rows are told with it. -/
def lendIn : List Seg → St → Heap → (List Value → St → Heap → List Lend → Prop) → Prop
  | [], s, H, K => K [] s H []
  | .c x :: r, s, H, K => match x with
    | .v x => lendIn r s H fun l s' H' ls => K (x :: l) s' H' ls
    | .row d => match look s.objs d with
      | some (.row ty sz es) => ∀ v H', H ≤ H' → (∀ b, blockOf v = some b → H b = none) → (∀ b o, H' b = some o → H b = some o ∨ blockOf v = some b) → RowAt H' v ty sz es →
          lendIn r (s.del d) H' fun l s' H'' ls => K (v :: l) s' H'' (⟨d, v, .gone⟩ :: ls)
      | _ => False
    | _ => False
  | .ints k _ xs :: r, s, H, K => lendIn r s H fun l s' H' ls => K (xs.map (.int k) ++ l) s' H' ls
def lendBox (d : Nat) (s : St) (H : Heap) (K : Value → St → Heap → List Lend → Prop) : Prop :=
  match look s.objs d with
  | some (.box ty l) => lendIn l (s.del d) H fun cs s' H' ls => ∀ b, H' b = none → K (.pointer (some ⟨b, 0, none⟩)) s' (H'.upd b (.cells cs.toArray ty (0, 0))) (⟨d, .pointer (some ⟨b, 0, none⟩), .box ty⟩ :: ls)
  | _ => False
def lendCaps : List Cap → St → Heap → (List Value → St → Heap → List Lend → Prop) → Prop
  | [], s, H, K => K [] s H []
  | .v x :: r, s, H, K => lendCaps r s H fun vs s' H' ls => K (x :: vs) s' H' ls
  | .b d :: r, s, H, K => lendBox d s H fun v s' H' ls => lendCaps r s' H' fun vs s'' H'' ls' => K (v :: vs) s'' H'' (ls ++ ls')
/-- One cell that is handed over: private rows, and private variables whose address it is, are lent. -/
def lendC (x : SC) (s : St) (H : Heap) (K : Value → St → Heap → List Lend → Prop) : Prop :=
  match x with
  | .v v => K v s H []
  | .row d => match look s.objs d with
    | some (.row ty sz es) => ∀ v H', H ≤ H' → (∀ b, blockOf v = some b → H b = none) → (∀ b o, H' b = some o → H b = some o ∨ blockOf v = some b) → RowAt H' v ty sz es →
        K v (s.del d) H' [⟨d, v, .row ty sz⟩]
    | _ => False
  | .box d 0 => lendBox d s H K
  | .clo fn first caps => lendCaps caps s H fun vs s' H' ls => K (.func fn first.toArray vs.toArray) s' H' ls
  | _ => False
def lendSegs : List Seg → St → Heap → (List Value → St → Heap → List Lend → Prop) → Prop
  | [], s, H, K => K [] s H []
  | .c x :: r, s, H, K => lendC x s H fun v s' H' ls => lendSegs r s' H' fun vs s'' H'' ls' => K (v :: vs) s'' H'' (ls ++ ls')
  | .ints k _ xs :: r, s, H, K => lendSegs r s H fun vs s' H' ls => K (xs.map (.int k) ++ vs) s' H' ls
def lendV (x : SV) (s : St) (H : Heap) (K : Value → St → Heap → List Lend → Prop) : Prop :=
  match x with
  | .c x => lendC x s H K
  | .agg l => lendSegs l s H fun cs s' H' ls => K (.agg cs.toArray) s' H' ls
  | .tup _ => False
def lendK : List SV → St → Heap → (List Value → St → Heap → List Lend → Prop) → Prop
  | [], s, H, K => K [] s H []
  | x :: r, s, H, K => lendV x s H fun v s' H' ls => lendK r s' H' fun vs s'' H'' ls' => K (v :: vs) s'' H'' (ls ++ ls')
def Heap.delO (H : Heap) : Option Nat → Heap
  | none => H
  | some b => H.del b
/-- What was lent comes back. -/
def backK (P : Program) : List Lend → St → Heap → (St → Heap → Prop) → Prop
  | [], s, H, K => K s H
  | ⟨d, v, k⟩ :: r, s, H, K => match k with
    | .row ty sz => ∃ es, RowAt H v ty sz es ∧ backK P r ⟨s.env, objSet s.objs d (.row ty sz es), s.dfr⟩ (H.delO (blockOf v)) K
    | .box ty => match kinds P ty with
      | some ks => exSegs ks fun l => (∃ b, blockOf v = some b ∧ H b = some (.cells (flatD l).toArray ty (0, 0))) ∧ backK P r ⟨s.env, objSet s.objs d (.box ty l), s.dfr⟩ (H.delO (blockOf v)) K
      | none => False
    | .gone => backK P r s H K
/-! ### What changes memory -/
def writeCells (c : Array Value) (i : Nat) : List Value → Array Value
  | [] => c
  | x :: r => writeCells (c.setIfInBounds i x) (i + 1) r
def mapPut (es : Array MapEntry) (clk : Nat) (k : IntKind) (x : Int) (v : Value) : Obj :=
  match es.toList.findIdx? (fun e => match e.key with | .int _ y => x == y | _ => false) with
  | some i => .map (es.modify i fun e => { e with key := .int k x, val := v }) clk
  | none => .map (es.push { key := .int k x, val := v, born := clk }) (clk + 1)
def mapDel (es : Array MapEntry) (clk : Nat) (x : Int) : Obj :=
  match es.toList.findIdx? (fun e => match e.key with | .int _ y => x == y | _ => false) with
  | some i => .map (es.eraseIdxIfInBounds i) clk
  | none => .map es clk
/-- The cells of a slice become a type's zero cells. -/
def ClearK (a : Option Addr) (n sz : Nat) (z : List Value) (H : Heap) (K : Heap → Prop) : Prop :=
  (n = 0 ∧ K H) ∨ ∃ A c ty, a = some A ∧ (H A.block = some (.cells c ty (0, 0)) ∧ A.spot = none ∧ A.off + n * sz ≤ c.size) ∧ K (H.upd A.block (.cells (writeCells c A.off (List.replicate n z).flatten) ty (0, 0)))
/-- Elements come to stand behind the first ones of a slice. -/
def FillK (a : Option Addr) (n sz : Nat) (es : List (List Value)) (H : Heap) (K : Heap → Prop) : Prop :=
  (es = [] ∧ K H) ∨ ∃ A c ty, a = some A ∧ (H A.block = some (.cells c ty (0, 0)) ∧ A.spot = none ∧ A.off + n * sz + es.length * sz ≤ c.size) ∧ K (H.upd A.block (.cells (writeCells c (A.off + n * sz) es.flatten) ty (0, 0)))
/-- The same, left as it is where conditions are printed. -/
def FillX (a : Option Addr) (n sz : Nat) (es : List (List Value)) (H : Heap) (K : Heap → Prop) : Prop := FillK a n sz es H K
/-- A copy: from a known slice, or a string. -/
def copyK (P : Program) (t2 : TypeId) (sz : Nat) (a : Option Addr) (n : Nat) (y : SV) (H : Heap) (K : Nat → Heap → Prop) : Prop :=
  match P.underlying t2, y with
  | some (.slice _), .c (.v (.slice a2 m c2)) => ∃ es, SliceAt H (.slice a2 (min m n) c2) sz es ∧ FillX a 0 sz es H fun H' => K (min m n) H'
  | some .string, .c (.v (.string b)) => match Nat.beq sz 1 with
    | true => FillX a 0 sz ((b.data.toList.take n).map fun x => [.int .u8 (x.toNat : Int)]) H fun H' => K (min b.size n) H'
    | false => False
  | _, _ => False
def effK (P : Program) (o : Oper) (s : St) (H : Heap) (K : St → Heap → Prop) : Prop :=
  match o.op with
  | .store t a x => match ev s a, (ev s x).segs, sizeT P t with
    | .c (.v (.pointer p)), some l, some z => match Nat.beq (segLen l) z with
      | true => lendSegs l s H fun cs s' H1 _ => PtrK p fun A => ∃ c ty, (H1 A.block = some (.cells c ty (0, 0)) ∧ A.spot = none ∧ A.off + z ≤ c.size) ∧
          K (s'.put o.dst (.c .bad)) (H1.upd A.block (.cells (writeCells c A.off cs) ty (0, 0)))
      | false => False
    | _, _, _ => False
  | .makeChan t x => match P.underlying t, ev s x with
    | some (.chan _ e), .c (.v (.int _ n)) => match bytesT P e with
      | some b => (0 ≤ n ∧ n ≤ 1048576 ∧ (b : Int) ≤ 1048576) ∧ ∀ r, H r = none → K (s.put o.dst (.c (.v (.chan (some r))))) (H.upd r (.chan n.toNat #[] false 0 0 false))
      | none => False
    | _, _ => False
  | .makeMap t none => ∀ r, H r = none → K (s.put o.dst (.c (.v (.map (some r))))) (H.upd r (.map #[] 0))
  | .convert src dst x => match P.underlying src, P.underlying dst, ev s x with
    | some .string, some (.slice e), .c (.v (.string b)) => match P.underlying e with
      | some (.int .u8) => ∀ (r cap : Nat) (H' : Heap), H ≤ H' → H r = none → (∀ x o, H' x = some o → H x = some o ∨ x = r) →
          SliceAt H' (.slice (some ⟨r, 0, none⟩) b.size cap) 1 (b.data.toList.map byteV) → K (s.put o.dst (.c (.v (.slice (some ⟨r, 0, none⟩) b.size cap)))) H'
      | _ => False
    | _, _, _ => False
  | .mapUpdate t m k x => match P.underlying t, ev s m, ev s k with
    | some (.map kt _), .c (.v (.map r)), .c (.v (.int ik n)) => match P.underlying kt with
      | some (.int ik') => match sameK ik ik' with
        | true => lendV (ev s x) s H fun v s' H1 _ => MapK r fun r => ∃ es clk, (H1 r = some (.map es clk) ∧ IntKeys ik es.toList) ∧ K (s'.put o.dst (.c .bad)) (H1.upd r (mapPut es clk ik n v))
        | false => False
      | _ => False
    | _, _, _ => False
  | .call { callee := .builtin .clear, args, argTypes } => match argTypes.toList, args.toList with
    | [t], [x] => match sliceElem P t, ev s x with
      | some (e, sz), .c (.v (.slice a n _)) => match zeroT P e with
        | some z => match Nat.beq z.length sz with
          | true => ClearK a n sz z H fun H' => K (s.put o.dst (.c .bad)) H'
          | false => False
        | none => False
      | _, _ => False
    | _, _ => False
  | .call { callee := .builtin .copy, args, argTypes } => match argTypes.toList, args.toList with
    | [t, t2], [x, y] => match sliceElem P t, ev s x with
      | some (_, sz), .c (.v (.slice a n _)) => copyK P t2 sz a n (ev s y) H fun m H' => K (s.put o.dst (.c (.v (.int .i64 (m : Int))))) H'
      | _, _ => False
    | _, _ => False
  | .call { callee := .builtin .delete, args, argTypes } => match argTypes.toList, args.toList with
    | t :: _, [m, k] => match P.underlying t, ev s m, ev s k with
      | some (.map kt _), .c (.v (.map r)), .c (.v (.int ik n)) => match P.underlying kt with
        | some (.int ik') => match sameK ik ik' with
          | true => MapK r fun r => ∃ es clk, (H r = some (.map es clk) ∧ IntKeys ik es.toList) ∧ K (s.put o.dst (.c .bad)) (H.upd r (mapDel es clk n))
          | false => False
        | _ => False
      | _, _, _ => False
    | _, _ => False
  | _ => False

/-! ### Calls -/
def exComps : List (Bool × List SK) → (List Comp → Prop) → Prop
  | [], K => K []
  | (a, ks) :: r, K => exSegs ks fun l => exComps r fun cs => K (mkComp a l :: cs)
def compKinds (P : Program) : List TypeId → Option (List (Bool × List SK))
  | [] => some []
  | t :: r => match kinds P t, compKinds P r with
    | some ks, some l => some ((isAggT P t, ks) :: l)
    | _, _ => none
def compVal : Comp → Value
  | .c (.v x) => x
  | .c _ => undef
  | .agg l => .agg (flatD l).toArray
/-- What a call hands back, of a type. -/
def retK (P : Program) (t : TypeId) (e : Ending) (K : SV → Prop) : Prop :=
  match P.underlying t with
  | some (.tuple ts) => match compKinds P ts.toList with
    | some ks => exComps ks fun cs => e = .returned (.tuple (cs.map compVal).toArray) ∧ K (.tup cs)
    | none => False
  | _ => match kinds P t with
    | some ks => exSegs ks fun l => e = .returned (mkVal (isAggT P t) (flatD l)) ∧ K (mkSV (isAggT P t) l)
    | none => False
/-- What is to hold behind a call. -/
def callR (P : Program) (o : Oper) (s : St) (ls : List Lend) (Kp : Option (St → List PanicEntry → Heap → Prop)) (K : St → Heap → Prop) (e : Ending) (H' : Heap) : Prop :=
  match Kp with
  | none => retK P o.type e fun x => backK P ls s H' fun s' H'' => K (s'.put o.dst x) H''
  | some kp => (retK P o.type e fun x => backK P ls s H' fun s' H'' => K (s'.put o.dst x) H'') ∨ ∃ c, e = .panicked c ∧ kp s c H'
/-- A call: Kp: what is to hold where it panics (none: it does not). -/
def callK (P : Program) (o : Oper) (s : St) (H : Heap) (Kp : Option (St → List PanicEntry → Heap → Prop)) (K : St → Heap → Prop) : Prop :=
  match o.op with
  | .call { callee := .value f, args, argTypes := _ } =>
    match f with
    | .func g => lendK (args.toList.map (ev s)) s H fun vs s' Hl ls => Meets P g vs Hl (callR P o s' ls Kp K)
    | f => lendV (ev s f) s H fun fv s1 H1 ls1 => lendK (args.toList.map (ev s)) s1 H1 fun vs s' Hl ls => MeetsV P fv vs Hl (callR P o s' (ls1 ++ ls) Kp K)
  | _ => False

/-! ### A statement's operations, one behind the other -/
inductive Cls where
  | val | obj | read | eff | call | panic | dfr | bad
def SV.isReal : SV → Bool
  | .c (.v _) => true
  | _ => false
def isMapT (P : Program) (t : TypeId) : Bool := match P.underlying t with | some (.map _ _) | some (.chan _ _) => true | _ => false
def clsOf (P : Program) (o : Oper) (s : St) : Cls :=
  match o.op with
  | .move _ | .assign _ | .pick _ _ _ | .nilCheck _ | .binOp _ _ _ _ _ | .unOp _ _ _ | .fieldAddr _ _ _ | .indexAddr _ _ _ | .index _ _ _
  | .field _ _ _ | .extract _ _ | .slice _ _ _ _ _ | .build _ _ | .makeInterface _ _ | .makeFunc _ _ _ | .typeAssert _ _ _ _ => .val
  | .convert src dst x => match P.underlying src, P.underlying dst with
    | some .string, some (.slice _) => .eff
    | some (.slice _), some .string => match (ev s x).isReal with | true => .read | false => .val
    | _, _ => .val
  | .load _ x => match (ev s x).isReal with | true => .read | false => .val
  | .lookup _ _ _ _ => .read
  | .alloc _ | .box _ _ | .buildSlice _ _ _ | .makeSlice _ _ _ => .obj
  | .store _ a _ => match (ev s a).isReal with | true => .eff | false => .obj
  | .makeMap _ _ | .mapUpdate _ _ _ _ | .makeChan _ _ => .eff
  | .panic _ => .panic
  | .call { callee := .value _, args := _, argTypes := _ } => .call
  | .call { callee := .builtin .len, args := _, argTypes } => match argTypes.toList with
    | [t] => match isMapT P t with | true => .read | false => .val
    | _ => .bad
  | .call { callee := .builtin .max, args := _, argTypes := _ } | .call { callee := .builtin .min, args := _, argTypes := _ } => .val
  | .call { callee := .builtin .cap, args := _, argTypes := _ } => .val
  | .call { callee := .builtin .append, args := _, argTypes := _ } => .obj
  | .call { callee := .builtin .delete, args := _, argTypes := _ } | .call { callee := .builtin .clear, args := _, argTypes := _ } => .eff
  | .call { callee := .builtin .copy, args := _, argTypes := _ } => .eff
  | .defer _ => .dfr
  | _ => .bad
/-! ### Loops -/
inductive FK where
  | int (k : IntKind) | bool | str | ptr | slc | val
def FK.ty : FK → Type
  | .int _ => Int
  | .bool => Bool
  | .str => ByteArray
  | .ptr => Option Addr
  | .slc => Option Addr × Nat × Nat
  | .val => Value
def FK.mk : (f : FK) → f.ty → Value
  | .int k, n => .int k n
  | .bool, b => .bool b
  | .str, s => .string s
  | .ptr, a => .pointer a
  | .slc, x => .slice x.1 x.2.1 x.2.2
  | .val, v => v
def FK.getK : (f : FK) → Value → (f.ty → Prop) → Prop
  | .int k, .int k' n, K => match sameK k k' with | true => K n | false => False
  | .bool, .bool b, K => K b
  | .str, .string s, K => K s
  | .ptr, .pointer a, K => K a
  | .slc, .slice a n c, K => K (a, n, c)
  | .val, v, K => K v
  | _, _, _ => False
inductive PK where
  | f (k : FK) | rows | ints
def PK.ty : PK → Type
  | .f k => k.ty
  | .rows => List (List Value)
  | .ints => List Int
def PTy : List PK → Type
  | [] => Unit
  | k :: r => k.ty × PTy r
/-- What a slot holds at a loop's head: a value of a kind, or a row (named as the slot). -/
inductive SlotH where
  | f (t : Nat) (k : FK)
  | row (t ty sz : Nat)
  | own (t ty sz : Nat)
def SlotH.pk : SlotH → PK
  | .f _ k => .f k
  | .row _ _ _ => .rows
  | .own _ _ _ => .rows
def SlotH.t : SlotH → Nat
  | .f t _ => t
  | .row t _ _ => t
  | .own t _ _ => t
inductive SegH where
  | f (k : FK)
  | ints (k : IntKind) (n : Nat)
def SegH.pk : SegH → PK
  | .f k => .f k
  | .ints _ _ => .ints
/-- What a private variable is at a loop's head: as it was ahead of it, or of these segments. -/
inductive ObjH where
  | keep (s : Nat)
  | box (s ty : Nat) (l : List SegH)
def PTy2 : List (List PK) → Type
  | [] => Unit
  | k :: r => PTy k × PTy2 r
def ObjH.pks : ObjH → List PK
  | .keep _ => []
  | .box _ _ l => l.map SegH.pk
structure LHint where
  fix : List Nat
  slots : List SlotH
  objs : List ObjH
def LHint.Par (h : LHint) : Type := PTy (h.slots.map SlotH.pk) × PTy2 (h.objs.map ObjH.pks)
def restrictEnv (keep : List Nat) : List SV → Nat → List SV
  | [], _ => []
  | x :: r, i => (match memN keep i with | true => x | false => .c .bad) :: restrictEnv keep r (i + 1)
def gets (s : St) : List Nat → List SV
  | [] => []
  | t :: r => s.get t :: gets s r
def sameLen : List SV → List SV → Bool
  | [], [] => true
  | _ :: l, _ :: r => sameLen l r
  | _, _ => false
/-- A slice that a slot holds becomes a private row, named as the slot. -/
def adoptK (s : St) (t ty sz : Nat) (H : Heap) (K : St → Heap → Prop) : Prop :=
  match s.get t with
  | .c (.v v) => match (s.set t (.c .bad)).free t with
    | true => ∃ es, RowAt H v ty sz es ∧ K (St.set ⟨s.env, objSet s.objs t (.row ty sz es), s.dfr⟩ t (.c (.row t))) (H.delO (blockOf v))
    | false => False
  | _ => False
def normTo (s : St) (t d ty sz : Nat) (K : St → Prop) : Prop := match (s.set t (.c .bad)).free d, baseOf s ty sz (s.get t) with
  | true, some (base, es) => K (St.set ⟨s.env, objSet (delO s.objs base) d (.row ty sz es), s.dfr⟩ t (.c (.row d)))
  | _, _ => False
/-- A row that a slot holds gets the slot's name; what had the name, and is not looked at any more, goes. -/
def normRow (s : St) (t ty sz : Nat) (K : St → Prop) : Prop := match s.get t with
    | .c (.row d) => match Nat.beq d t with
      | true => K s
      | false => normTo ⟨s.env, objDel s.objs t, s.dfr⟩ t t ty sz K
    | .c (.sub d z lo hi) => match Nat.beq d t with
      | true => normTo s t (t + 100000) ty sz fun s' => normTo s' t t ty sz K
      | false => normTo ⟨s.env, objDel s.objs t, s.dfr⟩ t t ty sz K
    | x => normTo ⟨s.env, objDel s.objs t, s.dfr⟩ t t ty sz K
def isRealSV : SV → Bool
  | .c (.v _) => true
  | _ => false
/-- A row that a slot holds becomes known memory. -/
def pubSl (t : Nat) (s : St) (H : Heap) (K : St → Heap → Prop) : Prop := match s.get t with
  | .c (.row d) => match look s.objs d with
    | some (.row ty sz es) => ∀ (a : Option Addr) (c : Nat) (H' : Heap), H ≤ H' → (∀ b, blockOf (.slice a es.length c) = some b → H b = none) → (∀ b o, H' b = some o → H b = some o ∨ blockOf (.slice a es.length c) = some b) →
        RowAt H' (.slice a es.length c) ty sz es → K (St.set (s.del d) t (.c (.v (.slice a es.length c)))) H'
    | _ => False
  | _ => K s H
def normRows : List SlotH → St → Heap → (St → Heap → Prop) → Prop
  | [], s, H, K => K s H
  | .f t k :: r, s, H, K => match k with
    | .slc => pubSl t s H fun s' H' => normRows r s' H' K
    | _ => normRows r s H K
  | .row t ty sz :: r, s, H, K => normRow s t ty sz fun s' => normRows r s' H K
  | .own t ty sz :: r, s, H, K => match isRealSV (s.get t) with
    | true => adoptK ⟨s.env, objDel s.objs t, s.dfr⟩ t ty sz H fun s' H' => normRows r s' H' K
    | false => normRow s t ty sz fun s' => normRows r s' H K
def getSlots (s : St) : (l : List SlotH) → (PTy (l.map SlotH.pk) → Prop) → Prop
  | [], K => K ()
  | .f t k :: r, K => match s.get t with
    | .c (.v v) => k.getK v fun x => getSlots s r fun xs => K (x, xs)
    | _ => False
  | .row t ty sz :: r, K => match s.get t, look s.objs t with
    | .c (.row d), some (.row ty' sz' es) => match Nat.beq d t && Nat.beq ty ty' && Nat.beq sz sz' with
      | true => getSlots s r fun xs => K (es, xs)
      | false => False
    | _, _ => False
  | .own t ty sz :: r, K => match s.get t, look s.objs t with
    | .c (.row d), some (.row ty' sz' es) => match Nat.beq d t && Nat.beq ty ty' && Nat.beq sz sz' with
      | true => getSlots s r fun xs => K (es, xs)
      | false => False
    | _, _ => False
def getSegs : (l : List SegH) → List Seg → (PTy (l.map SegH.pk) → Prop) → Prop
  | [], [], K => K ()
  | .f k :: r, .c (.v v) :: l, K => k.getK v fun x => getSegs r l fun xs => K (x, xs)
  | .ints k n :: r, .ints k' n' xs :: l, K => match sameK k k' && Nat.beq n n' with
    | true => getSegs r l fun ys => K (xs, ys)
    | false => False
  | _, _, _ => False
/-- Two values are the same: asked of their parts. -/
def eqSC : SC → SC → Prop → Prop
  | .v (.int k a), .v (.int k' b), X => match sameK k k' with | true => a = b ∧ X | false => False
  | .v (.bool a), .v (.bool b), X => a = b ∧ X
  | .v (.pointer a), .v (.pointer b), X => a = b ∧ X
  | .v (.slice a n c), .v (.slice b m d), X => a = b ∧ n = m ∧ c = d ∧ X
  | .v (.map a), .v (.map b), X => a = b ∧ X
  | .v a, .v b, X => a = b ∧ X
  | .box s o, .box s' o', X => match Nat.beq s s' with | true => o = o' ∧ X | false => False
  | .row s, .row s', X => match Nat.beq s s' with | true => X | false => False
  | .bad, .bad, X => X
  | x, y, X => x = y ∧ X
def eqSegs : List Seg → List Seg → Prop → Prop
  | [], [], X => X
  | .c x :: r, .c y :: l, X => eqSC x y (eqSegs r l X)
  | .ints k n xs :: r, .ints k' n' ys :: l, X => match sameK k k' && Nat.beq n n' with | true => xs = ys ∧ eqSegs r l X | false => False
  | _, _, _ => False
def eqSV : SV → SV → Prop → Prop
  | .c x, .c y, X => eqSC x y X
  | .agg l, .agg r, X => eqSegs l r X
  | x, y, X => x = y ∧ X
def eqSVs : List SV → List SV → Prop → Prop
  | [], [], X => X
  | x :: l, y :: r, X => eqSV x y (eqSVs l r X)
  | _, _, _ => False
def eqO : Option AObj → Option AObj → Prop → Prop
  | none, none, X => X
  | some (.box t l), some (.box t' r), X => match Nat.beq t t' with | true => eqSegs l r X | false => False
  | some (.row t z es), some (.row t' z' es'), X => match Nat.beq t t' && Nat.beq z z' with | true => es = es' ∧ X | false => False
  | _, _, _ => False
def eqD : List ADef → List ADef → Prop → Prop
  | [], [], X => X
  | a, b, X => a = b ∧ X
def getObjs (s0 s : St) : (l : List ObjH) → (PTy2 (l.map ObjH.pks) → Prop) → Prop
  | [], K => K ()
  | .keep d :: r, K => eqO (look s.objs d) (look s0.objs d) (getObjs s0 s r fun xs => K ((), xs))
  | .box d ty l :: r, K => match look s.objs d with
    | some (.box ty' segs) => match Nat.beq ty ty' with
      | true => getSegs l segs fun x => getObjs s0 s r fun xs => K (x, xs)
      | false => False
    | _ => False
def mkSegs : (l : List SegH) → PTy (l.map SegH.pk) → List Seg
  | [], _ => []
  | .f k :: r, x => .c (.v (k.mk x.1)) :: mkSegs r x.2
  | .ints k n :: r, x => .ints k n x.1 :: mkSegs r x.2
def mkObjs (s0 : St) : (l : List ObjH) → PTy2 (l.map ObjH.pks) → List (Nat × AObj)
  | [], _ => []
  | .keep d :: r, x => match look s0.objs d with
    | some o => (d, o) :: mkObjs s0 r x.2
    | none => mkObjs s0 r x.2
  | .box d ty l :: r, x => (d, .box ty (mkSegs l x.1)) :: mkObjs s0 r x.2
def setSlots : (l : List SlotH) → PTy (l.map SlotH.pk) → St → St
  | [], _, s => s
  | .f t k :: r, x, s => setSlots r x.2 (s.set t (.c (.v (k.mk x.1))))
  | .row t ty sz :: r, x, s => setSlots r x.2 (St.set ⟨s.env, objSet s.objs t (.row ty sz x.1), s.dfr⟩ t (.c (.row t)))
  | .own t ty sz :: r, x, s => setSlots r x.2 (St.set ⟨s.env, objSet s.objs t (.row ty sz x.1), s.dfr⟩ t (.c (.row t)))
/-- The state at the head. -/
def rebuild (h : LHint) (s0 : St) (p : h.Par) : St := setSlots h.slots p.1 ⟨restrictEnv h.fix s0.env 0, mkObjs s0 h.objs p.2, s0.dfr⟩
/-- A state as one at the head. -/
def toHead (h : LHint) (s0 s : St) (H : Heap) (K : h.Par → Heap → Prop) : Prop :=
  normRows h.slots ⟨restrictEnv (h.fix ++ h.slots.map SlotH.t) s.env 0, s.objs, s.dfr⟩ H fun s2 H2 =>
    match sameLen s2.env s0.env with
    | true => eqD s2.dfr s0.dfr (eqSVs (gets s2 h.fix) (gets s0 h.fix) (getSlots s2 h.slots fun p1 => getObjs s0 s2 h.objs fun p2 => K (p1, p2) H2))
    | false => False
def LoopP {α : Type} (T : (α → Heap → Prop) → α → Heap → Prop) (p : α) (H : Heap) : Prop :=
  ∃ (I : α → Heap → Prop) (μ : α → Heap → Nat), I p H ∧ ∀ p H, I p H → T (fun p' H' => I p' H' ∧ μ p' H' < μ p H) p H
def CutP {α : Type} (A : (α → Heap → Prop) → Prop) (B : α → Heap → Prop) : Prop :=
  ∃ I : α → Heap → Prop, A I ∧ ∀ p H, I p H → B p H
structure Hints where
  eqs : List TypeId := []
  pan : Bool := false
  /-- the slots of results whose variables a deferred call gets: known where a call panics -/
  pk : Option (List Nat) := none
  /-- results of appends onto slices that come out of known memory -/
  own : List Nat := []
  /-- results of appends in place: onto slices that come out of known memory and have room -/
  inp : List Nat := []
  /-- results of calls that become private rows: slot, element type, cells of an element -/
  ownc : List (Nat × Nat × Nat) := []
  /-- calls (by their results' slots) that keep what they are given -/
  give : List Nat := []
  /-- in drawn orders what writes may wait for what looks by way of others -/
  deep : Bool := false
  /-- new variables (by their addresses' slots) that are known memory at once -/
  pub : List Nat := []
  /-- functions without a body: bits.Add64, bits.Sub64 -/
  ext : List Nat := []
  /-- results of appends onto known slices, with room or without -/
  apr : List Nat := []
  /-- slices.overlaps -/
  ovl : List Nat := []
  /-- functions whose calls, in drawn orders, wait for all that looks into memory -/
  late : List Nat := []
  /-- cuts inside a region whose order is drawn: behind the operation with that result -/
  rcuts : List (Nat × LHint) := []
  loops : List (Nat × LHint) := []
  cuts : List (Nat × LHint) := []
def findH : List (Nat × LHint) → Nat → Option LHint
  | [], _ => none
  | (k, h) :: r, n => match Nat.beq k n with | true => some h | false => findH r n
def findC : List (Nat × Nat × Nat) → Nat → Option (Nat × Nat)
  | [], _ => none
  | (k, e, z) :: r, n => match Nat.beq k n with | true => some (e, z) | false => findC r n
def isGive (hs : Hints) (o : Oper) : Bool := match o.dst with | some d => memN hs.give d | none => false
def isPub (hs : Hints) (o : Oper) : Option Nat := match o.dst with | some d => (match memN hs.pub d with | true => some d | false => none) | none => none
/-- A new private variable, or a new row, becomes known memory. -/
def pubBoxK (d : Nat) (s : St) (H : Heap) (K : St → Heap → Prop) : Prop := match s.get d with
  | .c x => lendC x s H fun v s' H' _ => K (s'.set d (.c (.v v))) H'
  | _ => False
def lsOff (O : List (Nat × AObj)) : List Lend → Bool
  | [] => true
  | x :: r => (match look O x.site with | none => true | some _ => false) && lsOff O r
/-- The same in a drawn order. -/
def pubMixK (O : List (Nat × AObj)) (d : Nat) (s : St) (H : Heap) (K : St → Heap → Prop) : Prop := match s.get d with
  | .c x => lendC x s H fun v s' H' ls => match lsOff O ls with
    | true => K (s'.set d (.c (.v v))) H'
    | false => False
  | _ => False
def giveR (P : Program) (O : List (Nat × AObj)) (G : Heap) (o : Oper) (s' : St) (ls : List Lend) (Kp : Option (St → List PanicEntry → Heap → Prop)) (K : St → Heap → Prop) (e : Ending) (H' : Heap) : Prop :=
  match lsOff O ls with
  | true => match Kp with
    | none => G ≤ H' ∧ retK P o.type e fun x => K (s'.put o.dst x) H'
    | some kp => (G ≤ H' ∧ retK P o.type e fun x => K (s'.put o.dst x) H') ∨ ∃ c, e = .panicked c ∧ kp s' c H'
  | false => False
/-- A call that keeps what it is given. -/
def giveK (P : Program) (O : List (Nat × AObj)) (G : Heap) (o : Oper) (s : St) (H : Heap) (Kp : Option (St → List PanicEntry → Heap → Prop)) (K : St → Heap → Prop) : Prop :=
  match o.op with
  | .call { callee := .value (.func g), args, argTypes := _ } => lendK (args.toList.map (ev s)) s H fun vs s' Hl ls => Meets P g vs Hl (giveR P O G o s' ls Kp K)
  | _ => False
/-- The slot of a call whose result becomes a private row. -/
def ownC (hs : Hints) (o : Oper) : Option (Nat × Nat × Nat) := match o.dst with
  | some d => match findC hs.ownc d with | some (e, z) => some (d, e, z) | none => none
  | none => none
/-- The same beside what is looked at. -/
def adoptA (s : St) (t ty sz : Nat) (G H : Heap) (K : St → Heap → Prop) : Prop :=
  match s.get t with
  | .c (.v v) => match (s.set t (.c .bad)).free t with
    | true => ∃ es, RowAt H v ty sz es ∧ (∀ b, blockOf v = some b → G b = none) ∧ K (St.set ⟨s.env, objSet s.objs t (.row ty sz es), s.dfr⟩ t (.c (.row t))) (H.delO (blockOf v))
    | false => False
  | _ => False
/-- The first statement of a piece of code. -/
def firstR : Code → Nat
  | .region id _ _ => id
  | .seq x _ => firstR x
  | .block _ c => firstR c
  | .loop c => firstR c
  | .scope c => firstR c
  | _ => 0
def seqQ (K : St → Heap → Prop) (Q : Exit → St → Heap → Prop) : Exit → St → Heap → Prop
  | .normal, s, H => K s H
  | e, s, H => Q e s H
def blockQ (id : Nat) (Q : Exit → St → Heap → Prop) : Exit → St → Heap → Prop
  | .exit i, s, H => match Nat.beq i id with | true => Q .normal s H | false => Q (.exit i) s H
  | e, s, H => Q e s H
/-- What is known where a call panics. -/
def panSt (pk : Option (List Nat)) (s : St) : St := match pk with
  | none => ⟨[], [], s.dfr⟩
  | some l => ⟨restrictEnv l s.env 0, s.objs, s.dfr⟩
def panicQ (hs : Hints) (Q : Exit → St → Heap → Prop) : Option (St → List PanicEntry → Heap → Prop) := match hs.pan with
  | true => some fun s c H => Q (.panic c) (panSt hs.pk s) H
  | false => none
/-- The model's entry for math/bits.Sub64. -/
def subEntry : Array Value → Sem Value := fun args => do
  let (x, y, b) ← Extern.MathBitsCarry.three "Sub64" args
  pure (Extern.MathBitsCarry.pair ((x + Extern.MathBitsCarry.m64 - y - b) % Extern.MathBitsCarry.m64) (if x < y + b then 1 else 0))
def ExtOK (P : Program) (g : FuncId) (e : Array Value → Sem Value) : Prop :=
  ∃ fn, P.funcs[g]? = some fn ∧ (fn.name == "runtime.NumGoroutine") = false ∧ fn.body.isNone = true ∧ Extern.findNext fn = none ∧ Extern.find fn = some e
/-- What such a function comes to. -/
def CarryAt (P : Program) (g : FuncId) (a b c r1 r2 : Int) : Prop :=
  (ExtOK P g add64Entry ∧ 0 ≤ a ∧ 0 ≤ b ∧ 0 ≤ c ∧ c ≤ 1 ∧ r1 = (a + b + c) % 18446744073709551616 ∧ r2 = (a + b + c) / 18446744073709551616) ∨
  (ExtOK P g subEntry ∧ 0 ≤ a ∧ 0 ≤ b ∧ b ≤ 18446744073709551615 ∧ 0 ≤ c ∧ c ≤ 1 ∧ r1 = (a + 18446744073709551616 - b - c) % 18446744073709551616 ∧ r2 = if a < b + c then 1 else 0)
def extOf (hs : Hints) (o : Oper) : Option (Nat × Operand × Operand × Operand) := match o.op with
  | .call { callee := .value (.func g), args, argTypes := _ } => match memN hs.ext g, args.toList with
    | true, [x, y, c] => some (g, x, y, c)
    | _, _ => none
  | _ => none
def extK (P : Program) (g : FuncId) (x y c : SV) (K : SV → Prop) : Prop := match x, y, c with
  | .c (.v (.int .u64 a)), .c (.v (.int .u64 b)), .c (.v (.int .u64 c)) => ∃ r1 r2 : Int, CarryAt P g a b c r1 r2 ∧ K (.tup [.c (.v (.int .u64 r1)), .c (.v (.int .u64 r2))])
  | _, _, _ => False
/-- The model's entry for slices.overlaps, at slices apart. -/
def OvlOK (P : Program) (g : FuncId) : Prop := ∃ (t e : TypeId) (rs : Array TypeId) (sz : Nat), ExtOK P g (Extern.SlicesOverlaps.overlaps #[t, t] rs) ∧ P.underlying t = some (.slice e) ∧ sizeT P e = some sz
def ovlOf (hs : Hints) (o : Oper) : Option (Nat × Operand × Operand) := match o.op with
  | .call { callee := .value (.func g), args, argTypes := _ } => match memN hs.ovl g, args.toList with
    | true, [x, y] => some (g, x, y)
    | _, _ => none
  | _ => none
def ApartK (H : Heap) (a b : Option Addr) (n m : Nat) : Prop := a = none ∨ b = none ∨ n = 0 ∨ m = 0 ∨
  ∃ A B c d t u, a = some A ∧ b = some B ∧ A.block ≠ B.block ∧ H A.block = some (.cells c t (0, 0)) ∧ H B.block = some (.cells d u (0, 0)) ∧ d.size ≠ 0
def ovlK (P : Program) (g : FuncId) (x y : SV) (H : Heap) (K : SV → Prop) : Prop := match x, y with
  | .c (.v (.slice a n _)), .c (.v (.slice b m _)) => OvlOK P g ∧ ApartK H a b n m ∧ K (.c (.v (.bool false)))
  | _, _ => False
def opD (P : Program) (hs : Hints) (Q : Exit → St → Heap → Prop) (o : Oper) (s : St) (H : Heap) (K : St → Heap → Prop) : Prop :=
  match clsOf P o s with
  | .val => valK P ⟨hs.eqs⟩ o.op s fun x => K (s.put o.dst x) H
  | .obj => match isPub hs o with
    | none => objK P o s H fun s' => K s' H
    | some d => objK P o s H fun s' => pubBoxK d s' H K
  | .read => readK P o.op s H fun x => K (s.put o.dst x) H
  | .eff => effK P o s H K
  | .call => match isGive hs o with
    | true => giveK P [] (fun _ => none) o s H (panicQ hs Q) K
    | false => match ownC hs o with
      | none => callK P o s H (panicQ hs Q) K
      | some (d, e, sz) => callK P o s H (panicQ hs Q) fun s' H' => adoptK s' d e sz H' K
  | .panic => match o.op with
    | .panic x => match ev s x with
      | .c (.v (.iface t v)) => Q (.panic [{ v := .iface t v, recovered := false }]) (panSt hs.pk s) H
      | _ => False
    | _ => False
  | .dfr => match o.op with
    | .defer { callee := .value (.func f), args, argTypes := _ } => match sitesOf (args.toList.map (ev s)), callable P f with
      | some l, true => K (St.put ⟨s.env, s.objs, ⟨f, l⟩ :: s.dfr⟩ o.dst (.c .bad)) H
      | _, _ => False
    | _ => False
  | .bad => False
def opC (P : Program) (hs : Hints) (Q : Exit → St → Heap → Prop) (o : Oper) (s : St) (H : Heap) (K : St → Heap → Prop) : Prop :=
  match extOf hs o with
  | some (g, x, y, c) => extK P g (ev s x) (ev s y) (ev s c) fun v => K (s.put o.dst v) H
  | none => match ovlOf hs o with
    | some (g, x, y) => ovlK P g (ev s x) (ev s y) H fun v => K (s.put o.dst v) H
    | none => opD P hs Q o s H K
/-- The slot of an append whose slice is to be private first. -/
def ownOf (P : Program) (hs : Hints) (o : Oper) : Option (Nat × Nat × Nat) :=
  match o.op, o.dst with
  | .call { callee := .builtin .append, args, argTypes }, some d => match memN hs.own d, args.toList, argTypes.toList with
    | true, .tmp t :: _, ty :: _ => match sliceElem P ty with | some (e, sz) => some (t, e, sz) | none => none
    | _, _, _ => none
  | _, _ => none
/-- The operands of an append in place. -/
def inpOf (P : Program) (hs : Hints) (o : Oper) : Option (Operand × Operand × Nat) :=
  match o.op, o.dst with
  | .call { callee := .builtin .append, args, argTypes }, some d => match memN hs.inp d, args.toList, argTypes.toList with
    | true, [x, y], [t, t2] => match sliceElem P t, P.underlying t2 with
      | some (_, sz), some (.slice _) => some (x, y, sz)
      | _, _ => none
    | _, _, _ => none
  | _, _ => none
def inpK (sz : Nat) (x y : SV) (d : Option Nat) (s : St) (H : Heap) (K : St → Heap → Prop) : Prop :=
  match x, y with
  | .c (.v (.slice a n c)), .c (.v (.slice a2 m c2)) => n + m ≤ c ∧ ∃ es2, SliceAt H (.slice a2 m c2) sz es2 ∧ FillK a n sz es2 H fun H' => K (s.put d (.c (.v (.slice a (n + m) c)))) H'
  | _, _ => False
/-- An append onto a known slice. -/
structure Apr where
  x : Operand
  y : Operand
  t2 : TypeId
  e : TypeId
  sz : Nat
  by_ : Nat
  z : List Value
def aprOf (P : Program) (hs : Hints) (o : Oper) : Option Apr :=
  match o.op, o.dst with
  | .call { callee := .builtin .append, args, argTypes }, some d => match memN hs.apr d, args.toList, argTypes.toList with
    | true, [x, y], [t, t2] => match sliceElem P t with
      | some (e, sz) => match bytesT P e, zeroT P e with
        | some (b + 1), some z => match Nat.beq z.length sz with
          | true => some ⟨x, y, t2, e, sz, b + 1, z⟩
          | false => none
        | _, _ => none
      | none => none
    | _, _, _ => none
  | _, _ => none
/-- What is appended. -/
def asrcK (P : Program) (t2 : TypeId) (sz by_ : Nat) (z : List Value) (y : SV) (H : Heap) (K : List (List Value) → Prop) : Prop :=
  match P.underlying t2, y with
  | some (.slice _), .c (.v (.slice a m c)) => ∃ es, SliceAt H (.slice a m c) sz es ∧ K es
  | some (.int _), .c (.v (.int _ k)) => (0 ≤ k ∧ k * (by_ : Int) ≤ roomMax) ∧ K (List.replicate k.toNat z)
  | some .string, .c (.v (.string b)) => match Nat.beq sz 1 with
    | true => K (b.data.toList.map fun x => [.int .u8 (x.toNat : Int)])
    | false => False
  | _, _ => False
def aprK (P : Program) (r : Apr) (x y : SV) (d : Option Nat) (s : St) (H : Heap) (K : St → Heap → Prop) : Prop :=
  match x with
  | .c (.v (.slice a n c)) => match r with
    | ⟨_, _, t2, e, sz, by_, z⟩ => ∃ es, SliceAt H (.slice a n c) sz es ∧ asrcK P t2 sz by_ z y H fun es2 =>
      (n + es2.length ≤ c → FillX a n sz es2 H fun H' => K (s.put d (.c (.v (.slice a (n + es2.length) c)))) H') ∧
      (c < n + es2.length → (n + es2.length) * by_ ≤ roomMax ∧ ∀ (b cap : Nat) (H' : Heap), H ≤ H' → H b = none → (∀ x o, H' x = some o → H x = some o ∨ x = b) →
        RowAt H' (.slice (some ⟨b, 0, none⟩) (n + es2.length) cap) e sz (es ++ es2) → K (s.put d (.c (.v (.slice (some ⟨b, 0, none⟩) (n + es2.length) cap)))) H')
  | _ => False
def opK (P : Program) (hs : Hints) (Q : Exit → St → Heap → Prop) (o : Oper) (s : St) (H : Heap) (K : St → Heap → Prop) : Prop :=
  match inpOf P hs o with
  | some (x, y, sz) => inpK sz (ev s x) (ev s y) o.dst s H K
  | none => match aprOf P hs o with
    | some r => aprK P r (ev s r.x) (ev s r.y) o.dst s H K
    | none => match ownOf P hs o with
      | none => opC P hs Q o s H K
      | some (t, e, sz) => adoptK s t e sz H fun s' H' => opC P hs Q o s' H' K
def guardDst (ops : List Oper) (j : Nat) : Option Nat := match nth ops j with | some o => o.dst | none => none
/-- The operations of a statement whose order is told. -/
def opsK (P : Program) (hs : Hints) (Q : Exit → St → Heap → Prop) (ops : List Oper) : List Oper → St → Heap → Prop
  | [], s, H => Q .normal s H
  | o :: r, s, H => match o.guard with
    | none => opK P hs Q o s H fun s' H' => opsK P hs Q ops r s' H'
    | some (j, b) => match guardDst ops j with
      | none => False
      | some g => match s.get g with
        | .c (.v (.bool p)) => match b with
          | true => Br p (opK P hs Q o (s.set g (.c (.v (.bool true)))) H fun s' H' => opsK P hs Q ops r s' H')
              (opsK P hs Q ops r ((s.set g (.c (.v (.bool false)))).put o.dst (.tup [])) H)
          | false => Br p (opsK P hs Q ops r ((s.set g (.c (.v (.bool true)))).put o.dst (.tup [])) H)
              (opK P hs Q o (s.set g (.c (.v (.bool false)))) H fun s' H' => opsK P hs Q ops r s' H')
        | .tup [] => opsK P hs Q ops r (s.put o.dst (.tup [])) H
        | _ => False

/-! ### Statements whose order is drawn -/
def tailB (ops : Array Oper) (n : Nat) : Bool :=
  (List.range ops.size).all fun j => Nat.blt j n || (List.range n).all fun i => Region.waitsFor .any ops j i
def reach (ops : Array Oper) : Nat → Nat → Nat → Bool
  | 0, _, _ => false
  | f + 1, i, j => match ops[j]? with
    | some oj => oj.after.toList.any fun e => Region.binds .any e && (Nat.beq e.on i || (Nat.blt i e.on && reach ops f i e.on))
    | none => false
/-- Each one is ready; beside one that does more than look nothing is. -/
def lexB (ops : Array Oper) (n : Nat) (big : Nat → Bool) (fin : Array Bool → Bool) : List Nat → Array Bool → Bool
  | [], listed => fin listed
  | k :: r, listed => Nat.blt k n && (match big k with
      | true => (Region.ready .any ops listed).all (fun j => Nat.beq j k) && (Region.ready .any ops listed).contains k
      | false => (Region.ready .any ops listed).contains k && Region.free .any ops listed k) && lexB ops n big fin r (listed.setIfInBounds k true)
/-- Operations that come to one thing whatever memory is. -/
def quiet2 (P : Program) : Op → Bool
  | .indexAddr _ _ _ | .move _ | .assign _ | .nilCheck _ => true
  | .unOp .not _ _ => true
  | .fieldAddr t _ f => match fieldOf P t f with
    | some fd => match sizeT P fd.type with | some (_ + 1) => true | _ => false
    | none => false
  | .binOp .add t _ _ _ | .binOp .sub t _ _ _ => match P.underlying t with | some (.int _) => true | _ => false
  | _ => false
/-- Operations that at most look into memory. -/
def quietOp : Op → Bool
  | .move _ | .assign _ | .pick _ _ _ | .nilCheck _ | .binOp _ _ _ _ _ | .unOp _ _ _ | .convert _ _ _ | .fieldAddr _ _ _ | .indexAddr _ _ _ | .index _ _ _
  | .field _ _ _ | .extract _ _ | .slice _ _ _ _ _ | .build _ _ | .makeInterface _ _ | .makeFunc _ _ _ | .load _ _ | .lookup _ _ _ _ => true
  | .call { callee := .builtin .len, args := _, argTypes := _ } | .call { callee := .builtin .max, args := _, argTypes := _ } | .call { callee := .builtin .min, args := _, argTypes := _ } => true
  | _ => false
def tailOp : Op → Bool
  | .call { callee := .value _, args := _, argTypes := _ } | .defer _ => false
  | _ => true
def fin2 (ops : Array Oper) (listed : Array Bool) : Bool := (Region.ready .any ops listed).all fun j => Nat.ble ops.size j
def isCall : Op → Bool
  | .call { callee := .value _, args := _, argTypes := _ } => true
  | _ => false
def bigO (o : Oper) : Bool := isAlloc o.op || isCall o.op
def wrO (o : Oper) : Bool := !bigO o && !quietOp o.op
/-- A call that comes behind all that looks into memory (1000000: a call of a value). -/
def isLate (lt : List Nat) (o : Oper) : Bool := match o.op with
  | .call { callee := .value f, args := _, argTypes := _ } => match f with
    | .func g => memN lt g
    | _ => memN lt 1000000
  | _ => false
def wrL (lt : List Nat) (o : Oper) : Bool := isLate lt o || wrO o
def wrN (lt : List Nat) (ops : List Oper) (i : Nat) : Bool := match nth ops i with | some o => wrL lt o | none => false
def bigN (ops : List Oper) (i : Nat) : Bool := match nth ops i with | some o => bigO o || wrO o | none => false
def rdN (P : Program) (ops : List Oper) (i : Nat) : Bool := match nth ops i with | some o => quietOp o.op && !quiet2 P o.op | none => false
/-- What writes waits for all that looks into memory. -/
def waitB (deep : Bool) (ops : Array Oper) (j k : Nat) : Bool := match deep with | false => Region.waitsFor .any ops j k | true => reach ops ops.size k j
def wrB (P : Program) (deep : Bool) (lt : List Nat) (ops : Array Oper) : Bool := (List.range ops.size).all fun j => !wrN lt ops.toList j || (List.range ops.size).all fun k => !rdN P ops.toList k || waitB deep ops j k
/-! ### The same checks over numbers as sets -/
structure Rw where
  i : Nat
  deps : Nat
  rd : Nat
  dm : Nat
  bg : Bool
def bitsOf : List Nat → Nat
  | [] => 0
  | x :: r => Nat.lor (Nat.shiftLeft 1 x) (bitsOf r)
def depL : List Edge → List Nat
  | [] => []
  | e :: r => match Region.binds .any e with | true => e.on :: depL r | false => depL r
def tmpL : List Operand → List Nat
  | [] => []
  | .tmp t :: r => t :: tmpL r
  | .const _ :: r => tmpL r
  | .global _ :: r => tmpL r
  | .func _ :: r => tmpL r
def looksL (ops : List Oper) (o : Oper) : List Nat := match o.guard with
  | none => tmpL o.op.operands.toList
  | some (g, _) => match nth ops g with
    | some o' => (match o'.dst with | some d => d :: tmpL o.op.operands.toList | none => tmpL o.op.operands.toList)
    | none => tmpL o.op.operands.toList
def rowOf (ops : List Oper) (big : Nat → Bool) (i : Nat) (o : Oper) : Rw :=
  ⟨i, bitsOf (depL o.after.toList), bitsOf (looksL ops o), match o.dst with | some d => Nat.shiftLeft 1 d | none => 0, big i⟩
def rowsOf (ops : List Oper) (big : Nat → Bool) : Nat → List Oper → List Rw
  | _, [] => []
  | i, o :: r => rowOf ops big i o :: rowsOf ops big (i + 1) r
def hasN (m b : Nat) : Bool := !Nat.beq (Nat.land m b) 0
def rdyF (m : Nat) (r : Rw) : Bool := match hasN m (Nat.shiftLeft 1 r.i) with | true => false | false => Nat.beq (Nat.land r.deps m) r.deps
def apF (x y : Rw) : Bool := match hasN x.dm (Nat.lor y.rd y.dm) with | true => false | false => !hasN y.dm x.rd
def freeF (m b : Nat) (x : Rw) : List Rw → Bool
  | [] => true
  | y :: r => match hasN (Nat.lor m b) (Nat.shiftLeft 1 y.i) with
    | true => freeF m b x r
    | false => match hasN y.deps b with
      | true => freeF m b x r
      | false => match apF x y with | true => freeF m b x r | false => false
/-- Only those are ready. -/
def soleF (m b : Nat) : List Rw → Bool
  | [] => true
  | x :: r => match rdyF m x with
    | true => (match hasN b (Nat.shiftLeft 1 x.i) with | true => soleF m b r | false => false)
    | false => soleF m b r
def lexF (tab : List Rw) (fin : Nat → Bool) : List Nat → Nat → Bool
  | [], m => fin m
  | k :: r, m => match nth tab k with
    | some x => match rdyF m x with
      | true => match (match x.bg with | true => soleF m (Nat.shiftLeft 1 k) tab | false => freeF m (Nat.shiftLeft 1 k) x tab) with
        | true => lexF tab fin r (Nat.lor m (Nat.shiftLeft 1 k))
        | false => false
      | false => false
    | none => false
def finF (tab : List Rw) (m : Nat) : Bool := soleF m 0 tab
def nextF (m : Nat) : List Rw → Option Nat → Option Nat
  | [], b => b
  | x :: r, b => match rdyF m x with
    | true => (match x.bg with | false => some x.i | true => nextF m r (match b with | none => some x.i | some y => some y))
    | false => nextF m r b
def schedF (tab : List Rw) : Nat → Nat → List Nat
  | 0, _ => []
  | f + 1, m => match nextF m tab none with
    | some k => k :: schedF tab f (Nat.lor m (Nat.shiftLeft 1 k))
    | none => []
def tabO (ops : Array Oper) : List Rw := rowsOf ops.toList (bigN ops.toList) 0 ops.toList
def schedO (ops : Array Oper) : List Nat := schedF (tabO ops) ops.size 0
def headOf (lt : List Nat) (ops : List Oper) : List Nat → List Nat
  | [] => []
  | k :: r => match wrN lt ops k with | true => [] | false => k :: headOf lt ops r
def tailOf (lt : List Nat) (ops : List Oper) : List Nat → List Nat
  | [] => []
  | k :: r => match wrN lt ops k with | true => k :: r | false => tailOf lt ops r
def tailOps (P : Program) (lt : List Nat) (ops : List Oper) : List Nat → Bool
  | [] => true
  | k :: r => (match nth ops k with | some o => isLate lt o || ((wrO o && tailOp o.op) || (quiet2 P o.op && !bigO o && !wrO o)) | none => false) && tailOps P lt ops r
def mixB (P : Program) (deep : Bool) (lt : List Nat) (ops : Array Oper) (l : List Nat) : Bool :=
  Region.noSelect ops && Nat.beq l.length ops.size && wrB P deep lt ops && tailOps P lt ops.toList (tailOf lt ops.toList l) && lexF (tabO ops) (finF (tabO ops)) l 0
def exactC : SC → Bool
  | .v _ | .box _ _ | .boxi _ _ _ _ | .row _ | .cell _ _ _ _ => true
  | _ => false
def exactS : List Seg → Bool
  | [] => true
  | .c x :: r => exactC x && exactS r
  | .ints _ _ _ :: r => exactS r
def exactP : List Comp → Bool
  | [] => true
  | .c x :: r => exactC x && exactP r
  | .agg l :: r => exactS l && exactP r
def exactV : SV → Bool
  | .c x => exactC x
  | .agg l => exactS l
  | .tup l => exactP l
def exactK (x : SV) (X : Prop) : Prop := match exactV x with | true => X | false => False
def delLs (H : Heap) : List Lend → Heap
  | [] => H
  | x :: r => delLs (H.delO (blockOf x.val)) r
/-- What was lent, and what is looked at, is as it was. -/
def Keep (G H Hl H' : Heap) : Prop := ∀ b o, Hl b = some o → (H b = none ∨ G b = some o) → H' b = some o
def keepR (P : Program) (G H Hl : Heap) (o : Oper) (s s' : St) (ls : List Lend) (Kp : Option (St → List PanicEntry → Heap → Prop)) (K : St → Heap → Prop) (e : Ending) (H' : Heap) : Prop :=
  match Kp with
  | none => Keep G H Hl H' ∧ retK P o.type e fun x => K (s.put o.dst x) (delLs H' ls)
  | some kp => (Keep G H Hl H' ∧ retK P o.type e fun x => K (s.put o.dst x) (delLs H' ls)) ∨ ∃ c, e = .panicked c ∧ kp s' c H'
/-- A call that leaves what is looked at as it was. -/
def keepK (P : Program) (G : Heap) (o : Oper) (s : St) (H : Heap) (Kp : Option (St → List PanicEntry → Heap → Prop)) (K : St → Heap → Prop) : Prop :=
  match o.op with
  | .call { callee := .value f, args, argTypes := _ } =>
    match f with
    | .func g => lendK (args.toList.map (ev s)) s H fun vs s' Hl ls => Meets P g vs Hl (keepR P G H Hl o s s' ls Kp K)
    | f => lendV (ev s f) s H fun fv s1 H1 ls1 => lendK (args.toList.map (ev s)) s1 H1 fun vs s' Hl ls => MeetsV P fv vs Hl (keepR P G H Hl o s s' (ls1 ++ ls) Kp K)
  | _ => False
/-- A slice expression with two bounds: it comes to one thing whatever memory is. -/
def isSl : Op → Bool
  | .slice _ _ _ _ none => true
  | _ => false
def mixOp (P : Program) (hs : Hints) (Q : Exit → St → Heap → Prop) (s0 : St) (G : Heap) (o : Oper) (s : St) (H : Heap) (K : St → Heap → Prop) : Prop :=
  match isCall o.op with
  | true => keepK P G o s H (panicQ hs Q) K
  | false => match isAlloc o.op with
    | true => match isPub hs o with
      | none => objK P o s H fun s' => K s' H
      | some d => objK P o s H fun s' => pubMixK s0.objs d s' H K
    | false => match clsOf P o ⟨s.env, s0.objs, s.dfr⟩ with
      | .val => match isSl o.op with
        | true => valK P ⟨hs.eqs⟩ o.op ⟨s.env, s0.objs, s.dfr⟩ fun x => K (s.put o.dst x) H
        | false => valK P ⟨hs.eqs⟩ o.op ⟨s.env, s0.objs, s.dfr⟩ fun x => exactK x (K (s.put o.dst x) H)
      | .read => readK P o.op ⟨s.env, s0.objs, s.dfr⟩ G fun x => exactK x (K (s.put o.dst x) H)
      | _ => False
/-- The head of such a statement in one order: what only looks looks at what there was ahead of it. -/
def mixK (P : Program) (hs : Hints) (Q : Exit → St → Heap → Prop) (s0 : St) (G : Heap) (ops : List Oper) (T : St → Heap → Prop) : List Oper → St → Heap → Prop
  | [], s, H => T s H
  | o :: r, s, H => match o.guard with
    | none => mixOp P hs Q s0 G o s H fun s' H' => mixK P hs Q s0 G ops T r s' H'
    | some (j, b) => match guardDst ops j with
      | none => False
      | some g => match s.get g with
        | .c (.v (.bool p)) => match b with
          | true => Br p (mixOp P hs Q s0 G o (s.set g (.c (.v (.bool true)))) H fun s' H' => mixK P hs Q s0 G ops T r s' H')
              (mixK P hs Q s0 G ops T r ((s.set g (.c (.v (.bool false)))).put o.dst (.tup [])) H)
          | false => Br p (mixK P hs Q s0 G ops T r ((s.set g (.c (.v (.bool true)))).put o.dst (.tup [])) H)
              (mixOp P hs Q s0 G o (s.set g (.c (.v (.bool false)))) H fun s' H' => mixK P hs Q s0 G ops T r s' H')
        | .tup [] => mixK P hs Q s0 G ops T r (s.put o.dst (.tup [])) H
        | _ => False
/-- The operations up to a cut, and those behind it. -/
def cutAt (rc : List (Nat × LHint)) : List Oper → Option (List Oper × LHint × List Oper)
  | [] => none
  | o :: r => match o.dst with
    | some d => match findH rc d with
      | some h => some ([o], h, r)
      | none => match cutAt rc r with | some (l1, h, l2) => some (o :: l1, h, l2) | none => none
    | none => match cutAt rc r with | some (l1, h, l2) => some (o :: l1, h, l2) | none => none
def freeOf (fix : List Nat) : Option Nat → Bool
  | some d => !memN fix d
  | none => true
def guardFree (fix : List Nat) (ops : List Oper) (o : Oper) : Bool := match o.guard with
  | none => true
  | some (j, _) => freeOf fix (guardDst ops j)
def onlyF : List SlotH → Bool
  | [] => true
  | .f _ _ :: r => onlyF r
  | _ => false
/-- What stands ahead of a cut only looks, and leaves the slots that are kept. -/
def cutOK (ops : List Oper) (h : LHint) : List Oper → Bool
  | [] => onlyF h.slots
  | o :: r => (!isCall o.op && (!isAlloc o.op && (freeOf h.fix o.dst && guardFree h.fix ops o))) && cutOK ops h r
/-- The head with cuts: behind a cut it is asked once. -/
def mixC (P : Program) (hs : Hints) (Q : Exit → St → Heap → Prop) (s0 : St) (G : Heap) (ops : List Oper) (T : St → Heap → Prop) : Nat → List Oper → St → Heap → Prop
  | 0, l, s, H => mixK P hs Q s0 G ops T l s H
  | n + 1, l, s, H => match cutAt hs.rcuts l with
    | none => mixK P hs Q s0 G ops T l s H
    | some (l1, h, l2) => match cutOK ops h l1 with
      | true => CutP (fun (I : PTy (h.slots.map SlotH.pk) → Heap → Prop) => mixK P hs Q s0 G ops (fun s' H' => getSlots s' h.slots fun p => I p H') l1 s H)
          (fun p _ => mixC P hs Q s0 G ops T n l2 (setSlots h.slots p ⟨restrictEnv h.fix s.env 0, s.objs, s.dfr⟩) H)
      | false => False
def pickO (ops : List Oper) : List Nat → List Oper
  | [] => []
  | k :: r => match nth ops k with | some o => o :: pickO ops r | none => pickO ops r
def noDst (ops : List Oper) : Option (List Nat) → Bool
  | none => true
  | some l => ops.all fun o => match o.dst with | some d => !memN l d | none => true
def callsIn : List Oper → Bool
  | [] => false
  | o :: r => isCall o.op || callsIn r
def drawOK (P : Program) (hs : Hints) (ops : Array Oper) : Bool := mixB P hs.deep hs.late ops (schedO ops) && (noDst ops.toList hs.pk && P.follows .mixedOrders)
/-- Does the head hold a call, and does something look at known memory? -/
def readsIn (P : Program) : List Oper → Bool
  | [] => false
  | o :: r => (match o.op with | .load _ _ | .lookup _ _ _ _ => true | .call { callee := .builtin .len, args := _, argTypes } => (match argTypes.toList with | [t] => isMapT P t | _ => true) | _ => false) || readsIn P r
def drawK (P : Program) (hs : Hints) (Q : Exit → St → Heap → Prop) (ops : Array Oper) (hd tl : List Oper) (s : St) (H : Heap) : Prop :=
  match callsIn hd with
  | false => mixC P hs Q s H ops.toList (opsK P hs Q ops.toList tl) hs.rcuts.length hd s H
  | true => match readsIn P hd with
    | true => ∃ G : Heap, G ≤ H ∧ mixC P hs Q s G ops.toList (opsK P hs Q ops.toList tl) hs.rcuts.length hd s H
    | false => mixC P hs Q s (fun _ => none) ops.toList (opsK P hs Q ops.toList tl) hs.rcuts.length hd s H
/-! ### Statements whose order is drawn, with rows that are built and appended to in any order -/
def isApp : Op → Bool
  | .call { callee := .builtin .append, args := _, argTypes := _ } => true
  | _ => false
/-- Operations whose value hangs on their operands alone. -/
def isPureOp : Op → Bool
  | .pick _ _ _ | .binOp _ _ _ _ _ | .unOp _ _ _ | .convert _ _ _ | .index _ _ _ | .field _ _ _ | .extract _ _ | .build _ _ | .makeInterface _ _ => true
  | _ => false
/-- Operations that may be done at any time: what makes rows and variables, and what hangs on operands alone. -/
def isBs : Op → Bool
  | .buildSlice _ _ _ | .alloc _ | .box _ _ => true
  | op => isPureOp op
def plainQ : Op → Bool
  | .move _ | .assign _ | .nilCheck _ | .fieldAddr _ _ _ | .indexAddr _ _ _ | .store _ _ _ => true
  | .call { callee := .builtin .len, args := _, argTypes := _ } => true
  | _ => false
def tail2 (o : Oper) : Bool := (isCall o.op || (isBs o.op || (isApp o.op || plainQ o.op))) && (match o.guard with | none => true | some _ => false)
def tail2N (ops : List Oper) (k : Nat) : Bool := match nth ops k with | some o => tail2 o | none => false
/-- A row of what becomes known memory where it is built: it has its place in the order. -/
def pubB (pb : List Nat) (o : Oper) : Bool := match o.op, o.dst with
  | .buildSlice _ _ _, some d => memN pb d
  | _, _ => false
def bsN (pb : List Nat) (ops : List Oper) (k : Nat) : Bool := match nth ops k with | some o => isBs o.op && !(pubB pb o) | none => false
def quN (ops : List Oper) (k : Nat) : Bool := match nth ops k with | some o => quietOp o.op | none => false
/-- The next: what looks, then what is built, then any. -/
def next2F (qu bs : Nat → Bool) (m : Nat) : List Rw → Option Nat → Option Nat → Option Nat
  | [], some b, _ => some b
  | [], none, c => c
  | x :: r, b, c => match rdyF m x with
    | true => (match qu x.i with
      | true => some x.i
      | false => match bs x.i with
        | true => next2F qu bs m r (match b with | none => some x.i | some y => some y) c
        | false => next2F qu bs m r b (match c with | none => some x.i | some y => some y))
    | false => next2F qu bs m r b c
def sched2F (qu bs : Nat → Bool) (tab : List Rw) : Nat → Nat → List Nat
  | 0, _ => []
  | f + 1, m => match next2F qu bs m tab none none with
    | some k => k :: sched2F qu bs tab f (Nat.lor m (Nat.shiftLeft 1 k))
    | none => []
def tab2 (ops : Array Oper) : List Rw := rowsOf ops.toList (fun _ => false) 0 ops.toList
def order2 (pb : List Nat) (ops : Array Oper) : List Nat := sched2F (quN ops.toList) (bsN pb ops.toList) (tab2 ops) ops.size 0
def head2 (ops : List Oper) : List Nat → List Nat
  | [] => []
  | k :: r => match quN ops k with | true => k :: head2 ops r | false => []
def rest2 (ops : List Oper) : List Nat → List Nat
  | [] => []
  | k :: r => match quN ops k with | true => rest2 ops r | false => k :: r
def upMain (pb : List Nat) (ops : List Oper) : List Nat → List Nat
  | [] => []
  | k :: r => match bsN pb ops k with | true => k :: upMain pb ops r | false => [k]
/-- What else may come up are rows that are built, or what comes behind them. -/
def lex2 (pb : List Nat) (ops : Array Oper) : List Nat → Array Bool → Bool
  | [], listed => fin2 ops listed
  | k :: r, listed => Nat.blt k ops.size && ((Region.ready .any ops listed).contains k && ((Region.ready .any ops listed).all (fun j => (upMain pb ops.toList (k :: r)).contains j) &&
      ((match bsN pb ops.toList k with | true => Region.free .any ops listed k | false => true) && lex2 pb ops r (listed.setIfInBounds k true))))
def lex2F (pb : List Nat) (ops : Array Oper) (tab : List Rw) : List Nat → Nat → Bool
  | [], m => finF tab m
  | k :: r, m => match nth tab k with
    | some x => match rdyF m x with
      | true => match soleF m (bitsOf (upMain pb ops.toList (k :: r))) tab with
        | true => match (match bsN pb ops.toList k with | true => freeF m (Nat.shiftLeft 1 k) x tab | false => true) with
          | true => lex2F pb ops tab r (Nat.lor m (Nat.shiftLeft 1 k))
          | false => false
        | false => false
      | false => false
    | none => false
def drawOK2 (P : Program) (hs : Hints) (ops : Array Oper) : Bool :=
  Region.noSelect ops && (Nat.beq (order2 hs.pub ops).length ops.size && ((rest2 ops.toList (order2 hs.pub ops)).all (tail2N ops.toList) &&
    (lexF (tab2 ops) (lex2F hs.pub ops (tab2 ops) (rest2 ops.toList (order2 hs.pub ops))) (head2 ops.toList (order2 hs.pub ops)) 0 &&
      ((match hs.pk with | none => true | some _ => false) && P.follows .mixedOrders))))
/-- Where a slot's value comes from. -/
def rootOf (ops : List Oper) : Nat → Nat → Nat
  | 0, t => t
  | f + 1, t => match ops.find? fun o => match o.dst with | some d => Nat.beq d t | none => false with
    | some o => match o.op with | .move (.tmp u) | .fieldAddr _ (.tmp u) _ | .indexAddr _ (.tmp u) _ => rootOf ops f u | _ => t
    | none => t
/-- The rows that are appended to. -/
def eaten (s : St) (ops : List Oper) : List Oper → List Nat
  | [] => []
  | o :: r => match o.op with
    | .call { callee := .builtin .append, args, argTypes := _ } => (match args.toList with
      | .tmp t :: _ => (match (s.get (rootOf ops 3 t)).site with | some d => d :: eaten s ops r | none => eaten s ops r)
      | _ => eaten s ops r)
    | .store _ (.tmp t) _ => (match s.get (rootOf ops 6 t) with | .c (.row d) => d :: eaten s ops r | x => (match storeSite x with | some d => d :: eaten s ops r | none => eaten s ops r))
    | _ => eaten s ops r
def delAll (l : List (Nat × AObj)) : List Nat → List (Nat × AObj)
  | [] => l
  | d :: r => delAll (objDel l d) r
def badAt (s : St) : Option Nat → Bool
  | some d => match nth s.env d with | some (.c .bad) => true | _ => false
  | none => false
/-- A store into known memory that is not looked at. -/
def pubK (P : Program) (t : TypeId) (x y : SV) (G H : Heap) (K : Heap → Prop) : Prop :=
  match x, y.segs, sizeT P t with
  | .c (.v (.pointer p)), some l, some z => match flat l with
    | some cs => match Nat.beq cs.length z with
      | true => PtrK p fun A => ∃ c ty, (H A.block = some (.cells c ty (0, 0)) ∧ A.spot = none ∧ A.off + z ≤ c.size) ∧ G A.block = none ∧ K (H.upd A.block (.cells (writeCells c A.off cs) ty (0, 0)))
      | false => False
    | none => False
  | _, _, _ => False
/-- An object stands last. -/
def reput (d : Nat) (s : St) : St := match look s.objs d with
  | some o => ⟨s.env, objSet (objDel s.objs d) d o, s.dfr⟩
  | none => s
def realSV : SV → Bool
  | .c (.v _) => true
  | .agg l => (flat l).isSome
  | _ => false
def realK (x : SV) (X : Prop) : Prop := match realSV x with | true => X | false => False
def boxOK (s : St) : Op → Bool
  | .box _ x => match (ev s x).segs with | some l => (flat l).isSome | none => false
  | _ => true
def realComps : List Comp → Bool
  | [] => true
  | .c (.v _) :: r => realComps r
  | .c _ :: _ => false
  | .agg l :: r => (flat l).isSome && realComps r
def realOp : SV → Bool
  | .c (.v _) => true
  | .agg l => (flat l).isSome
  | .tup l => realComps l
  | _ => false
def freeAt (s : St) : Option Nat → Bool
  | some d => s.free d
  | none => false
def opsOK (s : St) : List Operand → Bool
  | [] => true
  | x :: r => realOp (ev s x) && opsOK s r
/-- What is built into a row becomes known memory. -/
def pubOps (O : List (Nat × AObj)) : List Operand → St → Heap → (St → Heap → Prop) → Prop
  | [], s, H, K => K s H
  | .tmp t :: r, s, H, K => match s.get t with
    | .c (.v _) => pubOps O r s H K
    | .c _ => pubMixK O t s H fun s' H' => pubOps O r s' H' K
    | _ => False
  | _ :: r, s, H, K => pubOps O r s H K
def bldK (P : Program) (O : List (Nat × AObj)) (o : Oper) (s : St) (H : Heap) (K : St → Heap → Prop) : Prop :=
  pubOps O o.op.operands.toList s H fun s' H' => match opsOK s' o.op.operands.toList with
    | true => objK P o s' H' fun s'' => K s'' H'
    | false => False
def opA0 (P : Program) (hs : Hints) (Q : Exit → St → Heap → Prop) (O : List (Nat × AObj)) (G : Heap) (o : Oper) (s : St) (H : Heap) (K : St → Heap → Prop) : Prop :=
  match isCall o.op with
  | true => match isGive hs o with
    | true => giveK P O G o s H (panicQ hs Q) K
    | false => match ownC hs o with
      | none => keepK P G o s H (panicQ hs Q) K
      | some (d, e, sz) => keepK P G o s H (panicQ hs Q) fun s' H' => adoptA s' d e sz G H' K
  | false => match isApp o.op with
    | true => match appSite s o with
      | some r => (match look O r with | none => objK P o s H fun s' => K s' H | some _ => False)
      | none => objK P o s H fun s' => K s' H
    | false => match isBs o.op with
      | true => match badAt s o.dst && opsOK s o.op.operands.toList with
        | true => match isAlloc o.op with
          | true => match boxOK s o.op with
            | true => objK P o s H fun s' => K s' H
            | false => False
          | false => match freeAt s o.dst with
            | true => valK P ⟨hs.eqs⟩ o.op ⟨s.env, [], []⟩ fun x => realK x (K (s.put o.dst x) H)
            | false => False
        | false => False
      | false => match o.op with
        | .move x | .assign x => K (s.put o.dst (ev s x)) H
        | .nilCheck _ | .fieldAddr _ _ _ | .indexAddr _ _ _ | .call { callee := .builtin .len, args := _, argTypes := _ } => valK P ⟨hs.eqs⟩ o.op s fun x => K (s.put o.dst x) H
        | .store t x y => match o.dst, storeSite (ev s x) with
          | none, some d => (match look O d with | none => objK P o s H fun s' => K (reput d s') H | some _ => False)
          | none, none => pubK P t (ev s x) (ev s y) G H fun H' => K s H'
          | _, _ => False
        | _ => False
def opA (P : Program) (hs : Hints) (Q : Exit → St → Heap → Prop) (O : List (Nat × AObj)) (G : Heap) (o : Oper) (s : St) (H : Heap) (K : St → Heap → Prop) : Prop :=
  match pubB hs.pub o with
  | true => bldK P O o s H K
  | false => opA0 P hs Q O G o s H K
def runA (P : Program) (hs : Hints) (Q : Exit → St → Heap → Prop) (O : List (Nat × AObj)) (G : Heap) : List Oper → St → Heap → Prop
  | [], s, H => Q .normal s H
  | o :: r, s, H => opA P hs Q O G o s H fun s' H' => runA P hs Q O G r s' H'
def storesIn : List Oper → Bool
  | [] => false
  | o :: r => (match o.op with | .store _ _ _ => true | _ => false) || storesIn r
def drawK2 (P : Program) (hs : Hints) (Q : Exit → St → Heap → Prop) (ops : Array Oper) (hd tl : List Oper) (O : List (Nat × AObj)) (s : St) (H : Heap) : Prop :=
  match callsIn tl || storesIn tl with
  | false => mixK P hs Q ⟨s.env, O, s.dfr⟩ H ops.toList (runA P hs Q O H tl) hd s H
  | true => match readsIn P hd with
    | true => ∃ G : Heap, G ≤ H ∧ mixK P hs Q ⟨s.env, O, s.dfr⟩ G ops.toList (runA P hs Q O G tl) hd s H
    | false => mixK P hs Q ⟨s.env, O, s.dfr⟩ (fun _ => none) ops.toList (runA P hs Q O (fun _ => none) tl) hd s H
def isRegion : Code → Bool
  | .region _ _ _ => true
  | _ => false
/-! ### A select of one case with a default -/
def selHead : List Oper → Option (Oper × SelectCase × List Oper)
  | o :: r => match o.op, o.guard with
    | .select cs false, none => match cs.toList with | [c] => some (o, c, r) | _ => none
    | _, _ => none
  | [] => none
/-- A number is taken from a channel, or there is none. -/
def TakeAt (r : Option Nat) (k : IntKind) (z : Int) (H : Heap) (i : Int) (ok : Bool) (v : Int) (H' : Heap) : Prop :=
  ∃ c cap sd rc, r = some c ∧ ((H c = some (.chan cap #[] false sd rc false) ∧ i = -1 ∧ ok = false ∧ v = z ∧ H' = H) ∨
    ∃ t : List Value, H c = some (.chan cap (Value.int k v :: t).toArray false sd rc false) ∧ i = 0 ∧ ok = true ∧ H' = H.upd c (.chan cap t.toArray false sd (rc + 1) false))
/-- A value is put into a channel, or there is no room. -/
def PutAt (r : Option Nat) (x : Value) (H : Heap) (i : Int) (H' : Heap) : Prop :=
  ∃ c cap buf sd rc, r = some c ∧ H c = some (.chan cap buf false sd rc false) ∧ ((buf.size < cap ∧ i = 0 ∧ H' = H.upd c (.chan cap (buf.push x) false (sd + 1) rc false)) ∨ (cap ≤ buf.size ∧ i = -1 ∧ H' = H))
def selK (P : Program) (o : Oper) (c : SelectCase) (s : St) (H : Heap) (K : St → Heap → Prop) : Prop :=
  match c.send with
  | none => match ev s c.chan, P.underlying c.elem, zeroV P c.elem with
    | .c (.v (.chan r)), some (.int k), some (.int k' z) => match sameK k k' with
      | true => ∃ (i : Int) (ok : Bool) (v : Int) (H' : Heap), TakeAt r k z H i ok v H' ∧ K (s.put o.dst (.tup [.c (.v (.int .i64 i)), .c (.v (.bool ok)), .c (.v (.int k v))])) H'
      | false => False
    | _, _, _ => False
  | some x => match ev s c.chan, ev s x, zeroV P c.elem with
    | .c (.v (.chan r)), .c (.v (.int k n)), some _ => ∃ (i : Int) (H' : Heap), PutAt r (.int k n) H i H' ∧ K (s.put o.dst (.tup [.c (.v (.int .i64 i)), .c (.v (.bool false))])) H'
    | _, _, _ => False
/-- A scope through which the run goes without a jump. -/
def scopeQ (Q : Exit → St → Heap → Prop) : Exit → St → Heap → Prop
  | .goto _, _, _ => False
  | e, s, H => Q e s H
/-- What may stand in a round of a range over a function. -/
def inOK : Code → Bool
  | .region _ ops draw => ops.toList.all noDf && (draw || (selHead ops.toList).isNone)
  | .seq x y => inOK x && inOK y
  | .cond _ x y => inOK x && inOK y
  | .block _ c => inOK c
  | .loop c => inOK c
  | .scope _ => false
  | .rangeFunc .. => false
  | _ => true
/-- The kinds of yield's arguments: a hint's slots (single values) and variables (structs: the slot's number, no type). -/
def segOK : List SegH → Bool
  | [] => true
  | .f .val :: _ => false
  | .f _ :: r => segOK r
  | .ints _ _ :: _ => false
def parOK (h : LHint) : Bool := (h.slots.all fun x => match x with | .f _ .val => false | .f _ _ => true | _ => false) && h.objs.all fun x => match x with | .box _ _ l => segOK l | _ => false
def parSlot : (l : List SlotH) → PTy (l.map SlotH.pk) → Nat → Option Value
  | [], _, _ => none
  | .f t k :: r, x, u => match Nat.beq t u with | true => some (k.mk x.1) | false => parSlot r x.2 u
  | .row _ _ _ :: r, x, u => parSlot r x.2 u
  | .own _ _ _ :: r, x, u => parSlot r x.2 u
def segVals : (l : List SegH) → PTy (l.map SegH.pk) → List Value
  | [], _ => []
  | .f k :: r, x => k.mk x.1 :: segVals r x.2
  | .ints _ _ :: r, x => segVals r x.2
def parObj : (l : List ObjH) → PTy2 (l.map ObjH.pks) → Nat → Option (List Seg × Value)
  | [], _, _ => none
  | .keep _ :: r, x, u => parObj r x.2 u
  | .box t _ l :: r, x, u => match Nat.beq t u with | true => some (mkSegs l x.1, .agg (segVals l x.1).toArray) | false => parObj r x.2 u
def parV (h : LHint) (p : h.Par) (t : Nat) : SV × Value := match parSlot h.slots p.1 t with
  | some v => (.c (.v v), v)
  | none => match parObj h.objs p.2 t with
    | some (l, v) => (.agg l, v)
    | none => (.c .bad, undef)
def setPars (h : LHint) (p : h.Par) : List Nat → St → St
  | [], s => s
  | t :: r, s => setPars h p r (s.set t (parV h p t).1)
/-- The contract of an iterator: whatever is promised between two rounds, by their number, with the memory kept on which the iterator leans. -/
def Iter (P : Program) (fv : Value) (Kp : Heap → Prop) (xs : List (List Value)) : Prop :=
  match fv with
  | .func (.func g) first lb => first = #[] ∧ ∀ (l : Nat) (J Jx : Nat → Heap → Prop) (H : Heap), (∀ i H', J i H' → Kp H') → J 0 H →
      (∀ i x H', xs[i]? = some x → J i H' → MeetsY P l x H' fun e H'' => (e = .returned (.bool true) ∧ J (i + 1) H'') ∨ (e = .returned (.bool false) ∧ Jx (i + 1) H'')) →
      Meets P g (.func (.yield l) #[] #[] :: lb.toList) H fun e H'' => (∃ v, e = .returned v) ∧ (J xs.length H'' ∨ ∃ i, Jx i H'')
  | _ => False
def RangeP {α : Type} (P : Program) (fv : Value) (xv : α → List Value) (T : α → (Heap → Prop) → Heap → Prop) (D : Heap → Prop) (H : Heap) : Prop :=
  ∃ (xs : List α) (Kp : Heap → Prop) (I : Nat → Heap → Prop), (∀ H H', H ≤ H' → Kp H → Kp H') ∧ Iter P fv Kp (xs.map xv) ∧ (∀ i H, I i H → Kp H) ∧ I 0 H ∧
    (∀ i x H', xs[i]? = some x → I i H' → T x (I (i + 1)) H') ∧ ∀ H', I xs.length H' → D H'
def rndQ (K : Heap → Prop) (Q : Exit → Heap → Prop) : Exit → St → Heap → Prop
  | .normal, _, H => K H
  | .ret, _, H => Q .ret H
  | .exit i, _, H => Q (.exit i) H
  | _, _, _ => False
/-- What is enough for a piece of code. -/
def vc (P : Program) (hs : Hints) : Code → (Exit → St → Heap → Prop) → St → Heap → Prop
  | .skip, Q, s, H => Q .normal s H
  | .label _, Q, s, H => Q .normal s H
  | .seq x y, Q, s, H => match findH hs.cuts (match isRegion y with | true => 0 | false => firstR y) with
    | none => vc P hs x (seqQ (vc P hs y Q) Q) s H
    | some h => CutP (fun (I : h.Par → Heap → Prop) => vc P hs x (seqQ (fun s' H' => toHead h s s' H' I) Q) s H) (fun p H => vc P hs y Q (rebuild h s p) H)
  | .region _ ops draw, Q, s, H => match draw with
    | false => match selHead ops.toList with
      | none => opsK P hs Q ops.toList ops.toList s H
      | some (o, c, r) => selK P o c s H fun s' H' => opsK P hs Q ops.toList r s' H'
    | true => match drawOK P hs ops with
      | true => drawK P hs Q ops (pickO ops.toList (headOf hs.late ops.toList (schedO ops))) (pickO ops.toList (tailOf hs.late ops.toList (schedO ops))) s H
      | false => match drawOK2 P hs ops with
        | true => drawK2 P hs Q ops (pickO ops.toList (head2 ops.toList (order2 hs.pub ops))) (pickO ops.toList (rest2 ops.toList (order2 hs.pub ops))) (delAll s.objs (eaten s ops.toList ops.toList)) s H
        | false => False
  | .cond c x y, Q, s, H => match ev s c with
    | .c (.v (.bool p)) => Br p (vc P hs x Q s H) (vc P hs y Q s H)
    | _ => False
  | .block id c, Q, s, H => vc P hs c (blockQ id Q) s H
  | .loop c, Q, s, H => match findH hs.loops (firstR c) with
    | none => False
    | some h => toHead h s s H fun p0 H0 => LoopP (fun (K : h.Par → Heap → Prop) p H => vc P hs c (seqQ (fun s' H' => toHead h s s' H' K) Q) (rebuild h s p) H) p0 H0
  | .ret, Q, s, H => Q .ret s H
  | .exit i, Q, s, H => Q (.exit i) s H
  | .scope c, Q, s, H => vc P hs c (scopeQ Q) s H
  | .rangeFunc g ps assign body, Q, s, H => match findH hs.loops (firstR body) with
    | none => False
    | some h => match s.dfr, ev s g, parOK h && (inOK assign && inOK body) with
      | [], .c (.v fv), true => RangeP P fv (fun p => ps.toList.map fun t => (parV h p t).2)
          (fun p K H' => vc P hs assign (seqQ (fun s' H'' => vc P hs body (rndQ K fun e H3 => Q e ⟨restrictEnv h.fix s.env 0, [], []⟩ H3) s' H'') fun _ _ _ => False)
            (setPars h p ps.toList ⟨restrictEnv h.fix s.env 0, [], []⟩) H')
          (fun H' => Q .normal ⟨restrictEnv h.fix s.env 0, [], []⟩ H') H
      | _, _, _ => False
  | _, _, _, _ => False
def resK (P : Program) (s : St) (H : Heap) : List ResultVar → (List SV → Prop) → Prop
  | [], K => K []
  | .tmp t :: r, K => resK P s H r fun l => K (s.get t :: l)
  | .cell t ty :: r, K => match s.get t with
    | .c (.v _) => readK P (.load ty (.tmp t)) s H fun x => resK P s H r fun l => K (x :: l)
    | q => loadK P ty q s fun x => resK P s H r fun l => K (x :: l)
def tupV : List Value → Value
  | [x] => x
  | l => .tuple l.toArray
def leaveR (P : Program) (fn : Func) (R : Ending → Heap → Prop) (s : St) (H : Heap) : Prop :=
  resK P s H fn.results.toList fun l => lendK l s H fun vs _ H' _ => R (.returned (tupV vs)) H'
def leaveK (P : Program) (fn : Func) (R : Ending → Heap → Prop) (s : St) (H : Heap) : Prop :=
  match s.dfr with
  | [] => leaveR P fn R s H
  | [⟨f, sites⟩] => lendCaps (sites.map .b) ⟨s.env, s.objs, []⟩ H fun vs s' Hl ls => MeetsD P f vs .returning Hl fun e u H' => (∃ v, e = .returned v) ∧ settle u = .returning ∧ backK P ls s' H' fun s'' H'' => leaveR P fn R s'' H''
  | _ => False
def panK (P : Program) (fn : Func) (R : Ending → Heap → Prop) (c : List PanicEntry) (s : St) (H : Heap) : Prop :=
  match s.dfr with
  | [] => R (.panicked c) H
  | [⟨f, sites⟩] => lendCaps (sites.map .b) ⟨s.env, s.objs, []⟩ H fun vs s' Hl ls => MeetsD P f vs (.panicking c) Hl fun e u H' => (∃ v, e = .returned v) ∧
      ((settle u = .returning ∧ backK P ls s' H' fun s'' H'' => leaveR P fn R s'' H'') ∨ ∃ c', settle u = .panicking c' ∧ R (.panicked c') H')
  | _ => False
def retQ (P : Program) (fn : Func) (R : Ending → Heap → Prop) : Exit → St → Heap → Prop
  | .ret, s, H => leaveK P fn R s H
  | .normal, s, H => leaveK P fn R s H
  | .panic c, s, H => panK P fn R c s H
  | _, _, _ => False
def badN : Nat → List SV
  | 0 => []
  | n + 1 => .c .bad :: badN n
def vcFun (P : Program) (hs : Hints) (fn : Func) (args : List SV) (R : Ending → Heap → Prop) (H : Heap) : Prop :=
  match fn.body with
  | some c => vc P hs c (retQ P fn R) ⟨args ++ badN (fn.ntmps - args.length), [], []⟩ H
  | none => False
end Sx

set_option linter.unusedVariables false
set_option linter.unusedSimpArgs false
namespace Sx
open Go
set_option linter.unusedSectionVars false
variable [Dr]

/-- Where private variables and rows lie. -/
structure Vl where
  blk : Nat → Nat
  row : Nat → Value

def SubRep (v : Value) (sz lo hi : Nat) (y : Value) : Prop :=
  ∃ a n cap a', v = .slice a n cap ∧ y = .slice a' (hi - lo) (cap - lo) ∧ lo ≤ hi ∧ hi ≤ n ∧ n ≤ cap ∧ (a = none → n = 0 ∧ cap = 0 ∧ a' = none) ∧
    ∀ A, a = some A → A.spot = none ∧ ∃ o', a' = some ⟨A.block, o', none⟩ ∧ (lo < cap → o' = A.off + lo * sz) ∧ o' + (cap - lo) * sz ≤ A.off + cap * sz
def Cap.real (V : Vl) : Cap → Value
  | .b s => .pointer (some ⟨V.blk s, 0, none⟩)
  | .v x => x
def ADef.real (V : Vl) (x : ADef) : Deferred := { target := .fn (.func x.f) #[], args := (x.sites.map fun k => Value.pointer (some ⟨V.blk k, 0, none⟩)).toArray }
def SC.rep (V : Vl) : SC → Value → Prop
  | .v x, y => y = x ∧ one x = true
  | .box s off, y => y = .pointer (some ⟨V.blk s, off, none⟩)
  | .boxi s off n i, y => i < n ∧ y = .pointer (some ⟨V.blk s, off + i, none⟩)
  | .arr s off n lo hi, y => ∃ a', y = .slice a' (hi - lo) (n - lo) ∧ lo ≤ hi ∧ hi ≤ n ∧ (lo < n → a' = some ⟨V.blk s, off + lo, none⟩)
  | .row s, y => y = V.row s ∧ one (V.row s) = true
  | .sub s sz lo hi, y => SubRep (V.row s) sz lo hi y
  | .cell s sz i off, y => ∃ A n cap, V.row s = .slice (some A) n cap ∧ A.spot = none ∧ y = .pointer (some ⟨A.block, A.off + i * sz + off, none⟩)
  | .clo fn first caps, y => y = .func fn first.toArray (caps.map (Cap.real V)).toArray
  | .bad, _ => True
def SegsRep (V : Vl) : List Seg → List Value → Prop
  | [], l => l = []
  | .c x :: r, l => ∃ y l', l = y :: l' ∧ x.rep V y ∧ SegsRep V r l'
  | .ints k n xs :: r, l => xs.length = n ∧ ∃ l', l = xs.map (.int k) ++ l' ∧ SegsRep V r l'
def Comp.rep (V : Vl) : Comp → Value → Prop
  | .c x, y => x.rep V y
  | .agg l, y => ∃ cs, y = .agg cs.toArray ∧ SegsRep V l cs
def CompsRep (V : Vl) : List Comp → List Value → Prop
  | [], l => l = []
  | x :: r, l => ∃ y l', l = y :: l' ∧ x.rep V y ∧ CompsRep V r l'
def SV.rep (V : Vl) : SV → Value → Prop
  | .c x, y => x.rep V y
  | .agg l, y => ∃ cs, y = .agg cs.toArray ∧ SegsRep V l cs
  | .tup l, y => ∃ ys, y = .tuple ys.toArray ∧ CompsRep V l ys

/-- A row in a world. -/
def RowIn (w : World) (v : Value) (ty sz : Nat) (es : List (List Value)) : Prop :=
  (v = .slice none 0 0 ∧ es = []) ∨
  ∃ b o cap c, v = .slice (some ⟨b, o, none⟩) es.length cap ∧ w.heap[b]? = some (.cells c ty (0, 0)) ∧ es.length ≤ cap ∧ o + cap * sz ≤ c.size ∧
    (∀ e ∈ es, e.length = sz) ∧ (c.toList.drop o).take (es.length * sz) = es.flatten ∧ ∀ e ∈ es, ∀ x ∈ e, one x = true
def ObjRep (V : Vl) (w : World) (d : Nat) : AObj → Prop
  | .box ty l => ∃ cs, SegsRep V l cs ∧ w.heap[V.blk d]? = some (.cells cs.toArray ty (0, 0))
  | .row ty sz es => RowIn w (V.row d) ty sz es
def privB (V : Vl) (d : Nat) : AObj → Option Nat
  | .box _ _ => some (V.blk d)
  | .row _ _ _ => blockOf (V.row d)

/-- The memory in which the function was called, and what was known of it. -/
structure Ctx where
  w0 : World
  H0 : Heap
  lo : Nat
/-- The block of a mark of a range over a function. -/
def markOf (d : Deferred) : Option Nat := match d.target with
  | .collected r => some r
  | _ => none
/-- Deferred calls: those that are told, and marks whose blocks nobody touches. -/
structure DfrOK (C : Ctx) (V : Vl) (l : List ADef) (ds : List Deferred) : Prop where
  real : (ds.filter fun d => (markOf d).isNone) = l.map (ADef.real V)
  nodup : (ds.filterMap markOf).Nodup
  mark : ∀ r ∈ ds.filterMap markOf, C.lo ≤ r ∧ r < C.w0.heap.size ∧ C.H0 r = none ∧ C.w0.heap[r]? = some (.deferred (some []))
  lo : C.lo ≤ C.w0.heap.size
theorem DfrOK.eq {C : Ctx} {V V' : Vl} {l l' : List ADef} {ds : List Deferred} (h : DfrOK C V l ds) (e : l.map (ADef.real V) = l'.map (ADef.real V')) : DfrOK C V' l' ds := ⟨h.real.trans e, h.nodup, h.mark, h.lo⟩
theorem DfrOK.cons {C : Ctx} {V : Vl} {l : List ADef} {ds : List Deferred} (h : DfrOK C V l ds) (x : ADef) {d : Deferred} (e : d = x.real V) : DfrOK C V (x :: l) (d :: ds) := by
  subst e
  have hm : markOf (x.real V) = none := rfl
  refine ⟨?_, ?_, ?_, h.lo⟩
  · rw [List.filter_cons, hm, Option.isNone_none, if_pos rfl, List.map_cons, h.real]
  · rw [List.filterMap_cons, hm]; exact h.nodup
  · rw [List.filterMap_cons, hm]; exact h.mark
theorem DfrOK.nil {C : Ctx} {V : Vl} (h : C.lo ≤ C.w0.heap.size) : DfrOK C V [] [] := ⟨rfl, by simp, by simp, h⟩
structure Rep (C : Ctx) (V : Vl) (s : St) (H : Heap) (a : Act) (w : World) : Prop where
  env : ∀ t x, nth s.env t = some x → x.rep V (a.tmps.getD t undef)
  len : s.env.length ≤ a.tmps.size
  dfr : DfrOK C V s.dfr a.defers
  sub : H.sub w
  objs : ∀ d o, look s.objs d = some o → ObjRep V w d o
  priv : ∀ d o b, look s.objs d = some o → privB V d o = some b → H b = none ∧ (C.w0.heap.size ≤ b ∨ C.H0 b ≠ none) ∧ b < w.heap.size
  dist : ∀ d o d' o' b, look s.objs d = some o → look s.objs d' = some o' → privB V d o = some b → privB V d' o' = some b → d = d'
  os : w.os = C.w0.os
  tape : Tp w C.w0
  output : w.output = C.w0.output
  size : C.w0.heap.size ≤ w.heap.size
  other : ∀ b, b < C.w0.heap.size → C.H0 b = none → w.heap[b]? = C.w0.heap[b]? ∧ H b = none

/-! ### Lists -/
theorem nbf {a b : Nat} (h : ¬ a = b) : Nat.beq a b = false := by
  cases hb : Nat.beq a b
  · rfl
  · exact absurd (Nat.eq_of_beq_eq_true hb) h
theorem nbt {a b : Nat} (h : Nat.beq a b = true) : a = b := Nat.eq_of_beq_eq_true h
theorem nth_eq {α : Type} : ∀ (l : List α) n, nth l n = l[n]?
  | [], _ => by simp [nth]
  | x :: r, 0 => by simp [nth]
  | x :: r, n + 1 => by simp [nth, nth_eq r n]
theorem setNth_eq {α : Type} : ∀ (l : List α) n y, setNth l n y = l.set n y
  | [], _, _ => by simp [setNth]
  | x :: r, 0, y => by simp [setNth]
  | x :: r, n + 1, y => by simp [setNth, setNth_eq r n y]
theorem nth_setNth {α : Type} (l : List α) (n m : Nat) (y : α) : nth (setNth l n y) m = if n = m then (if n < l.length then some y else none) else nth l m := by
  rw [nth_eq, setNth_eq, nth_eq, List.getElem?_set]
theorem look_objSet : ∀ (l : List (Nat × AObj)) (d d' : Nat) (o : AObj), look (objSet l d o) d' = if d = d' then some o else look l d'
  | [], d, d', o => by
    simp only [objSet, look]
    by_cases h : d = d'
    · subst h; simp
    · have : Nat.beq d d' = false := nbf h
      simp [this, h]
  | (k, x) :: r, d, d', o => by
    simp only [objSet]
    by_cases hk : k = d
    · subst hk
      simp only [Nat.beq_refl, look]
      by_cases h : k = d'
      · subst h; simp
      · have : Nat.beq k d' = false := nbf h
        simp [this, h]
    · have hk' : Nat.beq k d = false := nbf hk
      simp only [hk', look]
      rw [look_objSet r d d' o]
      by_cases h : k = d'
      · subst h
        simp [Ne.symm hk]
      · have : Nat.beq k d' = false := nbf h
        simp [this]
theorem look_objDel : ∀ (l : List (Nat × AObj)) (d d' : Nat), look (objDel l d) d' = if d = d' then none else look l d'
  | [], d, d' => by simp [objDel, look]
  | (k, x) :: r, d, d' => by
    simp only [objDel]
    by_cases hk : k = d
    · subst hk
      simp only [Nat.beq_refl, look_objDel r k d', look]
      by_cases h : k = d'
      · subst h; simp
      · have : Nat.beq k d' = false := nbf h
        simp [this]
    · have hk' : Nat.beq k d = false := nbf hk
      simp only [hk', look, look_objDel r d d']
      by_cases h : k = d'
      · subst h
        simp [Ne.symm hk]
      · have : Nat.beq k d' = false := nbf h
        simp [this]
theorem get_nth {s : St} {t : Nat} : (s.get t = .c .bad ∧ nth s.env t = none) ∨ nth s.env t = some (s.get t) := by
  unfold St.get
  cases h : nth s.env t <;> simp

theorem getD_set {tmps : Array Value} {d t : Nat} {y : Value} (h : t < tmps.size) : (tmps.setIfInBounds d y).getD t undef = if d = t then y else tmps.getD t undef := by
  simp only [Array.getD_eq_getD_getElem?, Array.getElem?_setIfInBounds]
  split
  · rename_i he
    subst he
    simp [h]
  · rfl

/-! ### The abstract state and its parts -/
section
variable {C : Ctx} {V : Vl} {s : St} {H : Heap} {a : Act} {w : World}
theorem Rep.get (h : Rep C V s H a w) (t : Nat) : (s.get t).rep V (a.tmps.getD t undef) := by
  rcases get_nth (s := s) (t := t) with ⟨e, _⟩ | e
  · rw [e]; trivial
  · exact h.env t _ e
theorem Rep.ev (h : Rep C V s H a w) (x : Operand) : (Sx.ev s x).rep V (a.eval x) := by
  cases x with
  | tmp t => exact h.get t
  | const x => cases x <;> first | exact ⟨rfl, rfl⟩ | trivial
  | global g => exact ⟨rfl, rfl⟩
  | func f => exact ⟨rfl, rfl⟩
theorem Rep.put (h : Rep C V s H a w) {x : SV} {y : Value} (hx : x.rep V y) (d : Option Nat) : Rep C V (s.put d x) H (a.put d y) w := by
  cases d with
  | none => exact h
  | some d =>
    refine { env := ?_, len := ?_, dfr := h.dfr, sub := h.sub, objs := h.objs, priv := h.priv, dist := h.dist, os := h.os, tape := h.tape, output := h.output, size := h.size, other := h.other }
    · intro t z hz
      simp only [St.put, St.set, nth_setNth] at hz
      have ht : t < a.tmps.size := by
        have hl := h.len
        by_cases hd : d = t
        · subst hd
          simp only [if_true] at hz
          split at hz
          · omega
          · cases hz
        · simp only [hd, if_false, nth_eq] at hz
          have := (List.getElem?_eq_some_iff.1 hz).1
          omega
      simp only [Act.put, getD_set ht]
      by_cases hd : d = t
      · simp only [hd, if_true] at hz ⊢
        split at hz
        · cases hz; exact hx
        · cases hz
      · simp only [hd, if_false] at hz ⊢
        exact h.env t z hz
    · simp only [St.put, St.set, setNth_eq, List.length_set, Act.put, Array.size_setIfInBounds]
      exact h.len
end

/-! ### Segments -/
theorem segsRep_append {V : Vl} : ∀ {l l' : List Seg} {cs cs' : List Value}, SegsRep V l cs → SegsRep V l' cs' → SegsRep V (l ++ l') (cs ++ cs')
  | [], l', cs, cs', h, h' => by
    simp only [SegsRep] at h
    subst h; simpa using h'
  | .c x :: r, l', cs, cs', h, h' => by
    obtain ⟨y, l1, rfl, hx, hr⟩ := h
    exact ⟨y, l1 ++ cs', by simp, hx, segsRep_append hr h'⟩
  | .ints k n xs :: r, l', cs, cs', h, h' => by
    obtain ⟨hn, l1, rfl, hr⟩ := h
    exact ⟨hn, l1 ++ cs', by simp, segsRep_append hr h'⟩
theorem segsRep_len {V : Vl} : ∀ {l : List Seg} {cs : List Value}, SegsRep V l cs → cs.length = segLen l
  | [], cs, h => by simp only [SegsRep] at h; subst h; rfl
  | .c x :: r, cs, h => by
    obtain ⟨y, l1, rfl, hx, hr⟩ := h
    simp [segLen, segsRep_len hr]
  | .ints k n xs :: r, cs, h => by
    obtain ⟨hn, l1, rfl, hr⟩ := h
    simp [segLen, segsRep_len hr, hn]
theorem segFrom_rep {V : Vl} : ∀ (l : List Seg) (o : Nat) {l' : List Seg} {cs : List Value}, SegsRep V l cs → segFrom l o = some l' → SegsRep V l' (cs.drop o) ∧ o ≤ cs.length
  | l, 0, l', cs, h, e => by
    simp only [segFrom, Option.some.injEq] at e
    subst e; exact ⟨by simpa using h, Nat.zero_le _⟩
  | .c x :: r, n + 1, l', cs, h, e => by
    obtain ⟨y, l1, rfl, hx, hr⟩ := h
    simp only [segFrom] at e
    obtain ⟨h1, h2⟩ := segFrom_rep r n hr e
    exact ⟨by simpa using h1, by simp; omega⟩
  | .ints k m xs :: r, n + 1, l', cs, h, e => by
    obtain ⟨hn, l1, rfl, hr⟩ := h
    simp only [segFrom] at e
    split at e
    · rename_i hb
      have hm : m ≤ n + 1 := Nat.le_of_ble_eq_true hb
      obtain ⟨h1, h2⟩ := segFrom_rep r _ hr e
      refine ⟨?_, by simp; omega⟩
      have e0 : (xs.map (Value.int k)).drop (n + 1) = [] := List.drop_eq_nil_of_le (by simp; omega)
      rw [List.drop_append, e0, List.nil_append, List.length_map, hn]
      exact h1
    · cases e
  | [], _ + 1, l', cs, h, e => by simp [segFrom] at e

theorem segTake_rep {V : Vl} : ∀ (l : List Seg) (n : Nat) {l' : List Seg} {cs : List Value}, SegsRep V l cs → segTake l n = some l' → SegsRep V l' (cs.take n) ∧ n ≤ cs.length
  | l, 0, l', cs, h, e => by
    simp only [segTake, Option.some.injEq] at e
    subst e; exact ⟨by simp [SegsRep], Nat.zero_le _⟩
  | .c x :: r, n + 1, l', cs, h, e => by
    obtain ⟨y, l1, rfl, hx, hr⟩ := h
    simp only [segTake] at e
    split at e
    · rename_i l2 h2
      cases e
      obtain ⟨h3, h4⟩ := segTake_rep r n hr h2
      exact ⟨⟨y, l1.take n, by simp, hx, h3⟩, by simp; omega⟩
    · cases e
  | .ints k m xs :: r, n + 1, l', cs, h, e => by
    obtain ⟨hn, l1, rfl, hr⟩ := h
    simp only [segTake] at e
    split at e
    · rename_i hb
      have hm : m ≤ n + 1 := Nat.le_of_ble_eq_true hb
      split at e
      · rename_i l2 h2
        cases e
        obtain ⟨h3, h4⟩ := segTake_rep r _ hr h2
        refine ⟨⟨hn, l1.take (n + 1 - m), ?_, h3⟩, by simp; omega⟩
        have e0 : (xs.map (Value.int k)).take (n + 1) = xs.map (Value.int k) := List.take_of_length_le (by simp; omega)
        rw [List.take_append, e0, List.length_map, hn]
      · cases e
    · cases e
  | [], _ + 1, l', cs, h, e => by simp [segTake] at e
theorem segPut_rep {V : Vl} {l new l' : List Seg} {o : Nat} {cs ns : List Value} (h : SegsRep V l cs) (hn : SegsRep V new ns) (e : segPut l o new = some l') :
    SegsRep V l' (cs.take o ++ ns ++ cs.drop (o + ns.length)) ∧ o + ns.length ≤ cs.length := by
  unfold segPut at e
  rw [← segsRep_len hn] at e
  cases h1 : segTake l o with
  | none => rw [h1] at e; simp [appO] at e
  | some l1 =>
    cases h2 : segFrom l (o + ns.length) with
    | none => rw [h1, h2] at e; simp [appO] at e
    | some l2 =>
      rw [h1, h2] at e
      simp only [appO, Option.some.injEq] at e
      subst e
      obtain ⟨a1, a2⟩ := segTake_rep l o h h1
      obtain ⟨b1, b2⟩ := segFrom_rep l _ h h2
      refine ⟨?_, b2⟩
      rw [List.append_assoc]
      exact segsRep_append a1 (segsRep_append hn b1)
theorem flat_rep {V : Vl} : ∀ {l : List Seg} {cs vs : List Value}, SegsRep V l cs → flat l = some vs → cs = vs
  | [], cs, vs, h, e => by
    simp only [SegsRep] at h
    simp only [flat, Option.some.injEq] at e
    rw [h, e]
  | .c (.v x) :: r, cs, vs, h, e => by
    obtain ⟨y, l1, rfl, ⟨hx, _⟩, hr⟩ := h
    simp only [flat] at e
    split at e
    · rename_i l2 h2; cases e; rw [flat_rep hr h2, hx]
    · cases e
  | .c (.box _ _) :: r, cs, vs, h, e | .c (.boxi _ _ _ _) :: r, cs, vs, h, e | .c (.arr _ _ _ _ _) :: r, cs, vs, h, e | .c (.row _) :: r, cs, vs, h, e
  | .c (.sub _ _ _ _) :: r, cs, vs, h, e | .c (.cell _ _ _ _) :: r, cs, vs, h, e | .c (.clo _ _ _) :: r, cs, vs, h, e | .c .bad :: r, cs, vs, h, e => by simp [flat] at e
  | .ints k n xs :: r, cs, vs, h, e => by
    obtain ⟨hn, l1, rfl, hr⟩ := h
    simp only [flat] at e
    split at e
    · rename_i l2 h2; cases e; rw [flat_rep hr h2]
    · cases e
theorem val_rep {V : Vl} {x : SV} {y v : Value} (h : x.rep V y) (e : x.val = some v) : y = v := by
  cases x with
  | c x => cases x <;> simp [SV.val] at e; subst e; exact h.1
  | agg l =>
    obtain ⟨cs, rfl, hs⟩ := h
    simp only [SV.val] at e
    split at e
    · rename_i l2 h2; cases e; rw [flat_rep hs h2]
    · cases e
  | tup l => simp [SV.val] at e
theorem vals_rep {V : Vl} {s : St} {C : Ctx} {H : Heap} {a : Act} {w : World} (h : Rep C V s H a w) : ∀ (l : List Operand) {vs : List Value}, vals (l.map (ev s)) = some vs → l.map a.eval = vs
  | [], vs, e => by simp [vals] at e; simp [e]
  | x :: r, vs, e => by
    simp only [List.map_cons, vals] at e
    split at e
    · rename_i v hv
      split at e
      · rename_i l hl; cases e
        simp [val_rep (h.ev x) hv, vals_rep h r hl]
      · cases e
    · cases e
theorem caps_rep {V : Vl} {s : St} {C : Ctx} {H : Heap} {a : Act} {w : World} (h : Rep C V s H a w) : ∀ (l : List Operand) {cs : List Cap}, capsOf (l.map (ev s)) = some cs → l.map a.eval = cs.map (Cap.real V)
  | [], cs, e => by simp [capsOf] at e; subst e; rfl
  | x :: r, cs, e => by
    have hx := h.ev x
    simp only [List.map_cons] at e ⊢
    generalize ev s x = sx at e hx
    have ih : ∀ {l}, capsOf (r.map (ev s)) = some l → r.map a.eval = l.map (Cap.real V) := fun e => caps_rep h r e
    generalize r.map (ev s) = rs at e ih
    unfold capsOf at e
    split at e
    · rename_i e0; cases e0
    · rename_i d r' e0
      cases e0
      split at e
      · rename_i l hl; cases e
        rw [ih hl, show a.eval x = _ from hx]
        rfl
      · cases e
    · rename_i v r' e0
      cases e0
      split at e
      · rename_i l hl; cases e
        obtain ⟨hx, -⟩ := hx
        rw [ih hl, hx]
        rfl
      · cases e
    · cases e
theorem sites_caps : ∀ (l : List SV) {cs : List Nat}, sitesOf l = some cs → capsOf l = some (cs.map .b)
  | [], cs, e => by simp [sitesOf] at e; subst e; rfl
  | .c (.box d 0) :: r, cs, e => by
    simp only [sitesOf] at e
    split at e
    · rename_i l hl; cases e
      simp [capsOf, sites_caps r hl]
    · cases e
  | .c (.box _ (_ + 1)) :: _, cs, e | .c (.v _) :: _, cs, e | .c (.boxi _ _ _ _) :: _, cs, e | .c (.arr _ _ _ _ _) :: _, cs, e | .c (.row _) :: _, cs, e | .c (.sub _ _ _ _) :: _, cs, e
  | .c (.cell _ _ _ _) :: _, cs, e | .c (.clo _ _ _) :: _, cs, e | .c .bad :: _, cs, e | .agg _ :: _, cs, e | .tup _ :: _, cs, e => by simp [sitesOf] at e
/-- A value's cells, of one that is no tuple. -/
theorem segs_rep {V : Vl} {x : SV} {y : Value} {l : List Seg} (h : x.rep V y) (e : x.segs = some l) : SegsRep V l y.cells.toList := by
  cases x with
  | c x =>
    have e1 : l = [.c x] ∧ x ≠ .bad := by cases x <;> simp [SV.segs] at e <;> exact ⟨e.symm, by simp⟩
    obtain ⟨rfl, hb⟩ := e1
    refine ⟨y, [], ?_, h, rfl⟩
    have : one y = true := by
      cases x with
      | v z => obtain ⟨h1, h2⟩ := h; rw [h1]; exact h2
      | box _ _ => rw [show y = _ from h]; rfl
      | boxi _ _ _ _ => rw [show y = _ from h.2]; rfl
      | arr _ _ _ _ _ => obtain ⟨a', h1, _⟩ := h; rw [h1]; rfl
      | row d => obtain ⟨h1, h2⟩ := h; rw [h1]; exact h2
      | sub _ _ _ _ => obtain ⟨a, n, c, a', h1, h2, _⟩ := h; rw [h2]; rfl
      | cell _ _ _ _ => obtain ⟨A, n, c, h1, h2, h3⟩ := h; rw [h3]; rfl
      | clo _ _ _ => rw [show y = _ from h]; rfl
      | bad => exact absurd rfl hb
    cases y <;> first | rfl | simp [one] at this
  | agg l' =>
    simp [SV.segs] at e
    subst e
    obtain ⟨cs, rfl, hs⟩ := h
    simpa [Value.cells] using hs
  | tup l => simp [SV.segs] at e
end Sx

set_option linter.unusedVariables false
set_option linter.unusedSimpArgs false
namespace Sx
open Go
set_option linter.unusedSectionVars false
variable [Dr]

def eqR : List Seg → List Seg → Option Bool → Option Bool
  | [], [], acc => match acc with | some b => some b | none => some true
  | .c (.v (.int k a)) :: l, .c (.v (.int k' b)) :: l', acc => match sameK k k' with
    | true => eqR l l' (some (andO acc (a == b)))
    | false => none
  | .c (.v (.bool a)) :: l, .c (.v (.bool b)) :: l', acc => eqR l l' (some (andO acc (a == b)))
  | .c (.v (.string a)) :: l, .c (.v (.string b)) :: l', acc => eqR l l' (some (andO acc (a == b)))
  | .ints k _ a :: l, .ints k' _ b :: l', acc => match sameK k k' with
    | true => eqR l l' (some (andO acc (a == b)))
    | false => none
  | _, _, _ => none
theorem eqK_R : ∀ (l l' : List Seg) (acc : Option Bool) (K : Bool → Prop), eqK l l' acc K → ∃ b, eqR l l' acc = some b ∧ K b := by
  intro l l' acc K h
  fun_induction eqK l l' acc K <;> simp_all [eqR]
def intLens : List Seg → Prop
  | [] => True
  | .c _ :: r => intLens r
  | .ints _ n xs :: r => xs.length = n ∧ intLens r
theorem intLens_of {V : Vl} : ∀ {l : List Seg} {cs : List Value}, SegsRep V l cs → intLens l
  | [], _, _ => trivial
  | .c x :: r, cs, h => by obtain ⟨y, l1, rfl, hx, hr⟩ := h; show intLens r; exact intLens_of hr
  | .ints k n xs :: r, cs, h => by obtain ⟨hn, l1, rfl, hr⟩ := h; exact ⟨hn, intLens_of hr⟩
/-- At this type == is of all cells. -/
structure EqOK (P : Program) (t : TypeId) : Prop where
  guard : P.eqGuardType P.depth t = false
  run : ∀ ks, kinds P t = some ks → ∀ (l l' : List Seg) (cs cs' : List Value) (b : Bool) (w : World), shapeOK ks l = true → shapeOK ks l' = true → intLens l → intLens l' →
    flat l = some cs → flat l' = some cs' → eqR l l' none = some b → (Op.equal t (.agg cs.toArray) (.agg cs'.toArray)).run P w = .ok b w
theorem eqR_flat : ∀ (l l' : List Seg) (acc : Option Bool) (b : Bool), eqR l l' acc = some b → (∃ cs, flat l = some cs) ∧ ∃ cs, flat l' = some cs := by
  intro l l' acc b h
  fun_induction eqR l l' acc <;> simp_all [flat]
  all_goals (rename_i ih; obtain ⟨⟨c1, h1⟩, c2, h2⟩ := ih; simp [h1, h2])

section
variable {P : Program} {w : World}
theorem exec_v {s : Sem Value} {y : Value} {w' : World} (h : s.run P w = .ok y w') : ((do pure (Next.value (← s)) : Sem Next)).run P w = .ok (.value y) w' := by
  rw [Sem.run_bind, h]; rfl
theorem sameK_eq {k k' : IntKind} (h : sameK k k' = true) : k = k' := by cases k <;> cases k' <;> first | rfl | simp [sameK] at h
theorem eqGuard_of {op : BinOp} {t : TypeId} {x y : Operand} {u v : Value} (h : ∀ cs ds, u = .agg cs → v = .agg ds → P.eqGuardType P.depth t = false) (h2 : u ≠ .nilIface) :
    (eqGuard op t x y u v).run P w = .ok () w := by
  unfold eqGuard
  cases op <;> first
    | (simp; done)
    | (cases u <;> cases v <;> first
        | (simp; done)
        | (exact absurd rfl h2)
        | (simp [h _ _ rfl rfl]))
theorem intK_sound {op : BinOp} {k : IntKind} {a b : Int} {K : Value → Prop} (hs : op ≠ .shl) (hs' : op ≠ .shr) (hk : intK op k a b K) (t : TypeId) :
    ∃ r, K r ∧ one r = true ∧ (binOp op t (.int k a) (.int k b)).run P w = .ok r w := by
  cases op <;> simp only [intK] at hk <;> first
    | exact absurd rfl hs
    | exact absurd rfl hs'
    | exact ⟨_, hk, rfl, by simp [binOp, Op.intArith, Op.intBits, Op.intCmp, bitOp]⟩
    | exact ⟨_, hk.2, rfl, by simp [binOp, Op.intDiv, hk.1]⟩
theorem run_equal {t : TypeId} {x y : Value} {b : Bool} (h : (Op.equal t x y).run P w = .ok b w) (hn : ∀ k n, x ≠ .int k n) (hf : ∀ k n, x ≠ .float k n) (hc : ∀ k a b, x ≠ .complex k a b)
    (hs : ∀ a, x ≠ .string a) : (binOp .eql t x y).run P w = .ok (.bool b) w ∧ (binOp .neq t x y).run P w = .ok (.bool (!b)) w := by
  constructor <;> (cases x <;> first | exact absurd rfl (hn _ _) | exact absurd rfl (hf _ _) | exact absurd rfl (hc _ _ _) | exact absurd rfl (hs _) | (cases y <;> simp [binOp, h]))
theorem equal_bool {t : TypeId} (h : P.underlying t = some .bool) (a b : Bool) : (Op.equal t (.bool a) (.bool b)).run P w = .ok (a == b) w := run_equalIn_bool w 9999 t a b h
theorem equalIn_ptr {d : Nat} {t e : TypeId} (h : P.underlying t = some (.pointer e)) (a : Option Addr) : (Op.equalIn (d + 1) t (.pointer a) (.pointer none)).run P w = .ok a.isNone w := by
  cases a <;> simp [Op.equalIn, run_underlying h]
theorem equalIn_slice {d : Nat} {t e : TypeId} (h : P.underlying t = some (.slice e)) (a : Option Addr) (n c n' c' : Nat) : (Op.equalIn (d + 1) t (.slice a n c) (.slice none n' c')).run P w = .ok a.isNone w := by
  cases a <;> simp [Op.equalIn, run_underlying h]
theorem equalIn_map {d : Nat} {t k e : TypeId} (h : P.underlying t = some (.map k e)) (a : Option Nat) : (Op.equalIn (d + 1) t (.map a) (.map none)).run P w = .ok a.isNone w := by
  cases a <;> simp [Op.equalIn, run_underlying h]
theorem equalIn_chan {d : Nat} {t e : TypeId} {dir : ChanDir} (h : P.underlying t = some (.chan dir e)) (a : Option Nat) : (Op.equalIn (d + 1) t (.chan a) (.chan none)).run P w = .ok a.isNone w := by
  cases a <;> simp [Op.equalIn, run_underlying h]
theorem eqlK_sound {V : Vl} {eqs : List TypeId} (hE : ∀ t, memN eqs t = true → EqOK P t) {t : TypeId} {x y : Operand} {sx sy : SV} {u v : Value}
    (hx : sx.rep V u) (hy : sy.rep V v) {K : Bool → Prop} (hk : eqlK P eqs t sx sy K) (op : BinOp) :
    ∃ b, K b ∧ (eqGuard op t x y u v).run P w = .ok () w ∧ (binOp .eql t u v).run P w = .ok (.bool b) w ∧ (binOp .neq t u v).run P w = .ok (.bool (!b)) w := by
  unfold eqlK at hk
  split at hk
  · obtain ⟨rfl, -⟩ := hx
    obtain ⟨rfl, -⟩ := hy
    rename_i hu
    exact ⟨_, hk, eqGuard_of (by simp) (by simp), run_equal (equal_bool hu _ _) (by simp) (by simp) (by simp) (by simp)⟩
  · obtain ⟨rfl, -⟩ := hx
    obtain ⟨rfl, -⟩ := hy
    exact ⟨_, hk, eqGuard_of (by simp) (by simp), by simp [binOp, Op.stringOp], by simp [binOp, Op.stringOp]⟩
  · obtain ⟨rfl, -⟩ := hx
    obtain ⟨rfl, -⟩ := hy
    rename_i a hu
    exact ⟨_, hk, eqGuard_of (by simp) (by simp), run_equal (equalIn_ptr (d := 9999) hu a) (by simp) (by simp) (by simp) (by simp)⟩
  · obtain ⟨rfl, -⟩ := hx
    obtain ⟨rfl, -⟩ := hy
    rename_i a _ _ _ _ hu
    exact ⟨_, hk, eqGuard_of (by simp) (by simp), run_equal (equalIn_slice (d := 9999) hu a _ _ _ _) (by simp) (by simp) (by simp) (by simp)⟩
  · obtain ⟨rfl, -⟩ := hx
    obtain ⟨rfl, -⟩ := hy
    rename_i a hu
    exact ⟨_, hk, eqGuard_of (by simp) (by simp), run_equal (equalIn_map (d := 9999) hu a) (by simp) (by simp) (by simp) (by simp)⟩
  · obtain ⟨rfl, -⟩ := hx
    obtain ⟨rfl, -⟩ := hy
    rename_i a hu
    exact ⟨_, hk, eqGuard_of (by simp) (by simp), run_equal (equalIn_chan (d := 9999) hu a) (by simp) (by simp) (by simp) (by simp)⟩
  · have hx' := hx
    simp only [SV.rep, SC.rep] at hx'
    subst hx'
    obtain ⟨rfl, -⟩ := hy
    rename_i hu
    exact ⟨_, hk, eqGuard_of (by simp) (by simp), run_equal (equalIn_ptr (d := 9999) hu (some _)) (by simp) (by simp) (by simp) (by simp)⟩
  · split at hk
    · split at hk
      · obtain ⟨b, hb, hK⟩ := eqK_R _ _ _ _ hk
        obtain ⟨cs, rfl, hcs⟩ := hx
        obtain ⟨ds, rfl, hds⟩ := hy
        rename_i hm hks _ _ hs1 hs2
        have E := hE _ hm
        obtain ⟨⟨c1, h1⟩, c2, h2⟩ := eqR_flat _ _ _ _ hb
        have e1 := flat_rep hcs h1
        have e2 := flat_rep hds h2
        subst e1; subst e2
        exact ⟨b, hK, eqGuard_of (fun _ _ _ _ => E.guard) (by simp), run_equal (E.run _ hks _ _ _ _ b w hs1 hs2 (intLens_of hcs) (intLens_of hds) h1 h2 hb) (by simp) (by simp) (by simp) (by simp)⟩
      · exact hk.elim
    · exact hk.elim
  · exact hk.elim
theorem binK_sound {V : Vl} {eqs : List TypeId} (hE : ∀ t, memN eqs t = true → EqOK P t) {op : BinOp} {t : TypeId} {x y : Operand} {sx sy : SV} {u v : Value}
    (hx : sx.rep V u) (hy : sy.rep V v) {K : SV → Prop} (hk : binK P eqs op t sx sy K) :
    ∃ z r, K z ∧ z.rep V r ∧ ((do eqGuard op t x y u v; binOp op t u v : Sem Value)).run P w = .ok r w := by
  unfold binK at hk
  split at hk
  · obtain ⟨rfl, -⟩ := hx
    obtain ⟨rfl, -⟩ := hy
    rename_i k a k' b
    have hg : ∀ op, (eqGuard op t x y (.int k a) (.int k' b)).run P w = .ok () w := fun op => eqGuard_of (by simp) (by simp)
    split at hk
    · exact ⟨_, _, hk.2, ⟨rfl, rfl⟩, by rw [Sem.run_bind, hg]; simp [binOp, Op.shift, shlI, Int.not_lt.2 hk.1]⟩
    · exact ⟨_, _, hk.2, ⟨rfl, rfl⟩, by rw [Sem.run_bind, hg]; simp [binOp, Op.shift, shrI, Int.not_lt.2 hk.1]⟩
    · split at hk
      · rename_i hs1 hs2 _ hsk
        have e := sameK_eq hsk
        subst e
        obtain ⟨r, h1, h2, h3⟩ := intK_sound (w := w) (P := P) (by intro e; exact hs1 e) (by intro e; exact hs2 e) hk t
        exact ⟨_, _, h1, ⟨rfl, h2⟩, by rw [Sem.run_bind, hg]; exact h3⟩
      · exact hk.elim
  · split at hk
    · obtain ⟨b, h1, h2, h3, h4⟩ := eqlK_sound (w := w) (x := x) (y := y) hE hx hy hk .eql
      exact ⟨_, _, h1, ⟨rfl, rfl⟩, by rw [Sem.run_bind, h2]; exact h3⟩
    · obtain ⟨b, h1, h2, h3, h4⟩ := eqlK_sound (w := w) (x := x) (y := y) hE hx hy hk .neq
      exact ⟨_, _, h1, ⟨rfl, rfl⟩, by rw [Sem.run_bind, h2]; exact h4⟩
    · obtain ⟨rfl, -⟩ := hx
      obtain ⟨rfl, -⟩ := hy
      refine ⟨_, _, hk, ⟨rfl, rfl⟩, ?_⟩
      rw [Sem.run_bind, eqGuard_of (by simp) (by simp)]
      simp [binOp, Op.stringOp]
    · obtain ⟨rfl, -⟩ := hx
      obtain ⟨rfl, -⟩ := hy
      refine ⟨_, _, hk, ⟨rfl, rfl⟩, ?_⟩
      rw [Sem.run_bind, eqGuard_of (by simp) (by simp)]
      rfl
    · exact hk.elim
  · split at hk
    · obtain ⟨b, h1, h2, h3, h4⟩ := eqlK_sound (w := w) (x := x) (y := y) hE hx hy hk .eql
      exact ⟨_, _, h1, ⟨rfl, rfl⟩, by rw [Sem.run_bind, h2]; exact h3⟩
    · obtain ⟨b, h1, h2, h3, h4⟩ := eqlK_sound (w := w) (x := x) (y := y) hE hx hy hk .neq
      exact ⟨_, _, h1, ⟨rfl, rfl⟩, by rw [Sem.run_bind, h2]; exact h4⟩
    · exact hk.elim
end
end Sx

set_option linter.unusedVariables false
set_option linter.unusedSimpArgs false
namespace Sx
open Go
set_option linter.unusedSectionVars false
variable [Dr]
section
variable {P : Program} {C : Ctx} {V : Vl} {s : St} {H : Heap} {a : Act} {w : World}

theorem sliceBound_ok {k : IntKind} {i : Int} {y : Nat} {code : BoundsCode} (h : 0 ≤ i ∧ i ≤ (y : Int)) : (Instr.sliceBound (.int k i) y code).run P w = .ok i.toNat w := by
  simp [Instr.sliceBound, asIntOf, h]
theorem boundsK_hi {x : SV} {len cap : Nat} {K : Nat → Nat → Prop} (hk : boundsK none (some x) len cap K) : ∃ k i, x = .c (.v (.int k i)) ∧ (0 ≤ i ∧ i ≤ (cap : Int)) ∧ K 0 i.toNat := by
  unfold boundsK at hk
  split at hk
  · simp_all
  · rename_i k i h1 h2; cases h2; exact ⟨_, _, rfl, hk⟩
  · simp_all
  · simp_all
  · exact hk.elim
theorem boundsK_lo {x : SV} {len cap : Nat} {K : Nat → Nat → Prop} (hk : boundsK (some x) none len cap K) : ∃ k i, x = .c (.v (.int k i)) ∧ (0 ≤ i ∧ i ≤ (len : Int)) ∧ K i.toNat len := by
  unfold boundsK at hk
  split at hk
  · simp_all
  · simp_all
  · rename_i k i h1 h2; cases h1; exact ⟨_, _, rfl, hk⟩
  · simp_all
  · exact hk.elim
theorem boundsK_both {x y : SV} {len cap : Nat} {K : Nat → Nat → Prop} (hk : boundsK (some x) (some y) len cap K) :
    ∃ k i k' j, x = .c (.v (.int k i)) ∧ y = .c (.v (.int k' j)) ∧ (0 ≤ j ∧ j ≤ (cap : Int)) ∧ (0 ≤ i ∧ i ≤ (j.toNat : Int)) ∧ K i.toNat j.toNat := by
  unfold boundsK at hk
  split at hk
  · simp_all
  · simp_all
  · simp_all
  · rename_i k i k' j h1 h2; cases h1; cases h2; exact ⟨_, _, _, _, rfl, rfl, hk⟩
  · exact hk.elim
theorem bounds_sound (h : Rep C V s H a w) (lo hi : Option Operand) (b : Bool) {len capK cap : Nat} (hc : capK ≤ cap) {K : Nat → Nat → Prop}
    (hk : boundsK (lo.map (ev s)) (hi.map (ev s)) len capK K) :
    ∃ l h, K l h ∧ l ≤ h ∧ (h ≤ capK ∨ h = len) ∧ ∀ w, (Instr.sliceBounds b len cap (lo.map a.eval) (hi.map a.eval) none).run P w = .ok (l, h, cap) w := by
  cases lo with
  | none => cases hi with
    | none => exact ⟨0, len, hk, Nat.zero_le _, .inr rfl, fun _ => by simp [Instr.sliceBounds]⟩
    | some hi =>
      simp only [Option.map_none, Option.map_some] at hk ⊢
      have hr := h.ev hi
      obtain ⟨k, i, e, h1, h3⟩ := boundsK_hi hk
      rw [e] at hr
      obtain ⟨hr, -⟩ := hr
      refine ⟨0, i.toNat, h3, Nat.zero_le _, .inl (by omega), fun w => ?_⟩
      simp only [Instr.sliceBounds, hr]
      rw [Sem.run_bind]
      simp only [Sem.run_pure, Result.andThen_ok, Sem.run_bind]
      rw [sliceBound_ok ⟨h1.1, by omega⟩]
      rfl
  | some lo => cases hi with
    | none =>
      simp only [Option.map_none, Option.map_some] at hk ⊢
      have hr := h.ev lo
      obtain ⟨k, i, e, h1, h3⟩ := boundsK_lo hk
      rw [e] at hr
      obtain ⟨hr, -⟩ := hr
      refine ⟨i.toNat, len, h3, by omega, .inr rfl, fun w => ?_⟩
      simp only [Instr.sliceBounds, hr]
      rw [Sem.run_bind]
      simp only [Sem.run_pure, Result.andThen_ok, Sem.run_bind]
      simp only [Option.isSome_none, Bool.false_eq_true, if_false]
      rw [sliceBound_ok ⟨h1.1, by omega⟩]
      rfl
    | some hi =>
      simp only [Option.map_some] at hk ⊢
      have hr := h.ev lo
      have hr' := h.ev hi
      obtain ⟨k, i, k', j, e1, e2, h1, h3, h5⟩ := boundsK_both hk
      rw [e1] at hr
      rw [e2] at hr'
      obtain ⟨hr, -⟩ := hr
      obtain ⟨hr', -⟩ := hr'
      refine ⟨i.toNat, j.toNat, h5, by omega, .inl (by omega), fun w => ?_⟩
      simp only [Instr.sliceBounds, hr, hr']
      rw [Sem.run_bind]
      simp only [Sem.run_pure, Result.andThen_ok, Sem.run_bind]
      rw [sliceBound_ok ⟨h1.1, by omega⟩]
      simp only [Result.andThen_ok, Option.isSome_none, Bool.false_eq_true, if_false]
      rw [sliceBound_ok ⟨h3.1, by omega⟩]
      rfl

theorem elemOf_eq {t e : TypeId} {sz : Nat} (he : elemOf P t = some (e, sz)) :
    (P.underlying t = some (.slice e) ∨ ∃ m, P.underlying t = some (.array m e)) ∧ ∃ i, P.info? e = some i ∧ i.size = sz := by
  unfold elemOf at he
  split at he
  · split at he
    · rename_i hz; cases he
      refine ⟨.inl (by assumption), ?_⟩
      unfold sizeT at hz; split at hz
      · cases hz; exact ⟨_, by assumption, rfl⟩
      · cases hz
    · cases he
  · split at he
    · rename_i hz; cases he
      refine ⟨.inr ⟨_, by assumption⟩, ?_⟩
      unfold sizeT at hz; split at hz
      · cases hz; exact ⟨_, by assumption, rfl⟩
      · cases hz
    · cases he
  · cases he
theorem run_sizeT {e : TypeId} {i : TypeInfo} (h : P.info? e = some i) : (Go.sizeOf e).run P w = .ok i.size w := by
  simp [Go.sizeOf, typeInfo, h]
theorem add_spot {A : Addr} (hs : A.spot = none) (n : Nat) : A.add n = ⟨A.block, A.off + n, none⟩ := by
  unfold Addr.add
  split
  · rename_i e; subst e; cases A; simp_all
  · cases A; simp_all
theorem sliceK_sound (h : Rep C V s H a w) (t : TypeId) (x : Operand) (lo hi : Option Operand) {K : SV → Prop} (hk : sliceK P t (ev s x) (lo.map (ev s)) (hi.map (ev s)) s K) :
    ∃ z r, K z ∧ z.rep V r ∧ ∀ w, (Instr.sliceAt t (a.eval x) (lo.map a.eval) (hi.map a.eval) none).run P w = .ok r w := by
  have hx := h.ev x
  generalize ev s x = sx at hk hx
  generalize a.eval x = u at hx
  unfold sliceK at hk
  split at hk
  · -- a real slice
    obtain ⟨rfl, -⟩ := hx
    split at hk
    · rename_i b n c _ _ e e' sz hu he
      obtain ⟨l, hh, hK, hle, -, hr⟩ := bounds_sound (P := P) h lo hi true (Nat.le_refl c) hk
      obtain ⟨hu', i, hi', rfl⟩ := elemOf_eq he
      have : e' = e := by
        rcases hu' with h1 | ⟨m, h1⟩
        · rw [hu] at h1; cases h1; rfl
        · rw [hu] at h1; cases h1
      subst this
      refine ⟨_, _, hK, ⟨rfl, rfl⟩, fun w => ?_⟩
      simp [Instr.sliceAt, run_underlying hu, Instr.slice, hr, run_sizeT hi', subAddr]
    · exact hk.elim
  · -- a string
    obtain ⟨rfl, -⟩ := hx
    split at hk
    · rename_i b _ hu
      obtain ⟨l, hh, hK, hle, -, hr⟩ := bounds_sound (P := P) h lo hi false (Nat.le_refl b.size) hk
      exact ⟨_, _, hK, ⟨rfl, rfl⟩, fun w => by simp [Instr.sliceAt, run_underlying hu, Instr.slice, hr]⟩
    · exact hk.elim
  · -- a row
    obtain ⟨hx, -⟩ := hx
    split at hk
    · rename_i rr _ _ _ e e' sz' ty sz es hu he hl
      split at hk
      · rename_i hb
        have := nbt hb; subst this
        have ho := h.objs _ _ hl
        obtain ⟨hu', i, hi', rfl⟩ := elemOf_eq he
        have : e' = e := by
          rcases hu' with h1 | ⟨m, h1⟩
          · rw [hu] at h1; cases h1; rfl
          · rw [hu] at h1; cases h1
        subst this
        rcases ho with ⟨hv, rfl⟩ | ⟨b, o, cap, c, hv, hb1, hcap, _⟩
        · obtain ⟨l, hh, hK, hle, hle2, hr⟩ := bounds_sound (P := P) h lo hi true (Nat.le_refl 0) hk
          have h0 : hh = 0 := by rcases hle2 with h | h <;> simpa using h
          subst h0
          have l0 : l = 0 := by omega
          subst l0
          refine ⟨_, _, hK, ⟨none, 0, 0, none, hv, rfl, Nat.le_refl _, Nat.le_refl _, Nat.le_refl _, fun _ => ⟨rfl, rfl, rfl⟩, by simp⟩, fun w => ?_⟩
          rw [hx, hv]
          simp only [List.length_nil] at hr
          simp [Instr.sliceAt, run_underlying hu, Instr.slice, hr, run_sizeT hi']
        · obtain ⟨l, hh, hK, hle, hle2, hr⟩ := bounds_sound (P := P) h lo hi true hcap hk
          have hh2 : hh ≤ es.length := by rcases hle2 with h | h <;> omega
          refine ⟨_, _, hK, ⟨_, _, cap, if cap = l then some ⟨b, o, none⟩ else some ((⟨b, o, none⟩ : Addr).add (l * i.size)), hv, rfl, hle, hh2, hcap, by simp, ?_⟩, fun w => ?_⟩
          · intro A hA
            cases hA
            by_cases hcl : cap = l
            · rw [if_pos hcl]
              exact ⟨rfl, o, rfl, fun hl => by omega, by rw [← hcl]; simp⟩
            · rw [if_neg hcl, add_spot rfl]
              refine ⟨rfl, _, rfl, fun _ => rfl, ?_⟩
              have : l * i.size + (cap - l) * i.size = cap * i.size := by rw [← Nat.add_mul]; congr 1; omega
              simp only; omega
          · rw [hx, hv]
            by_cases hc : cap = l
            · subst hc; simp [Instr.sliceAt, run_underlying hu, Instr.slice, hr, run_sizeT hi']
            · simp [Instr.sliceAt, run_underlying hu, Instr.slice, hr, run_sizeT hi', hc]
      · exact hk.elim
    · exact hk.elim
  · -- a part of a row
    split at hk
    · rename_i rr sz l0 h0 _ _ e e' sz' hu he
      split at hk
      · rename_i hb
        have := nbt hb; subst this
        obtain ⟨hu', i, hi', rfl⟩ := elemOf_eq he
        have : e' = e := by
          rcases hu' with h1 | ⟨m, h1⟩
          · rw [hu] at h1; cases h1; rfl
          · rw [hu] at h1; cases h1
        subst this
        obtain ⟨a0, n, cap, a', hv, rfl, hle0, hn, hcap, ha0, hA⟩ := hx
        obtain ⟨l, hh, hK, hle, hle2, hr⟩ := bounds_sound (P := P) (cap := cap - l0) h lo hi true (by omega) hk
        have hh2 : hh ≤ h0 - l0 := by rcases hle2 with h | h <;> omega
        refine ⟨_, _, hK, ⟨a0, n, cap, if cap - l0 = l then a' else a'.map (·.add (l * i.size)), hv, rfl, by omega, by omega, hcap, fun e => by obtain ⟨h1, h2, h3⟩ := ha0 e; refine ⟨h1, h2, ?_⟩; rw [h3]; split <;> rfl, ?_⟩, fun w => ?_⟩
        · intro A h1
          obtain ⟨h2, o', h3, h4, h5⟩ := hA A h1
          refine ⟨h2, ?_⟩
          by_cases hcl : cap - l0 = l
          · rw [if_pos hcl]
            refine ⟨o', h3, fun hl => by omega, ?_⟩
            have : cap - (l0 + l) = 0 := by omega
            rw [this]; omega
          · rw [if_neg hcl, h3]
            refine ⟨o' + l * i.size, by simp [add_spot], fun hl => ?_, ?_⟩
            · rw [h4 (by omega), Nat.add_mul, Nat.add_assoc]
            · have : l * i.size + (cap - (l0 + l)) * i.size = (cap - l0) * i.size := by rw [← Nat.add_mul]; congr 1; omega
              omega
        · have e1 : l0 + hh - (l0 + l) = hh - l := by omega
          have e2 : cap - (l0 + l) = cap - l0 - l := by omega
          rw [e1, e2]
          simp [Instr.sliceAt, run_underlying hu, Instr.slice, hr, run_sizeT hi']
      · exact hk.elim
    · exact hk.elim
  · -- an array
    simp only [SV.rep, SC.rep] at hx
    split at hk
    · rename_i bb oo _ _ _ m e ty segs e' hu hl he
      split at hk
      · rename_i k n xs rest hf
        split at hk
        · rename_i hb
          have := nbt hb; subst this
          obtain ⟨l, hh, hK, hle, hle2, hr⟩ := bounds_sound (P := P) h lo hi false (Nat.le_refl n) hk
          have hh2 : hh ≤ n := by rcases hle2 with h | h <;> omega
          obtain ⟨hu', i, hi', h1⟩ := elemOf_eq he
          have : e' = e := by
            rcases hu' with h1 | ⟨m, h1⟩
            · rw [hu] at h1; cases h1
            · rw [hu] at h1; cases h1; rfl
          subst this
          refine ⟨_, _, hK, ⟨some (if n = l then ⟨V.blk bb, oo, none⟩ else (⟨V.blk bb, oo, none⟩ : Addr).add (l * i.size)), rfl, hle, hh2, ?_⟩, fun w => ?_⟩
          · intro hl
            rw [if_neg (by omega), add_spot rfl, h1, Nat.mul_one]
          · rw [hx]
            simp [Instr.sliceAt, run_underlying hu, Instr.sureAddr, hr, run_sizeT hi']
        · exact hk.elim
      · exact hk.elim
    · exact hk.elim
  · -- a part of an array
    split at hk
    · rename_i bb oo n l0 h0 _ _ e e' hu he
      obtain ⟨a', rfl, hle0, hn, hA⟩ := hx
      obtain ⟨l, hh, hK, hle, hle2, hr⟩ := bounds_sound (P := P) (cap := n - l0) h lo hi true (by omega) hk
      have hh2 : hh ≤ h0 - l0 := by rcases hle2 with h | h <;> omega
      obtain ⟨hu', i, hi', h1⟩ := elemOf_eq he
      refine ⟨_, _, hK, ⟨if n - l0 = l then a' else a'.map (·.add (l * i.size)), rfl, by omega, by omega, ?_⟩, fun w => ?_⟩
      · intro hl
        rw [if_neg (by omega), hA (by omega)]
        simp [add_spot, h1, Nat.add_assoc]
      · have e1 : l0 + hh - (l0 + l) = hh - l := by omega
        have e2 : n - (l0 + l) = n - l0 - l := by omega
        have : e' = e := by
          rcases hu' with h1 | ⟨m, h1⟩
          · rw [hu] at h1; cases h1; rfl
          · rw [hu] at h1; cases h1
        subst this
        rw [e1, e2]
        simp [Instr.sliceAt, run_underlying hu, Instr.slice, hr, run_sizeT hi']
    · exact hk.elim
  · exact hk.elim

theorem ptrK {p : Option Addr} {K : Addr → Prop} (h : PtrK p K) : ∃ A, p = some A ∧ K A := by
  cases p with
  | none => exact h.elim
  | some A => exact ⟨A, rfl, h⟩
theorem row_addr {V : Vl} {w : World} {r ty sz : Nat} {es : List (List Value)} (ho : RowIn w (V.row r) ty sz es) {n : Nat} (hn : n < es.length) :
    ∃ b o cap, V.row r = .slice (some ⟨b, o, none⟩) es.length cap := by
  rcases ho with ⟨_, rfl⟩ | ⟨b, o, cap, c, hv, _⟩
  · simp at hn
  · exact ⟨b, o, cap, hv⟩
theorem indexK_sound (h : Rep C V s H a w) (t : TypeId) (x : Operand) {k : IntKind} {n : Int} {K : SV → Prop} (hk : indexK P t (ev s x) n s K) :
    ∃ z r, K z ∧ z.rep V r ∧ (Instr.indexAt t (a.eval x) (.int k n)).run P w = .ok r w := by
  have hx := h.ev x
  generalize ev s x = sx at hk hx
  generalize a.eval x = u at hx
  unfold indexK at hk
  split at hk
  · rename_i len e e' sz hu he
    obtain ⟨hu', i, hi', hsz⟩ := elemOf_eq he
    have : e' = e := by
      rcases hu' with h1 | ⟨m, h1⟩
      · rw [hu] at h1; cases h1
      · rw [hu] at h1; cases h1; rfl
    subst this
    have run : ∀ A : Addr, 0 ≤ n → n < (len : Int) → (Instr.indexAt t (.pointer (some A)) (.int k n)).run P w = .ok (.pointer (some (A.add (n.toNat * sz)))) w := by
      intro A h0 h1
      simp [Instr.indexAt, asIntOf, run_underlying hu, Instr.sureAddr, h0, h1, run_sizeT hi', hsz]
    split at hk
    · rename_i b o
      simp only [SV.rep, SC.rep] at hx
      subst hx
      split at hk
      · split at hk
        · split at hk
          · rename_i hm h1
            have := nbt h1; subst this
            have := nbt hm; subst this
            obtain ⟨⟨h0, h1⟩, hK⟩ := hk
            exact ⟨_, _, hK, ⟨by omega, rfl⟩, by rw [run _ h0 h1, add_spot rfl, Nat.mul_one]⟩
          · exact hk.elim
        · obtain ⟨⟨h0, h1⟩, hK⟩ := hk
          exact ⟨_, _, hK, rfl, by rw [run _ h0 h1, add_spot rfl]⟩
      · exact hk.elim
    · obtain ⟨⟨h0, h1⟩, hK⟩ := hk
      obtain ⟨A, m, cap, hv, hs, rfl⟩ := hx
      exact ⟨_, _, hK, ⟨A, m, cap, hv, hs, rfl⟩, by rw [run _ h0 h1, add_spot rfl]; simp [Nat.add_assoc]⟩
    · obtain ⟨⟨h0, h1⟩, hK⟩ := hk
      obtain ⟨rfl, -⟩ := hx
      obtain ⟨A, rfl, hK⟩ := ptrK hK
      exact ⟨_, _, hK, ⟨rfl, rfl⟩, run _ h0 h1⟩
    · exact hk.elim
  · rename_i e e' sz hu he
    obtain ⟨hu', i, hi', hsz⟩ := elemOf_eq he
    have : e' = e := by
      rcases hu' with h1 | ⟨m, h1⟩
      · rw [hu] at h1; cases h1; rfl
      · rw [hu] at h1; cases h1
    subst this
    have run : ∀ (A : Addr) (len cap : Nat), 0 ≤ n → n < (len : Int) → (Instr.indexAt t (.slice (some A) len cap) (.int k n)).run P w = .ok (.pointer (some (A.add (n.toNat * sz)))) w := by
      intro A len cap h0 h1
      simp [Instr.indexAt, asIntOf, run_underlying hu, Instr.sureAddr, h0, h1, run_sizeT hi', hsz]
    split at hk
    · obtain ⟨⟨h0, h1⟩, hK⟩ := hk
      obtain ⟨rfl, -⟩ := hx
      obtain ⟨A, rfl, hK⟩ := ptrK hK
      exact ⟨_, _, hK, ⟨rfl, rfl⟩, run _ _ _ h0 h1⟩
    · obtain ⟨hx, -⟩ := hx
      split at hk
      · rename_i hl
        split at hk
        · rename_i hz
          have := nbt hz; subst this
          obtain ⟨⟨h0, h1⟩, hK⟩ := hk
          obtain ⟨b, o, cap, hv⟩ := row_addr (h.objs _ _ hl) (n := n.toNat) (by omega)
          refine ⟨_, _, hK, ⟨_, _, _, hv, rfl, rfl⟩, ?_⟩
          rw [hx, hv, run _ _ _ h0 h1, add_spot rfl]; rfl
        · exact hk.elim
      · exact hk.elim
    · split at hk
      · rename_i hz
        have := nbt hz; subst this
        obtain ⟨⟨h0, h1⟩, hK⟩ := hk
        obtain ⟨a0, m, cap, a', hv, rfl, hle, hm, hcap, ha0, hA⟩ := hx
        cases a0 with
        | none => have := (ha0 rfl).1; omega
        | some A =>
          obtain ⟨hs, o', h2, h3, h4⟩ := hA A rfl
          refine ⟨_, _, hK, ⟨_, _, _, hv, hs, rfl⟩, ?_⟩
          rw [h2, h3 (by omega), run _ _ _ h0 h1, add_spot rfl]
          simp [Nat.add_mul, Nat.add_assoc]
      · exact hk.elim
    · split at hk
      · rename_i hz
        have := nbt hz; subst this
        obtain ⟨⟨h0, h1⟩, hK⟩ := hk
        obtain ⟨a', rfl, hle, hm, hA⟩ := hx
        refine ⟨_, _, hK, ⟨by omega, rfl⟩, ?_⟩
        rw [hA (by omega), run _ _ _ h0 h1, add_spot rfl]
        simp [Nat.add_assoc]
      · exact hk.elim
    · exact hk.elim
  · exact hk.elim

theorem capK_sound (h : Rep C V s H a w) (t : TypeId) (x : Operand) (ty : TypeId) {K : SV → Prop} (hk : capK P t (ev s x) K) :
    ∃ z r, K z ∧ z.rep V r ∧ (Builtin.cap_ #[t] ty #[a.eval x]).run P w = .ok r w := by
  have hx := h.ev x
  generalize ev s x = sx at hk hx
  generalize a.eval x = u at hx
  unfold capK at hk
  split at hk
  · rename_i hu
    obtain ⟨rfl, -⟩ := hx
    exact ⟨_, _, hk, ⟨rfl, rfl⟩, by simp [Builtin.cap_, run_underlying hu, goInt]⟩
  · exact hk.elim
theorem lenK_sound (h : Rep C V s H a w) (t : TypeId) (x : Operand) (ty : TypeId) {K : SV → Prop} (hk : lenK P t (ev s x) s K) :
    ∃ z r, K z ∧ z.rep V r ∧ (Builtin.len_ #[t] ty #[a.eval x]).run P w = .ok r w := by
  have hx := h.ev x
  generalize ev s x = sx at hk hx
  generalize a.eval x = u at hx
  unfold lenK at hk
  split at hk
  · rename_i hu
    obtain ⟨rfl, -⟩ := hx
    exact ⟨_, _, hk, ⟨rfl, rfl⟩, by simp [Builtin.len_, run_underlying hu, goInt]⟩
  · rename_i hu
    obtain ⟨rfl, -⟩ := hx
    exact ⟨_, _, hk, ⟨rfl, rfl⟩, by simp [Builtin.len_, run_underlying hu, goInt]⟩
  · rename_i hu
    obtain ⟨hx, -⟩ := hx
    split at hk
    · rename_i hl
      rcases h.objs _ _ hl with ⟨hv, rfl⟩ | ⟨b, o, cap, c, hv, _⟩
      · exact ⟨_, _, hk, ⟨rfl, rfl⟩, by rw [hx, hv]; simp [Builtin.len_, run_underlying hu, goInt]⟩
      · exact ⟨_, _, hk, ⟨rfl, rfl⟩, by rw [hx, hv]; simp [Builtin.len_, run_underlying hu, goInt]⟩
    · exact hk.elim
  · rename_i hu
    obtain ⟨a0, n, cap, a', hv, rfl, _⟩ := hx
    exact ⟨_, _, hk, ⟨rfl, rfl⟩, by simp [Builtin.len_, run_underlying hu, goInt]⟩
  · rename_i hu
    obtain ⟨a', rfl, _⟩ := hx
    exact ⟨_, _, hk, ⟨rfl, rfl⟩, by simp [Builtin.len_, run_underlying hu, goInt]⟩
  · rename_i hu
    exact ⟨_, _, hk, ⟨rfl, rfl⟩, by simp [Builtin.len_, run_underlying hu, goInt]⟩
  · rename_i hu
    obtain ⟨rfl, -⟩ := hx
    exact ⟨_, _, hk, ⟨rfl, rfl⟩, by simp [Builtin.len_, run_underlying hu, goInt]⟩
  · exact hk.elim
theorem sizeT_eq {t : TypeId} {z : Nat} (h : sizeT P t = some z) : ∃ i, P.info? t = some i ∧ i.size = z := by
  unfold sizeT at h
  split at h
  · cases h; exact ⟨_, by assumption, rfl⟩
  · cases h
theorem isAgg_run {t : TypeId} {d : TypeDesc} (h : P.underlying t = some d) : (isAgg t).run P w = .ok (isAggT P t) w := by
  unfold isAgg isAggT
  simp only [Sem.run_bind, run_underlying h, Result.andThen_ok, h]
  cases d <;> rfl
theorem loadCellsFrom_run {A : Addr} : ∀ (n i : Nat) (acc : Array Value) (l : List Value), l.length = n → (∀ j x, l[j]? = some x → w.cell? (A.add (i + j)) = some x) →
    (loadCellsFrom A i n acc).run P w = .ok (acc ++ l.toArray) w := by
  intro n
  induction n with
  | zero => intro i acc l hl _; have : l = [] := by simpa using hl
            subst this; simp [loadCellsFrom]
  | succ n ih =>
    intro i acc l hl hc
    obtain ⟨x, r, rfl⟩ : ∃ x r, l = x :: r := by cases l <;> simp_all
    have h0 := hc 0 x rfl
    simp only [Nat.add_zero] at h0
    simp only [loadCellsFrom, Sem.run_bind, load, Sem.run, h0, Result.andThen_ok]
    rw [ih (i + 1) (acc.push x) r (by simpa using hl) (fun j y hj => by have := hc (j + 1) y (by simpa using hj); rwa [show i + 1 + j = i + (j + 1) by omega])]
    simp
theorem loadVar_agg {t : TypeId} {d : TypeDesc} {i : TypeInfo} {A : Addr} {l : List Value} (hu : P.underlying t = some d) (hi : P.info? t = some i) (ha : isAggT P t = true) (hl : l.length = i.size)
    (hc : ∀ j x, l[j]? = some x → w.cell? (A.add j) = some x) : (loadVar t A).run P w = .ok (.agg l.toArray) w := by
  unfold loadVar
  simp only [Sem.run_bind, isAgg_run hu, Result.andThen_ok, ha, if_true, run_sizeT hi, loadCells]
  rw [loadCellsFrom_run i.size 0 #[] l hl (by simpa using hc)]
  simp
theorem loadVar_one {t : TypeId} {d : TypeDesc} {A : Addr} {x : Value} (hu : P.underlying t = some d) (ha : isAggT P t = false) (hc : w.cell? A = some x) : (loadVar t A).run P w = .ok x w := by
  unfold loadVar
  simp only [Sem.run_bind, isAgg_run hu, Result.andThen_ok, ha, load, Sem.run, hc]
  simp [Sem.run, hc]
/-- What a type's kinds say of segments. -/
def Fits : List SK → List Seg → Prop
  | [], l => l = []
  | .c _ :: r, l => ∃ x l', l = .c (.v x) :: l' ∧ one x = true ∧ Fits r l'
  | .ints k n :: r, l => ∃ xs l', l = .ints k n xs :: l' ∧ xs.length = n ∧ Fits r l'
theorem CK.ex_one {k : CK} {K : Value → Prop} (h : k.ex K) : ∃ x, K x ∧ one x = true := by
  cases k with
  | int k => obtain ⟨n, h⟩ := h; exact ⟨_, h, rfl⟩
  | bool => obtain ⟨n, h⟩ := h; exact ⟨_, h, rfl⟩
  | str => obtain ⟨n, h⟩ := h; exact ⟨_, h, rfl⟩
  | ptr => obtain ⟨n, h⟩ := h; exact ⟨_, h, rfl⟩
  | slice => obtain ⟨_, _, _, h⟩ := h; exact ⟨_, h, rfl⟩
  | map => obtain ⟨n, h⟩ := h; exact ⟨_, h, rfl⟩
  | chan => obtain ⟨n, h⟩ := h; exact ⟨_, h, rfl⟩
  | func => obtain ⟨n, h1, h⟩ := h; exact ⟨_, h, h1⟩
  | iface => obtain ⟨n, h1, h⟩ := h; exact ⟨_, h, h1⟩
theorem exSegs_fits : ∀ {ks : List SK} {K : List Seg → Prop}, exSegs ks K → ∃ l, K l ∧ Fits ks l
  | [], K, h => ⟨[], h, rfl⟩
  | .c k :: r, K, h => by
    obtain ⟨x, hx, h1⟩ := CK.ex_one h
    obtain ⟨l, hl, hf⟩ := exSegs_fits hx
    exact ⟨_, hl, x, l, rfl, h1, hf⟩
  | .ints k n :: r, K, h => by
    obtain ⟨xs, hn, hx⟩ := h
    obtain ⟨l, hl, hf⟩ := exSegs_fits hx
    exact ⟨_, hl, xs, l, rfl, hn, hf⟩
theorem fits_rep {V : Vl} : ∀ {ks : List SK} {l : List Seg}, Fits ks l → SegsRep V l (flatD l)
  | [], l, h => by simp only [Fits] at h; subst h; rfl
  | .c k :: r, l, h => by
    obtain ⟨x, l', rfl, h1, hf⟩ := h
    exact ⟨x, flatD l', rfl, ⟨rfl, h1⟩, fits_rep hf⟩
  | .ints k n :: r, l, h => by
    obtain ⟨xs, l', rfl, hn, hf⟩ := h
    exact ⟨hn, flatD l', rfl, fits_rep hf⟩
theorem kinds_one {t : TypeId} {ks : List SK} (h : kinds P t = some ks) (ha : isAggT P t = false) : ∃ k, ks = [.c k] := by
  unfold kinds kindsOf at h
  unfold isAggT at ha
  split at h <;> first | (cases h; exact ⟨_, rfl⟩) | skip
  · simp_all
  · simp_all
  · cases h
theorem fits_one {k : CK} {l : List Seg} (h : Fits [.c k] l) : ∃ x, l = [.c (.v x)] ∧ one x = true := by
  obtain ⟨x, l', rfl, h1, hf⟩ := h
  simp only [Fits] at hf
  subst hf
  exact ⟨x, rfl, h1⟩
theorem kinds_und {t : TypeId} {ks : List SK} (h : kinds P t = some ks) : ∃ d, P.underlying t = some d := by
  unfold kinds kindsOf at h
  cases hu : P.underlying t with
  | none => rw [hu] at h; cases h
  | some d => exact ⟨d, rfl⟩
/-- A load of cells of a type, told by its kinds. -/
theorem loadVar_fits {V : Vl} {t : TypeId} {i : TypeInfo} {A : Addr} {ks : List SK} {l : List Seg} (hks : kinds P t = some ks) (hi : P.info? t = some i) (hf : Fits ks l) (hl : isAggT P t = true → (flatD l).length = i.size)
    (hc : ∀ j x, (flatD l)[j]? = some x → w.cell? (A.add j) = some x) :
    ∃ r, (mkSV (isAggT P t) l).rep V r ∧ (loadVar t A).run P w = .ok r w ∧ r = mkVal (isAggT P t) (flatD l) := by
  obtain ⟨d, hu⟩ := kinds_und hks
  cases ha : isAggT P t with
  | true => exact ⟨_, ⟨_, rfl, fits_rep hf⟩, loadVar_agg hu hi ha (hl ha) hc, rfl⟩
  | false =>
    obtain ⟨k, rfl⟩ := kinds_one hks ha
    obtain ⟨x, rfl, h1⟩ := fits_one hf
    exact ⟨x, ⟨rfl, h1⟩, loadVar_one hu ha (hc 0 x rfl), rfl⟩
theorem cell_block {w : World} {A : Addr} {c : Array Value} {ty : TypeId} {fz : Nat × Nat} (h : w.heap[A.block]? = some (.cells c ty fz)) (hs : A.spot = none) : w.cell? A = c[A.off]? := by
  simp [World.cell?, h, hs]
theorem fits_len : ∀ {ks : List SK} {l : List Seg}, Fits ks l → (flatD l).length = skLen ks
  | [], l, h => by simp only [Fits] at h; subst h; rfl
  | .c k :: r, l, h => by
    obtain ⟨x, l', rfl, h1, hf⟩ := h
    simp [flatD, skLen, fits_len hf]
  | .ints k n :: r, l, h => by
    obtain ⟨xs, l', rfl, hn, hf⟩ := h
    simp [flatD, skLen, fits_len hf, hn]
theorem flatten_get {sz : Nat} : ∀ {es : List (List Value)}, (∀ e ∈ es, e.length = sz) → ∀ {j q : Nat} {e : List Value}, es[j]? = some e → q < sz → es.flatten[j * sz + q]? = e[q]?
  | [], _, j, q, e, he, _ => by simp at he
  | e0 :: r, hes, j, q, e, he, hq => by
    have h0 : e0.length = sz := hes _ (by simp)
    cases j with
    | zero =>
      simp at he
      subst he
      rw [List.flatten_cons, List.getElem?_append_left (by omega)]
      simp
    | succ j =>
      simp at he
      rw [List.flatten_cons, List.getElem?_append_right (by rw [Nat.succ_mul]; omega)]
      rw [← flatten_get (fun e h => hes e (by simp [h])) he hq]
      congr 1
      rw [Nat.succ_mul, h0]; omega
theorem row_cell {w : World} {b o ty sz : Nat} {c : Array Value} {es : List (List Value)} {fz : Nat × Nat} (hb : w.heap[b]? = some (.cells c ty fz)) (hes : ∀ e ∈ es, e.length = sz)
    (hfl : (c.toList.drop o).take (es.length * sz) = es.flatten) {j q : Nat} {e : List Value} (he : es[j]? = some e) (hq : q < sz) : w.cell? ⟨b, o + j * sz + q, none⟩ = e[q]? := by
  rw [cell_block hb rfl, ← flatten_get hes he hq, ← hfl]
  have hj : j < es.length := (List.getElem?_eq_some_iff.1 he).1
  have : j * sz + q < es.length * sz := by
    have : (j + 1) * sz ≤ es.length * sz := Nat.mul_le_mul_right _ hj
    rw [Nat.succ_mul] at this; omega
  rw [List.getElem?_take_of_lt this, List.getElem?_drop]
  simp [Nat.add_assoc]
theorem loadK_sound (h : Rep C V s H a w) (t : TypeId) (x : Operand) {K : SV → Prop} (hk : loadK P t (ev s x) s K) :
    ∃ z r, K z ∧ z.rep V r ∧ (Instr.loadAt t (a.eval x)).run P w = .ok r w := by
  have hx := h.ev x
  generalize ev s x = sx at hk hx
  generalize a.eval x = u at hx
  have run : ∀ A, (Instr.loadAt t (.pointer (some A))).run P w = (loadVar t A).run P w := fun A => by simp [Instr.loadAt, Instr.sureAddr]
  unfold loadK at hk
  split at hk
  · rename_i b o
    simp only [SV.rep, SC.rep] at hx
    subst hx
    split at hk
    · rename_i ty segs z d hl hz hu
      obtain ⟨cs, hcs, hb⟩ := h.objs _ _ hl
      obtain ⟨i, hi, rfl⟩ := sizeT_eq hz
      split at hk
      · rename_i r hr
        obtain ⟨h1, h2⟩ := segFrom_rep _ _ hcs hr
        split at hk
        · rename_i l hl2
          obtain ⟨h3, h4⟩ := segTake_rep _ _ h1 hl2
          have hlen : ((cs.drop o).take i.size).length = i.size := by simp at h4 ⊢; omega
          have hc : ∀ j x, ((cs.drop o).take i.size)[j]? = some x → w.cell? ((⟨V.blk b, o, none⟩ : Addr).add j) = some x := by
            intro j x hj
            rw [add_spot rfl, cell_block hb rfl]
            have hj' : j < i.size := by have := (List.getElem?_eq_some_iff.1 hj).1; omega
            rw [List.getElem?_take_of_lt hj', List.getElem?_drop] at hj
            simpa using hj
          unfold mkK at hk
          split at hk
          · rename_i ha
            exact ⟨_, _, hk, ⟨_, rfl, h3⟩, by rw [run, loadVar_agg hu hi ha hlen hc]⟩
          · rename_i ha
            split at hk
            · obtain ⟨y, l', e, hy, hl'⟩ := h3
              refine ⟨_, y, hk, hy, ?_⟩
              rw [run]
              exact loadVar_one hu ha (hc 0 y (by rw [e]; rfl))
            · exact hk.elim
        · exact hk.elim
      · exact hk.elim
    · exact hk.elim
  · rename_i b o n j
    obtain ⟨hj, rfl⟩ := hx
    split at hk
    · rename_i ty segs k hl hu
      obtain ⟨cs, hcs, hb⟩ := h.objs _ _ hl
      split at hk
      · rename_i k' m xs rest hr
        obtain ⟨h1, h2⟩ := segFrom_rep _ _ hcs hr
        split at hk
        · rename_i hm
          have := nbt hm; subst this
          obtain ⟨hn, l', e, hl'⟩ := h1
          refine ⟨_, _, hk, ⟨rfl, rfl⟩, ?_⟩
          rw [run]
          refine loadVar_one hu (by simp [isAggT, hu]) ?_
          rw [cell_block hb rfl]
          have : cs[o + j]? = some (.int k' (xs.getD j 0)) := by
            rw [← List.getElem?_drop, e, List.getElem?_append_left (by simp; omega)]
            simp [hn, hj]
          simpa using this
        · exact hk.elim
      · exact hk.elim
    · exact hk.elim
  · rename_i r sz j o
    obtain ⟨A, n, cap, hv, hs, rfl⟩ := hx
    split at hk
    · rename_i ty sz' es ks z hl hks hz
      split at hk
      · rename_i hb
        simp only [Bool.and_eq_true] at hb
        have := nbt hb.1; subst this
        have hsk := nbt hb.2
        obtain ⟨i, hi, rfl⟩ := sizeT_eq hz
        obtain ⟨l, ⟨⟨e, he, heq⟩, hK⟩, hf⟩ := exSegs_fits hk
        rcases h.objs _ _ hl with ⟨hv', rfl⟩ | ⟨b, o', cap', c, hv', hb, hcap, hc1, hes, hfl, hon⟩
        · simp at he
        · rw [hv'] at hv
          cases hv
          have hlen := fits_len hf
          rw [hsk] at hlen
          have hel : e.length = sz := hes e (List.mem_of_getElem? he)
          have hle : i.size ≤ sz - o := by rw [← heq] at hlen; simp at hlen; omega
          have hc : ∀ q x, (flatD l)[q]? = some x → w.cell? ((⟨b, o' + j * sz + o, none⟩ : Addr).add q) = some x := by
            intro q x hq
            have hq' : q < i.size := by have := (List.getElem?_eq_some_iff.1 hq).1; omega
            rw [add_spot rfl]
            show w.cell? ⟨b, o' + j * sz + o + q, none⟩ = some x
            have hrow := row_cell (q := o + q) hb hes hfl he (by omega)
            rw [← Nat.add_assoc] at hrow
            rw [hrow]
            rw [← heq, List.getElem?_take_of_lt hq', List.getElem?_drop] at hq
            exact hq
          obtain ⟨r, h1, h2, _⟩ := loadVar_fits (V := V) hks hi hf (fun _ => hlen) hc
          exact ⟨_, r, hK, h1, by rw [run]; exact h2⟩
      · exact hk.elim
    · exact hk.elim
  · exact hk.elim
end
end Sx
