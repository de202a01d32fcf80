/- Definitions: heaps as partial maps, contracts of functions over them, abstract states with private variables, and conditions that are enough for a call to end as told. -/
import Derived.Calls
import Derived.Defers
import Derived.Orders
import Derived.KernelRfl
import Derived.Below
import Derived.WalkKit
import Derived.StillTail
set_option linter.unusedVariables false
set_option linter.unusedSimpArgs false
namespace Sx
open Go

/-- A value of one cell. -/
def one : Value → Bool
  | .agg _ | .tuple _ => false
  | _ => true
/-! ### Heaps -/
/-- What is known of memory: some blocks, whole. -/
abbrev Heap := Nat → Option Obj
def Heap.upd (H : Heap) (r : Nat) (o : Obj) : Heap := fun b => if b = r then some o else H b
def Heap.del (H : Heap) (r : Nat) : Heap := fun b => if b = r then none else H b
def Heap.le (H H' : Heap) : Prop := ∀ b o, H b = some o → H' b = some o
instance : LE Heap := ⟨Heap.le⟩
/-- It holds of a world. -/
def Heap.sub (H : Heap) (w : World) : Prop := ∀ b o, H b = some o → w.heap[b]? = some o
def Heap.cell? (H : Heap) (a : Addr) : Option Value :=
  match H a.block with
  | some (.cells c _ _) => if a.spot.isSome then none else c[a.off]?
  | _ => none
/-- At a place these cells stand, one behind the other. -/
def Heap.has (H : Heap) (a : Addr) (l : List Value) : Prop := ∀ j x, l[j]? = some x → H.cell? (a.add j) = some x

/-- What a call may do to memory of which H is known, so that H' is known then: nothing to other blocks that were there. -/
structure Step (H : Heap) (w : World) (H' : Heap) (w' : World) : Prop where
  sub : H'.sub w'
  os : w'.os = w.os
  tape : w'.tape = w.tape
  output : w'.output = w.output
  size : w.heap.size ≤ w'.heap.size
  other : ∀ b, b < w.heap.size → H b = none → w'.heap[b]? = w.heap[b]?
  fresh : ∀ b, b < w.heap.size → H b = none → H' b = none

def callable (P : Program) (f : FuncId) : Bool :=
  match P.funcs[f]? with
  | some fn => fn.body.isSome && fn.name != "runtime.NumGoroutine"
  | none => false
/-- The contract of a function: called with these arguments wherever H holds, it ends as R tells. -/
def Meets (P : Program) (f : FuncId) (args : List Value) (H : Heap) (R : Ending → Heap → Prop) : Prop :=
  callable P f = true ∧ ∀ w, H.sub w → Calls P f args.toArray w fun e w' => ∃ H', Step H w H' w' ∧ R e H'
/-- The contract of a function that is called by a defer: it may change the mode of the function that it leaves. -/
def MeetsD (P : Program) (f : FuncId) (args : List Value) (u : FrameMode) (H : Heap) (R : Ending → FrameMode → Heap → Prop) : Prop :=
  callable P f = true ∧ ∀ w, H.sub w → CallsD P f args.toArray u w fun e u' w' => ∃ H', Step H w H' w' ∧ R e u' H'
/-- The contract of a function value. -/
def MeetsV (P : Program) (fv : Value) (args : List Value) (H : Heap) (R : Ending → Heap → Prop) : Prop :=
  match fv with
  | .func (.func f) first cap => Meets P f (first.toList ++ args ++ cap.toList) H R
  | _ => False

/-! ### Slices -/
/-- A slice value reads as these elements, each so many cells. -/
def SliceAt (H : Heap) (v : Value) (sz : Nat) (es : List (List Value)) : Prop :=
  ∃ a n c, v = .slice a n c ∧ es.length = n ∧ n ≤ c ∧ (∀ e ∈ es, e.length = sz) ∧ (∀ e ∈ es, ∀ x ∈ e, one x = true) ∧
    ∀ i e, es[i]? = some e → ∃ A, a = some A ∧ A.spot = none ∧ H.has (A.add (i * sz)) e
/-- A slice value that has its block alone. -/
def RowAt (H : Heap) (v : Value) (ty : TypeId) (sz : Nat) (es : List (List Value)) : Prop :=
  (v = .slice none 0 0 ∧ es = []) ∨
  ∃ b o cap c, v = .slice (some ⟨b, o, none⟩) es.length cap ∧ H b = some (.cells c ty (0, 0)) ∧ es.length ≤ cap ∧ o + cap * sz ≤ c.size ∧
    (∀ e ∈ es, e.length = sz) ∧ (c.toList.drop o).take (es.length * sz) = es.flatten ∧ ∀ e ∈ es, ∀ x ∈ e, one x = true
def blockOf : Value → Option Nat
  | .slice (some a) _ _ => some a.block
  | .pointer (some a) => some a.block
  | .map (some r) => some r
  | _ => none

/-! ### Abstract states -/
/-- A cell's value: a real one; an address in a private variable, or in an element of a private row; a private row, or a part of it. -/
inductive Cap where
  | b (s : Nat)
  | v (x : Value)
inductive SC where
  | v (x : Value)
  | box (s off : Nat)
  | boxi (s off n i : Nat)
  | arr (s off n lo hi : Nat)
  | row (s : Nat)
  | sub (s sz lo hi : Nat)
  | cell (s sz i off : Nat)
  | clo (fn : Fn) (first : List Value) (caps : List Cap)
  | bad
inductive Seg where
  | c (x : SC)
  | ints (k : IntKind) (n : Nat) (xs : List Int)
inductive Comp where
  | c (x : SC)
  | agg (l : List Seg)
inductive SV where
  | c (x : SC)
  | agg (l : List Seg)
  | tup (l : List Comp)
inductive AObj where
  | box (ty : TypeId) (l : List Seg)
  | row (ty : TypeId) (sz : Nat) (es : List (List Value))
/-- A deferred call: of a function, with the addresses of private variables. -/
structure ADef where
  f : FuncId
  sites : List Nat
structure St where
  env : List SV
  objs : List (Nat × AObj)
  dfr : List ADef

def nth {α : Type} : List α → Nat → Option α
  | [], _ => none
  | x :: _, 0 => some x
  | _ :: r, n + 1 => nth r n
def setNth {α : Type} : List α → Nat → α → List α
  | [], _, _ => []
  | _ :: r, 0, y => y :: r
  | x :: r, n + 1, y => x :: setNth r n y
def St.get (s : St) (t : Nat) : SV := match nth s.env t with | some x => x | none => .c .bad
def St.set (s : St) (t : Nat) (x : SV) : St := ⟨setNth s.env t x, s.objs, s.dfr⟩
def St.put (s : St) (d : Option Nat) (x : SV) : St := match d with | some t => s.set t x | none => s
def look : List (Nat × AObj) → Nat → Option AObj
  | [], _ => none
  | (k, o) :: r, s => match Nat.beq k s with | true => some o | false => look r s
def objSet : List (Nat × AObj) → Nat → AObj → List (Nat × AObj)
  | [], s, o => [(s, o)]
  | (k, x) :: r, s, o => match Nat.beq k s with | true => (k, o) :: r | false => (k, x) :: objSet r s o
def objDel : List (Nat × AObj) → Nat → List (Nat × AObj)
  | [], _ => []
  | (k, x) :: r, s => match Nat.beq k s with | true => objDel r s | false => (k, x) :: objDel r s
def ev (s : St) : Operand → SV
  | .tmp t => s.get t
  | .const x => match x with | .agg _ | .tuple _ => .c .bad | x => .c (.v x)
  | .global g => .c (.v (.pointer (some ⟨g, 0, none⟩)))
  | .func f => .c (.v (.func (.func f) #[] #[]))

/-! ### Reading abstract values as real ones -/
def SC.real : SC → Option Value
  | .v x => some x
  | _ => none
def flat : List Seg → Option (List Value)
  | [] => some []
  | .c (.v x) :: r => match flat r with | some l => some (x :: l) | none => none
  | .c _ :: _ => none
  | .ints k _ xs :: r => match flat r with | some l => some (xs.map (.int k) ++ l) | none => none
/-- The same, of segments that are real. -/
def flatD : List Seg → List Value
  | [] => []
  | .c (.v x) :: r => x :: flatD r
  | .c _ :: r => undef :: flatD r
  | .ints k _ xs :: r => xs.map (.int k) ++ flatD r
def segLen : List Seg → Nat
  | [] => 0
  | .c _ :: r => segLen r + 1
  | .ints _ n _ :: r => n + segLen r
/-- A value as one handed to a call: its Value, where it is real. -/
def SV.val : SV → Option Value
  | .c (.v x) => some x
  | .agg l => match flat l with | some cs => some (.agg cs.toArray) | none => none
  | _ => none
def capsOf : List SV → Option (List Cap)
  | [] => some []
  | .c (.box d 0) :: r => match capsOf r with | some l => some (.b d :: l) | none => none
  | .c (.v x) :: r => match capsOf r with | some l => some (.v x :: l) | none => none
  | _ => none
def sitesOf : List SV → Option (List Nat)
  | [] => some []
  | .c (.box d 0) :: r => match sitesOf r with | some l => some (d :: l) | none => none
  | _ => none
def vals : List SV → Option (List Value)
  | [] => some []
  | x :: r => match x.val with
    | some v => match vals r with | some l => some (v :: l) | none => none
    | none => none

/-! ### Types -/
inductive CK where
  | int (k : IntKind) | bool | str | ptr | slice | map | chan | func | iface
inductive SK where
  | c (k : CK)
  | ints (k : IntKind) (n : Nat)
def appK : Option (List SK) → Option (List SK) → Option (List SK)
  | some a, some b => some (a ++ b)
  | _, _ => none
def repK : Nat → Option (List SK) → Option (List SK)
  | 0, _ => some []
  | n + 1, a => appK a (repK n a)
def kindsOf (P : Program) : Nat → TypeId → Option (List SK)
  | 0, _ => none
  | n + 1, t => match P.underlying t with
    | some (.int k) => some [.c (.int k)]
    | some .bool => some [.c .bool]
    | some .string => some [.c .str]
    | some (.pointer _) => some [.c .ptr]
    | some (.slice _) => some [.c .slice]
    | some (.map _ _) => some [.c .map]
    | some (.chan _ _) => some [.c .chan]
    | some (.func _ _ _) => some [.c .func]
    | some (.interface _) => some [.c .iface]
    | some (.struct fs) => fs.toList.foldr (fun f r => appK (kindsOf P n f.type) r) (some [])
    | some (.array m e) => match P.underlying e with
      | some (.int k) => some [.ints k m]
      | _ => repK m (kindsOf P n e)
    | _ => none
def kinds (P : Program) (t : TypeId) : Option (List SK) := kindsOf P 40 t
def skLen : List SK → Nat
  | [] => 0
  | .c _ :: r => skLen r + 1
  | .ints _ n :: r => n + skLen r
def isAggT (P : Program) (t : TypeId) : Bool :=
  match P.underlying t with
  | some (.struct _) | some (.array _ _) => true
  | _ => false
def sizeT (P : Program) (t : TypeId) : Option Nat := match P.info? t with | some i => some i.size | none => none
def bytesT (P : Program) (t : TypeId) : Option Nat := match P.info? t with | some i => some i.bytes | none => none
def zeroV (P : Program) (t : TypeId) : Option Value := match P.info? t with | some i => i.zero | none => none
def oneAll : List Value → Bool
  | [] => true
  | x :: r => one x && oneAll r
def zeroT (P : Program) (t : TypeId) : Option (List Value) := match zeroV P t with
  | some z => match oneAll z.cells.toList with | true => some z.cells.toList | false => none
  | none => none
def sameK : IntKind → IntKind → Bool
  | .i8, .i8 | .i16, .i16 | .i32, .i32 | .i64, .i64 | .u8, .u8 | .u16, .u16 | .u32, .u32 | .u64, .u64 => true
  | _, _ => false
def takeInts (k : IntKind) : Nat → List Value → Option (List Int × List Value)
  | 0, l => some ([], l)
  | n + 1, .int k' x :: l => match sameK k k' with
    | true => match takeInts k n l with | some (xs, r) => some (x :: xs, r) | none => none
    | false => none
  | _, _ => none
/-- Zero values are plain: the ints' kinds are the type's. -/
def parse : List SK → List Value → Option (List Seg)
  | [], [] => some []
  | .c _ :: ks, x :: l => match parse ks l with | some r => some (.c (.v x) :: r) | none => none
  | .ints k n :: ks, l => match takeInts k n l with
    | some (xs, l') => match parse ks l' with | some r => some (.ints k n xs :: r) | none => none
    | none => none
  | _, _ => none

/-! ### Conditions -/
/-- A test that is not decided. -/
def Br (p : Bool) (A B : Prop) : Prop := match p with | true => A | false => B
def PtrK (p : Option Addr) (K : Addr → Prop) : Prop := match p with | some a => K a | none => False
def CK.ex : CK → (Value → Prop) → Prop
  | .int k, K => ∃ n : Int, K (.int k n)
  | .bool, K => ∃ b : Bool, K (.bool b)
  | .str, K => ∃ s : ByteArray, K (.string s)
  | .ptr, K => ∃ a : Option Addr, K (.pointer a)
  | .slice, K => ∃ (a : Option Addr) (n c : Nat), K (.slice a n c)
  | .map, K => ∃ r : Option Nat, K (.map r)
  | .chan, K => ∃ r : Option Nat, K (.chan r)
  | .func, K => ∃ f : Value, one f = true ∧ K f
  | .iface, K => ∃ x : Value, one x = true ∧ K x
def exSegs : List SK → (List Seg → Prop) → Prop
  | [], K => K []
  | .c k :: r, K => k.ex fun x => exSegs r fun l => K (.c (.v x) :: l)
  | .ints k n :: r, K => ∃ xs : List Int, xs.length = n ∧ exSegs r fun l => K (.ints k n xs :: l)
def mkK (agg : Bool) (l : List Seg) (K : SV → Prop) : Prop := match agg with
  | true => K (.agg l)
  | false => match l with | [.c x] => K (.c x) | _ => False
/-- The value of a type out of its segments. -/
def mkSV (agg : Bool) (l : List Seg) : SV := match agg with
  | true => .agg l
  | false => match l with | [.c x] => .c x | _ => .c .bad

/-! ### Operations on numbers -/
def bitOp (op : BinOp) (k : IntKind) (x y : Int) : Int :=
  match op with
  | .and => k.wrap (BitVec.ofInt k.bits x &&& BitVec.ofInt k.bits y).toNat
  | .or => k.wrap (BitVec.ofInt k.bits x ||| BitVec.ofInt k.bits y).toNat
  | .xor => k.wrap (BitVec.ofInt k.bits x ^^^ BitVec.ofInt k.bits y).toNat
  | _ => k.wrap (BitVec.ofInt k.bits x &&& ~~~ BitVec.ofInt k.bits y).toNat
def shlI (k : IntKind) (x y : Int) : Int := k.wrap (x * 2 ^ (min y.toNat k.bits))
def shrI (k : IntKind) (x y : Int) : Int := x.fdiv (2 ^ (min y.toNat k.bits))
def intK (op : BinOp) (k : IntKind) (x y : Int) (K : Value → Prop) : Prop :=
  match op with
  | .add => K (.int k (k.wrap (x + y)))
  | .sub => K (.int k (k.wrap (x - y)))
  | .mul => K (.int k (k.wrap (x * y)))
  | .quo => y ≠ 0 ∧ K (.int k (k.wrap (x.tdiv y)))
  | .rem => y ≠ 0 ∧ K (.int k (x.tmod y))
  | .and => K (.int k (bitOp .and k x y))
  | .or => K (.int k (bitOp .or k x y))
  | .xor => K (.int k (bitOp .xor k x y))
  | .andNot => K (.int k (bitOp .andNot k x y))
  | .eql => K (.bool (x == y))
  | .neq => K (.bool (x != y))
  | .lss => K (.bool (decide (x < y)))
  | .leq => K (.bool (decide (x ≤ y)))
  | .gtr => K (.bool (decide (x > y)))
  | .geq => K (.bool (decide (x ≥ y)))
  | _ => False
def andO : Option Bool → Bool → Bool
  | none, b => b
  | some a, b => a && b
def eqK : List Seg → List Seg → Option Bool → (Bool → Prop) → Prop
  | [], [], acc, K => match acc with | some b => K b | none => K true
  | .c (.v (.int k a)) :: l, .c (.v (.int k' b)) :: l', acc, K => match sameK k k' with
    | true => eqK l l' (some (andO acc (a == b))) K
    | false => False
  | .c (.v (.bool a)) :: l, .c (.v (.bool b)) :: l', acc, K => eqK l l' (some (andO acc (a == b))) K
  | .c (.v (.string a)) :: l, .c (.v (.string b)) :: l', acc, K => eqK l l' (some (andO acc (a == b))) K
  | .ints k _ a :: l, .ints k' _ b :: l', acc, K => match sameK k k' with
    | true => eqK l l' (some (andO acc (a == b))) K
    | false => False
  | _, _, _, _ => False
def memN : List Nat → Nat → Bool
  | [], _ => false
  | x :: r, n => match Nat.beq x n with | true => true | false => memN r n
def shapeOK : List SK → List Seg → Bool
  | [], [] => true
  | .c (.int k) :: r, .c (.v (.int k' _)) :: l => match sameK k k' with | true => shapeOK r l | false => false
  | .c .bool :: r, .c (.v (.bool _)) :: l => shapeOK r l
  | .c .str :: r, .c (.v (.string _)) :: l => shapeOK r l
  | .ints k n :: r, .ints k' m _ :: l => match sameK k k', Nat.beq n m with | true, true => shapeOK r l | _, _ => false
  | _, _ => false
/-- == of two values that are no integers. -/
def eqlK (P : Program) (eqs : List TypeId) (t : TypeId) (x y : SV) (K : Bool → Prop) : Prop :=
  match P.underlying t, x, y with
  | some .bool, .c (.v (.bool a)), .c (.v (.bool b)) => K (a == b)
  | some .string, .c (.v (.string a)), .c (.v (.string b)) => K (a.toList == b.toList)
  | some (.pointer _), .c (.v (.pointer a)), .c (.v (.pointer none)) => K a.isNone
  | some (.slice _), .c (.v (.slice a _ _)), .c (.v (.slice none _ _)) => K a.isNone
  | some (.map _ _), .c (.v (.map a)), .c (.v (.map none)) => K a.isNone
  | some (.pointer _), .c (.box _ _), .c (.v (.pointer none)) => K false
  | _, .agg a, .agg b => match memN eqs t, kinds P t with
    | true, some ks => match shapeOK ks a, shapeOK ks b with
      | true, true => eqK a b none K
      | _, _ => False
    | _, _ => False
  | _, _, _ => False
def binK (P : Program) (eqs : List TypeId) (op : BinOp) (t : TypeId) (x y : SV) (K : SV → Prop) : Prop :=
  match x, y with
  | .c (.v (.int k a)), .c (.v (.int k' b)) => match op with
    | .shl => 0 ≤ b ∧ K (.c (.v (.int k (shlI k a b))))
    | .shr => 0 ≤ b ∧ K (.c (.v (.int k (shrI k a b))))
    | op => match sameK k k' with
      | true => intK op k a b fun v => K (.c (.v v))
      | false => False
  | x, y => match op with
    | .eql => eqlK P eqs t x y fun b => K (.c (.v (.bool b)))
    | .neq => eqlK P eqs t x y fun b => K (.c (.v (.bool (!b))))
    | _ => False
def maxI (x y : Int) : Int := if y > x then y else x
def minI (x y : Int) : Int := if y < x then y else x
def foldK (f : Int → Int → Int) (k : IntKind) : Int → List SV → (SV → Prop) → Prop
  | a, [], K => K (.c (.v (.int k a)))
  | a, .c (.v (.int k' b)) :: r, K => foldK f k (f a b) r K
  | _, _, _ => False

/-! ### Addresses and parts -/
def fieldOf (P : Program) (t : TypeId) (f : Nat) : Option Field :=
  match P.underlying t with
  | some (.struct fs) => fs[f]?
  | _ => none
/-- The segments from a cell on, so many cells. -/
def segFrom : List Seg → Nat → Option (List Seg)
  | l, 0 => some l
  | .c _ :: r, n + 1 => segFrom r n
  | .ints _ m _ :: r, n + 1 => match Nat.ble m (n + 1) with | true => segFrom r (n + 1 - m) | false => none
  | [], _ + 1 => none
def segTake : List Seg → Nat → Option (List Seg)
  | _, 0 => some []
  | .c x :: r, n + 1 => match segTake r n with | some l => some (.c x :: l) | none => none
  | .ints k m xs :: r, n + 1 => match Nat.ble m (n + 1) with
    | true => match segTake r (n + 1 - m) with | some l => some (.ints k m xs :: l) | none => none
    | false => none
  | [], _ + 1 => none

def appO {α : Type} : Option (List α) → Option (List α) → Option (List α)
  | some a, some b => some (a ++ b)
  | _, _ => none
/-- With other segments from a cell on. -/
def segPut (l : List Seg) (off : Nat) (new : List Seg) : Option (List Seg) :=
  appO (segTake l off) (appO (some new) (segFrom l (off + segLen new)))
def SV.segs : SV → Option (List Seg)
  | .c .bad => none
  | .c x => some [.c x]
  | .agg l => some l
  | .tup _ => none
def subAddr (a : Option Addr) (c l sz : Nat) : Option Addr := if c = l then a else a.map (·.add (l * sz))
/-- The bounds of a slice expression with two, over a length, a room. -/
def boundsK (lo hi : Option SV) (len cap : Nat) (K : Nat → Nat → Prop) : Prop :=
  match lo, hi with
  | none, none => K 0 len
  | none, some (.c (.v (.int _ h))) => (0 ≤ h ∧ h ≤ cap) ∧ K 0 h.toNat
  | some (.c (.v (.int _ l))), none => (0 ≤ l ∧ l ≤ len) ∧ K l.toNat len
  | some (.c (.v (.int _ l))), some (.c (.v (.int _ h))) => (0 ≤ h ∧ h ≤ cap) ∧ (0 ≤ l ∧ l ≤ h.toNat) ∧ K l.toNat h.toNat
  | _, _ => False
def elemOf (P : Program) (t : TypeId) : Option (TypeId × Nat) :=
  match P.underlying t with
  | some (.slice e) => match sizeT P e with | some z => some (e, z) | none => none
  | some (.array _ e) => match sizeT P e with | some z => some (e, z) | none => none
  | _ => none
def sliceK (P : Program) (t : TypeId) (x : SV) (lo hi : Option SV) (s : St) (K : SV → Prop) : Prop :=
  match x with
  | .c (.v (.slice a n c)) => match P.underlying t, elemOf P t with
    | some (.slice _), some (_, sz) => boundsK lo hi n c fun l h => K (.c (.v (.slice (subAddr a c l sz) (h - l) (c - l))))
    | _, _ => False
  | .c (.v (.string b)) => match P.underlying t with
    | some .string => boundsK lo hi b.size b.size fun l h => K (.c (.v (.string (b.extract l h))))
    | _ => False
  | .c (.row r) => match P.underlying t, elemOf P t, look s.objs r with
    | some (.slice _), some (_, sz'), some (.row _ sz es) => match Nat.beq sz sz' with
      | true => boundsK lo hi es.length es.length fun l h => K (.c (.sub r sz l h))
      | false => False
    | _, _, _ => False
  | .c (.sub r sz l0 h0) => match P.underlying t, elemOf P t with
    | some (.slice _), some (_, sz') => match Nat.beq sz sz' with
      | true => boundsK lo hi (h0 - l0) (h0 - l0) fun l h => K (.c (.sub r sz (l0 + l) (l0 + h)))
      | false => False
    | _, _ => False
  | .c (.box b o) => match P.underlying t, look s.objs b, elemOf P t with
    | some (.array m e), some (.box _ segs), some (_, 1) => match segFrom segs o with
      | some (.ints _ n _ :: _) => match Nat.beq n m with
        | true => boundsK lo hi n n fun l h => K (.c (.arr b o n l h))
        | false => False
      | _ => False
    | _, _, _ => False
  | .c (.arr b o n l0 h0) => match P.underlying t, elemOf P t with
    | some (.slice _), some (_, 1) => boundsK lo hi (h0 - l0) (h0 - l0) fun l h => K (.c (.arr b o n (l0 + l) (l0 + h)))
    | _, _ => False
  | _ => False
def indexK (P : Program) (t : TypeId) (x : SV) (n : Int) (s : St) (K : SV → Prop) : Prop :=
  match P.underlying t, elemOf P t with
  | some (.array len _), some (_, sz) => match x with
    | .c (.box b o) => match look s.objs b with
      | some (.box _ segs) => match segFrom segs o with
        | some (.ints _ m _ :: _) => match Nat.beq m len, Nat.beq sz 1 with
          | true, true => (0 ≤ n ∧ n < len) ∧ K (.c (.boxi b o m n.toNat))
          | _, _ => False
        | _ => (0 ≤ n ∧ n < len) ∧ K (.c (.box b (o + n.toNat * sz)))
      | _ => False
    | .c (.cell r z i o) => (0 ≤ n ∧ n < len) ∧ K (.c (.cell r z i (o + n.toNat * sz)))
    | .c (.v (.pointer p)) => (0 ≤ n ∧ n < len) ∧ PtrK p fun a => K (.c (.v (.pointer (some (a.add (n.toNat * sz))))))
    | _ => False
  | some (.slice _), some (_, sz) => match x with
    | .c (.v (.slice a len _)) => (0 ≤ n ∧ n < len) ∧ PtrK a fun A => K (.c (.v (.pointer (some (A.add (n.toNat * sz))))))
    | .c (.row r) => match look s.objs r with
      | some (.row _ z es) => match Nat.beq z sz with
        | true => (0 ≤ n ∧ n < es.length) ∧ K (.c (.cell r sz n.toNat 0))
        | false => False
      | _ => False
    | .c (.sub r z lo hi) => match Nat.beq z sz with
      | true => (0 ≤ n ∧ n < ((hi - lo : Nat) : Int)) ∧ K (.c (.cell r sz (lo + n.toNat) 0))
      | false => False
    | .c (.arr b o m lo hi) => match Nat.beq sz 1 with
      | true => (0 ≤ n ∧ n < ((hi - lo : Nat) : Int)) ∧ K (.c (.boxi b o m (lo + n.toNat)))
      | false => False
    | _ => False
  | _, _ => False
/-- Parts of a struct or an array that is built: where each lies, how many cells it has. -/
def placeOf (P : Program) (t : TypeId) (i : Nat) : Option (Nat × Nat) :=
  match P.underlying t with
  | some (.struct fs) => match fs[i]? with
    | some f => match sizeT P f.type with | some z => some (f.offset, z) | none => none
    | none => none
  | some (.array _ e) => match sizeT P e with | some z => some (i * z, z) | none => none
  | _ => none
def buildSegs (P : Program) (t : TypeId) (s : St) : List (Nat × Operand) → List Seg → Option (List Seg)
  | [], l => some l
  | (i, x) :: r, l => match placeOf P t i, (ev s x).segs with
    | some (off, z), some new => match Nat.beq (segLen new) z with
      | true => match segPut l off new with | some l' => buildSegs P t s r l' | none => none
      | false => none
    | _, _ => none
def buildInts (s : St) (k : IntKind) : List (Nat × Operand) → List Int → Option (List Int)
  | [], xs => some xs
  | (i, x) :: r, xs => match ev s x with
    | .c (.v (.int k' n)) => match sameK k k', nth xs i with | true, some _ => buildInts s k r (setNth xs i n) | _, _ => none
    | _ => none
def isIfaceT (P : Program) (t : TypeId) : Bool := match P.underlying t with | some (.interface _) => true | _ => false
def lenK (P : Program) (t : TypeId) (x : SV) (s : St) (K : SV → Prop) : Prop :=
  match P.underlying t, x with
  | some .string, .c (.v (.string b)) => K (.c (.v (.int .i64 (b.size : Int))))
  | some (.slice _), .c (.v (.slice _ n _)) => K (.c (.v (.int .i64 (n : Int))))
  | some (.slice _), .c (.row r) => match look s.objs r with
    | some (.row _ _ es) => K (.c (.v (.int .i64 (es.length : Int))))
    | _ => False
  | some (.slice _), .c (.sub _ _ lo hi) => K (.c (.v (.int .i64 ((hi - lo : Nat) : Int))))
  | some (.slice _), .c (.arr _ _ _ lo hi) => K (.c (.v (.int .i64 ((hi - lo : Nat) : Int))))
  | some (.array m _), _ => K (.c (.v (.int .i64 (m : Int))))
  | some (.map _ _), .c (.v (.map none)) => K (.c (.v (.int .i64 0)))
  | _, _ => False
/-- A load from a private variable, or from an element of a private row. -/
def loadK (P : Program) (t : TypeId) (x : SV) (s : St) (K : SV → Prop) : Prop :=
  match x with
  | .c (.box b o) => match look s.objs b, sizeT P t, P.underlying t with
    | some (.box _ segs), some z, some _ => match segFrom segs o with
      | some r => match segTake r z with
        | some l => mkK (isAggT P t) l K
        | none => False
      | none => False
    | _, _, _ => False
  | .c (.boxi b o n i) => match look s.objs b, P.underlying t with
    | some (.box _ segs), some (.int _) => match segFrom segs o with
      | some (.ints k m xs :: _) => match Nat.beq m n with
        | true => K (.c (.v (.int k (xs.getD i 0))))
        | false => False
      | _ => False
    | _, _ => False
  | .c (.cell r sz i o) => match look s.objs r, kinds P t, sizeT P t with
    | some (.row _ sz' es), some ks, some z => match Nat.beq sz sz' && Nat.beq (skLen ks) z with
      | true => exSegs ks fun l => (∃ e, es[i]? = some e ∧ (e.drop o).take z = flatD l) ∧ K (mkSV (isAggT P t) l)
      | false => False
    | _, _, _ => False
  | _ => False
def compSV : Comp → SV
  | .c x => .c x
  | .agg l => .agg l
structure Cfg where
  eqs : List TypeId
/-- An assertion that fails: the zero value. -/
def taZero (P : Program) (as : TypeId) (K : SV → Prop) : Prop :=
  match kinds P as, zeroV P as, isAggT P as with
  | some ks, some (.agg c), true => match parse ks c.toList, oneAll c.toList with
    | some l, true => K (.tup [.agg l, .c (.v (.bool false))])
    | _, _ => False
  | _, _, _ => False
/-- An assertion with ok, to a type that is a struct. -/
def taK (P : Program) (as : TypeId) (x : SV) (K : SV → Prop) : Prop :=
  match P.underlying as, x with
  | some (.interface _), _ => False
  | some _, .c (.v (.iface t v)) => match Nat.beq t as with
    | true => match kinds P as, v, isAggT P as with
      | some ks, .agg c, true => match parse ks c.toList, oneAll c.toList with
        | some l, true => K (.tup [.agg l, .c (.v (.bool true))])
        | _, _ => False
      | _, _, _ => False
    | false => taZero P as K
  | some _, .c (.v .nilIface) => taZero P as K
  | _, _ => False
/-- A value that an operation makes of values and private variables. -/
def valK (P : Program) (cfg : Cfg) (op : Op) (s : St) (K : SV → Prop) : Prop :=
  match op with
  | .move x | .assign x => K (ev s x)
  | .pick c a b => match ev s c with
    | .c (.v (.bool p)) => K (match p with | true => ev s a | false => ev s b)
    | _ => False
  | .nilCheck x => match ev s x with
    | .c (.v (.pointer p)) => PtrK p fun a => K (.c (.v (.pointer (some a))))
    | .c (.box b o) => K (.c (.box b o))
    | .c (.boxi b o n i) => K (.c (.boxi b o n i))
    | .c (.cell r z i o) => K (.c (.cell r z i o))
    | _ => False
  | .binOp op t x y _ => binK P cfg.eqs op t (ev s x) (ev s y) K
  | .unOp .not _ x => match ev s x with
    | .c (.v (.bool b)) => K (.c (.v (.bool (!b))))
    | _ => False
  | .unOp .neg _ x => match ev s x with
    | .c (.v (.int k n)) => K (.c (.v (.int k (k.wrap (0 - n)))))
    | _ => False
  | .convert src dst x => match P.underlying src, P.underlying dst, ev s x with
    | some _, some (.int k), .c (.v (.int _ n)) => K (.c (.v (.int k (k.wrap n))))
    | some _, some .string, .c (.v (.string b)) => K (.c (.v (.string b)))
    | _, _, _ => False
  | .fieldAddr t x f => match fieldOf P t f with
    | some fd => match sizeT P fd.type with
      | some (_ + 1) => match ev s x with
        | .c (.box b o) => K (.c (.box b (o + fd.offset)))
        | .c (.cell r z i o) => K (.c (.cell r z i (o + fd.offset)))
        | .c (.v (.pointer p)) => PtrK p fun a => K (.c (.v (.pointer (some (a.add fd.offset)))))
        | _ => False
      | _ => False
    | none => False
  | .indexAddr t x i => match ev s i with
    | .c (.v (.int _ n)) => indexK P t (ev s x) n s K
    | _ => False
  | .index t x i => match P.underlying t, ev s x, ev s i with
    | some .string, .c (.v (.string b)), .c (.v (.int _ n)) => (0 ≤ n ∧ n < (b.size : Int)) ∧ K (.c (.v (.int .u8 (((b.data.toList.getD n.toNat 0).toNat : Nat) : Int))))
    | some (.array len e), .agg (.ints k m xs :: []), .c (.v (.int _ n)) => match Nat.beq m len, sizeT P e, P.underlying e with
      | true, some 1, some (.int _) => (0 ≤ n ∧ n < (len : Int)) ∧ K (.c (.v (.int k (xs.getD n.toNat 0))))
      | _, _, _ => False
    | _, _, _ => False
  | .field t x f => match fieldOf P t f, ev s x with
    | some fd, .agg l => match sizeT P fd.type, segFrom l fd.offset, P.underlying fd.type with
      | some z, some r, some _ => match segTake r z with
        | some l' => mkK (isAggT P fd.type) l' K
        | none => False
      | _, _, _ => False
    | _, _ => False
  | .extract x i => match ev s x with
    | .tup l => match nth l i with | some c => K (compSV c) | none => False
    | _ => False
  | .slice t x lo hi none => sliceK P t (ev s x) (lo.map (ev s)) (hi.map (ev s)) s K
  | .slice t x (some lo) (some hi) (some mx) => match P.underlying t, elemOf P t, ev s x, ev s lo, ev s hi, ev s mx with
    | some (.slice _), some (_, sz), .c (.v (.slice a _ c)), .c (.v (.int _ l)), .c (.v (.int _ h)), .c (.v (.int _ m)) =>
      (0 ≤ m ∧ m ≤ (c : Int)) ∧ (0 ≤ h ∧ h ≤ m) ∧ (0 ≤ l ∧ l ≤ h) ∧ K (.c (.v (.slice (subAddr a m.toNat l.toNat sz) (h.toNat - l.toNat) (m.toNat - l.toNat))))
    | _, _, _, _, _, _ => False
  | .build t parts => match zeroT P t, kinds P t with
    | some z, some ks => match parse ks z with
      | some l => match P.underlying t with
        | some (.struct _) => match buildSegs P t s parts.toList l with | some l' => K (.agg l') | none => False
        | some (.array _ e) => match l with
          | [.ints k n xs] => match buildInts s k parts.toList xs, sizeT P e with
            | some xs', some 1 => K (.agg [.ints k n xs'])
            | _, _ => False
          | _ => False
        | _ => False
      | none => False
    | _, _ => False
  | .makeInterface t x => match isIfaceT P t, P.underlying t, (ev s x).val with
    | false, some _, some v => K (.c (.v (.iface t v)))
    | _, _, _ => False
  | .makeFunc fn first cap => match vals (first.toList.map (ev s)), vals (cap.toList.map (ev s)), capsOf (cap.toList.map (ev s)) with
    | some a, some b, _ => K (.c (.v (.func fn a.toArray b.toArray)))
    | some a, none, some cs => K (.c (.clo fn a cs))
    | _, _, _ => False
  | .load t x => loadK P t (ev s x) s K
  | .typeAssert x _ as true => taK P as (ev s x) K
  | .call { callee := .builtin .len, args, argTypes } => match argTypes.toList, args.toList with
    | [t], [x] => lenK P t (ev s x) s K
    | _, _ => False
  | .call { callee := .builtin .max, args, argTypes := _ } => match args.toList.map (ev s) with
    | .c (.v (.int k a)) :: r => foldK maxI k a r K
    | _ => False
  | .call { callee := .builtin .min, args, argTypes := _ } => match args.toList.map (ev s) with
    | .c (.v (.int k a)) :: r => foldK minI k a r K
    | _ => False
  | _ => False

/-! ### Private variables and rows -/
def SC.refs (d : Nat) : SC → Bool
  | .box s _ | .boxi s _ _ _ | .arr s _ _ _ _ | .row s | .sub s _ _ _ | .cell s _ _ _ => Nat.beq s d
  | .clo _ _ caps => caps.any fun c => match c with | .b s => Nat.beq s d | .v _ => false
  | _ => false
def Seg.refs (d : Nat) : Seg → Bool
  | .c x => x.refs d
  | _ => false
def Comp.refs (d : Nat) : Comp → Bool
  | .c x => x.refs d
  | .agg l => l.any (Seg.refs d)
def SV.refs (d : Nat) : SV → Bool
  | .c x => x.refs d
  | .agg l => l.any (Seg.refs d)
  | .tup l => l.any (Comp.refs d)
def AObj.refs (d : Nat) : AObj → Bool
  | .box _ l => l.any (Seg.refs d)
  | .row _ _ _ => false
/-- Nothing leads to a variable of this name; there is none. -/
def St.free (s : St) (d : Nat) : Bool :=
  !(s.env.any (SV.refs d)) && (!(s.objs.any fun (k, o) => Nat.beq k d || o.refs d) && !(s.dfr.any fun x => x.sites.any fun k => Nat.beq k d))
def noBad : List Seg → Bool
  | [] => true
  | .c .bad :: _ => false
  | .c (.v _) :: r => noBad r
  | .c (.box _ _) :: r => noBad r
  | .c (.boxi _ _ _ _) :: r => noBad r
  | .c (.arr _ _ _ _ _) :: r => noBad r
  | .c (.row _) :: r => noBad r
  | .c (.sub _ _ _ _) :: r => noBad r
  | .c (.cell _ _ _ _) :: r => noBad r
  | .c (.clo _ _ _) :: r => noBad r
  | .ints _ _ _ :: r => noBad r
def sliceElem (P : Program) (t : TypeId) : Option (TypeId × Nat) :=
  match P.underlying t with
  | some (.slice e) => match sizeT P e with | some z => some (e, z) | none => none
  | _ => none
def elemsOf (P : Program) (sz : Nat) (s : St) : List (Nat × Operand) → Nat → Nat → Option (List (List Value))
  | [], _, 0 => some []
  | _ :: _, _, 0 => none
  | [], _, _ + 1 => none
  | (i, x) :: r, j, n + 1 => match Nat.beq i j, (ev s x).segs with
    | true, some l => match flat l with
      | some cs => match Nat.beq cs.length sz, elemsOf P sz s r (j + 1) n with
        | true, some es => some (cs :: es)
        | _, _ => none
      | none => none
    | _, _ => none
def cellPut (es : List (List Value)) (i o : Nat) (xs : List Value) : List (List Value) :=
  es.modify i fun e => e.take o ++ xs ++ e.drop (o + xs.length)
/-- What is appended, where it is private or nil. -/
def srcOf (s : St) (sz : Nat) : SV → Option (List (List Value))
  | .c (.row r) => match look s.objs r with
    | some (.row _ sz' es) => match Nat.beq sz sz' with | true => some es | false => none
    | _ => none
  | .c (.sub r z lo hi) => match look s.objs r with
    | some (.row _ sz' es) => match Nat.beq sz sz', Nat.beq z sz with | true, true => some ((es.drop lo).take (hi - lo)) | _, _ => none
    | _ => none
  | _ => none
/-- What is appended to: the row that goes, and its elements. -/
def baseOf (s : St) (ty sz : Nat) : SV → Option (Option Nat × List (List Value))
  | .c (.row r) => match look s.objs r with
    | some (.row ty' sz' es) => match Nat.beq ty ty', Nat.beq sz sz' with | true, true => some (some r, es) | _, _ => none
    | _ => none
  | .c (.sub r z lo hi) => match look s.objs r with
    | some (.row ty' sz' es) => match Nat.beq ty ty', Nat.beq sz sz', Nat.beq z sz with | true, true, true => some (some r, (es.drop lo).take (hi - lo)) | _, _, _ => none
    | _ => none
  | .c (.v (.slice none 0 0)) => some (none, [])
  | _ => none
def delO (l : List (Nat × AObj)) : Option Nat → List (Nat × AObj)
  | none => l
  | some r => objDel l r
def SV.site : SV → Option Nat
  | .c (.row r) | .c (.sub r _ _ _) => some r
  | _ => none
def sameN : Option Nat → Option Nat → Bool
  | some a, some b => Nat.beq a b
  | _, _ => false
def roomMax : Nat := 140737488355328
/-- A row, made by an append. -/
def rowK (s : St) (d ty sz bytes : Nat) (base : Option Nat) (es : List (List Value)) (K : St → Prop) : Prop :=
  es.length * bytes ≤ roomMax ∧ K (St.set ⟨s.env, objSet (delO s.objs base) d (.row ty sz es), s.dfr⟩ d (.c (.row d)))
/-- The variable or row that a store writes into. -/
def storeSite : SV → Option Nat
  | .c (.box d _) | .c (.boxi d _ _ _) => some d
  | .c (.cell r _ _ _) => some r
  | _ => none
/-- Operations that make a private variable or a row, or write into one. -/
def objK (P : Program) (o : Oper) (s : St) (H : Heap) (K : St → Prop) : Prop :=
  match o.op, o.dst with
  | .alloc t, some d => match s.free d, zeroT P t, kinds P t with
    | true, some z, some ks => match parse ks z with
      | some l => K (St.set ⟨s.env, objSet s.objs d (.box t l), s.dfr⟩ d (.c (.box d 0)))
      | none => False
    | _, _, _ => False
  | .box t x, some d => match s.free d, (ev s x).segs with
    | true, some l => K (St.set ⟨s.env, objSet s.objs d (.box t l), s.dfr⟩ d (.c (.box d 0)))
    | _, _ => False
  | .store t a x, none => match ev s a with
    | .c (.box b off) => match look s.objs b, (ev s x).segs, sizeT P t with
      | some (.box ty l), some new, some z => match Nat.beq (segLen new) z && noBad new, segPut l off new with
        | true, some l' => K ⟨s.env, objSet s.objs b (.box ty l'), s.dfr⟩
        | _, _ => False
      | _, _, _ => False
    | .c (.boxi b off n i) => match look s.objs b, ev s x, sizeT P t with
      | some (.box ty l), .c (.v (.int k v)), some 1 => match segFrom l off with
        | some (.ints k' m xs :: _) => match Nat.beq m n, sameK k k', segPut l off [.ints k' m (xs.set i v)] with
          | true, true, some l' => K ⟨s.env, objSet s.objs b (.box ty l'), s.dfr⟩
          | _, _, _ => False
        | _ => False
      | _, _, _ => False
    | .c (.cell r sz' i off) => match look s.objs r, (ev s x).segs, sizeT P t with
      | some (.row ty sz es), some new, some z => match flat new with
        | some cs => match Nat.beq cs.length z, Nat.ble (off + z) sz, Nat.beq sz sz' with
          | true, true, true => i < es.length ∧ K ⟨s.env, objSet s.objs r (.row ty sz (match Nat.beq z sz with | true => es.set i cs | false => cellPut es i off cs)), s.dfr⟩
          | _, _, _ => False
        | none => False
      | _, _, _ => False
    | _ => False
  | .buildSlice t n parts, some d => match s.free d, sliceElem P t with
    | true, some (e, sz) => match elemsOf P sz s parts.toList 0 n, Nat.ble (n * sz) 16777216 with
      | some es, true => match zeroT P e with
        | some _ => K (St.set ⟨s.env, objSet s.objs d (.row e sz es), s.dfr⟩ d (.c (.row d)))
        | none => False
      | _, _ => False
    | _, _ => False
  | .makeSlice t n c, some d => match s.free d, sliceElem P t with
    | true, some (e, sz) => match ev s n, ev s c, zeroT P e, bytesT P e with
      | .c (.v (.int .i64 n)), .c (.v (.int .i64 c)), some z, some (by_ + 1) => match Nat.beq z.length sz with
        | true => (0 ≤ n ∧ c = n ∧ n * ((by_ + 1 : Nat) : Int) ≤ roomMax) ∧ K (St.set ⟨s.env, objSet s.objs d (.row e sz (List.replicate n.toNat z)), s.dfr⟩ d (.c (.row d)))
        | false => False
      | _, _, _, _ => False
    | _, _ => False
  | .call { callee := .builtin .append, args, argTypes }, some d => match s.free d, argTypes.toList, args.toList with
    | true, [t, t2], [x, y] => match P.underlying t2, sliceElem P t with
      | some (.slice _), some (e, sz) => match bytesT P e, zeroT P e with
        | some (by_ + 1), some z => match Nat.beq z.length sz with
          | true => match ev s x with
            | .c (.arr b off n 0 hi) => match look s.objs b, srcOf s sz (ev s y), Nat.beq sz 1, Nat.beq hi n && Nat.ble 1 n with
              | some (.box _ l), some (x1 :: es2), true, true => match segFrom l off with
                | some (.ints k m xs :: _) => match Nat.beq m n with
                  | true => rowK s d e sz (by_ + 1) none ((xs.map fun v => [.int k v]) ++ x1 :: es2) K
                  | false => False
                | _ => False
              | _, _, _, _ => False
            | x' => match baseOf s e sz x' with
              | some (base, es) => match ev s y with
                | .c (.v (.slice a n c)) => ∃ es2, SliceAt H (.slice a n c) sz es2 ∧ rowK s d e sz (by_ + 1) base (es ++ es2) K
                | y' => match srcOf s sz y', sameN base y'.site with
                  | some es2, false => rowK s d e sz (by_ + 1) base (es ++ es2) K
                  | _, _ => False
              | none => False
          | false => False
        | _, _ => False
      | _, _ => False
    | _, _, _ => False
  | _, _ => False

/-- The row that an append takes. -/
def appSite (s : St) (o : Oper) : Option Nat := match o.op with
  | .call { callee := .builtin .append, args, argTypes := _ } => (match args.toList with | x :: _ => (ev s x).site | [] => none)
  | _ => none
def isAlloc : Op → Bool
  | .alloc _ | .box _ _ | .buildSlice _ _ _ | .makeSlice _ _ _ => true
  | _ => false

/-! ### What looks into memory -/
def keyAt (es : List MapEntry) (x : Int) : Option Value :=
  match es with
  | [] => none
  | e :: r => match e.key with
    | .int _ y => if x = y then some e.val else keyAt r x
    | _ => keyAt r x
def IntKeys (k : IntKind) (es : List MapEntry) : Prop := ∀ e ∈ es, ∃ n, e.key = .int k n
/-- A map of numbers: what stands at a key, and whether anything does. -/
def LookAt (H : Heap) (r : Option Nat) (k : IntKind) (x : Int) (zero v : Value) (ok : Bool) : Prop :=
  match r with
  | none => v = zero ∧ ok = false
  | some r => ∃ es clk, H r = some (.map es clk) ∧ IntKeys k es.toList ∧
    match keyAt es.toList x with
    | some u => u = v ∧ ok = true
    | none => v = zero ∧ ok = false
def mkVal (agg : Bool) (l : List Value) : Value := match agg with
  | true => .agg l.toArray
  | false => match l with | [x] => x | _ => undef
def mkComp (agg : Bool) (l : List Seg) : Comp := match agg with
  | true => .agg l
  | false => match l with | [.c x] => .c x | _ => .c .bad
def readK (P : Program) (op : Op) (s : St) (H : Heap) (K : SV → Prop) : Prop :=
  match op with
  | .load t x => match ev s x, kinds P t, sizeT P t with
    | .c (.v (.pointer p)), some ks, some z => match Nat.beq (skLen ks) z with
      | true => PtrK p fun a => exSegs ks fun l => H.has a (flatD l) ∧ K (mkSV (isAggT P t) l)
      | false => False
    | _, _, _ => False
  | .lookup t x i ok => match P.underlying t, ev s x, ev s i with
    | some (.map kt et), .c (.v (.map r)), .c (.v (.int k n)) => match P.underlying kt, kinds P et, zeroV P et with
      | some (.int k'), some ks, some z => match sameK k k' with
        | true => exSegs ks fun l => match ok with
          | true => ∃ b, LookAt H r k n z (mkVal (isAggT P et) (flatD l)) b ∧ K (.tup [mkComp (isAggT P et) l, .c (.v (.bool b))])
          | false => (∃ b, LookAt H r k n z (mkVal (isAggT P et) (flatD l)) b) ∧ K (mkSV (isAggT P et) l)
        | false => False
      | _, _, _ => False
    | _, _, _ => False
  | .call { callee := .builtin .len, args, argTypes } => match argTypes.toList, args.toList with
    | [t], [x] => match P.underlying t, ev s x with
      | some (.map _ _), .c (.v (.map (some r))) => ∃ es clk, H r = some (.map es clk) ∧ K (.c (.v (.int .i64 (es.size : Int))))
      | _, _ => False
    | _, _ => False
  | _ => False

/-! ### What is handed over -/
inductive LK where
  | row (ty sz : Nat)
  | box (ty : Nat)
  | gone
structure Lend where
  site : Nat
  val : Value
  kind : LK
def St.del (s : St) (d : Nat) : St := ⟨s.env, objDel s.objs d, s.dfr⟩
/-- What stands in a variable that is told: its rows are told with it. -/
def lendIn : List Seg → St → Heap → (List Value → St → Heap → List Lend → Prop) → Prop
  | [], s, H, K => K [] s H []
  | .c x :: r, s, H, K => match x with
    | .v x => lendIn r s H fun l s' H' ls => K (x :: l) s' H' ls
    | .row d => match look s.objs d with
      | some (.row ty sz es) => ∀ v H', H ≤ H' → (∀ b, blockOf v = some b → H b = none) → (∀ b o, H' b = some o → H b = some o ∨ blockOf v = some b) → RowAt H' v ty sz es →
          lendIn r (s.del d) H' fun l s' H'' ls => K (v :: l) s' H'' (⟨d, v, .gone⟩ :: ls)
      | _ => False
    | _ => False
  | .ints k _ xs :: r, s, H, K => lendIn r s H fun l s' H' ls => K (xs.map (.int k) ++ l) s' H' ls
def lendBox (d : Nat) (s : St) (H : Heap) (K : Value → St → Heap → List Lend → Prop) : Prop :=
  match look s.objs d with
  | some (.box ty l) => lendIn l (s.del d) H fun cs s' H' ls => ∀ b, H' b = none → K (.pointer (some ⟨b, 0, none⟩)) s' (H'.upd b (.cells cs.toArray ty (0, 0))) (⟨d, .pointer (some ⟨b, 0, none⟩), .box ty⟩ :: ls)
  | _ => False
def lendCaps : List Cap → St → Heap → (List Value → St → Heap → List Lend → Prop) → Prop
  | [], s, H, K => K [] s H []
  | .v x :: r, s, H, K => lendCaps r s H fun vs s' H' ls => K (x :: vs) s' H' ls
  | .b d :: r, s, H, K => lendBox d s H fun v s' H' ls => lendCaps r s' H' fun vs s'' H'' ls' => K (v :: vs) s'' H'' (ls ++ ls')
/-- One cell that is handed over: private rows, and private variables whose address it is, are lent. -/
def lendC (x : SC) (s : St) (H : Heap) (K : Value → St → Heap → List Lend → Prop) : Prop :=
  match x with
  | .v v => K v s H []
  | .row d => match look s.objs d with
    | some (.row ty sz es) => ∀ v H', H ≤ H' → (∀ b, blockOf v = some b → H b = none) → (∀ b o, H' b = some o → H b = some o ∨ blockOf v = some b) → RowAt H' v ty sz es →
        K v (s.del d) H' [⟨d, v, .row ty sz⟩]
    | _ => False
  | .box d 0 => lendBox d s H K
  | .clo fn first caps => lendCaps caps s H fun vs s' H' ls => K (.func fn first.toArray vs.toArray) s' H' ls
  | _ => False
def lendSegs : List Seg → St → Heap → (List Value → St → Heap → List Lend → Prop) → Prop
  | [], s, H, K => K [] s H []
  | .c x :: r, s, H, K => lendC x s H fun v s' H' ls => lendSegs r s' H' fun vs s'' H'' ls' => K (v :: vs) s'' H'' (ls ++ ls')
  | .ints k _ xs :: r, s, H, K => lendSegs r s H fun vs s' H' ls => K (xs.map (.int k) ++ vs) s' H' ls
def lendV (x : SV) (s : St) (H : Heap) (K : Value → St → Heap → List Lend → Prop) : Prop :=
  match x with
  | .c x => lendC x s H K
  | .agg l => lendSegs l s H fun cs s' H' ls => K (.agg cs.toArray) s' H' ls
  | .tup _ => False
def lendK : List SV → St → Heap → (List Value → St → Heap → List Lend → Prop) → Prop
  | [], s, H, K => K [] s H []
  | x :: r, s, H, K => lendV x s H fun v s' H' ls => lendK r s' H' fun vs s'' H'' ls' => K (v :: vs) s'' H'' (ls ++ ls')
def Heap.delO (H : Heap) : Option Nat → Heap
  | none => H
  | some b => H.del b
/-- What was lent comes back. -/
def backK (P : Program) : List Lend → St → Heap → (St → Heap → Prop) → Prop
  | [], s, H, K => K s H
  | ⟨d, v, k⟩ :: r, s, H, K => match k with
    | .row ty sz => ∃ es, RowAt H v ty sz es ∧ backK P r ⟨s.env, objSet s.objs d (.row ty sz es), s.dfr⟩ (H.delO (blockOf v)) K
    | .box ty => match kinds P ty with
      | some ks => exSegs ks fun l => (∃ b, blockOf v = some b ∧ H b = some (.cells (flatD l).toArray ty (0, 0))) ∧ backK P r ⟨s.env, objSet s.objs d (.box ty l), s.dfr⟩ (H.delO (blockOf v)) K
      | none => False
    | .gone => backK P r s H K
/-! ### What changes memory -/
def writeCells (c : Array Value) (i : Nat) : List Value → Array Value
  | [] => c
  | x :: r => writeCells (c.setIfInBounds i x) (i + 1) r
def mapPut (es : Array MapEntry) (clk : Nat) (k : IntKind) (x : Int) (v : Value) : Obj :=
  match es.toList.findIdx? (fun e => match e.key with | .int _ y => x == y | _ => false) with
  | some i => .map (es.modify i fun e => { e with key := .int k x, val := v }) clk
  | none => .map (es.push { key := .int k x, val := v, born := clk }) (clk + 1)
def mapDel (es : Array MapEntry) (clk : Nat) (x : Int) : Obj :=
  match es.toList.findIdx? (fun e => match e.key with | .int _ y => x == y | _ => false) with
  | some i => .map (es.eraseIdxIfInBounds i) clk
  | none => .map es clk
def MapK (r : Option Nat) (K : Nat → Prop) : Prop := match r with | some r => K r | none => False
/-- The cells of a slice become a type's zero cells. -/
def ClearK (a : Option Addr) (n sz : Nat) (z : List Value) (H : Heap) (K : Heap → Prop) : Prop :=
  (n = 0 ∧ K H) ∨ ∃ A c ty, a = some A ∧ (H A.block = some (.cells c ty (0, 0)) ∧ A.spot = none ∧ A.off + n * sz ≤ c.size) ∧ K (H.upd A.block (.cells (writeCells c A.off (List.replicate n z).flatten) ty (0, 0)))
def effK (P : Program) (o : Oper) (s : St) (H : Heap) (K : St → Heap → Prop) : Prop :=
  match o.op with
  | .store t a x => match ev s a, (ev s x).segs, sizeT P t with
    | .c (.v (.pointer p)), some l, some z => match Nat.beq (segLen l) z with
      | true => lendSegs l s H fun cs s' H1 _ => PtrK p fun A => ∃ c ty, (H1 A.block = some (.cells c ty (0, 0)) ∧ A.spot = none ∧ A.off + z ≤ c.size) ∧
          K (s'.put o.dst (.c .bad)) (H1.upd A.block (.cells (writeCells c A.off cs) ty (0, 0)))
      | false => False
    | _, _, _ => False
  | .makeMap t none => ∀ r, H r = none → K (s.put o.dst (.c (.v (.map (some r))))) (H.upd r (.map #[] 0))
  | .mapUpdate t m k x => match P.underlying t, ev s m, ev s k with
    | some (.map kt _), .c (.v (.map r)), .c (.v (.int ik n)) => match P.underlying kt with
      | some (.int ik') => match sameK ik ik' with
        | true => lendV (ev s x) s H fun v s' H1 _ => MapK r fun r => ∃ es clk, (H1 r = some (.map es clk) ∧ IntKeys ik es.toList) ∧ K (s'.put o.dst (.c .bad)) (H1.upd r (mapPut es clk ik n v))
        | false => False
      | _ => False
    | _, _, _ => False
  | .call { callee := .builtin .clear, args, argTypes } => match argTypes.toList, args.toList with
    | [t], [x] => match sliceElem P t, ev s x with
      | some (e, sz), .c (.v (.slice a n _)) => match zeroT P e with
        | some z => match Nat.beq z.length sz with
          | true => ClearK a n sz z H fun H' => K (s.put o.dst (.c .bad)) H'
          | false => False
        | none => False
      | _, _ => False
    | _, _ => False
  | .call { callee := .builtin .delete, args, argTypes } => match argTypes.toList, args.toList with
    | t :: _, [m, k] => match P.underlying t, ev s m, ev s k with
      | some (.map kt _), .c (.v (.map r)), .c (.v (.int ik n)) => match P.underlying kt with
        | some (.int ik') => match sameK ik ik' with
          | true => MapK r fun r => ∃ es clk, (H r = some (.map es clk) ∧ IntKeys ik es.toList) ∧ K (s.put o.dst (.c .bad)) (H.upd r (mapDel es clk n))
          | false => False
        | _ => False
      | _, _, _ => False
    | _, _ => False
  | _ => False

/-! ### Calls -/
def exComps : List (Bool × List SK) → (List Comp → Prop) → Prop
  | [], K => K []
  | (a, ks) :: r, K => exSegs ks fun l => exComps r fun cs => K (mkComp a l :: cs)
def compKinds (P : Program) : List TypeId → Option (List (Bool × List SK))
  | [] => some []
  | t :: r => match kinds P t, compKinds P r with
    | some ks, some l => some ((isAggT P t, ks) :: l)
    | _, _ => none
def compVal : Comp → Value
  | .c (.v x) => x
  | .c _ => undef
  | .agg l => .agg (flatD l).toArray
/-- What a call hands back, of a type. -/
def retK (P : Program) (t : TypeId) (e : Ending) (K : SV → Prop) : Prop :=
  match P.underlying t with
  | some (.tuple ts) => match compKinds P ts.toList with
    | some ks => exComps ks fun cs => e = .returned (.tuple (cs.map compVal).toArray) ∧ K (.tup cs)
    | none => False
  | _ => match kinds P t with
    | some ks => exSegs ks fun l => e = .returned (mkVal (isAggT P t) (flatD l)) ∧ K (mkSV (isAggT P t) l)
    | none => False
/-- What is to hold behind a call. -/
def callR (P : Program) (o : Oper) (s : St) (ls : List Lend) (Kp : Option (St → List PanicEntry → Heap → Prop)) (K : St → Heap → Prop) (e : Ending) (H' : Heap) : Prop :=
  match Kp with
  | none => retK P o.type e fun x => backK P ls s H' fun s' H'' => K (s'.put o.dst x) H''
  | some kp => (retK P o.type e fun x => backK P ls s H' fun s' H'' => K (s'.put o.dst x) H'') ∨ ∃ c, e = .panicked c ∧ kp s c H'
/-- A call: Kp: what is to hold where it panics (none: it does not). -/
def callK (P : Program) (o : Oper) (s : St) (H : Heap) (Kp : Option (St → List PanicEntry → Heap → Prop)) (K : St → Heap → Prop) : Prop :=
  match o.op with
  | .call { callee := .value f, args, argTypes := _ } =>
    match f with
    | .func g => lendK (args.toList.map (ev s)) s H fun vs s' Hl ls => Meets P g vs Hl (callR P o s' ls Kp K)
    | f => lendV (ev s f) s H fun fv s1 H1 ls1 => lendK (args.toList.map (ev s)) s1 H1 fun vs s' Hl ls => MeetsV P fv vs Hl (callR P o s' (ls1 ++ ls) Kp K)
  | _ => False

/-! ### A statement's operations, one behind the other -/
inductive Cls where
  | val | obj | read | eff | call | panic | dfr | bad
def SV.isReal : SV → Bool
  | .c (.v _) => true
  | _ => false
def isMapT (P : Program) (t : TypeId) : Bool := match P.underlying t with | some (.map _ _) => true | _ => false
def clsOf (P : Program) (o : Oper) (s : St) : Cls :=
  match o.op with
  | .move _ | .assign _ | .pick _ _ _ | .nilCheck _ | .binOp _ _ _ _ _ | .unOp _ _ _ | .convert _ _ _ | .fieldAddr _ _ _ | .indexAddr _ _ _ | .index _ _ _
  | .field _ _ _ | .extract _ _ | .slice _ _ _ _ _ | .build _ _ | .makeInterface _ _ | .makeFunc _ _ _ | .typeAssert _ _ _ _ => .val
  | .load _ x => match (ev s x).isReal with | true => .read | false => .val
  | .lookup _ _ _ _ => .read
  | .alloc _ | .box _ _ | .buildSlice _ _ _ | .makeSlice _ _ _ => .obj
  | .store _ a _ => match (ev s a).isReal with | true => .eff | false => .obj
  | .makeMap _ _ | .mapUpdate _ _ _ _ => .eff
  | .panic _ => .panic
  | .call { callee := .value _, args := _, argTypes := _ } => .call
  | .call { callee := .builtin .len, args := _, argTypes } => match argTypes.toList with
    | [t] => match isMapT P t with | true => .read | false => .val
    | _ => .bad
  | .call { callee := .builtin .max, args := _, argTypes := _ } | .call { callee := .builtin .min, args := _, argTypes := _ } => .val
  | .call { callee := .builtin .append, args := _, argTypes := _ } => .obj
  | .call { callee := .builtin .delete, args := _, argTypes := _ } | .call { callee := .builtin .clear, args := _, argTypes := _ } => .eff
  | .defer _ => .dfr
  | _ => .bad
/-! ### Loops -/
inductive FK where
  | int (k : IntKind) | bool | str | ptr | slc | val
def FK.ty : FK → Type
  | .int _ => Int
  | .bool => Bool
  | .str => ByteArray
  | .ptr => Option Addr
  | .slc => Option Addr × Nat × Nat
  | .val => Value
def FK.mk : (f : FK) → f.ty → Value
  | .int k, n => .int k n
  | .bool, b => .bool b
  | .str, s => .string s
  | .ptr, a => .pointer a
  | .slc, x => .slice x.1 x.2.1 x.2.2
  | .val, v => v
def FK.getK : (f : FK) → Value → (f.ty → Prop) → Prop
  | .int k, .int k' n, K => match sameK k k' with | true => K n | false => False
  | .bool, .bool b, K => K b
  | .str, .string s, K => K s
  | .ptr, .pointer a, K => K a
  | .slc, .slice a n c, K => K (a, n, c)
  | .val, v, K => K v
  | _, _, _ => False
inductive PK where
  | f (k : FK) | rows | ints
def PK.ty : PK → Type
  | .f k => k.ty
  | .rows => List (List Value)
  | .ints => List Int
def PTy : List PK → Type
  | [] => Unit
  | k :: r => k.ty × PTy r
/-- What a slot holds at a loop's head: a value of a kind, or a row (named as the slot). -/
inductive SlotH where
  | f (t : Nat) (k : FK)
  | row (t ty sz : Nat)
  | own (t ty sz : Nat)
def SlotH.pk : SlotH → PK
  | .f _ k => .f k
  | .row _ _ _ => .rows
  | .own _ _ _ => .rows
def SlotH.t : SlotH → Nat
  | .f t _ => t
  | .row t _ _ => t
  | .own t _ _ => t
inductive SegH where
  | f (k : FK)
  | ints (k : IntKind) (n : Nat)
def SegH.pk : SegH → PK
  | .f k => .f k
  | .ints _ _ => .ints
/-- What a private variable is at a loop's head: as it was ahead of it, or of these segments. -/
inductive ObjH where
  | keep (s : Nat)
  | box (s ty : Nat) (l : List SegH)
def PTy2 : List (List PK) → Type
  | [] => Unit
  | k :: r => PTy k × PTy2 r
def ObjH.pks : ObjH → List PK
  | .keep _ => []
  | .box _ _ l => l.map SegH.pk
structure LHint where
  fix : List Nat
  slots : List SlotH
  objs : List ObjH
def LHint.Par (h : LHint) : Type := PTy (h.slots.map SlotH.pk) × PTy2 (h.objs.map ObjH.pks)
def restrictEnv (keep : List Nat) : List SV → Nat → List SV
  | [], _ => []
  | x :: r, i => (match memN keep i with | true => x | false => .c .bad) :: restrictEnv keep r (i + 1)
def gets (s : St) : List Nat → List SV
  | [] => []
  | t :: r => s.get t :: gets s r
def sameLen : List SV → List SV → Bool
  | [], [] => true
  | _ :: l, _ :: r => sameLen l r
  | _, _ => false
/-- A slice that a slot holds becomes a private row, named as the slot. -/
def adoptK (s : St) (t ty sz : Nat) (H : Heap) (K : St → Heap → Prop) : Prop :=
  match s.get t with
  | .c (.v v) => match (s.set t (.c .bad)).free t with
    | true => ∃ es, RowAt H v ty sz es ∧ K (St.set ⟨s.env, objSet s.objs t (.row ty sz es), s.dfr⟩ t (.c (.row t))) (H.delO (blockOf v))
    | false => False
  | _ => False
def normTo (s : St) (t d ty sz : Nat) (K : St → Prop) : Prop := match (s.set t (.c .bad)).free d, baseOf s ty sz (s.get t) with
  | true, some (base, es) => K (St.set ⟨s.env, objSet (delO s.objs base) d (.row ty sz es), s.dfr⟩ t (.c (.row d)))
  | _, _ => False
/-- A row that a slot holds gets the slot's name; what had the name, and is not looked at any more, goes. -/
def normRow (s : St) (t ty sz : Nat) (K : St → Prop) : Prop := match s.get t with
    | .c (.row d) => match Nat.beq d t with
      | true => K s
      | false => normTo ⟨s.env, objDel s.objs t, s.dfr⟩ t t ty sz K
    | .c (.sub d z lo hi) => match Nat.beq d t with
      | true => normTo s t (t + 100000) ty sz fun s' => normTo s' t t ty sz K
      | false => normTo ⟨s.env, objDel s.objs t, s.dfr⟩ t t ty sz K
    | x => normTo ⟨s.env, objDel s.objs t, s.dfr⟩ t t ty sz K
def isRealSV : SV → Bool
  | .c (.v _) => true
  | _ => false
def normRows : List SlotH → St → Heap → (St → Heap → Prop) → Prop
  | [], s, H, K => K s H
  | .f _ _ :: r, s, H, K => normRows r s H K
  | .row t ty sz :: r, s, H, K => normRow s t ty sz fun s' => normRows r s' H K
  | .own t ty sz :: r, s, H, K => match isRealSV (s.get t) with
    | true => adoptK s t ty sz H fun s' H' => normRows r s' H' K
    | false => normRow s t ty sz fun s' => normRows r s' H K
def getSlots (s : St) : (l : List SlotH) → (PTy (l.map SlotH.pk) → Prop) → Prop
  | [], K => K ()
  | .f t k :: r, K => match s.get t with
    | .c (.v v) => k.getK v fun x => getSlots s r fun xs => K (x, xs)
    | _ => False
  | .row t ty sz :: r, K => match s.get t, look s.objs t with
    | .c (.row d), some (.row ty' sz' es) => match Nat.beq d t && Nat.beq ty ty' && Nat.beq sz sz' with
      | true => getSlots s r fun xs => K (es, xs)
      | false => False
    | _, _ => False
  | .own t ty sz :: r, K => match s.get t, look s.objs t with
    | .c (.row d), some (.row ty' sz' es) => match Nat.beq d t && Nat.beq ty ty' && Nat.beq sz sz' with
      | true => getSlots s r fun xs => K (es, xs)
      | false => False
    | _, _ => False
def getSegs : (l : List SegH) → List Seg → (PTy (l.map SegH.pk) → Prop) → Prop
  | [], [], K => K ()
  | .f k :: r, .c (.v v) :: l, K => k.getK v fun x => getSegs r l fun xs => K (x, xs)
  | .ints k n :: r, .ints k' n' xs :: l, K => match sameK k k' && Nat.beq n n' with
    | true => getSegs r l fun ys => K (xs, ys)
    | false => False
  | _, _, _ => False
/-- Two values are the same: asked of their parts. -/
def eqSC : SC → SC → Prop → Prop
  | .v (.int k a), .v (.int k' b), X => match sameK k k' with | true => a = b ∧ X | false => False
  | .v (.bool a), .v (.bool b), X => a = b ∧ X
  | .v (.pointer a), .v (.pointer b), X => a = b ∧ X
  | .v (.slice a n c), .v (.slice b m d), X => a = b ∧ n = m ∧ c = d ∧ X
  | .v (.map a), .v (.map b), X => a = b ∧ X
  | .v a, .v b, X => a = b ∧ X
  | .box s o, .box s' o', X => match Nat.beq s s' with | true => o = o' ∧ X | false => False
  | .row s, .row s', X => match Nat.beq s s' with | true => X | false => False
  | .bad, .bad, X => X
  | x, y, X => x = y ∧ X
def eqSegs : List Seg → List Seg → Prop → Prop
  | [], [], X => X
  | .c x :: r, .c y :: l, X => eqSC x y (eqSegs r l X)
  | .ints k n xs :: r, .ints k' n' ys :: l, X => match sameK k k' && Nat.beq n n' with | true => xs = ys ∧ eqSegs r l X | false => False
  | _, _, _ => False
def eqSV : SV → SV → Prop → Prop
  | .c x, .c y, X => eqSC x y X
  | .agg l, .agg r, X => eqSegs l r X
  | x, y, X => x = y ∧ X
def eqSVs : List SV → List SV → Prop → Prop
  | [], [], X => X
  | x :: l, y :: r, X => eqSV x y (eqSVs l r X)
  | _, _, _ => False
def eqO : Option AObj → Option AObj → Prop → Prop
  | none, none, X => X
  | some (.box t l), some (.box t' r), X => match Nat.beq t t' with | true => eqSegs l r X | false => False
  | some (.row t z es), some (.row t' z' es'), X => match Nat.beq t t' && Nat.beq z z' with | true => es = es' ∧ X | false => False
  | _, _, _ => False
def eqD : List ADef → List ADef → Prop → Prop
  | [], [], X => X
  | a, b, X => a = b ∧ X
def getObjs (s0 s : St) : (l : List ObjH) → (PTy2 (l.map ObjH.pks) → Prop) → Prop
  | [], K => K ()
  | .keep d :: r, K => eqO (look s.objs d) (look s0.objs d) (getObjs s0 s r fun xs => K ((), xs))
  | .box d ty l :: r, K => match look s.objs d with
    | some (.box ty' segs) => match Nat.beq ty ty' with
      | true => getSegs l segs fun x => getObjs s0 s r fun xs => K (x, xs)
      | false => False
    | _ => False
def mkSegs : (l : List SegH) → PTy (l.map SegH.pk) → List Seg
  | [], _ => []
  | .f k :: r, x => .c (.v (k.mk x.1)) :: mkSegs r x.2
  | .ints k n :: r, x => .ints k n x.1 :: mkSegs r x.2
def mkObjs (s0 : St) : (l : List ObjH) → PTy2 (l.map ObjH.pks) → List (Nat × AObj)
  | [], _ => []
  | .keep d :: r, x => match look s0.objs d with
    | some o => (d, o) :: mkObjs s0 r x.2
    | none => mkObjs s0 r x.2
  | .box d ty l :: r, x => (d, .box ty (mkSegs l x.1)) :: mkObjs s0 r x.2
def setSlots : (l : List SlotH) → PTy (l.map SlotH.pk) → St → St
  | [], _, s => s
  | .f t k :: r, x, s => setSlots r x.2 (s.set t (.c (.v (k.mk x.1))))
  | .row t ty sz :: r, x, s => setSlots r x.2 (St.set ⟨s.env, objSet s.objs t (.row ty sz x.1), s.dfr⟩ t (.c (.row t)))
  | .own t ty sz :: r, x, s => setSlots r x.2 (St.set ⟨s.env, objSet s.objs t (.row ty sz x.1), s.dfr⟩ t (.c (.row t)))
/-- The state at the head. -/
def rebuild (h : LHint) (s0 : St) (p : h.Par) : St := setSlots h.slots p.1 ⟨restrictEnv h.fix s0.env 0, mkObjs s0 h.objs p.2, s0.dfr⟩
/-- A state as one at the head. -/
def toHead (h : LHint) (s0 s : St) (H : Heap) (K : h.Par → Heap → Prop) : Prop :=
  normRows h.slots ⟨restrictEnv (h.fix ++ h.slots.map SlotH.t) s.env 0, s.objs, s.dfr⟩ H fun s2 H2 =>
    match sameLen s2.env s0.env with
    | true => eqD s2.dfr s0.dfr (eqSVs (gets s2 h.fix) (gets s0 h.fix) (getSlots s2 h.slots fun p1 => getObjs s0 s2 h.objs fun p2 => K (p1, p2) H2))
    | false => False
def LoopP {α : Type} (T : (α → Heap → Prop) → α → Heap → Prop) (p : α) (H : Heap) : Prop :=
  ∃ (I : α → Heap → Prop) (μ : α → Heap → Nat), I p H ∧ ∀ p H, I p H → T (fun p' H' => I p' H' ∧ μ p' H' < μ p H) p H
def CutP {α : Type} (A : (α → Heap → Prop) → Prop) (B : α → Heap → Prop) : Prop :=
  ∃ I : α → Heap → Prop, A I ∧ ∀ p H, I p H → B p H
structure Hints where
  eqs : List TypeId := []
  pan : Bool := false
  /-- the slots of results whose variables a deferred call gets: known where a call panics -/
  pk : Option (List Nat) := none
  /-- results of appends onto slices that come out of known memory -/
  own : List Nat := []
  /-- results of appends in place: onto slices that come out of known memory and have room -/
  inp : List Nat := []
  /-- results of calls that become private rows: slot, element type, cells of an element -/
  ownc : List (Nat × Nat × Nat) := []
  /-- calls (by their results' slots) that keep what they are given -/
  give : List Nat := []
  /-- in drawn orders what writes may wait for what looks by way of others -/
  deep : Bool := false
  loops : List (Nat × LHint) := []
  cuts : List (Nat × LHint) := []
def findH : List (Nat × LHint) → Nat → Option LHint
  | [], _ => none
  | (k, h) :: r, n => match Nat.beq k n with | true => some h | false => findH r n
def findC : List (Nat × Nat × Nat) → Nat → Option (Nat × Nat)
  | [], _ => none
  | (k, e, z) :: r, n => match Nat.beq k n with | true => some (e, z) | false => findC r n
def isGive (hs : Hints) (o : Oper) : Bool := match o.dst with | some d => memN hs.give d | none => false
def lsOff (O : List (Nat × AObj)) : List Lend → Bool
  | [] => true
  | x :: r => (match look O x.site with | none => true | some _ => false) && lsOff O r
def giveR (P : Program) (O : List (Nat × AObj)) (G : Heap) (o : Oper) (s' : St) (ls : List Lend) (Kp : Option (St → List PanicEntry → Heap → Prop)) (K : St → Heap → Prop) (e : Ending) (H' : Heap) : Prop :=
  match lsOff O ls with
  | true => match Kp with
    | none => G ≤ H' ∧ retK P o.type e fun x => K (s'.put o.dst x) H'
    | some kp => (G ≤ H' ∧ retK P o.type e fun x => K (s'.put o.dst x) H') ∨ ∃ c, e = .panicked c ∧ kp s' c H'
  | false => False
/-- A call that keeps what it is given. -/
def giveK (P : Program) (O : List (Nat × AObj)) (G : Heap) (o : Oper) (s : St) (H : Heap) (Kp : Option (St → List PanicEntry → Heap → Prop)) (K : St → Heap → Prop) : Prop :=
  match o.op with
  | .call { callee := .value (.func g), args, argTypes := _ } => lendK (args.toList.map (ev s)) s H fun vs s' Hl ls => Meets P g vs Hl (giveR P O G o s' ls Kp K)
  | _ => False
/-- The slot of a call whose result becomes a private row. -/
def ownC (hs : Hints) (o : Oper) : Option (Nat × Nat × Nat) := match o.dst with
  | some d => match findC hs.ownc d with | some (e, z) => some (d, e, z) | none => none
  | none => none
/-- The same beside what is looked at. -/
def adoptA (s : St) (t ty sz : Nat) (G H : Heap) (K : St → Heap → Prop) : Prop :=
  match s.get t with
  | .c (.v v) => match (s.set t (.c .bad)).free t with
    | true => ∃ es, RowAt H v ty sz es ∧ (∀ b, blockOf v = some b → G b = none) ∧ K (St.set ⟨s.env, objSet s.objs t (.row ty sz es), s.dfr⟩ t (.c (.row t))) (H.delO (blockOf v))
    | false => False
  | _ => False
/-- The first statement of a piece of code. -/
def firstR : Code → Nat
  | .region id _ _ => id
  | .seq x _ => firstR x
  | .block _ c => firstR c
  | .loop c => firstR c
  | .scope c => firstR c
  | _ => 0
def seqQ (K : St → Heap → Prop) (Q : Exit → St → Heap → Prop) : Exit → St → Heap → Prop
  | .normal, s, H => K s H
  | e, s, H => Q e s H
def blockQ (id : Nat) (Q : Exit → St → Heap → Prop) : Exit → St → Heap → Prop
  | .exit i, s, H => match Nat.beq i id with | true => Q .normal s H | false => Q (.exit i) s H
  | e, s, H => Q e s H
/-- What is known where a call panics. -/
def panSt (pk : Option (List Nat)) (s : St) : St := match pk with
  | none => ⟨[], [], s.dfr⟩
  | some l => ⟨restrictEnv l s.env 0, s.objs, s.dfr⟩
def panicQ (hs : Hints) (Q : Exit → St → Heap → Prop) : Option (St → List PanicEntry → Heap → Prop) := match hs.pan with
  | true => some fun s c H => Q (.panic c) (panSt hs.pk s) H
  | false => none
def opC (P : Program) (hs : Hints) (Q : Exit → St → Heap → Prop) (o : Oper) (s : St) (H : Heap) (K : St → Heap → Prop) : Prop :=
  match clsOf P o s with
  | .val => valK P ⟨hs.eqs⟩ o.op s fun x => K (s.put o.dst x) H
  | .obj => objK P o s H fun s' => K s' H
  | .read => readK P o.op s H fun x => K (s.put o.dst x) H
  | .eff => effK P o s H K
  | .call => match isGive hs o with
    | true => giveK P [] (fun _ => none) o s H (panicQ hs Q) K
    | false => match ownC hs o with
      | none => callK P o s H (panicQ hs Q) K
      | some (d, e, sz) => callK P o s H (panicQ hs Q) fun s' H' => adoptK s' d e sz H' K
  | .panic => match o.op with
    | .panic x => match ev s x with
      | .c (.v (.iface t v)) => Q (.panic [{ v := .iface t v, recovered := false }]) (panSt hs.pk s) H
      | _ => False
    | _ => False
  | .dfr => match o.op with
    | .defer { callee := .value (.func f), args, argTypes := _ } => match sitesOf (args.toList.map (ev s)), callable P f with
      | some l, true => K (St.put ⟨s.env, s.objs, ⟨f, l⟩ :: s.dfr⟩ o.dst (.c .bad)) H
      | _, _ => False
    | _ => False
  | .bad => False
/-- The slot of an append whose slice is to be private first. -/
def ownOf (P : Program) (hs : Hints) (o : Oper) : Option (Nat × Nat × Nat) :=
  match o.op, o.dst with
  | .call { callee := .builtin .append, args, argTypes }, some d => match memN hs.own d, args.toList, argTypes.toList with
    | true, .tmp t :: _, ty :: _ => match sliceElem P ty with | some (e, sz) => some (t, e, sz) | none => none
    | _, _, _ => none
  | _, _ => none
/-- Elements come to stand behind the first ones of a slice. -/
def FillK (a : Option Addr) (n sz : Nat) (es : List (List Value)) (H : Heap) (K : Heap → Prop) : Prop :=
  (es = [] ∧ K H) ∨ ∃ A c ty, a = some A ∧ (H A.block = some (.cells c ty (0, 0)) ∧ A.spot = none ∧ A.off + n * sz + es.length * sz ≤ c.size) ∧ K (H.upd A.block (.cells (writeCells c (A.off + n * sz) es.flatten) ty (0, 0)))
/-- The operands of an append in place. -/
def inpOf (P : Program) (hs : Hints) (o : Oper) : Option (Operand × Operand × Nat) :=
  match o.op, o.dst with
  | .call { callee := .builtin .append, args, argTypes }, some d => match memN hs.inp d, args.toList, argTypes.toList with
    | true, [x, y], [t, t2] => match sliceElem P t, P.underlying t2 with
      | some (_, sz), some (.slice _) => some (x, y, sz)
      | _, _ => none
    | _, _, _ => none
  | _, _ => none
def inpK (sz : Nat) (x y : SV) (d : Option Nat) (s : St) (H : Heap) (K : St → Heap → Prop) : Prop :=
  match x, y with
  | .c (.v (.slice a n c)), .c (.v (.slice a2 m c2)) => n + m ≤ c ∧ ∃ es2, SliceAt H (.slice a2 m c2) sz es2 ∧ FillK a n sz es2 H fun H' => K (s.put d (.c (.v (.slice a (n + m) c)))) H'
  | _, _ => False
def opK (P : Program) (hs : Hints) (Q : Exit → St → Heap → Prop) (o : Oper) (s : St) (H : Heap) (K : St → Heap → Prop) : Prop :=
  match inpOf P hs o with
  | some (x, y, sz) => inpK sz (ev s x) (ev s y) o.dst s H K
  | none => match ownOf P hs o with
    | none => opC P hs Q o s H K
    | some (t, e, sz) => adoptK s t e sz H fun s' H' => opC P hs Q o s' H' K
def guardDst (ops : List Oper) (j : Nat) : Option Nat := match nth ops j with | some o => o.dst | none => none
/-- The operations of a statement whose order is told. -/
def opsK (P : Program) (hs : Hints) (Q : Exit → St → Heap → Prop) (ops : List Oper) : List Oper → St → Heap → Prop
  | [], s, H => Q .normal s H
  | o :: r, s, H => match o.guard with
    | none => opK P hs Q o s H fun s' H' => opsK P hs Q ops r s' H'
    | some (j, b) => match guardDst ops j with
      | none => False
      | some g => match s.get g with
        | .c (.v (.bool p)) => match b with
          | true => Br p (opK P hs Q o (s.set g (.c (.v (.bool true)))) H fun s' H' => opsK P hs Q ops r s' H')
              (opsK P hs Q ops r ((s.set g (.c (.v (.bool false)))).put o.dst (.tup [])) H)
          | false => Br p (opsK P hs Q ops r ((s.set g (.c (.v (.bool true)))).put o.dst (.tup [])) H)
              (opK P hs Q o (s.set g (.c (.v (.bool false)))) H fun s' H' => opsK P hs Q ops r s' H')
        | .tup [] => opsK P hs Q ops r (s.put o.dst (.tup [])) H
        | _ => False

/-! ### Statements whose order is drawn -/
def tailB (ops : Array Oper) (n : Nat) : Bool :=
  (List.range ops.size).all fun j => Nat.blt j n || (List.range n).all fun i => Region.waitsFor .any ops j i
def reach (ops : Array Oper) : Nat → Nat → Nat → Bool
  | 0, _, _ => false
  | f + 1, i, j => match ops[j]? with
    | some oj => oj.after.toList.any fun e => Region.binds .any e && (Nat.beq e.on i || (Nat.blt i e.on && reach ops f i e.on))
    | none => false
/-- The next of the head: what only looks goes first. -/
def nextN (ops : Array Oper) (n : Nat) (big : Nat → Bool) (listed : Array Bool) : Option Nat :=
  match (List.range n).find? fun k => !big k && !(listed.getD k true) && (Region.ready .any ops listed).contains k with
  | some k => some k
  | none => (List.range n).find? fun k => !(listed.getD k true) && (Region.ready .any ops listed).contains k
def schedN (ops : Array Oper) (n : Nat) (big : Nat → Bool) : Nat → Array Bool → List Nat
  | 0, _ => []
  | f + 1, listed => match nextN ops n big listed with
    | some k => k :: schedN ops n big f (listed.setIfInBounds k true)
    | none => []
/-- Each one is ready; beside one that does more than look nothing is. -/
def lexB (ops : Array Oper) (n : Nat) (big : Nat → Bool) (fin : Array Bool → Bool) : List Nat → Array Bool → Bool
  | [], listed => fin listed
  | k :: r, listed => Nat.blt k n && (match big k with
      | true => (Region.ready .any ops listed).all (fun j => Nat.beq j k) && (Region.ready .any ops listed).contains k
      | false => (Region.ready .any ops listed).contains k && Region.free .any ops listed k) && lexB ops n big fin r (listed.setIfInBounds k true)
/-- Operations that come to one thing whatever memory is. -/
def quiet2 (P : Program) : Op → Bool
  | .indexAddr _ _ _ | .move _ | .assign _ => true
  | .fieldAddr t _ f => match fieldOf P t f with
    | some fd => match sizeT P fd.type with | some (_ + 1) => true | _ => false
    | none => false
  | .binOp .add t _ _ _ | .binOp .sub t _ _ _ => match P.underlying t with | some (.int _) => true | _ => false
  | _ => false
/-- Operations that at most look into memory. -/
def quietOp : Op → Bool
  | .move _ | .assign _ | .pick _ _ _ | .nilCheck _ | .binOp _ _ _ _ _ | .unOp _ _ _ | .convert _ _ _ | .fieldAddr _ _ _ | .indexAddr _ _ _ | .index _ _ _
  | .field _ _ _ | .extract _ _ | .slice _ _ _ _ _ | .build _ _ | .makeInterface _ _ | .makeFunc _ _ _ | .load _ _ | .lookup _ _ _ _ => true
  | .call { callee := .builtin .len, args := _, argTypes := _ } | .call { callee := .builtin .max, args := _, argTypes := _ } | .call { callee := .builtin .min, args := _, argTypes := _ } => true
  | _ => false
def tailOp : Op → Bool
  | .call { callee := .value _, args := _, argTypes := _ } | .defer _ => false
  | _ => true
def fin2 (ops : Array Oper) (listed : Array Bool) : Bool := (Region.ready .any ops listed).all fun j => Nat.ble ops.size j
def isCall : Op → Bool
  | .call { callee := .value _, args := _, argTypes := _ } => true
  | _ => false
def bigO (o : Oper) : Bool := isAlloc o.op || isCall o.op
def wrO (o : Oper) : Bool := !bigO o && !quietOp o.op
def wrN (ops : List Oper) (i : Nat) : Bool := match nth ops i with | some o => wrO o | none => false
def bigN (ops : List Oper) (i : Nat) : Bool := match nth ops i with | some o => bigO o || wrO o | none => false
def rdN (P : Program) (ops : List Oper) (i : Nat) : Bool := match nth ops i with | some o => quietOp o.op && !quiet2 P o.op | none => false
/-- What writes waits for all that looks into memory. -/
def waitB (deep : Bool) (ops : Array Oper) (j k : Nat) : Bool := match deep with | false => Region.waitsFor .any ops j k | true => reach ops ops.size k j
def wrB (P : Program) (deep : Bool) (ops : Array Oper) : Bool := (List.range ops.size).all fun j => !wrN ops.toList j || (List.range ops.size).all fun k => !rdN P ops.toList k || waitB deep ops j k
def schedO (ops : Array Oper) : List Nat := schedN ops ops.size (bigN ops.toList) ops.size (Array.replicate ops.size false)
def headOf (ops : List Oper) : List Nat → List Nat
  | [] => []
  | k :: r => match wrN ops k with | true => [] | false => k :: headOf ops r
def tailOf (ops : List Oper) : List Nat → List Nat
  | [] => []
  | k :: r => match wrN ops k with | true => k :: r | false => tailOf ops r
def tailOps (P : Program) (ops : List Oper) : List Nat → Bool
  | [] => true
  | k :: r => (match nth ops k with | some o => (wrO o && tailOp o.op) || (quiet2 P o.op && !bigO o && !wrO o) | none => false) && tailOps P ops r
def mixB (P : Program) (deep : Bool) (ops : Array Oper) (l : List Nat) : Bool :=
  Region.noSelect ops && Nat.beq l.length ops.size && wrB P deep ops && tailOps P ops.toList (tailOf ops.toList l) && lexB ops ops.size (bigN ops.toList) (fin2 ops) l (Array.replicate ops.size false)
def exactC : SC → Bool
  | .v _ | .box _ _ | .boxi _ _ _ _ | .row _ | .cell _ _ _ _ => true
  | _ => false
def exactS : List Seg → Bool
  | [] => true
  | .c x :: r => exactC x && exactS r
  | .ints _ _ _ :: r => exactS r
def exactP : List Comp → Bool
  | [] => true
  | .c x :: r => exactC x && exactP r
  | .agg l :: r => exactS l && exactP r
def exactV : SV → Bool
  | .c x => exactC x
  | .agg l => exactS l
  | .tup l => exactP l
def exactK (x : SV) (X : Prop) : Prop := match exactV x with | true => X | false => False
def delLs (H : Heap) : List Lend → Heap
  | [] => H
  | x :: r => delLs (H.delO (blockOf x.val)) r
/-- What was lent, and what is looked at, is as it was. -/
def Keep (G H Hl H' : Heap) : Prop := ∀ b o, Hl b = some o → (H b = none ∨ G b = some o) → H' b = some o
def keepR (P : Program) (G H Hl : Heap) (o : Oper) (s s' : St) (ls : List Lend) (Kp : Option (St → List PanicEntry → Heap → Prop)) (K : St → Heap → Prop) (e : Ending) (H' : Heap) : Prop :=
  match Kp with
  | none => Keep G H Hl H' ∧ retK P o.type e fun x => K (s.put o.dst x) (delLs H' ls)
  | some kp => (Keep G H Hl H' ∧ retK P o.type e fun x => K (s.put o.dst x) (delLs H' ls)) ∨ ∃ c, e = .panicked c ∧ kp s' c H'
/-- A call that leaves what is looked at as it was. -/
def keepK (P : Program) (G : Heap) (o : Oper) (s : St) (H : Heap) (Kp : Option (St → List PanicEntry → Heap → Prop)) (K : St → Heap → Prop) : Prop :=
  match o.op with
  | .call { callee := .value f, args, argTypes := _ } =>
    match f with
    | .func g => lendK (args.toList.map (ev s)) s H fun vs s' Hl ls => Meets P g vs Hl (keepR P G H Hl o s s' ls Kp K)
    | f => lendV (ev s f) s H fun fv s1 H1 ls1 => lendK (args.toList.map (ev s)) s1 H1 fun vs s' Hl ls => MeetsV P fv vs Hl (keepR P G H Hl o s s' (ls1 ++ ls) Kp K)
  | _ => False
/-- A slice expression with two bounds: it comes to one thing whatever memory is. -/
def isSl : Op → Bool
  | .slice _ _ _ _ none => true
  | _ => false
def mixOp (P : Program) (hs : Hints) (Q : Exit → St → Heap → Prop) (s0 : St) (G : Heap) (o : Oper) (s : St) (H : Heap) (K : St → Heap → Prop) : Prop :=
  match isCall o.op with
  | true => keepK P G o s H (panicQ hs Q) K
  | false => match isAlloc o.op with
    | true => objK P o s H fun s' => K s' H
    | false => match clsOf P o ⟨s.env, s0.objs, s.dfr⟩ with
      | .val => match isSl o.op with
        | true => valK P ⟨hs.eqs⟩ o.op ⟨s.env, s0.objs, s.dfr⟩ fun x => K (s.put o.dst x) H
        | false => valK P ⟨hs.eqs⟩ o.op ⟨s.env, s0.objs, s.dfr⟩ fun x => exactK x (K (s.put o.dst x) H)
      | .read => readK P o.op ⟨s.env, s0.objs, s.dfr⟩ G fun x => exactK x (K (s.put o.dst x) H)
      | _ => False
/-- The head of such a statement in one order: what only looks looks at what there was ahead of it. -/
def mixK (P : Program) (hs : Hints) (Q : Exit → St → Heap → Prop) (s0 : St) (G : Heap) (ops : List Oper) (T : St → Heap → Prop) : List Oper → St → Heap → Prop
  | [], s, H => T s H
  | o :: r, s, H => match o.guard with
    | none => mixOp P hs Q s0 G o s H fun s' H' => mixK P hs Q s0 G ops T r s' H'
    | some (j, b) => match guardDst ops j with
      | none => False
      | some g => match s.get g with
        | .c (.v (.bool p)) => match b with
          | true => Br p (mixOp P hs Q s0 G o (s.set g (.c (.v (.bool true)))) H fun s' H' => mixK P hs Q s0 G ops T r s' H')
              (mixK P hs Q s0 G ops T r ((s.set g (.c (.v (.bool false)))).put o.dst (.tup [])) H)
          | false => Br p (mixK P hs Q s0 G ops T r ((s.set g (.c (.v (.bool true)))).put o.dst (.tup [])) H)
              (mixOp P hs Q s0 G o (s.set g (.c (.v (.bool false)))) H fun s' H' => mixK P hs Q s0 G ops T r s' H')
        | .tup [] => mixK P hs Q s0 G ops T r (s.put o.dst (.tup [])) H
        | _ => False
def pickO (ops : List Oper) : List Nat → List Oper
  | [] => []
  | k :: r => match nth ops k with | some o => o :: pickO ops r | none => pickO ops r
def noDst (ops : List Oper) : Option (List Nat) → Bool
  | none => true
  | some l => ops.all fun o => match o.dst with | some d => !memN l d | none => true
def callsIn : List Oper → Bool
  | [] => false
  | o :: r => isCall o.op || callsIn r
def drawOK (P : Program) (hs : Hints) (ops : Array Oper) : Bool := mixB P hs.deep ops (schedO ops) && (noDst ops.toList hs.pk && P.follows .mixedOrders)
/-- Does the head hold a call, and does something look at known memory? -/
def readsIn (P : Program) : List Oper → Bool
  | [] => false
  | o :: r => (match o.op with | .load _ _ | .lookup _ _ _ _ => true | .call { callee := .builtin .len, args := _, argTypes } => (match argTypes.toList with | [t] => isMapT P t | _ => true) | _ => false) || readsIn P r
def drawK (P : Program) (hs : Hints) (Q : Exit → St → Heap → Prop) (ops : Array Oper) (hd tl : List Oper) (s : St) (H : Heap) : Prop :=
  match callsIn hd with
  | false => mixK P hs Q s H ops.toList (opsK P hs Q ops.toList tl) hd s H
  | true => match readsIn P hd with
    | true => ∃ G : Heap, G ≤ H ∧ mixK P hs Q s G ops.toList (opsK P hs Q ops.toList tl) hd s H
    | false => mixK P hs Q s (fun _ => none) ops.toList (opsK P hs Q ops.toList tl) hd s H
/-! ### Statements whose order is drawn, with rows that are built and appended to in any order -/
def isApp : Op → Bool
  | .call { callee := .builtin .append, args := _, argTypes := _ } => true
  | _ => false
def isBs : Op → Bool
  | .buildSlice _ _ _ => true
  | _ => false
def plainQ : Op → Bool
  | .move _ | .assign _ | .nilCheck _ | .fieldAddr _ _ _ | .indexAddr _ _ _ | .store _ _ _ => true
  | .call { callee := .builtin .len, args := _, argTypes := _ } => true
  | _ => false
def tail2 (o : Oper) : Bool := (isCall o.op || (isBs o.op || (isApp o.op || plainQ o.op))) && (match o.guard with | none => true | some _ => false)
def tail2N (ops : List Oper) (k : Nat) : Bool := match nth ops k with | some o => tail2 o | none => false
def bsN (ops : List Oper) (k : Nat) : Bool := match nth ops k with | some o => isBs o.op | none => false
def quN (ops : List Oper) (k : Nat) : Bool := match nth ops k with | some o => quietOp o.op | none => false
def next2 (ops : Array Oper) (listed : Array Bool) : Option Nat :=
  match (Region.ready .any ops listed).find? (quN ops.toList) with
  | some k => some k
  | none => match (Region.ready .any ops listed).find? (bsN ops.toList) with
    | some k => some k
    | none => (Region.ready .any ops listed).head?
def sched2 (ops : Array Oper) : Nat → Array Bool → List Nat
  | 0, _ => []
  | f + 1, listed => match next2 ops listed with
    | some k => k :: sched2 ops f (listed.setIfInBounds k true)
    | none => []
def order2 (ops : Array Oper) : List Nat := sched2 ops ops.size (Array.replicate ops.size false)
def head2 (ops : List Oper) : List Nat → List Nat
  | [] => []
  | k :: r => match quN ops k with | true => k :: head2 ops r | false => []
def rest2 (ops : List Oper) : List Nat → List Nat
  | [] => []
  | k :: r => match quN ops k with | true => rest2 ops r | false => k :: r
def upMain (ops : List Oper) : List Nat → List Nat
  | [] => []
  | k :: r => match bsN ops k with | true => k :: upMain ops r | false => [k]
/-- What else may come up are rows that are built, or what comes behind them. -/
def lex2 (ops : Array Oper) : List Nat → Array Bool → Bool
  | [], listed => fin2 ops listed
  | k :: r, listed => Nat.blt k ops.size && ((Region.ready .any ops listed).contains k && ((Region.ready .any ops listed).all (fun j => (upMain ops.toList (k :: r)).contains j) &&
      ((match bsN ops.toList k with | true => Region.free .any ops listed k | false => true) && lex2 ops r (listed.setIfInBounds k true))))
def drawOK2 (P : Program) (hs : Hints) (ops : Array Oper) : Bool :=
  Region.noSelect ops && (Nat.beq (order2 ops).length ops.size && ((rest2 ops.toList (order2 ops)).all (tail2N ops.toList) &&
    (lexB ops ops.size (fun _ => false) (lex2 ops (rest2 ops.toList (order2 ops))) (head2 ops.toList (order2 ops)) (Array.replicate ops.size false) &&
      ((match hs.pk with | none => true | some _ => false) && P.follows .mixedOrders))))
/-- Where a slot's value comes from. -/
def rootOf (ops : List Oper) : Nat → Nat → Nat
  | 0, t => t
  | f + 1, t => match ops.find? fun o => match o.dst with | some d => Nat.beq d t | none => false with
    | some o => match o.op with | .move (.tmp u) | .fieldAddr _ (.tmp u) _ | .indexAddr _ (.tmp u) _ => rootOf ops f u | _ => t
    | none => t
/-- The rows that are appended to. -/
def eaten (s : St) (ops : List Oper) : List Oper → List Nat
  | [] => []
  | o :: r => match o.op with
    | .call { callee := .builtin .append, args, argTypes := _ } => (match args.toList with
      | .tmp t :: _ => (match (s.get (rootOf ops 3 t)).site with | some d => d :: eaten s ops r | none => eaten s ops r)
      | _ => eaten s ops r)
    | .store _ (.tmp t) _ => (match s.get (rootOf ops 6 t) with | .c (.row d) => d :: eaten s ops r | x => (match storeSite x with | some d => d :: eaten s ops r | none => eaten s ops r))
    | _ => eaten s ops r
def delAll (l : List (Nat × AObj)) : List Nat → List (Nat × AObj)
  | [] => l
  | d :: r => delAll (objDel l d) r
def badAt (s : St) : Option Nat → Bool
  | some d => match nth s.env d with | some (.c .bad) => true | _ => false
  | none => false
/-- A store into known memory that is not looked at. -/
def pubK (P : Program) (t : TypeId) (x y : SV) (G H : Heap) (K : Heap → Prop) : Prop :=
  match x, y.segs, sizeT P t with
  | .c (.v (.pointer p)), some l, some z => match flat l with
    | some cs => match Nat.beq cs.length z with
      | true => PtrK p fun A => ∃ c ty, (H A.block = some (.cells c ty (0, 0)) ∧ A.spot = none ∧ A.off + z ≤ c.size) ∧ G A.block = none ∧ K (H.upd A.block (.cells (writeCells c A.off cs) ty (0, 0)))
      | false => False
    | none => False
  | _, _, _ => False
/-- An object stands last. -/
def reput (d : Nat) (s : St) : St := match look s.objs d with
  | some o => ⟨s.env, objSet (objDel s.objs d) d o, s.dfr⟩
  | none => s
def opA (P : Program) (hs : Hints) (Q : Exit → St → Heap → Prop) (O : List (Nat × AObj)) (G : Heap) (o : Oper) (s : St) (H : Heap) (K : St → Heap → Prop) : Prop :=
  match isCall o.op with
  | true => match isGive hs o with
    | true => giveK P O G o s H (panicQ hs Q) K
    | false => match ownC hs o with
      | none => keepK P G o s H (panicQ hs Q) K
      | some (d, e, sz) => keepK P G o s H (panicQ hs Q) fun s' H' => adoptA s' d e sz G H' K
  | false => match isApp o.op with
    | true => match appSite s o with
      | some r => (match look O r with | none => objK P o s H fun s' => K s' H | some _ => False)
      | none => objK P o s H fun s' => K s' H
    | false => match isBs o.op with
      | true => match badAt s o.dst with
        | true => objK P o s H fun s' => K s' H
        | false => False
      | false => match o.op with
        | .move x | .assign x => K (s.put o.dst (ev s x)) H
        | .nilCheck _ | .fieldAddr _ _ _ | .indexAddr _ _ _ | .call { callee := .builtin .len, args := _, argTypes := _ } => valK P ⟨hs.eqs⟩ o.op s fun x => K (s.put o.dst x) H
        | .store t x y => match o.dst, storeSite (ev s x) with
          | none, some d => (match look O d with | none => objK P o s H fun s' => K (reput d s') H | some _ => False)
          | none, none => pubK P t (ev s x) (ev s y) G H fun H' => K s H'
          | _, _ => False
        | _ => False
def runA (P : Program) (hs : Hints) (Q : Exit → St → Heap → Prop) (O : List (Nat × AObj)) (G : Heap) : List Oper → St → Heap → Prop
  | [], s, H => Q .normal s H
  | o :: r, s, H => opA P hs Q O G o s H fun s' H' => runA P hs Q O G r s' H'
def storesIn : List Oper → Bool
  | [] => false
  | o :: r => (match o.op with | .store _ _ _ => true | _ => false) || storesIn r
def drawK2 (P : Program) (hs : Hints) (Q : Exit → St → Heap → Prop) (ops : Array Oper) (hd tl : List Oper) (O : List (Nat × AObj)) (s : St) (H : Heap) : Prop :=
  match callsIn tl || storesIn tl with
  | false => mixK P hs Q ⟨s.env, O, s.dfr⟩ H ops.toList (runA P hs Q O H tl) hd s H
  | true => match readsIn P hd with
    | true => ∃ G : Heap, G ≤ H ∧ mixK P hs Q ⟨s.env, O, s.dfr⟩ G ops.toList (runA P hs Q O G tl) hd s H
    | false => mixK P hs Q ⟨s.env, O, s.dfr⟩ (fun _ => none) ops.toList (runA P hs Q O (fun _ => none) tl) hd s H
def isRegion : Code → Bool
  | .region _ _ _ => true
  | _ => false
/-- What is enough for a piece of code. -/
def vc (P : Program) (hs : Hints) : Code → (Exit → St → Heap → Prop) → St → Heap → Prop
  | .skip, Q, s, H => Q .normal s H
  | .label _, Q, s, H => Q .normal s H
  | .seq x y, Q, s, H => match findH hs.cuts (match isRegion y with | true => 0 | false => firstR y) with
    | none => vc P hs x (seqQ (vc P hs y Q) Q) s H
    | some h => CutP (fun (I : h.Par → Heap → Prop) => vc P hs x (seqQ (fun s' H' => toHead h s s' H' I) Q) s H) (fun p H => vc P hs y Q (rebuild h s p) H)
  | .region _ ops draw, Q, s, H => match draw with
    | false => opsK P hs Q ops.toList ops.toList s H
    | true => match drawOK P hs ops with
      | true => drawK P hs Q ops (pickO ops.toList (headOf ops.toList (schedO ops))) (pickO ops.toList (tailOf ops.toList (schedO ops))) s H
      | false => match drawOK2 P hs ops with
        | true => drawK2 P hs Q ops (pickO ops.toList (head2 ops.toList (order2 ops))) (pickO ops.toList (rest2 ops.toList (order2 ops))) (delAll s.objs (eaten s ops.toList ops.toList)) s H
        | false => False
  | .cond c x y, Q, s, H => match ev s c with
    | .c (.v (.bool p)) => Br p (vc P hs x Q s H) (vc P hs y Q s H)
    | _ => False
  | .block id c, Q, s, H => vc P hs c (blockQ id Q) s H
  | .loop c, Q, s, H => match findH hs.loops (firstR c) with
    | none => False
    | some h => toHead h s s H fun p0 H0 => LoopP (fun (K : h.Par → Heap → Prop) p H => vc P hs c (seqQ (fun s' H' => toHead h s s' H' K) Q) (rebuild h s p) H) p0 H0
  | .ret, Q, s, H => Q .ret s H
  | .exit i, Q, s, H => Q (.exit i) s H
  | _, _, _, _ => False
def resK (P : Program) (s : St) : List ResultVar → (List SV → Prop) → Prop
  | [], K => K []
  | .tmp t :: r, K => resK P s r fun l => K (s.get t :: l)
  | .cell t ty :: r, K => loadK P ty (s.get t) s fun x => resK P s r fun l => K (x :: l)
def tupV : List Value → Value
  | [x] => x
  | l => .tuple l.toArray
def leaveR (P : Program) (fn : Func) (R : Ending → Heap → Prop) (s : St) (H : Heap) : Prop :=
  resK P s fn.results.toList fun l => lendK l s H fun vs _ H' _ => R (.returned (tupV vs)) H'
def leaveK (P : Program) (fn : Func) (R : Ending → Heap → Prop) (s : St) (H : Heap) : Prop :=
  match s.dfr with
  | [] => leaveR P fn R s H
  | [⟨f, sites⟩] => lendCaps (sites.map .b) ⟨s.env, s.objs, []⟩ H fun vs s' Hl ls => MeetsD P f vs .returning Hl fun e u H' => (∃ v, e = .returned v) ∧ settle u = .returning ∧ backK P ls s' H' fun s'' H'' => leaveR P fn R s'' H''
  | _ => False
def panK (P : Program) (fn : Func) (R : Ending → Heap → Prop) (c : List PanicEntry) (s : St) (H : Heap) : Prop :=
  match s.dfr with
  | [] => R (.panicked c) H
  | [⟨f, sites⟩] => lendCaps (sites.map .b) ⟨s.env, s.objs, []⟩ H fun vs s' Hl ls => MeetsD P f vs (.panicking c) Hl fun e u H' => (∃ v, e = .returned v) ∧
      ((settle u = .returning ∧ backK P ls s' H' fun s'' H'' => leaveR P fn R s'' H'') ∨ ∃ c', settle u = .panicking c' ∧ R (.panicked c') H')
  | _ => False
def retQ (P : Program) (fn : Func) (R : Ending → Heap → Prop) : Exit → St → Heap → Prop
  | .ret, s, H => leaveK P fn R s H
  | .normal, s, H => leaveK P fn R s H
  | .panic c, s, H => panK P fn R c s H
  | _, _, _ => False
def badN : Nat → List SV
  | 0 => []
  | n + 1 => .c .bad :: badN n
def vcFun (P : Program) (hs : Hints) (fn : Func) (args : List SV) (R : Ending → Heap → Prop) (H : Heap) : Prop :=
  match fn.body with
  | some c => vc P hs c (retQ P fn R) ⟨args ++ badN (fn.ntmps - args.length), [], []⟩ H
  | none => False
end Sx
