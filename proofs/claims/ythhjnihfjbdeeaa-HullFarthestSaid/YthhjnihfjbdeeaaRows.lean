/-
  No cell of these rows narrows 'for every input' (looked for: loops, veiled, ifaces, maps, wideKeys, modest, calm, conditions, laid).
  DERIVED. THE GIVEN ROWS OF THIS SEAT. 4 by the template 'for every input the law returns true; each argument reads behind the call as it read before'; 0 by the template 'total and deterministic' (their statements: YthhjnihfjbdeeaaTotals.lean).
  GIVEN WITH THE SEED: the statements are not yours to turn. If you find one false, say at which input.
  Laid BY PROGRAM, IN A SANDBOX (cutbox-rows.mjs): the forced cells as the released guide's own fill.sh prints them over the translation 2b919e4dc395ec30… (all of the seat's roots in one cut). By AI agents, Wed Nov 11 2026. No macro, syntax, notation, axiom, sorry.
-/
import Derived.Test.YthhjnihfjbdeeaaChecked
import GoSem.Claim
import GoSem.ClaimJoined
import GoSem.ClaimMapViews
import Derived.JoinedTies
import Derived.KernelRfl
namespace Go.Proofs.Ythhjnihfjbdeeaa
/- THE CELL 'sum', in the pinned program and in every row, IS THE sha256 OF THE DUMP (.gsa) THAT YthhjnihfjbdeeaaProg.lean LOADS. Nothing in Lean hashes anything: it is a label: what it is worth is what the hold of that sum in a sandbox is worth. -/
noncomputable def Try.pinned : Pinned := { name := "ythhjnihfjbdeeaa", sum := "2b919e4dc395ec305f4ececcb1d90b905a992a6db069c2ffad24a5b1651eed00", checked := Try.checked }
namespace Rows
def none {H : Type} : Left H := { results := [], args := [] }

/-- 'croftlaw35.HullHolds': WHATEVER THE INPUT: true; the input reads as it did. -/
def hullHoldsSpec : ChangeSpec := { name := "hullHolds", fn := fun _ => fun
  | [d] => { results := [.lit (.bool true)], args := [d] }
  | _ => none }
def hullHoldsRow : OpenClaim := { program := "ythhjnihfjbdeeaa", sum := "2b919e4dc395ec305f4ececcb1d90b905a992a6db069c2ffad24a5b1651eed00", func := "croft/croftlaw35.HullHolds", spec := "hullHolds", inPlace := ["math/bits.Add64", "math/bits.Sub64"], unfollowed := true, recurses := true, apart := false }
def HullHoldsSaid : Prop := hullHoldsRow.holds Try.pinned (OpenSpec.ofChange hullHoldsSpec)

/-- ITS FALSE NEIGHBOUR: 'it returns false'. Refute it at one input. -/
def hullHoldsWrong : ChangeSpec := { name := "hullHolds", fn := fun _ => fun
  | [d] => { results := [.lit (.bool false)], args := [d] }
  | _ => none }
def HullHoldsWrongFalsely : Prop := hullHoldsRow.holds Try.pinned (OpenSpec.ofChange hullHoldsWrong)

/-- 'croftlaw35.HullBegins': WHATEVER THE INPUT: true; the input reads as it did. -/
def hullBeginsSpec : ChangeSpec := { name := "hullBegins", fn := fun _ => fun
  | [d1, d2] => { results := [.lit (.bool true)], args := [d1, d2] }
  | _ => none }
def hullBeginsRow : OpenClaim := { program := "ythhjnihfjbdeeaa", sum := "2b919e4dc395ec305f4ececcb1d90b905a992a6db069c2ffad24a5b1651eed00", func := "croft/croftlaw35.HullBegins", spec := "hullBegins", inPlace := ["math/bits.Add64", "math/bits.Sub64"], unfollowed := true, recurses := true, apart := false }
def HullBeginsSaid : Prop := hullBeginsRow.holds Try.pinned (OpenSpec.ofChange hullBeginsSpec)

/-- ITS FALSE NEIGHBOUR: 'it returns false'. Refute it at one input. -/
def hullBeginsWrong : ChangeSpec := { name := "hullBegins", fn := fun _ => fun
  | [d1, d2] => { results := [.lit (.bool false)], args := [d1, d2] }
  | _ => none }
def HullBeginsWrongFalsely : Prop := hullBeginsRow.holds Try.pinned (OpenSpec.ofChange hullBeginsWrong)

/-- 'croftlaw35.HullLeast': WHATEVER THE INPUT: true; the input reads as it did. -/
def hullLeastSpec : ChangeSpec := { name := "hullLeast", fn := fun _ => fun
  | [d1, d2] => { results := [.lit (.bool true)], args := [d1, d2] }
  | _ => none }
def hullLeastRow : OpenClaim := { program := "ythhjnihfjbdeeaa", sum := "2b919e4dc395ec305f4ececcb1d90b905a992a6db069c2ffad24a5b1651eed00", func := "croft/croftlaw35.HullLeast", spec := "hullLeast", inPlace := ["math/bits.Add64", "math/bits.Sub64"], unfollowed := true, recurses := true, apart := false }
def HullLeastSaid : Prop := hullLeastRow.holds Try.pinned (OpenSpec.ofChange hullLeastSpec)

/-- ITS FALSE NEIGHBOUR: 'it returns false'. Refute it at one input. -/
def hullLeastWrong : ChangeSpec := { name := "hullLeast", fn := fun _ => fun
  | [d1, d2] => { results := [.lit (.bool false)], args := [d1, d2] }
  | _ => none }
def HullLeastWrongFalsely : Prop := hullLeastRow.holds Try.pinned (OpenSpec.ofChange hullLeastWrong)

/-- 'croftlaw35.HullFarthest': WHATEVER THE INPUT: true; the input reads as it did. -/
def hullFarthestSpec : ChangeSpec := { name := "hullFarthest", fn := fun _ => fun
  | [d] => { results := [.lit (.bool true)], args := [d] }
  | _ => none }
def hullFarthestRow : OpenClaim := { program := "ythhjnihfjbdeeaa", sum := "2b919e4dc395ec305f4ececcb1d90b905a992a6db069c2ffad24a5b1651eed00", func := "croft/croftlaw35.HullFarthest", spec := "hullFarthest", inPlace := ["math/bits.Add64", "math/bits.Sub64"], unfollowed := true, recurses := true, apart := false }
def HullFarthestSaid : Prop := hullFarthestRow.holds Try.pinned (OpenSpec.ofChange hullFarthestSpec)

/-- ITS FALSE NEIGHBOUR: 'it returns false'. Refute it at one input. -/
def hullFarthestWrong : ChangeSpec := { name := "hullFarthest", fn := fun _ => fun
  | [d] => { results := [.lit (.bool false)], args := [d] }
  | _ => none }
def HullFarthestWrongFalsely : Prop := hullFarthestRow.holds Try.pinned (OpenSpec.ofChange hullFarthestWrong)

/- THE SECOND FORM. 'bulk': how many values and letters a reading holds, each counted each time it is reached (what is shared counts as often as it is met; a slice's spare places count too). A statement '..UptoSaid' is the law's where the arguments, and the package variables that the reading takes, are together of bulk at most 1048576: NARROWER than '..Said'. Prove '..Said' where nothing that the law and all that it calls make is longer than what came in: it says more and counts as full. Else prove '..UptoSaid'. A law counts once. -/
mutual
def uptoBulk {H : Type} : DataW H → Nat
  | .lit (.string bytes) => bytes.length + 1
  | .lit _ => 1
  | .nil => 1
  | .ptr d => uptoBulk d + 1
  | .slice elems spare => uptoBulkAll elems + uptoBulkAll spare + 1
  | .agg parts => uptoBulkAll parts + 1
  | .iface _ d => uptoBulk d + 1
  | .map entries => uptoBulkEntries entries + 1
  | .held _ => 1
def uptoBulkAll {H : Type} : List (DataW H) → Nat
  | [] => 0
  | d :: r => uptoBulk d + uptoBulkAll r
def uptoBulkEntries {H : Type} : List (Lit × DataW H) → Nat
  | [] => 0
  | x :: r => uptoBulkEntry x + uptoBulkEntries r
def uptoBulkEntry {H : Type} : Lit × DataW H → Nat
  | (.string bytes, d) => bytes.length + uptoBulk d + 1
  | (_, d) => uptoBulk d + 1
 end
def uptoSmall : (H : Type) → List (DataW H) → Bool := fun _ ds => decide (uptoBulkAll ds ≤ 1048576)
def OpenSpec.upto (s : _root_.Go.ChangeSpec) : _root_.Go.OpenSpec := { _root_.Go.OpenSpec.ofChange s with cond := some uptoSmall }

/-- 'croftlaw35.HullHolds', WHERE WHAT IT READS IS OF BULK AT MOST 1048576: true; the input reads as it did. -/
def hullHoldsUptoRow : OpenClaim := { program := "ythhjnihfjbdeeaa", sum := "2b919e4dc395ec305f4ececcb1d90b905a992a6db069c2ffad24a5b1651eed00", func := "croft/croftlaw35.HullHolds", spec := "hullHolds", inPlace := ["math/bits.Add64", "math/bits.Sub64"], unfollowed := true, recurses := true, apart := false, narrowed := true }
def HullHoldsUptoSaid : Prop := hullHoldsUptoRow.holds Try.pinned (OpenSpec.upto hullHoldsSpec)

/-- 'croftlaw35.HullBegins', WHERE WHAT IT READS IS OF BULK AT MOST 1048576: true; the input reads as it did. -/
def hullBeginsUptoRow : OpenClaim := { program := "ythhjnihfjbdeeaa", sum := "2b919e4dc395ec305f4ececcb1d90b905a992a6db069c2ffad24a5b1651eed00", func := "croft/croftlaw35.HullBegins", spec := "hullBegins", inPlace := ["math/bits.Add64", "math/bits.Sub64"], unfollowed := true, recurses := true, apart := false, narrowed := true }
def HullBeginsUptoSaid : Prop := hullBeginsUptoRow.holds Try.pinned (OpenSpec.upto hullBeginsSpec)

/-- 'croftlaw35.HullLeast', WHERE WHAT IT READS IS OF BULK AT MOST 1048576: true; the input reads as it did. -/
def hullLeastUptoRow : OpenClaim := { program := "ythhjnihfjbdeeaa", sum := "2b919e4dc395ec305f4ececcb1d90b905a992a6db069c2ffad24a5b1651eed00", func := "croft/croftlaw35.HullLeast", spec := "hullLeast", inPlace := ["math/bits.Add64", "math/bits.Sub64"], unfollowed := true, recurses := true, apart := false, narrowed := true }
def HullLeastUptoSaid : Prop := hullLeastUptoRow.holds Try.pinned (OpenSpec.upto hullLeastSpec)

/-- 'croftlaw35.HullFarthest', WHERE WHAT IT READS IS OF BULK AT MOST 1048576: true; the input reads as it did. -/
def hullFarthestUptoRow : OpenClaim := { program := "ythhjnihfjbdeeaa", sum := "2b919e4dc395ec305f4ececcb1d90b905a992a6db069c2ffad24a5b1651eed00", func := "croft/croftlaw35.HullFarthest", spec := "hullFarthest", inPlace := ["math/bits.Add64", "math/bits.Sub64"], unfollowed := true, recurses := true, apart := false, narrowed := true }
def HullFarthestUptoSaid : Prop := hullFarthestUptoRow.holds Try.pinned (OpenSpec.upto hullFarthestSpec)

end Rows
end Go.Proofs.Ythhjnihfjbdeeaa
