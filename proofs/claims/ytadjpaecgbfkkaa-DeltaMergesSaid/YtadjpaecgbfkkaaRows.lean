/-
  No cell of these rows narrows 'for every input' (looked for: loops, veiled, ifaces, maps, wideKeys, modest, calm, conditions, laid).
  DERIVED. THE GIVEN ROWS OF THIS SEAT. 17 by the template 'for every input the law returns true; each argument reads behind the call as it read before'; 0 by the template 'total and deterministic' (their statements: YtadjpaecgbfkkaaTotals.lean).
  GIVEN WITH THE SEED: the statements are not yours to turn. If you find one false, say at which input.
  Laid BY PROGRAM, IN A SANDBOX (cutbox-rows.mjs): the forced cells as the released guide's own fill.sh prints them over the translation 150ffdf3ba4a2853… (all of the seat's roots in one cut). By AI agents, Wed Nov 11 2026. No macro, syntax, notation, axiom, sorry.
-/
import Derived.Test.YtadjpaecgbfkkaaChecked
import GoSem.Claim
import GoSem.ClaimJoined
import GoSem.ClaimMapViews
import Derived.JoinedTies
import Derived.KernelRfl
namespace Go.Proofs.Ytadjpaecgbfkkaa
/- THE CELL 'sum', in the pinned program and in every row, IS THE sha256 OF THE DUMP (.gsa) THAT YtadjpaecgbfkkaaProg.lean LOADS. Nothing in Lean hashes anything: it is a label: what it is worth is what the hold of that sum in a sandbox is worth. -/
noncomputable def Try.pinned : Pinned := { name := "ytadjpaecgbfkkaa", sum := "150ffdf3ba4a2853e3daea8f6eb23fcf83eab70829edfa1282ebc12fa1a713b7", checked := Try.checked }
namespace Rows
def none {H : Type} : Left H := { results := [], args := [] }

/-- 'croftlaw42.SpanRoads': WHATEVER THE INPUT: true; the input reads as it did. -/
def spanRoadsSpec : ChangeSpec := { name := "spanRoads", fn := fun _ => fun
  | [d] => { results := [.lit (.bool true)], args := [d] }
  | _ => none }
def spanRoadsRow : OpenClaim := { program := "ytadjpaecgbfkkaa", sum := "150ffdf3ba4a2853e3daea8f6eb23fcf83eab70829edfa1282ebc12fa1a713b7", func := "croft/croftlaw42.SpanRoads", spec := "spanRoads", inPlace := ["math/bits.Add64"], unfollowed := true, recurses := true, apart := false }
def SpanRoadsSaid : Prop := spanRoadsRow.holds Try.pinned (OpenSpec.ofChange spanRoadsSpec)

/-- ITS FALSE NEIGHBOUR: 'it returns false'. Refute it at one input. -/
def spanRoadsWrong : ChangeSpec := { name := "spanRoads", fn := fun _ => fun
  | [d] => { results := [.lit (.bool false)], args := [d] }
  | _ => none }
def SpanRoadsWrongFalsely : Prop := spanRoadsRow.holds Try.pinned (OpenSpec.ofChange spanRoadsWrong)

/-- 'croftlaw42.SpanLongest': WHATEVER THE INPUT: true; the input reads as it did. -/
def spanLongestSpec : ChangeSpec := { name := "spanLongest", fn := fun _ => fun
  | [d] => { results := [.lit (.bool true)], args := [d] }
  | _ => none }
def spanLongestRow : OpenClaim := { program := "ytadjpaecgbfkkaa", sum := "150ffdf3ba4a2853e3daea8f6eb23fcf83eab70829edfa1282ebc12fa1a713b7", func := "croft/croftlaw42.SpanLongest", spec := "spanLongest", inPlace := ["math/bits.Add64"], unfollowed := true, recurses := true, apart := false }
def SpanLongestSaid : Prop := spanLongestRow.holds Try.pinned (OpenSpec.ofChange spanLongestSpec)

/-- ITS FALSE NEIGHBOUR: 'it returns false'. Refute it at one input. -/
def spanLongestWrong : ChangeSpec := { name := "spanLongest", fn := fun _ => fun
  | [d] => { results := [.lit (.bool false)], args := [d] }
  | _ => none }
def SpanLongestWrongFalsely : Prop := spanLongestRow.holds Try.pinned (OpenSpec.ofChange spanLongestWrong)

/-- 'croftlaw42.SpanWays': WHATEVER THE INPUT: true; the input reads as it did. -/
def spanWaysSpec : ChangeSpec := { name := "spanWays", fn := fun _ => fun
  | [d1, d2, d3, d4] => { results := [.lit (.bool true)], args := [d1, d2, d3, d4] }
  | _ => none }
def spanWaysRow : OpenClaim := { program := "ytadjpaecgbfkkaa", sum := "150ffdf3ba4a2853e3daea8f6eb23fcf83eab70829edfa1282ebc12fa1a713b7", func := "croft/croftlaw42.SpanWays", spec := "spanWays", inPlace := ["math/bits.Add64"], unfollowed := true, recurses := true, apart := false }
def SpanWaysSaid : Prop := spanWaysRow.holds Try.pinned (OpenSpec.ofChange spanWaysSpec)

/-- ITS FALSE NEIGHBOUR: 'it returns false'. Refute it at one input. -/
def spanWaysWrong : ChangeSpec := { name := "spanWays", fn := fun _ => fun
  | [d1, d2, d3, d4] => { results := [.lit (.bool false)], args := [d1, d2, d3, d4] }
  | _ => none }
def SpanWaysWrongFalsely : Prop := spanWaysRow.holds Try.pinned (OpenSpec.ofChange spanWaysWrong)

/-- 'croftlaw42.SpanJoins': WHATEVER THE INPUT: true; the input reads as it did. -/
def spanJoinsSpec : ChangeSpec := { name := "spanJoins", fn := fun _ => fun
  | [d1, d2, d3] => { results := [.lit (.bool true)], args := [d1, d2, d3] }
  | _ => none }
def spanJoinsRow : OpenClaim := { program := "ytadjpaecgbfkkaa", sum := "150ffdf3ba4a2853e3daea8f6eb23fcf83eab70829edfa1282ebc12fa1a713b7", func := "croft/croftlaw42.SpanJoins", spec := "spanJoins", inPlace := ["math/bits.Add64"], unfollowed := true, recurses := true, apart := false }
def SpanJoinsSaid : Prop := spanJoinsRow.holds Try.pinned (OpenSpec.ofChange spanJoinsSpec)

/-- ITS FALSE NEIGHBOUR: 'it returns false'. Refute it at one input. -/
def spanJoinsWrong : ChangeSpec := { name := "spanJoins", fn := fun _ => fun
  | [d1, d2, d3] => { results := [.lit (.bool false)], args := [d1, d2, d3] }
  | _ => none }
def SpanJoinsWrongFalsely : Prop := spanJoinsRow.holds Try.pinned (OpenSpec.ofChange spanJoinsWrong)

/-- 'croftlaw39.SweepTells': WHATEVER THE INPUT: true; the input reads as it did. -/
def sweepTellsSpec : ChangeSpec := { name := "sweepTells", fn := fun _ => fun
  | [d] => { results := [.lit (.bool true)], args := [d] }
  | _ => none }
def sweepTellsRow : OpenClaim := { program := "ytadjpaecgbfkkaa", sum := "150ffdf3ba4a2853e3daea8f6eb23fcf83eab70829edfa1282ebc12fa1a713b7", func := "croft/croftlaw39.SweepTells", spec := "sweepTells", inPlace := ["math/bits.Add64"], unfollowed := true, recurses := true, apart := false }
def SweepTellsSaid : Prop := sweepTellsRow.holds Try.pinned (OpenSpec.ofChange sweepTellsSpec)

/-- ITS FALSE NEIGHBOUR: 'it returns false'. Refute it at one input. -/
def sweepTellsWrong : ChangeSpec := { name := "sweepTells", fn := fun _ => fun
  | [d] => { results := [.lit (.bool false)], args := [d] }
  | _ => none }
def SweepTellsWrongFalsely : Prop := sweepTellsRow.holds Try.pinned (OpenSpec.ofChange sweepTellsWrong)

/-- 'croftlaw39.SweepPairs': WHATEVER THE INPUT: true; the input reads as it did. -/
def sweepPairsSpec : ChangeSpec := { name := "sweepPairs", fn := fun _ => fun
  | [d] => { results := [.lit (.bool true)], args := [d] }
  | _ => none }
def sweepPairsRow : OpenClaim := { program := "ytadjpaecgbfkkaa", sum := "150ffdf3ba4a2853e3daea8f6eb23fcf83eab70829edfa1282ebc12fa1a713b7", func := "croft/croftlaw39.SweepPairs", spec := "sweepPairs", inPlace := ["math/bits.Add64"], unfollowed := true, recurses := true, apart := false }
def SweepPairsSaid : Prop := sweepPairsRow.holds Try.pinned (OpenSpec.ofChange sweepPairsSpec)

/-- ITS FALSE NEIGHBOUR: 'it returns false'. Refute it at one input. -/
def sweepPairsWrong : ChangeSpec := { name := "sweepPairs", fn := fun _ => fun
  | [d] => { results := [.lit (.bool false)], args := [d] }
  | _ => none }
def SweepPairsWrongFalsely : Prop := sweepPairsRow.holds Try.pinned (OpenSpec.ofChange sweepPairsWrong)

/-- 'croftlaw39.SweepAdds': WHATEVER THE INPUT: true; the input reads as it did. -/
def sweepAddsSpec : ChangeSpec := { name := "sweepAdds", fn := fun _ => fun
  | [d1, d2, d3] => { results := [.lit (.bool true)], args := [d1, d2, d3] }
  | _ => none }
def sweepAddsRow : OpenClaim := { program := "ytadjpaecgbfkkaa", sum := "150ffdf3ba4a2853e3daea8f6eb23fcf83eab70829edfa1282ebc12fa1a713b7", func := "croft/croftlaw39.SweepAdds", spec := "sweepAdds", inPlace := ["math/bits.Add64"], unfollowed := true, recurses := true, apart := false }
def SweepAddsSaid : Prop := sweepAddsRow.holds Try.pinned (OpenSpec.ofChange sweepAddsSpec)

/-- ITS FALSE NEIGHBOUR: 'it returns false'. Refute it at one input. -/
def sweepAddsWrong : ChangeSpec := { name := "sweepAdds", fn := fun _ => fun
  | [d1, d2, d3] => { results := [.lit (.bool false)], args := [d1, d2, d3] }
  | _ => none }
def SweepAddsWrongFalsely : Prop := sweepAddsRow.holds Try.pinned (OpenSpec.ofChange sweepAddsWrong)

/-- 'croftlaw35.HullHolds': WHATEVER THE INPUT: true; the input reads as it did. -/
def hullHoldsSpec : ChangeSpec := { name := "hullHolds", fn := fun _ => fun
  | [d] => { results := [.lit (.bool true)], args := [d] }
  | _ => none }
def hullHoldsRow : OpenClaim := { program := "ytadjpaecgbfkkaa", sum := "150ffdf3ba4a2853e3daea8f6eb23fcf83eab70829edfa1282ebc12fa1a713b7", func := "croft/croftlaw35.HullHolds", spec := "hullHolds", inPlace := ["math/bits.Add64", "math/bits.Sub64"], unfollowed := true, recurses := true, apart := false }
def HullHoldsSaid : Prop := hullHoldsRow.holds Try.pinned (OpenSpec.ofChange hullHoldsSpec)

/-- ITS FALSE NEIGHBOUR: 'it returns false'. Refute it at one input. -/
def hullHoldsWrong : ChangeSpec := { name := "hullHolds", fn := fun _ => fun
  | [d] => { results := [.lit (.bool false)], args := [d] }
  | _ => none }
def HullHoldsWrongFalsely : Prop := hullHoldsRow.holds Try.pinned (OpenSpec.ofChange hullHoldsWrong)

/-- 'croftlaw35.HullBegins': WHATEVER THE INPUT: true; the input reads as it did. -/
def hullBeginsSpec : ChangeSpec := { name := "hullBegins", fn := fun _ => fun
  | [d1, d2] => { results := [.lit (.bool true)], args := [d1, d2] }
  | _ => none }
def hullBeginsRow : OpenClaim := { program := "ytadjpaecgbfkkaa", sum := "150ffdf3ba4a2853e3daea8f6eb23fcf83eab70829edfa1282ebc12fa1a713b7", func := "croft/croftlaw35.HullBegins", spec := "hullBegins", inPlace := ["math/bits.Add64", "math/bits.Sub64"], unfollowed := true, recurses := true, apart := false }
def HullBeginsSaid : Prop := hullBeginsRow.holds Try.pinned (OpenSpec.ofChange hullBeginsSpec)

/-- ITS FALSE NEIGHBOUR: 'it returns false'. Refute it at one input. -/
def hullBeginsWrong : ChangeSpec := { name := "hullBegins", fn := fun _ => fun
  | [d1, d2] => { results := [.lit (.bool false)], args := [d1, d2] }
  | _ => none }
def HullBeginsWrongFalsely : Prop := hullBeginsRow.holds Try.pinned (OpenSpec.ofChange hullBeginsWrong)

/-- 'croftlaw35.HullLeast': WHATEVER THE INPUT: true; the input reads as it did. -/
def hullLeastSpec : ChangeSpec := { name := "hullLeast", fn := fun _ => fun
  | [d1, d2] => { results := [.lit (.bool true)], args := [d1, d2] }
  | _ => none }
def hullLeastRow : OpenClaim := { program := "ytadjpaecgbfkkaa", sum := "150ffdf3ba4a2853e3daea8f6eb23fcf83eab70829edfa1282ebc12fa1a713b7", func := "croft/croftlaw35.HullLeast", spec := "hullLeast", inPlace := ["math/bits.Add64", "math/bits.Sub64"], unfollowed := true, recurses := true, apart := false }
def HullLeastSaid : Prop := hullLeastRow.holds Try.pinned (OpenSpec.ofChange hullLeastSpec)

/-- ITS FALSE NEIGHBOUR: 'it returns false'. Refute it at one input. -/
def hullLeastWrong : ChangeSpec := { name := "hullLeast", fn := fun _ => fun
  | [d1, d2] => { results := [.lit (.bool false)], args := [d1, d2] }
  | _ => none }
def HullLeastWrongFalsely : Prop := hullLeastRow.holds Try.pinned (OpenSpec.ofChange hullLeastWrong)

/-- 'croftlaw35.HullFarthest': WHATEVER THE INPUT: true; the input reads as it did. -/
def hullFarthestSpec : ChangeSpec := { name := "hullFarthest", fn := fun _ => fun
  | [d] => { results := [.lit (.bool true)], args := [d] }
  | _ => none }
def hullFarthestRow : OpenClaim := { program := "ytadjpaecgbfkkaa", sum := "150ffdf3ba4a2853e3daea8f6eb23fcf83eab70829edfa1282ebc12fa1a713b7", func := "croft/croftlaw35.HullFarthest", spec := "hullFarthest", inPlace := ["math/bits.Add64", "math/bits.Sub64"], unfollowed := true, recurses := true, apart := false }
def HullFarthestSaid : Prop := hullFarthestRow.holds Try.pinned (OpenSpec.ofChange hullFarthestSpec)

/-- ITS FALSE NEIGHBOUR: 'it returns false'. Refute it at one input. -/
def hullFarthestWrong : ChangeSpec := { name := "hullFarthest", fn := fun _ => fun
  | [d] => { results := [.lit (.bool false)], args := [d] }
  | _ => none }
def HullFarthestWrongFalsely : Prop := hullFarthestRow.holds Try.pinned (OpenSpec.ofChange hullFarthestWrong)

/-- 'croftlaw44.KdtreeTells': WHATEVER THE INPUT: true; the input reads as it did. -/
def kdtreeTellsSpec : ChangeSpec := { name := "kdtreeTells", fn := fun _ => fun
  | [d] => { results := [.lit (.bool true)], args := [d] }
  | _ => none }
def kdtreeTellsRow : OpenClaim := { program := "ytadjpaecgbfkkaa", sum := "150ffdf3ba4a2853e3daea8f6eb23fcf83eab70829edfa1282ebc12fa1a713b7", func := "croft/croftlaw44.KdtreeTells", spec := "kdtreeTells", unfollowed := true, recurses := true, apart := false }
def KdtreeTellsSaid : Prop := kdtreeTellsRow.holds Try.pinned (OpenSpec.ofChange kdtreeTellsSpec)

/-- ITS FALSE NEIGHBOUR: 'it returns false'. Refute it at one input. -/
def kdtreeTellsWrong : ChangeSpec := { name := "kdtreeTells", fn := fun _ => fun
  | [d] => { results := [.lit (.bool false)], args := [d] }
  | _ => none }
def KdtreeTellsWrongFalsely : Prop := kdtreeTellsRow.holds Try.pinned (OpenSpec.ofChange kdtreeTellsWrong)

/-- 'croftlaw44.KdtreeFinds': WHATEVER THE INPUT: true; the input reads as it did. -/
def kdtreeFindsSpec : ChangeSpec := { name := "kdtreeFinds", fn := fun _ => fun
  | [d1, d2, d3, d4, d5] => { results := [.lit (.bool true)], args := [d1, d2, d3, d4, d5] }
  | _ => none }
def kdtreeFindsRow : OpenClaim := { program := "ytadjpaecgbfkkaa", sum := "150ffdf3ba4a2853e3daea8f6eb23fcf83eab70829edfa1282ebc12fa1a713b7", func := "croft/croftlaw44.KdtreeFinds", spec := "kdtreeFinds", inPlace := ["math/bits.Add64", "slices.overlaps[croft/kdtree.found]"], unfollowed := true, recurses := true, apart := false }
def KdtreeFindsSaid : Prop := kdtreeFindsRow.holds Try.pinned (OpenSpec.ofChange kdtreeFindsSpec)

/-- ITS FALSE NEIGHBOUR: 'it returns false'. Refute it at one input. -/
def kdtreeFindsWrong : ChangeSpec := { name := "kdtreeFinds", fn := fun _ => fun
  | [d1, d2, d3, d4, d5] => { results := [.lit (.bool false)], args := [d1, d2, d3, d4, d5] }
  | _ => none }
def KdtreeFindsWrongFalsely : Prop := kdtreeFindsRow.holds Try.pinned (OpenSpec.ofChange kdtreeFindsWrong)

/-- 'croftlaw44.KdtreeNobody': WHATEVER THE INPUT: true; the input reads as it did. -/
def kdtreeNobodySpec : ChangeSpec := { name := "kdtreeNobody", fn := fun _ => fun
  | [d1, d2] => { results := [.lit (.bool true)], args := [d1, d2] }
  | _ => none }
def kdtreeNobodyRow : OpenClaim := { program := "ytadjpaecgbfkkaa", sum := "150ffdf3ba4a2853e3daea8f6eb23fcf83eab70829edfa1282ebc12fa1a713b7", func := "croft/croftlaw44.KdtreeNobody", spec := "kdtreeNobody", inPlace := ["math/bits.Add64", "slices.overlaps[croft/kdtree.found]"], unfollowed := true, recurses := true, apart := false }
def KdtreeNobodySaid : Prop := kdtreeNobodyRow.holds Try.pinned (OpenSpec.ofChange kdtreeNobodySpec)

/-- ITS FALSE NEIGHBOUR: 'it returns false'. Refute it at one input. -/
def kdtreeNobodyWrong : ChangeSpec := { name := "kdtreeNobody", fn := fun _ => fun
  | [d1, d2] => { results := [.lit (.bool false)], args := [d1, d2] }
  | _ => none }
def KdtreeNobodyWrongFalsely : Prop := kdtreeNobodyRow.holds Try.pinned (OpenSpec.ofChange kdtreeNobodyWrong)

/-- 'croftlaw40.DeltaMerges': WHATEVER THE INPUT: true; the input reads as it did. -/
def deltaMergesSpec : ChangeSpec := { name := "deltaMerges", fn := fun _ => fun
  | [d1, d2, d3] => { results := [.lit (.bool true)], args := [d1, d2, d3] }
  | _ => none }
def deltaMergesRow : OpenClaim := { program := "ytadjpaecgbfkkaa", sum := "150ffdf3ba4a2853e3daea8f6eb23fcf83eab70829edfa1282ebc12fa1a713b7", func := "croft/croftlaw40.DeltaMerges", spec := "deltaMerges", unfollowed := true, recurses := true, apart := false }
def DeltaMergesSaid : Prop := deltaMergesRow.holds Try.pinned (OpenSpec.ofChange deltaMergesSpec)

/-- ITS FALSE NEIGHBOUR: 'it returns false'. Refute it at one input. -/
def deltaMergesWrong : ChangeSpec := { name := "deltaMerges", fn := fun _ => fun
  | [d1, d2, d3] => { results := [.lit (.bool false)], args := [d1, d2, d3] }
  | _ => none }
def DeltaMergesWrongFalsely : Prop := deltaMergesRow.holds Try.pinned (OpenSpec.ofChange deltaMergesWrong)

/-- 'croftlaw40.DeltaBack': WHATEVER THE INPUT: true; the input reads as it did. -/
def deltaBackSpec : ChangeSpec := { name := "deltaBack", fn := fun _ => fun
  | [d1, d2] => { results := [.lit (.bool true)], args := [d1, d2] }
  | _ => none }
def deltaBackRow : OpenClaim := { program := "ytadjpaecgbfkkaa", sum := "150ffdf3ba4a2853e3daea8f6eb23fcf83eab70829edfa1282ebc12fa1a713b7", func := "croft/croftlaw40.DeltaBack", spec := "deltaBack", unfollowed := true, recurses := true, apart := false }
def DeltaBackSaid : Prop := deltaBackRow.holds Try.pinned (OpenSpec.ofChange deltaBackSpec)

/-- ITS FALSE NEIGHBOUR: 'it returns false'. Refute it at one input. -/
def deltaBackWrong : ChangeSpec := { name := "deltaBack", fn := fun _ => fun
  | [d1, d2] => { results := [.lit (.bool false)], args := [d1, d2] }
  | _ => none }
def DeltaBackWrongFalsely : Prop := deltaBackRow.holds Try.pinned (OpenSpec.ofChange deltaBackWrong)

/-- 'croftlaw40.DeltaApplies': WHATEVER THE INPUT: true; the input reads as it did. -/
def deltaAppliesSpec : ChangeSpec := { name := "deltaApplies", fn := fun _ => fun
  | [d1, d2] => { results := [.lit (.bool true)], args := [d1, d2] }
  | _ => none }
def deltaAppliesRow : OpenClaim := { program := "ytadjpaecgbfkkaa", sum := "150ffdf3ba4a2853e3daea8f6eb23fcf83eab70829edfa1282ebc12fa1a713b7", func := "croft/croftlaw40.DeltaApplies", spec := "deltaApplies", unfollowed := true, recurses := true, apart := false }
def DeltaAppliesSaid : Prop := deltaAppliesRow.holds Try.pinned (OpenSpec.ofChange deltaAppliesSpec)

/-- ITS FALSE NEIGHBOUR: 'it returns false'. Refute it at one input. -/
def deltaAppliesWrong : ChangeSpec := { name := "deltaApplies", fn := fun _ => fun
  | [d1, d2] => { results := [.lit (.bool false)], args := [d1, d2] }
  | _ => none }
def DeltaAppliesWrongFalsely : Prop := deltaAppliesRow.holds Try.pinned (OpenSpec.ofChange deltaAppliesWrong)

/- THE SECOND FORM. 'bulk': how many values and letters a reading holds, each counted each time it is reached (what is shared counts as often as it is met; a slice's spare places count too). A statement '..UptoSaid' is the law's where the arguments, and the package variables that the reading takes, are together of bulk at most 1048576: NARROWER than '..Said'. Prove '..Said' where nothing that the law and all that it calls make is longer than what came in: it says more and counts as full. Else prove '..UptoSaid'. A law counts once. -/
mutual
def uptoBulk {H : Type} : DataW H → Nat
  | .lit (.string bytes) => bytes.length + 1
  | .lit _ => 1
  | .nil => 1
  | .ptr d => uptoBulk d + 1
  | .slice elems spare => uptoBulkAll elems + uptoBulkAll spare + 1
  | .agg parts => uptoBulkAll parts + 1
  | .iface _ d => uptoBulk d + 1
  | .map entries => uptoBulkEntries entries + 1
  | .held _ => 1
def uptoBulkAll {H : Type} : List (DataW H) → Nat
  | [] => 0
  | d :: r => uptoBulk d + uptoBulkAll r
def uptoBulkEntries {H : Type} : List (Lit × DataW H) → Nat
  | [] => 0
  | x :: r => uptoBulkEntry x + uptoBulkEntries r
def uptoBulkEntry {H : Type} : Lit × DataW H → Nat
  | (.string bytes, d) => bytes.length + uptoBulk d + 1
  | (_, d) => uptoBulk d + 1
 end
def uptoSmall : (H : Type) → List (DataW H) → Bool := fun _ ds => decide (uptoBulkAll ds ≤ 1048576)
def OpenSpec.upto (s : _root_.Go.ChangeSpec) : _root_.Go.OpenSpec := { _root_.Go.OpenSpec.ofChange s with cond := some uptoSmall }

/-- 'croftlaw42.SpanRoads', WHERE WHAT IT READS IS OF BULK AT MOST 1048576: true; the input reads as it did. -/
def spanRoadsUptoRow : OpenClaim := { program := "ytadjpaecgbfkkaa", sum := "150ffdf3ba4a2853e3daea8f6eb23fcf83eab70829edfa1282ebc12fa1a713b7", func := "croft/croftlaw42.SpanRoads", spec := "spanRoads", inPlace := ["math/bits.Add64"], unfollowed := true, recurses := true, apart := false, narrowed := true }
def SpanRoadsUptoSaid : Prop := spanRoadsUptoRow.holds Try.pinned (OpenSpec.upto spanRoadsSpec)

/-- 'croftlaw42.SpanLongest', WHERE WHAT IT READS IS OF BULK AT MOST 1048576: true; the input reads as it did. -/
def spanLongestUptoRow : OpenClaim := { program := "ytadjpaecgbfkkaa", sum := "150ffdf3ba4a2853e3daea8f6eb23fcf83eab70829edfa1282ebc12fa1a713b7", func := "croft/croftlaw42.SpanLongest", spec := "spanLongest", inPlace := ["math/bits.Add64"], unfollowed := true, recurses := true, apart := false, narrowed := true }
def SpanLongestUptoSaid : Prop := spanLongestUptoRow.holds Try.pinned (OpenSpec.upto spanLongestSpec)

/-- 'croftlaw42.SpanWays', WHERE WHAT IT READS IS OF BULK AT MOST 1048576: true; the input reads as it did. -/
def spanWaysUptoRow : OpenClaim := { program := "ytadjpaecgbfkkaa", sum := "150ffdf3ba4a2853e3daea8f6eb23fcf83eab70829edfa1282ebc12fa1a713b7", func := "croft/croftlaw42.SpanWays", spec := "spanWays", inPlace := ["math/bits.Add64"], unfollowed := true, recurses := true, apart := false, narrowed := true }
def SpanWaysUptoSaid : Prop := spanWaysUptoRow.holds Try.pinned (OpenSpec.upto spanWaysSpec)

/-- 'croftlaw42.SpanJoins', WHERE WHAT IT READS IS OF BULK AT MOST 1048576: true; the input reads as it did. -/
def spanJoinsUptoRow : OpenClaim := { program := "ytadjpaecgbfkkaa", sum := "150ffdf3ba4a2853e3daea8f6eb23fcf83eab70829edfa1282ebc12fa1a713b7", func := "croft/croftlaw42.SpanJoins", spec := "spanJoins", inPlace := ["math/bits.Add64"], unfollowed := true, recurses := true, apart := false, narrowed := true }
def SpanJoinsUptoSaid : Prop := spanJoinsUptoRow.holds Try.pinned (OpenSpec.upto spanJoinsSpec)

/-- 'croftlaw39.SweepTells', WHERE WHAT IT READS IS OF BULK AT MOST 1048576: true; the input reads as it did. -/
def sweepTellsUptoRow : OpenClaim := { program := "ytadjpaecgbfkkaa", sum := "150ffdf3ba4a2853e3daea8f6eb23fcf83eab70829edfa1282ebc12fa1a713b7", func := "croft/croftlaw39.SweepTells", spec := "sweepTells", inPlace := ["math/bits.Add64"], unfollowed := true, recurses := true, apart := false, narrowed := true }
def SweepTellsUptoSaid : Prop := sweepTellsUptoRow.holds Try.pinned (OpenSpec.upto sweepTellsSpec)

/-- 'croftlaw39.SweepPairs', WHERE WHAT IT READS IS OF BULK AT MOST 1048576: true; the input reads as it did. -/
def sweepPairsUptoRow : OpenClaim := { program := "ytadjpaecgbfkkaa", sum := "150ffdf3ba4a2853e3daea8f6eb23fcf83eab70829edfa1282ebc12fa1a713b7", func := "croft/croftlaw39.SweepPairs", spec := "sweepPairs", inPlace := ["math/bits.Add64"], unfollowed := true, recurses := true, apart := false, narrowed := true }
def SweepPairsUptoSaid : Prop := sweepPairsUptoRow.holds Try.pinned (OpenSpec.upto sweepPairsSpec)

/-- 'croftlaw39.SweepAdds', WHERE WHAT IT READS IS OF BULK AT MOST 1048576: true; the input reads as it did. -/
def sweepAddsUptoRow : OpenClaim := { program := "ytadjpaecgbfkkaa", sum := "150ffdf3ba4a2853e3daea8f6eb23fcf83eab70829edfa1282ebc12fa1a713b7", func := "croft/croftlaw39.SweepAdds", spec := "sweepAdds", inPlace := ["math/bits.Add64"], unfollowed := true, recurses := true, apart := false, narrowed := true }
def SweepAddsUptoSaid : Prop := sweepAddsUptoRow.holds Try.pinned (OpenSpec.upto sweepAddsSpec)

/-- 'croftlaw35.HullHolds', WHERE WHAT IT READS IS OF BULK AT MOST 1048576: true; the input reads as it did. -/
def hullHoldsUptoRow : OpenClaim := { program := "ytadjpaecgbfkkaa", sum := "150ffdf3ba4a2853e3daea8f6eb23fcf83eab70829edfa1282ebc12fa1a713b7", func := "croft/croftlaw35.HullHolds", spec := "hullHolds", inPlace := ["math/bits.Add64", "math/bits.Sub64"], unfollowed := true, recurses := true, apart := false, narrowed := true }
def HullHoldsUptoSaid : Prop := hullHoldsUptoRow.holds Try.pinned (OpenSpec.upto hullHoldsSpec)

/-- 'croftlaw35.HullBegins', WHERE WHAT IT READS IS OF BULK AT MOST 1048576: true; the input reads as it did. -/
def hullBeginsUptoRow : OpenClaim := { program := "ytadjpaecgbfkkaa", sum := "150ffdf3ba4a2853e3daea8f6eb23fcf83eab70829edfa1282ebc12fa1a713b7", func := "croft/croftlaw35.HullBegins", spec := "hullBegins", inPlace := ["math/bits.Add64", "math/bits.Sub64"], unfollowed := true, recurses := true, apart := false, narrowed := true }
def HullBeginsUptoSaid : Prop := hullBeginsUptoRow.holds Try.pinned (OpenSpec.upto hullBeginsSpec)

/-- 'croftlaw35.HullLeast', WHERE WHAT IT READS IS OF BULK AT MOST 1048576: true; the input reads as it did. -/
def hullLeastUptoRow : OpenClaim := { program := "ytadjpaecgbfkkaa", sum := "150ffdf3ba4a2853e3daea8f6eb23fcf83eab70829edfa1282ebc12fa1a713b7", func := "croft/croftlaw35.HullLeast", spec := "hullLeast", inPlace := ["math/bits.Add64", "math/bits.Sub64"], unfollowed := true, recurses := true, apart := false, narrowed := true }
def HullLeastUptoSaid : Prop := hullLeastUptoRow.holds Try.pinned (OpenSpec.upto hullLeastSpec)

/-- 'croftlaw35.HullFarthest', WHERE WHAT IT READS IS OF BULK AT MOST 1048576: true; the input reads as it did. -/
def hullFarthestUptoRow : OpenClaim := { program := "ytadjpaecgbfkkaa", sum := "150ffdf3ba4a2853e3daea8f6eb23fcf83eab70829edfa1282ebc12fa1a713b7", func := "croft/croftlaw35.HullFarthest", spec := "hullFarthest", inPlace := ["math/bits.Add64", "math/bits.Sub64"], unfollowed := true, recurses := true, apart := false, narrowed := true }
def HullFarthestUptoSaid : Prop := hullFarthestUptoRow.holds Try.pinned (OpenSpec.upto hullFarthestSpec)

/-- 'croftlaw44.KdtreeTells', WHERE WHAT IT READS IS OF BULK AT MOST 1048576: true; the input reads as it did. -/
def kdtreeTellsUptoRow : OpenClaim := { program := "ytadjpaecgbfkkaa", sum := "150ffdf3ba4a2853e3daea8f6eb23fcf83eab70829edfa1282ebc12fa1a713b7", func := "croft/croftlaw44.KdtreeTells", spec := "kdtreeTells", unfollowed := true, recurses := true, apart := false, narrowed := true }
def KdtreeTellsUptoSaid : Prop := kdtreeTellsUptoRow.holds Try.pinned (OpenSpec.upto kdtreeTellsSpec)

/-- 'croftlaw44.KdtreeFinds', WHERE WHAT IT READS IS OF BULK AT MOST 1048576: true; the input reads as it did. -/
def kdtreeFindsUptoRow : OpenClaim := { program := "ytadjpaecgbfkkaa", sum := "150ffdf3ba4a2853e3daea8f6eb23fcf83eab70829edfa1282ebc12fa1a713b7", func := "croft/croftlaw44.KdtreeFinds", spec := "kdtreeFinds", inPlace := ["math/bits.Add64", "slices.overlaps[croft/kdtree.found]"], unfollowed := true, recurses := true, apart := false, narrowed := true }
def KdtreeFindsUptoSaid : Prop := kdtreeFindsUptoRow.holds Try.pinned (OpenSpec.upto kdtreeFindsSpec)

/-- 'croftlaw44.KdtreeNobody', WHERE WHAT IT READS IS OF BULK AT MOST 1048576: true; the input reads as it did. -/
def kdtreeNobodyUptoRow : OpenClaim := { program := "ytadjpaecgbfkkaa", sum := "150ffdf3ba4a2853e3daea8f6eb23fcf83eab70829edfa1282ebc12fa1a713b7", func := "croft/croftlaw44.KdtreeNobody", spec := "kdtreeNobody", inPlace := ["math/bits.Add64", "slices.overlaps[croft/kdtree.found]"], unfollowed := true, recurses := true, apart := false, narrowed := true }
def KdtreeNobodyUptoSaid : Prop := kdtreeNobodyUptoRow.holds Try.pinned (OpenSpec.upto kdtreeNobodySpec)

/-- 'croftlaw40.DeltaMerges', WHERE WHAT IT READS IS OF BULK AT MOST 1048576: true; the input reads as it did. -/
def deltaMergesUptoRow : OpenClaim := { program := "ytadjpaecgbfkkaa", sum := "150ffdf3ba4a2853e3daea8f6eb23fcf83eab70829edfa1282ebc12fa1a713b7", func := "croft/croftlaw40.DeltaMerges", spec := "deltaMerges", unfollowed := true, recurses := true, apart := false, narrowed := true }
def DeltaMergesUptoSaid : Prop := deltaMergesUptoRow.holds Try.pinned (OpenSpec.upto deltaMergesSpec)

/-- 'croftlaw40.DeltaBack', WHERE WHAT IT READS IS OF BULK AT MOST 1048576: true; the input reads as it did. -/
def deltaBackUptoRow : OpenClaim := { program := "ytadjpaecgbfkkaa", sum := "150ffdf3ba4a2853e3daea8f6eb23fcf83eab70829edfa1282ebc12fa1a713b7", func := "croft/croftlaw40.DeltaBack", spec := "deltaBack", unfollowed := true, recurses := true, apart := false, narrowed := true }
def DeltaBackUptoSaid : Prop := deltaBackUptoRow.holds Try.pinned (OpenSpec.upto deltaBackSpec)

/-- 'croftlaw40.DeltaApplies', WHERE WHAT IT READS IS OF BULK AT MOST 1048576: true; the input reads as it did. -/
def deltaAppliesUptoRow : OpenClaim := { program := "ytadjpaecgbfkkaa", sum := "150ffdf3ba4a2853e3daea8f6eb23fcf83eab70829edfa1282ebc12fa1a713b7", func := "croft/croftlaw40.DeltaApplies", spec := "deltaApplies", unfollowed := true, recurses := true, apart := false, narrowed := true }
def DeltaAppliesUptoSaid : Prop := deltaAppliesUptoRow.holds Try.pinned (OpenSpec.upto deltaAppliesSpec)

end Rows
end Go.Proofs.Ytadjpaecgbfkkaa
