/-
  No cell of these rows narrows 'for every input' (looked for: loops, veiled, ifaces, maps, wideKeys, modest, calm, conditions, laid).
  DERIVED. THE GIVEN ROWS OF THIS SEAT. 3 by the template 'for every input the law returns true; each argument reads behind the call as it read before'; 0 by the template 'total and deterministic' (their statements: YtjppdkdhokbfcaaTotals.lean).
  GIVEN WITH THE SEED: the statements are not yours to turn. If you find one false, say at which input.
  Laid BY PROGRAM, IN A SANDBOX (cutbox-rows.mjs): the forced cells as the released guide's own fill.sh prints them over the translation 8a04fbb56252fced… (all of the seat's roots in one cut). By AI agents, Wed Nov 11 2026. No macro, syntax, notation, axiom, sorry.
-/
import Derived.Test.YtjppdkdhokbfcaaChecked
import GoSem.Claim
import GoSem.ClaimJoined
import GoSem.ClaimMapViews
import Derived.JoinedTies
import Derived.KernelRfl
namespace Go.Proofs.Ytjppdkdhokbfcaa
/- THE CELL 'sum', in the pinned program and in every row, IS THE sha256 OF THE DUMP (.gsa) THAT YtjppdkdhokbfcaaProg.lean LOADS. Nothing in Lean hashes anything: it is a label: what it is worth is what the hold of that sum in a sandbox is worth. -/
noncomputable def Try.pinned : Pinned := { name := "ytjppdkdhokbfcaa", sum := "8a04fbb56252fced2571ad558fd1d551f1e926bea23befd70e040e3609ad5be2", checked := Try.checked }
namespace Rows
def none {H : Type} : Left H := { results := [], args := [] }

/-- 'croftlaw44.KdtreeTells': WHATEVER THE INPUT: true; the input reads as it did. -/
def kdtreeTellsSpec : ChangeSpec := { name := "kdtreeTells", fn := fun _ => fun
  | [d] => { results := [.lit (.bool true)], args := [d] }
  | _ => none }
def kdtreeTellsRow : OpenClaim := { program := "ytjppdkdhokbfcaa", sum := "8a04fbb56252fced2571ad558fd1d551f1e926bea23befd70e040e3609ad5be2", func := "croft/croftlaw44.KdtreeTells", spec := "kdtreeTells", unfollowed := true, recurses := true, apart := false }
def KdtreeTellsSaid : Prop := kdtreeTellsRow.holds Try.pinned (OpenSpec.ofChange kdtreeTellsSpec)

/-- ITS FALSE NEIGHBOUR: 'it returns false'. Refute it at one input. -/
def kdtreeTellsWrong : ChangeSpec := { name := "kdtreeTells", fn := fun _ => fun
  | [d] => { results := [.lit (.bool false)], args := [d] }
  | _ => none }
def KdtreeTellsWrongFalsely : Prop := kdtreeTellsRow.holds Try.pinned (OpenSpec.ofChange kdtreeTellsWrong)

/-- 'croftlaw44.KdtreeFinds': WHATEVER THE INPUT: true; the input reads as it did. -/
def kdtreeFindsSpec : ChangeSpec := { name := "kdtreeFinds", fn := fun _ => fun
  | [d1, d2, d3, d4, d5] => { results := [.lit (.bool true)], args := [d1, d2, d3, d4, d5] }
  | _ => none }
def kdtreeFindsRow : OpenClaim := { program := "ytjppdkdhokbfcaa", sum := "8a04fbb56252fced2571ad558fd1d551f1e926bea23befd70e040e3609ad5be2", func := "croft/croftlaw44.KdtreeFinds", spec := "kdtreeFinds", inPlace := ["math/bits.Add64", "slices.overlaps[croft/kdtree.found]"], unfollowed := true, recurses := true, apart := false }
def KdtreeFindsSaid : Prop := kdtreeFindsRow.holds Try.pinned (OpenSpec.ofChange kdtreeFindsSpec)

/-- ITS FALSE NEIGHBOUR: 'it returns false'. Refute it at one input. -/
def kdtreeFindsWrong : ChangeSpec := { name := "kdtreeFinds", fn := fun _ => fun
  | [d1, d2, d3, d4, d5] => { results := [.lit (.bool false)], args := [d1, d2, d3, d4, d5] }
  | _ => none }
def KdtreeFindsWrongFalsely : Prop := kdtreeFindsRow.holds Try.pinned (OpenSpec.ofChange kdtreeFindsWrong)

/-- 'croftlaw44.KdtreeNobody': WHATEVER THE INPUT: true; the input reads as it did. -/
def kdtreeNobodySpec : ChangeSpec := { name := "kdtreeNobody", fn := fun _ => fun
  | [d1, d2] => { results := [.lit (.bool true)], args := [d1, d2] }
  | _ => none }
def kdtreeNobodyRow : OpenClaim := { program := "ytjppdkdhokbfcaa", sum := "8a04fbb56252fced2571ad558fd1d551f1e926bea23befd70e040e3609ad5be2", func := "croft/croftlaw44.KdtreeNobody", spec := "kdtreeNobody", inPlace := ["math/bits.Add64", "slices.overlaps[croft/kdtree.found]"], unfollowed := true, recurses := true, apart := false }
def KdtreeNobodySaid : Prop := kdtreeNobodyRow.holds Try.pinned (OpenSpec.ofChange kdtreeNobodySpec)

/-- ITS FALSE NEIGHBOUR: 'it returns false'. Refute it at one input. -/
def kdtreeNobodyWrong : ChangeSpec := { name := "kdtreeNobody", fn := fun _ => fun
  | [d1, d2] => { results := [.lit (.bool false)], args := [d1, d2] }
  | _ => none }
def KdtreeNobodyWrongFalsely : Prop := kdtreeNobodyRow.holds Try.pinned (OpenSpec.ofChange kdtreeNobodyWrong)

/- THE SECOND FORM. 'bulk': how many values and letters a reading holds, each counted each time it is reached (what is shared counts as often as it is met; a slice's spare places count too). A statement '..UptoSaid' is the law's where the arguments, and the package variables that the reading takes, are together of bulk at most 1048576: NARROWER than '..Said'. Prove '..Said' where nothing that the law and all that it calls make is longer than what came in: it says more and counts as full. Else prove '..UptoSaid'. A law counts once. -/
mutual
def uptoBulk {H : Type} : DataW H → Nat
  | .lit (.string bytes) => bytes.length + 1
  | .lit _ => 1
  | .nil => 1
  | .ptr d => uptoBulk d + 1
  | .slice elems spare => uptoBulkAll elems + uptoBulkAll spare + 1
  | .agg parts => uptoBulkAll parts + 1
  | .iface _ d => uptoBulk d + 1
  | .map entries => uptoBulkEntries entries + 1
  | .held _ => 1
def uptoBulkAll {H : Type} : List (DataW H) → Nat
  | [] => 0
  | d :: r => uptoBulk d + uptoBulkAll r
def uptoBulkEntries {H : Type} : List (Lit × DataW H) → Nat
  | [] => 0
  | x :: r => uptoBulkEntry x + uptoBulkEntries r
def uptoBulkEntry {H : Type} : Lit × DataW H → Nat
  | (.string bytes, d) => bytes.length + uptoBulk d + 1
  | (_, d) => uptoBulk d + 1
 end
def uptoSmall : (H : Type) → List (DataW H) → Bool := fun _ ds => decide (uptoBulkAll ds ≤ 1048576)
def OpenSpec.upto (s : _root_.Go.ChangeSpec) : _root_.Go.OpenSpec := { _root_.Go.OpenSpec.ofChange s with cond := some uptoSmall }

/-- 'croftlaw44.KdtreeTells', WHERE WHAT IT READS IS OF BULK AT MOST 1048576: true; the input reads as it did. -/
def kdtreeTellsUptoRow : OpenClaim := { program := "ytjppdkdhokbfcaa", sum := "8a04fbb56252fced2571ad558fd1d551f1e926bea23befd70e040e3609ad5be2", func := "croft/croftlaw44.KdtreeTells", spec := "kdtreeTells", unfollowed := true, recurses := true, apart := false, narrowed := true }
def KdtreeTellsUptoSaid : Prop := kdtreeTellsUptoRow.holds Try.pinned (OpenSpec.upto kdtreeTellsSpec)

/-- 'croftlaw44.KdtreeFinds', WHERE WHAT IT READS IS OF BULK AT MOST 1048576: true; the input reads as it did. -/
def kdtreeFindsUptoRow : OpenClaim := { program := "ytjppdkdhokbfcaa", sum := "8a04fbb56252fced2571ad558fd1d551f1e926bea23befd70e040e3609ad5be2", func := "croft/croftlaw44.KdtreeFinds", spec := "kdtreeFinds", inPlace := ["math/bits.Add64", "slices.overlaps[croft/kdtree.found]"], unfollowed := true, recurses := true, apart := false, narrowed := true }
def KdtreeFindsUptoSaid : Prop := kdtreeFindsUptoRow.holds Try.pinned (OpenSpec.upto kdtreeFindsSpec)

/-- 'croftlaw44.KdtreeNobody', WHERE WHAT IT READS IS OF BULK AT MOST 1048576: true; the input reads as it did. -/
def kdtreeNobodyUptoRow : OpenClaim := { program := "ytjppdkdhokbfcaa", sum := "8a04fbb56252fced2571ad558fd1d551f1e926bea23befd70e040e3609ad5be2", func := "croft/croftlaw44.KdtreeNobody", spec := "kdtreeNobody", inPlace := ["math/bits.Add64", "slices.overlaps[croft/kdtree.found]"], unfollowed := true, recurses := true, apart := false, narrowed := true }
def KdtreeNobodyUptoSaid : Prop := kdtreeNobodyUptoRow.holds Try.pinned (OpenSpec.upto kdtreeNobodySpec)

end Rows
end Go.Proofs.Ytjppdkdhokbfcaa
