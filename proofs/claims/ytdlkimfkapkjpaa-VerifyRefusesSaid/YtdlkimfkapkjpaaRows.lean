/-
  No cell of these rows narrows 'for every input' (looked for: loops, veiled, ifaces, maps, wideKeys, modest, calm, conditions, laid).
  DERIVED. THE GIVEN ROWS OF THIS SEAT. 3 by the template 'for every input the law returns true; each argument reads behind the call as it read before'; 0 by the template 'total and deterministic' (their statements: YtdlkimfkapkjpaaTotals.lean).
  GIVEN WITH THE SEED: the statements are not yours to turn. If you find one false, say at which input.
  Laid BY PROGRAM, IN A SANDBOX (cutbox-rows.mjs): the forced cells as the released guide's own fill.sh prints them over the translation d87dc20cd8140d9e… (all of the seat's roots in one cut). By AI agents, Wed Nov 11 2026. No macro, syntax, notation, axiom, sorry.
-/
import Derived.Test.YtdlkimfkapkjpaaChecked
import GoSem.Claim
import GoSem.ClaimJoined
import GoSem.ClaimMapViews
import Derived.JoinedTies
import Derived.KernelRfl
namespace Go.Proofs.Ytdlkimfkapkjpaa
/- THE CELL 'sum', in the pinned program and in every row, IS THE sha256 OF THE DUMP (.gsa) THAT YtdlkimfkapkjpaaProg.lean LOADS. Nothing in Lean hashes anything: it is a label: what it is worth is what the hold of that sum in a sandbox is worth. -/
noncomputable def Try.pinned : Pinned := { name := "ytdlkimfkapkjpaa", sum := "d87dc20cd8140d9ec161ce100884d42c7c0759c123f73e2869fe0b2ee63753cc", checked := Try.checked }
namespace Rows
def none {H : Type} : Left H := { results := [], args := [] }

/-- 'croftlaw26.VerifyTakes': WHATEVER THE INPUT: true; the input reads as it did. -/
def verifyTakesSpec : ChangeSpec := { name := "verifyTakes", fn := fun _ => fun
  | [d] => { results := [.lit (.bool true)], args := [d] }
  | _ => none }
def verifyTakesRow : OpenClaim := { program := "ytdlkimfkapkjpaa", sum := "d87dc20cd8140d9ec161ce100884d42c7c0759c123f73e2869fe0b2ee63753cc", func := "croft/croftlaw26.VerifyTakes", spec := "verifyTakes", unfollowed := true, recurses := true, apart := false }
def VerifyTakesSaid : Prop := verifyTakesRow.holds Try.pinned (OpenSpec.ofChange verifyTakesSpec)

/-- ITS FALSE NEIGHBOUR: 'it returns false'. Refute it at one input. -/
def verifyTakesWrong : ChangeSpec := { name := "verifyTakes", fn := fun _ => fun
  | [d] => { results := [.lit (.bool false)], args := [d] }
  | _ => none }
def VerifyTakesWrongFalsely : Prop := verifyTakesRow.holds Try.pinned (OpenSpec.ofChange verifyTakesWrong)

/-- 'croftlaw26.VerifyRefuses': WHATEVER THE INPUT: true; the input reads as it did. -/
def verifyRefusesSpec : ChangeSpec := { name := "verifyRefuses", fn := fun _ => fun
  | [d1, d2, d3, d4] => { results := [.lit (.bool true)], args := [d1, d2, d3, d4] }
  | _ => none }
def verifyRefusesRow : OpenClaim := { program := "ytdlkimfkapkjpaa", sum := "d87dc20cd8140d9ec161ce100884d42c7c0759c123f73e2869fe0b2ee63753cc", func := "croft/croftlaw26.VerifyRefuses", spec := "verifyRefuses", unfollowed := true, recurses := true, apart := false }
def VerifyRefusesSaid : Prop := verifyRefusesRow.holds Try.pinned (OpenSpec.ofChange verifyRefusesSpec)

/-- ITS FALSE NEIGHBOUR: 'it returns false'. Refute it at one input. -/
def verifyRefusesWrong : ChangeSpec := { name := "verifyRefuses", fn := fun _ => fun
  | [d1, d2, d3, d4] => { results := [.lit (.bool false)], args := [d1, d2, d3, d4] }
  | _ => none }
def VerifyRefusesWrongFalsely : Prop := verifyRefusesRow.holds Try.pinned (OpenSpec.ofChange verifyRefusesWrong)

/-- 'croftlaw26.VerifyHolds': WHATEVER THE INPUT: true; the input reads as it did. -/
def verifyHoldsSpec : ChangeSpec := { name := "verifyHolds", fn := fun _ => fun
  | [d1, d2, d3, d4] => { results := [.lit (.bool true)], args := [d1, d2, d3, d4] }
  | _ => none }
def verifyHoldsRow : OpenClaim := { program := "ytdlkimfkapkjpaa", sum := "d87dc20cd8140d9ec161ce100884d42c7c0759c123f73e2869fe0b2ee63753cc", func := "croft/croftlaw26.VerifyHolds", spec := "verifyHolds", unfollowed := true, recurses := true, apart := false }
def VerifyHoldsSaid : Prop := verifyHoldsRow.holds Try.pinned (OpenSpec.ofChange verifyHoldsSpec)

/-- ITS FALSE NEIGHBOUR: 'it returns false'. Refute it at one input. -/
def verifyHoldsWrong : ChangeSpec := { name := "verifyHolds", fn := fun _ => fun
  | [d1, d2, d3, d4] => { results := [.lit (.bool false)], args := [d1, d2, d3, d4] }
  | _ => none }
def VerifyHoldsWrongFalsely : Prop := verifyHoldsRow.holds Try.pinned (OpenSpec.ofChange verifyHoldsWrong)

/- THE SECOND FORM. 'bulk': how many values and letters a reading holds, each counted each time it is reached (what is shared counts as often as it is met; a slice's spare places count too). A statement '..UptoSaid' is the law's where the arguments, and the package variables that the reading takes, are together of bulk at most 1048576: NARROWER than '..Said'. Prove '..Said' where nothing that the law and all that it calls make is longer than what came in: it says more and counts as full. Else prove '..UptoSaid'. A law counts once. -/
mutual
def uptoBulk {H : Type} : DataW H → Nat
  | .lit (.string bytes) => bytes.length + 1
  | .lit _ => 1
  | .nil => 1
  | .ptr d => uptoBulk d + 1
  | .slice elems spare => uptoBulkAll elems + uptoBulkAll spare + 1
  | .agg parts => uptoBulkAll parts + 1
  | .iface _ d => uptoBulk d + 1
  | .map entries => uptoBulkEntries entries + 1
  | .held _ => 1
def uptoBulkAll {H : Type} : List (DataW H) → Nat
  | [] => 0
  | d :: r => uptoBulk d + uptoBulkAll r
def uptoBulkEntries {H : Type} : List (Lit × DataW H) → Nat
  | [] => 0
  | x :: r => uptoBulkEntry x + uptoBulkEntries r
def uptoBulkEntry {H : Type} : Lit × DataW H → Nat
  | (.string bytes, d) => bytes.length + uptoBulk d + 1
  | (_, d) => uptoBulk d + 1
 end
def uptoSmall : (H : Type) → List (DataW H) → Bool := fun _ ds => decide (uptoBulkAll ds ≤ 1048576)
def OpenSpec.upto (s : _root_.Go.ChangeSpec) : _root_.Go.OpenSpec := { _root_.Go.OpenSpec.ofChange s with cond := some uptoSmall }

/-- 'croftlaw26.VerifyTakes', WHERE WHAT IT READS IS OF BULK AT MOST 1048576: true; the input reads as it did. -/
def verifyTakesUptoRow : OpenClaim := { program := "ytdlkimfkapkjpaa", sum := "d87dc20cd8140d9ec161ce100884d42c7c0759c123f73e2869fe0b2ee63753cc", func := "croft/croftlaw26.VerifyTakes", spec := "verifyTakes", unfollowed := true, recurses := true, apart := false, narrowed := true }
def VerifyTakesUptoSaid : Prop := verifyTakesUptoRow.holds Try.pinned (OpenSpec.upto verifyTakesSpec)

/-- 'croftlaw26.VerifyRefuses', WHERE WHAT IT READS IS OF BULK AT MOST 1048576: true; the input reads as it did. -/
def verifyRefusesUptoRow : OpenClaim := { program := "ytdlkimfkapkjpaa", sum := "d87dc20cd8140d9ec161ce100884d42c7c0759c123f73e2869fe0b2ee63753cc", func := "croft/croftlaw26.VerifyRefuses", spec := "verifyRefuses", unfollowed := true, recurses := true, apart := false, narrowed := true }
def VerifyRefusesUptoSaid : Prop := verifyRefusesUptoRow.holds Try.pinned (OpenSpec.upto verifyRefusesSpec)

/-- 'croftlaw26.VerifyHolds', WHERE WHAT IT READS IS OF BULK AT MOST 1048576: true; the input reads as it did. -/
def verifyHoldsUptoRow : OpenClaim := { program := "ytdlkimfkapkjpaa", sum := "d87dc20cd8140d9ec161ce100884d42c7c0759c123f73e2869fe0b2ee63753cc", func := "croft/croftlaw26.VerifyHolds", spec := "verifyHolds", unfollowed := true, recurses := true, apart := false, narrowed := true }
def VerifyHoldsUptoSaid : Prop := verifyHoldsUptoRow.holds Try.pinned (OpenSpec.upto verifyHoldsSpec)

end Rows
end Go.Proofs.Ytdlkimfkapkjpaa
