/-
  No cell of these rows narrows 'for every input' (looked for: loops, veiled, ifaces, maps, wideKeys, modest, calm, conditions, laid).
  DERIVED. THE GIVEN ROWS OF THIS SEAT. 15 by the template 'for every input the law returns true; each argument reads behind the call as it read before'; 0 by the template 'total and deterministic' (their statements: YtekaopahienmgaaTotals.lean).
  GIVEN WITH THE SEED: the statements are not yours to turn. If you find one false, say at which input.
  Laid BY PROGRAM, IN A SANDBOX (cutbox-rows.mjs): the forced cells as the released guide's own fill.sh prints them over the translation 18c70eeb43c78d16… (all of the seat's roots in one cut). By AI agents, Wed Nov 11 2026. No macro, syntax, notation, axiom, sorry.
-/
import Derived.Test.YtekaopahienmgaaChecked
import GoSem.Claim
import GoSem.ClaimJoined
import GoSem.ClaimMapViews
import Derived.JoinedTies
import Derived.KernelRfl
namespace Go.Proofs.Ytekaopahienmgaa
/- THE CELL 'sum', in the pinned program and in every row, IS THE sha256 OF THE DUMP (.gsa) THAT YtekaopahienmgaaProg.lean LOADS. Nothing in Lean hashes anything: it is a label: what it is worth is what the hold of that sum in a sandbox is worth. -/
noncomputable def Try.pinned : Pinned := { name := "ytekaopahienmgaa", sum := "18c70eeb43c78d168829e30de167381b13b2fbb4c4bca1372e19ee5d3e303b82", checked := Try.checked }
namespace Rows
def none {H : Type} : Left H := { results := [], args := [] }

/-- 'croftlaw33.StatsGrids': WHATEVER THE INPUT: true; the input reads as it did. -/
def statsGridsSpec : ChangeSpec := { name := "statsGrids", fn := fun _ => fun
  | [d1, d2] => { results := [.lit (.bool true)], args := [d1, d2] }
  | _ => none }
def statsGridsRow : OpenClaim := { program := "ytekaopahienmgaa", sum := "18c70eeb43c78d168829e30de167381b13b2fbb4c4bca1372e19ee5d3e303b82", func := "croft/croftlaw33.StatsGrids", spec := "statsGrids", recurses := true, apart := false }
def StatsGridsSaid : Prop := statsGridsRow.holds Try.pinned (OpenSpec.ofChange statsGridsSpec)

/-- ITS FALSE NEIGHBOUR: 'it returns false'. Refute it at one input. -/
def statsGridsWrong : ChangeSpec := { name := "statsGrids", fn := fun _ => fun
  | [d1, d2] => { results := [.lit (.bool false)], args := [d1, d2] }
  | _ => none }
def StatsGridsWrongFalsely : Prop := statsGridsRow.holds Try.pinned (OpenSpec.ofChange statsGridsWrong)

/-- 'croftlaw33.StatsTells': WHATEVER THE INPUT: true; the input reads as it did. -/
def statsTellsSpec : ChangeSpec := { name := "statsTells", fn := fun _ => fun
  | [d] => { results := [.lit (.bool true)], args := [d] }
  | _ => none }
def statsTellsRow : OpenClaim := { program := "ytekaopahienmgaa", sum := "18c70eeb43c78d168829e30de167381b13b2fbb4c4bca1372e19ee5d3e303b82", func := "croft/croftlaw33.StatsTells", spec := "statsTells", unfollowed := true, recurses := true, apart := false }
def StatsTellsSaid : Prop := statsTellsRow.holds Try.pinned (OpenSpec.ofChange statsTellsSpec)

/-- ITS FALSE NEIGHBOUR: 'it returns false'. Refute it at one input. -/
def statsTellsWrong : ChangeSpec := { name := "statsTells", fn := fun _ => fun
  | [d] => { results := [.lit (.bool false)], args := [d] }
  | _ => none }
def StatsTellsWrongFalsely : Prop := statsTellsRow.holds Try.pinned (OpenSpec.ofChange statsTellsWrong)

/-- 'croftlaw33.StatsSums': WHATEVER THE INPUT: true; the input reads as it did. -/
def statsSumsSpec : ChangeSpec := { name := "statsSums", fn := fun _ => fun
  | [d] => { results := [.lit (.bool true)], args := [d] }
  | _ => none }
def statsSumsRow : OpenClaim := { program := "ytekaopahienmgaa", sum := "18c70eeb43c78d168829e30de167381b13b2fbb4c4bca1372e19ee5d3e303b82", func := "croft/croftlaw33.StatsSums", spec := "statsSums", unfollowed := true, recurses := true, apart := false }
def StatsSumsSaid : Prop := statsSumsRow.holds Try.pinned (OpenSpec.ofChange statsSumsSpec)

/-- ITS FALSE NEIGHBOUR: 'it returns false'. Refute it at one input. -/
def statsSumsWrong : ChangeSpec := { name := "statsSums", fn := fun _ => fun
  | [d] => { results := [.lit (.bool false)], args := [d] }
  | _ => none }
def StatsSumsWrongFalsely : Prop := statsSumsRow.holds Try.pinned (OpenSpec.ofChange statsSumsWrong)

/-- 'croftlaw24.WindowTells': WHATEVER THE INPUT: true; the input reads as it did. -/
def windowTellsSpec : ChangeSpec := { name := "windowTells", fn := fun _ => fun
  | [d1, d2] => { results := [.lit (.bool true)], args := [d1, d2] }
  | _ => none }
def windowTellsRow : OpenClaim := { program := "ytekaopahienmgaa", sum := "18c70eeb43c78d168829e30de167381b13b2fbb4c4bca1372e19ee5d3e303b82", func := "croft/croftlaw24.WindowTells", spec := "windowTells", unfollowed := true, recurses := true, apart := false }
def WindowTellsSaid : Prop := windowTellsRow.holds Try.pinned (OpenSpec.ofChange windowTellsSpec)

/-- ITS FALSE NEIGHBOUR: 'it returns false'. Refute it at one input. -/
def windowTellsWrong : ChangeSpec := { name := "windowTells", fn := fun _ => fun
  | [d1, d2] => { results := [.lit (.bool false)], args := [d1, d2] }
  | _ => none }
def WindowTellsWrongFalsely : Prop := windowTellsRow.holds Try.pinned (OpenSpec.ofChange windowTellsWrong)

/-- 'croftlaw24.WindowVisits': WHATEVER THE INPUT: true; the input reads as it did. -/
def windowVisitsSpec : ChangeSpec := { name := "windowVisits", fn := fun _ => fun
  | [d1, d2] => { results := [.lit (.bool true)], args := [d1, d2] }
  | _ => none }
def windowVisitsRow : OpenClaim := { program := "ytekaopahienmgaa", sum := "18c70eeb43c78d168829e30de167381b13b2fbb4c4bca1372e19ee5d3e303b82", func := "croft/croftlaw24.WindowVisits", spec := "windowVisits", unfollowed := true, recurses := true, apart := false }
def WindowVisitsSaid : Prop := windowVisitsRow.holds Try.pinned (OpenSpec.ofChange windowVisitsSpec)

/-- ITS FALSE NEIGHBOUR: 'it returns false'. Refute it at one input. -/
def windowVisitsWrong : ChangeSpec := { name := "windowVisits", fn := fun _ => fun
  | [d1, d2] => { results := [.lit (.bool false)], args := [d1, d2] }
  | _ => none }
def WindowVisitsWrongFalsely : Prop := windowVisitsRow.holds Try.pinned (OpenSpec.ofChange windowVisitsWrong)

/-- 'croftlaw24.WindowCuts': WHATEVER THE INPUT: true; the input reads as it did. -/
def windowCutsSpec : ChangeSpec := { name := "windowCuts", fn := fun _ => fun
  | [d1, d2, d3] => { results := [.lit (.bool true)], args := [d1, d2, d3] }
  | _ => none }
def windowCutsRow : OpenClaim := { program := "ytekaopahienmgaa", sum := "18c70eeb43c78d168829e30de167381b13b2fbb4c4bca1372e19ee5d3e303b82", func := "croft/croftlaw24.WindowCuts", spec := "windowCuts", unfollowed := true, recurses := true, apart := false }
def WindowCutsSaid : Prop := windowCutsRow.holds Try.pinned (OpenSpec.ofChange windowCutsSpec)

/-- ITS FALSE NEIGHBOUR: 'it returns false'. Refute it at one input. -/
def windowCutsWrong : ChangeSpec := { name := "windowCuts", fn := fun _ => fun
  | [d1, d2, d3] => { results := [.lit (.bool false)], args := [d1, d2, d3] }
  | _ => none }
def WindowCutsWrongFalsely : Prop := windowCutsRow.holds Try.pinned (OpenSpec.ofChange windowCutsWrong)

/-- 'croftlaw24.WindowGrows': WHATEVER THE INPUT: true; the input reads as it did. -/
def windowGrowsSpec : ChangeSpec := { name := "windowGrows", fn := fun _ => fun
  | [d1, d2, d3] => { results := [.lit (.bool true)], args := [d1, d2, d3] }
  | _ => none }
def windowGrowsRow : OpenClaim := { program := "ytekaopahienmgaa", sum := "18c70eeb43c78d168829e30de167381b13b2fbb4c4bca1372e19ee5d3e303b82", func := "croft/croftlaw24.WindowGrows", spec := "windowGrows", unfollowed := true, recurses := true, apart := false }
def WindowGrowsSaid : Prop := windowGrowsRow.holds Try.pinned (OpenSpec.ofChange windowGrowsSpec)

/-- ITS FALSE NEIGHBOUR: 'it returns false'. Refute it at one input. -/
def windowGrowsWrong : ChangeSpec := { name := "windowGrows", fn := fun _ => fun
  | [d1, d2, d3] => { results := [.lit (.bool false)], args := [d1, d2, d3] }
  | _ => none }
def WindowGrowsWrongFalsely : Prop := windowGrowsRow.holds Try.pinned (OpenSpec.ofChange windowGrowsWrong)

/-- 'croftlaw23.TreeBuilds': WHATEVER THE INPUT: true; the input reads as it did. -/
def treeBuildsSpec : ChangeSpec := { name := "treeBuilds", fn := fun _ => fun
  | [d] => { results := [.lit (.bool true)], args := [d] }
  | _ => none }
def treeBuildsRow : OpenClaim := { program := "ytekaopahienmgaa", sum := "18c70eeb43c78d168829e30de167381b13b2fbb4c4bca1372e19ee5d3e303b82", func := "croft/croftlaw23.TreeBuilds", spec := "treeBuilds", unfollowed := true, recurses := true, apart := false }
def TreeBuildsSaid : Prop := treeBuildsRow.holds Try.pinned (OpenSpec.ofChange treeBuildsSpec)

/-- ITS FALSE NEIGHBOUR: 'it returns false'. Refute it at one input. -/
def treeBuildsWrong : ChangeSpec := { name := "treeBuilds", fn := fun _ => fun
  | [d] => { results := [.lit (.bool false)], args := [d] }
  | _ => none }
def TreeBuildsWrongFalsely : Prop := treeBuildsRow.holds Try.pinned (OpenSpec.ofChange treeBuildsWrong)

/-- 'croftlaw23.TreeRuns': WHATEVER THE INPUT: true; the input reads as it did. -/
def treeRunsSpec : ChangeSpec := { name := "treeRuns", fn := fun _ => fun
  | [d] => { results := [.lit (.bool true)], args := [d] }
  | _ => none }
def treeRunsRow : OpenClaim := { program := "ytekaopahienmgaa", sum := "18c70eeb43c78d168829e30de167381b13b2fbb4c4bca1372e19ee5d3e303b82", func := "croft/croftlaw23.TreeRuns", spec := "treeRuns", unfollowed := true, recurses := true, apart := false }
def TreeRunsSaid : Prop := treeRunsRow.holds Try.pinned (OpenSpec.ofChange treeRunsSpec)

/-- ITS FALSE NEIGHBOUR: 'it returns false'. Refute it at one input. -/
def treeRunsWrong : ChangeSpec := { name := "treeRuns", fn := fun _ => fun
  | [d] => { results := [.lit (.bool false)], args := [d] }
  | _ => none }
def TreeRunsWrongFalsely : Prop := treeRunsRow.holds Try.pinned (OpenSpec.ofChange treeRunsWrong)

/-- 'croftlaw23.TreeKeeps': WHATEVER THE INPUT: true; the input reads as it did. -/
def treeKeepsSpec : ChangeSpec := { name := "treeKeeps", fn := fun _ => fun
  | [d1, d2] => { results := [.lit (.bool true)], args := [d1, d2] }
  | _ => none }
def treeKeepsRow : OpenClaim := { program := "ytekaopahienmgaa", sum := "18c70eeb43c78d168829e30de167381b13b2fbb4c4bca1372e19ee5d3e303b82", func := "croft/croftlaw23.TreeKeeps", spec := "treeKeeps", unfollowed := true, recurses := true, apart := false }
def TreeKeepsSaid : Prop := treeKeepsRow.holds Try.pinned (OpenSpec.ofChange treeKeepsSpec)

/-- ITS FALSE NEIGHBOUR: 'it returns false'. Refute it at one input. -/
def treeKeepsWrong : ChangeSpec := { name := "treeKeeps", fn := fun _ => fun
  | [d1, d2] => { results := [.lit (.bool false)], args := [d1, d2] }
  | _ => none }
def TreeKeepsWrongFalsely : Prop := treeKeepsRow.holds Try.pinned (OpenSpec.ofChange treeKeepsWrong)

/-- 'croftlaw23.TreeNone': WHATEVER THE INPUT: true; the input reads as it did. -/
def treeNoneSpec : ChangeSpec := { name := "treeNone", fn := fun _ => fun
  | [d1, d2] => { results := [.lit (.bool true)], args := [d1, d2] }
  | _ => none }
def treeNoneRow : OpenClaim := { program := "ytekaopahienmgaa", sum := "18c70eeb43c78d168829e30de167381b13b2fbb4c4bca1372e19ee5d3e303b82", func := "croft/croftlaw23.TreeNone", spec := "treeNone", unfollowed := true, recurses := true, apart := false }
def TreeNoneSaid : Prop := treeNoneRow.holds Try.pinned (OpenSpec.ofChange treeNoneSpec)

/-- ITS FALSE NEIGHBOUR: 'it returns false'. Refute it at one input. -/
def treeNoneWrong : ChangeSpec := { name := "treeNone", fn := fun _ => fun
  | [d1, d2] => { results := [.lit (.bool false)], args := [d1, d2] }
  | _ => none }
def TreeNoneWrongFalsely : Prop := treeNoneRow.holds Try.pinned (OpenSpec.ofChange treeNoneWrong)

/-- 'croftlaw23.TreeBack': WHATEVER THE INPUT: true; the input reads as it did. -/
def treeBackSpec : ChangeSpec := { name := "treeBack", fn := fun _ => fun
  | [d1, d2] => { results := [.lit (.bool true)], args := [d1, d2] }
  | _ => none }
def treeBackRow : OpenClaim := { program := "ytekaopahienmgaa", sum := "18c70eeb43c78d168829e30de167381b13b2fbb4c4bca1372e19ee5d3e303b82", func := "croft/croftlaw23.TreeBack", spec := "treeBack", unfollowed := true, recurses := true, apart := false }
def TreeBackSaid : Prop := treeBackRow.holds Try.pinned (OpenSpec.ofChange treeBackSpec)

/-- ITS FALSE NEIGHBOUR: 'it returns false'. Refute it at one input. -/
def treeBackWrong : ChangeSpec := { name := "treeBack", fn := fun _ => fun
  | [d1, d2] => { results := [.lit (.bool false)], args := [d1, d2] }
  | _ => none }
def TreeBackWrongFalsely : Prop := treeBackRow.holds Try.pinned (OpenSpec.ofChange treeBackWrong)

/-- 'croftlaw26.VerifyTakes': WHATEVER THE INPUT: true; the input reads as it did. -/
def verifyTakesSpec : ChangeSpec := { name := "verifyTakes", fn := fun _ => fun
  | [d] => { results := [.lit (.bool true)], args := [d] }
  | _ => none }
def verifyTakesRow : OpenClaim := { program := "ytekaopahienmgaa", sum := "18c70eeb43c78d168829e30de167381b13b2fbb4c4bca1372e19ee5d3e303b82", func := "croft/croftlaw26.VerifyTakes", spec := "verifyTakes", unfollowed := true, recurses := true, apart := false }
def VerifyTakesSaid : Prop := verifyTakesRow.holds Try.pinned (OpenSpec.ofChange verifyTakesSpec)

/-- ITS FALSE NEIGHBOUR: 'it returns false'. Refute it at one input. -/
def verifyTakesWrong : ChangeSpec := { name := "verifyTakes", fn := fun _ => fun
  | [d] => { results := [.lit (.bool false)], args := [d] }
  | _ => none }
def VerifyTakesWrongFalsely : Prop := verifyTakesRow.holds Try.pinned (OpenSpec.ofChange verifyTakesWrong)

/-- 'croftlaw26.VerifyRefuses': WHATEVER THE INPUT: true; the input reads as it did. -/
def verifyRefusesSpec : ChangeSpec := { name := "verifyRefuses", fn := fun _ => fun
  | [d1, d2, d3, d4] => { results := [.lit (.bool true)], args := [d1, d2, d3, d4] }
  | _ => none }
def verifyRefusesRow : OpenClaim := { program := "ytekaopahienmgaa", sum := "18c70eeb43c78d168829e30de167381b13b2fbb4c4bca1372e19ee5d3e303b82", func := "croft/croftlaw26.VerifyRefuses", spec := "verifyRefuses", unfollowed := true, recurses := true, apart := false }
def VerifyRefusesSaid : Prop := verifyRefusesRow.holds Try.pinned (OpenSpec.ofChange verifyRefusesSpec)

/-- ITS FALSE NEIGHBOUR: 'it returns false'. Refute it at one input. -/
def verifyRefusesWrong : ChangeSpec := { name := "verifyRefuses", fn := fun _ => fun
  | [d1, d2, d3, d4] => { results := [.lit (.bool false)], args := [d1, d2, d3, d4] }
  | _ => none }
def VerifyRefusesWrongFalsely : Prop := verifyRefusesRow.holds Try.pinned (OpenSpec.ofChange verifyRefusesWrong)

/-- 'croftlaw26.VerifyHolds': WHATEVER THE INPUT: true; the input reads as it did. -/
def verifyHoldsSpec : ChangeSpec := { name := "verifyHolds", fn := fun _ => fun
  | [d1, d2, d3, d4] => { results := [.lit (.bool true)], args := [d1, d2, d3, d4] }
  | _ => none }
def verifyHoldsRow : OpenClaim := { program := "ytekaopahienmgaa", sum := "18c70eeb43c78d168829e30de167381b13b2fbb4c4bca1372e19ee5d3e303b82", func := "croft/croftlaw26.VerifyHolds", spec := "verifyHolds", unfollowed := true, recurses := true, apart := false }
def VerifyHoldsSaid : Prop := verifyHoldsRow.holds Try.pinned (OpenSpec.ofChange verifyHoldsSpec)

/-- ITS FALSE NEIGHBOUR: 'it returns false'. Refute it at one input. -/
def verifyHoldsWrong : ChangeSpec := { name := "verifyHolds", fn := fun _ => fun
  | [d1, d2, d3, d4] => { results := [.lit (.bool false)], args := [d1, d2, d3, d4] }
  | _ => none }
def VerifyHoldsWrongFalsely : Prop := verifyHoldsRow.holds Try.pinned (OpenSpec.ofChange verifyHoldsWrong)

/- THE SECOND FORM. 'bulk': how many values and letters a reading holds, each counted each time it is reached (what is shared counts as often as it is met; a slice's spare places count too). A statement '..UptoSaid' is the law's where the arguments, and the package variables that the reading takes, are together of bulk at most 1048576: NARROWER than '..Said'. Prove '..Said' where nothing that the law and all that it calls make is longer than what came in: it says more and counts as full. Else prove '..UptoSaid'. A law counts once. -/
mutual
def uptoBulk {H : Type} : DataW H → Nat
  | .lit (.string bytes) => bytes.length + 1
  | .lit _ => 1
  | .nil => 1
  | .ptr d => uptoBulk d + 1
  | .slice elems spare => uptoBulkAll elems + uptoBulkAll spare + 1
  | .agg parts => uptoBulkAll parts + 1
  | .iface _ d => uptoBulk d + 1
  | .map entries => uptoBulkEntries entries + 1
  | .held _ => 1
def uptoBulkAll {H : Type} : List (DataW H) → Nat
  | [] => 0
  | d :: r => uptoBulk d + uptoBulkAll r
def uptoBulkEntries {H : Type} : List (Lit × DataW H) → Nat
  | [] => 0
  | x :: r => uptoBulkEntry x + uptoBulkEntries r
def uptoBulkEntry {H : Type} : Lit × DataW H → Nat
  | (.string bytes, d) => bytes.length + uptoBulk d + 1
  | (_, d) => uptoBulk d + 1
 end
def uptoSmall : (H : Type) → List (DataW H) → Bool := fun _ ds => decide (uptoBulkAll ds ≤ 1048576)
def OpenSpec.upto (s : _root_.Go.ChangeSpec) : _root_.Go.OpenSpec := { _root_.Go.OpenSpec.ofChange s with cond := some uptoSmall }

/-- 'croftlaw33.StatsGrids', WHERE WHAT IT READS IS OF BULK AT MOST 1048576: true; the input reads as it did. -/
def statsGridsUptoRow : OpenClaim := { program := "ytekaopahienmgaa", sum := "18c70eeb43c78d168829e30de167381b13b2fbb4c4bca1372e19ee5d3e303b82", func := "croft/croftlaw33.StatsGrids", spec := "statsGrids", recurses := true, apart := false, narrowed := true }
def StatsGridsUptoSaid : Prop := statsGridsUptoRow.holds Try.pinned (OpenSpec.upto statsGridsSpec)

/-- 'croftlaw33.StatsTells', WHERE WHAT IT READS IS OF BULK AT MOST 1048576: true; the input reads as it did. -/
def statsTellsUptoRow : OpenClaim := { program := "ytekaopahienmgaa", sum := "18c70eeb43c78d168829e30de167381b13b2fbb4c4bca1372e19ee5d3e303b82", func := "croft/croftlaw33.StatsTells", spec := "statsTells", unfollowed := true, recurses := true, apart := false, narrowed := true }
def StatsTellsUptoSaid : Prop := statsTellsUptoRow.holds Try.pinned (OpenSpec.upto statsTellsSpec)

/-- 'croftlaw33.StatsSums', WHERE WHAT IT READS IS OF BULK AT MOST 1048576: true; the input reads as it did. -/
def statsSumsUptoRow : OpenClaim := { program := "ytekaopahienmgaa", sum := "18c70eeb43c78d168829e30de167381b13b2fbb4c4bca1372e19ee5d3e303b82", func := "croft/croftlaw33.StatsSums", spec := "statsSums", unfollowed := true, recurses := true, apart := false, narrowed := true }
def StatsSumsUptoSaid : Prop := statsSumsUptoRow.holds Try.pinned (OpenSpec.upto statsSumsSpec)

/-- 'croftlaw24.WindowTells', WHERE WHAT IT READS IS OF BULK AT MOST 1048576: true; the input reads as it did. -/
def windowTellsUptoRow : OpenClaim := { program := "ytekaopahienmgaa", sum := "18c70eeb43c78d168829e30de167381b13b2fbb4c4bca1372e19ee5d3e303b82", func := "croft/croftlaw24.WindowTells", spec := "windowTells", unfollowed := true, recurses := true, apart := false, narrowed := true }
def WindowTellsUptoSaid : Prop := windowTellsUptoRow.holds Try.pinned (OpenSpec.upto windowTellsSpec)

/-- 'croftlaw24.WindowVisits', WHERE WHAT IT READS IS OF BULK AT MOST 1048576: true; the input reads as it did. -/
def windowVisitsUptoRow : OpenClaim := { program := "ytekaopahienmgaa", sum := "18c70eeb43c78d168829e30de167381b13b2fbb4c4bca1372e19ee5d3e303b82", func := "croft/croftlaw24.WindowVisits", spec := "windowVisits", unfollowed := true, recurses := true, apart := false, narrowed := true }
def WindowVisitsUptoSaid : Prop := windowVisitsUptoRow.holds Try.pinned (OpenSpec.upto windowVisitsSpec)

/-- 'croftlaw24.WindowCuts', WHERE WHAT IT READS IS OF BULK AT MOST 1048576: true; the input reads as it did. -/
def windowCutsUptoRow : OpenClaim := { program := "ytekaopahienmgaa", sum := "18c70eeb43c78d168829e30de167381b13b2fbb4c4bca1372e19ee5d3e303b82", func := "croft/croftlaw24.WindowCuts", spec := "windowCuts", unfollowed := true, recurses := true, apart := false, narrowed := true }
def WindowCutsUptoSaid : Prop := windowCutsUptoRow.holds Try.pinned (OpenSpec.upto windowCutsSpec)

/-- 'croftlaw24.WindowGrows', WHERE WHAT IT READS IS OF BULK AT MOST 1048576: true; the input reads as it did. -/
def windowGrowsUptoRow : OpenClaim := { program := "ytekaopahienmgaa", sum := "18c70eeb43c78d168829e30de167381b13b2fbb4c4bca1372e19ee5d3e303b82", func := "croft/croftlaw24.WindowGrows", spec := "windowGrows", unfollowed := true, recurses := true, apart := false, narrowed := true }
def WindowGrowsUptoSaid : Prop := windowGrowsUptoRow.holds Try.pinned (OpenSpec.upto windowGrowsSpec)

/-- 'croftlaw23.TreeBuilds', WHERE WHAT IT READS IS OF BULK AT MOST 1048576: true; the input reads as it did. -/
def treeBuildsUptoRow : OpenClaim := { program := "ytekaopahienmgaa", sum := "18c70eeb43c78d168829e30de167381b13b2fbb4c4bca1372e19ee5d3e303b82", func := "croft/croftlaw23.TreeBuilds", spec := "treeBuilds", unfollowed := true, recurses := true, apart := false, narrowed := true }
def TreeBuildsUptoSaid : Prop := treeBuildsUptoRow.holds Try.pinned (OpenSpec.upto treeBuildsSpec)

/-- 'croftlaw23.TreeRuns', WHERE WHAT IT READS IS OF BULK AT MOST 1048576: true; the input reads as it did. -/
def treeRunsUptoRow : OpenClaim := { program := "ytekaopahienmgaa", sum := "18c70eeb43c78d168829e30de167381b13b2fbb4c4bca1372e19ee5d3e303b82", func := "croft/croftlaw23.TreeRuns", spec := "treeRuns", unfollowed := true, recurses := true, apart := false, narrowed := true }
def TreeRunsUptoSaid : Prop := treeRunsUptoRow.holds Try.pinned (OpenSpec.upto treeRunsSpec)

/-- 'croftlaw23.TreeKeeps', WHERE WHAT IT READS IS OF BULK AT MOST 1048576: true; the input reads as it did. -/
def treeKeepsUptoRow : OpenClaim := { program := "ytekaopahienmgaa", sum := "18c70eeb43c78d168829e30de167381b13b2fbb4c4bca1372e19ee5d3e303b82", func := "croft/croftlaw23.TreeKeeps", spec := "treeKeeps", unfollowed := true, recurses := true, apart := false, narrowed := true }
def TreeKeepsUptoSaid : Prop := treeKeepsUptoRow.holds Try.pinned (OpenSpec.upto treeKeepsSpec)

/-- 'croftlaw23.TreeNone', WHERE WHAT IT READS IS OF BULK AT MOST 1048576: true; the input reads as it did. -/
def treeNoneUptoRow : OpenClaim := { program := "ytekaopahienmgaa", sum := "18c70eeb43c78d168829e30de167381b13b2fbb4c4bca1372e19ee5d3e303b82", func := "croft/croftlaw23.TreeNone", spec := "treeNone", unfollowed := true, recurses := true, apart := false, narrowed := true }
def TreeNoneUptoSaid : Prop := treeNoneUptoRow.holds Try.pinned (OpenSpec.upto treeNoneSpec)

/-- 'croftlaw23.TreeBack', WHERE WHAT IT READS IS OF BULK AT MOST 1048576: true; the input reads as it did. -/
def treeBackUptoRow : OpenClaim := { program := "ytekaopahienmgaa", sum := "18c70eeb43c78d168829e30de167381b13b2fbb4c4bca1372e19ee5d3e303b82", func := "croft/croftlaw23.TreeBack", spec := "treeBack", unfollowed := true, recurses := true, apart := false, narrowed := true }
def TreeBackUptoSaid : Prop := treeBackUptoRow.holds Try.pinned (OpenSpec.upto treeBackSpec)

/-- 'croftlaw26.VerifyTakes', WHERE WHAT IT READS IS OF BULK AT MOST 1048576: true; the input reads as it did. -/
def verifyTakesUptoRow : OpenClaim := { program := "ytekaopahienmgaa", sum := "18c70eeb43c78d168829e30de167381b13b2fbb4c4bca1372e19ee5d3e303b82", func := "croft/croftlaw26.VerifyTakes", spec := "verifyTakes", unfollowed := true, recurses := true, apart := false, narrowed := true }
def VerifyTakesUptoSaid : Prop := verifyTakesUptoRow.holds Try.pinned (OpenSpec.upto verifyTakesSpec)

/-- 'croftlaw26.VerifyRefuses', WHERE WHAT IT READS IS OF BULK AT MOST 1048576: true; the input reads as it did. -/
def verifyRefusesUptoRow : OpenClaim := { program := "ytekaopahienmgaa", sum := "18c70eeb43c78d168829e30de167381b13b2fbb4c4bca1372e19ee5d3e303b82", func := "croft/croftlaw26.VerifyRefuses", spec := "verifyRefuses", unfollowed := true, recurses := true, apart := false, narrowed := true }
def VerifyRefusesUptoSaid : Prop := verifyRefusesUptoRow.holds Try.pinned (OpenSpec.upto verifyRefusesSpec)

/-- 'croftlaw26.VerifyHolds', WHERE WHAT IT READS IS OF BULK AT MOST 1048576: true; the input reads as it did. -/
def verifyHoldsUptoRow : OpenClaim := { program := "ytekaopahienmgaa", sum := "18c70eeb43c78d168829e30de167381b13b2fbb4c4bca1372e19ee5d3e303b82", func := "croft/croftlaw26.VerifyHolds", spec := "verifyHolds", unfollowed := true, recurses := true, apart := false, narrowed := true }
def VerifyHoldsUptoSaid : Prop := verifyHoldsUptoRow.holds Try.pinned (OpenSpec.upto verifyHoldsSpec)

end Rows
end Go.Proofs.Ytekaopahienmgaa
