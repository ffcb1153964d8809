/-
  No cell of these rows narrows 'for every input' (looked for: loops, veiled, ifaces, maps, wideKeys, modest, calm, conditions, laid).
  DERIVED. THE GIVEN ROWS OF THIS SEAT. 12 by the template 'for every input the law returns true; each argument reads behind the call as it read before'; 0 by the template 'total and deterministic' (their statements: YtjeaaiklbefmmaaTotals.lean).
  GIVEN WITH THE SEED: the statements are not yours to turn. If you find one false, say at which input.
  Laid BY PROGRAM, IN A SANDBOX (cutbox-rows.mjs): the forced cells as the released guide's own fill.sh prints them over the translation 7d35ec00de9429e2… (all of the seat's roots in one cut). By AI agents, Wed Nov 11 2026. No macro, syntax, notation, axiom, sorry.
-/
import Derived.Test.YtjeaaiklbefmmaaChecked
import GoSem.Claim
import GoSem.ClaimJoined
import GoSem.ClaimMapViews
import Derived.JoinedTies
import Derived.KernelRfl
namespace Go.Proofs.Ytjeaaiklbefmmaa
/- THE CELL 'sum', in the pinned program and in every row, IS THE sha256 OF THE DUMP (.gsa) THAT YtjeaaiklbefmmaaProg.lean LOADS. Nothing in Lean hashes anything: it is a label: what it is worth is what the hold of that sum in a sandbox is worth. -/
noncomputable def Try.pinned : Pinned := { name := "ytjeaaiklbefmmaa", sum := "7d35ec00de9429e2b5e8f81c261a04eee52440bef0c265dcee8778d945e45e1a", checked := Try.checked }
namespace Rows
def none {H : Type} : Left H := { results := [], args := [] }

/-- 'ragpickerkeep.GraphSteps': WHATEVER THE INPUT: true; the input reads as it did. -/
def graphStepsSpec : ChangeSpec := { name := "graphSteps", fn := fun _ => fun
  | [d] => { results := [.lit (.bool true)], args := [d] }
  | _ => none }
def graphStepsRow : OpenClaim := { program := "ytjeaaiklbefmmaa", sum := "7d35ec00de9429e2b5e8f81c261a04eee52440bef0c265dcee8778d945e45e1a", func := "ragpicker/ragpickerkeep.GraphSteps", spec := "graphSteps", unfollowed := true, recurses := true, plainKeys := false, apart := false }
def GraphStepsSaid : Prop := graphStepsRow.holds Try.pinned (OpenSpec.ofChange graphStepsSpec)

/-- ITS FALSE NEIGHBOUR: 'it returns false'. Refute it at one input. -/
def graphStepsWrong : ChangeSpec := { name := "graphSteps", fn := fun _ => fun
  | [d] => { results := [.lit (.bool false)], args := [d] }
  | _ => none }
def GraphStepsWrongFalsely : Prop := graphStepsRow.holds Try.pinned (OpenSpec.ofChange graphStepsWrong)

/-- 'ragpickerkeep.PathLeast': WHATEVER THE INPUT: true; the input reads as it did. -/
def pathLeastSpec : ChangeSpec := { name := "pathLeast", fn := fun _ => fun
  | [d1, d2, d3] => { results := [.lit (.bool true)], args := [d1, d2, d3] }
  | _ => none }
def pathLeastRow : OpenClaim := { program := "ytjeaaiklbefmmaa", sum := "7d35ec00de9429e2b5e8f81c261a04eee52440bef0c265dcee8778d945e45e1a", func := "ragpicker/ragpickerkeep.PathLeast", spec := "pathLeast", unfollowed := true, recurses := true, plainKeys := false, apart := false }
def PathLeastSaid : Prop := pathLeastRow.holds Try.pinned (OpenSpec.ofChange pathLeastSpec)

/-- ITS FALSE NEIGHBOUR: 'it returns false'. Refute it at one input. -/
def pathLeastWrong : ChangeSpec := { name := "pathLeast", fn := fun _ => fun
  | [d1, d2, d3] => { results := [.lit (.bool false)], args := [d1, d2, d3] }
  | _ => none }
def PathLeastWrongFalsely : Prop := pathLeastRow.holds Try.pinned (OpenSpec.ofChange pathLeastWrong)

/-- 'ragpickerkeep.GraphWays': WHATEVER THE INPUT: true; the input reads as it did. -/
def graphWaysSpec : ChangeSpec := { name := "graphWays", fn := fun _ => fun
  | [d1, d2, d3, d4] => { results := [.lit (.bool true)], args := [d1, d2, d3, d4] }
  | _ => none }
def graphWaysRow : OpenClaim := { program := "ytjeaaiklbefmmaa", sum := "7d35ec00de9429e2b5e8f81c261a04eee52440bef0c265dcee8778d945e45e1a", func := "ragpicker/ragpickerkeep.GraphWays", spec := "graphWays", unfollowed := true, recurses := true, plainKeys := false, apart := false }
def GraphWaysSaid : Prop := graphWaysRow.holds Try.pinned (OpenSpec.ofChange graphWaysSpec)

/-- ITS FALSE NEIGHBOUR: 'it returns false'. Refute it at one input. -/
def graphWaysWrong : ChangeSpec := { name := "graphWays", fn := fun _ => fun
  | [d1, d2, d3, d4] => { results := [.lit (.bool false)], args := [d1, d2, d3, d4] }
  | _ => none }
def GraphWaysWrongFalsely : Prop := graphWaysRow.holds Try.pinned (OpenSpec.ofChange graphWaysWrong)

/-- 'ragpickerkeep.PathLeads': WHATEVER THE INPUT: true; the input reads as it did. -/
def pathLeadsSpec : ChangeSpec := { name := "pathLeads", fn := fun _ => fun
  | [d1, d2] => { results := [.lit (.bool true)], args := [d1, d2] }
  | _ => none }
def pathLeadsRow : OpenClaim := { program := "ytjeaaiklbefmmaa", sum := "7d35ec00de9429e2b5e8f81c261a04eee52440bef0c265dcee8778d945e45e1a", func := "ragpicker/ragpickerkeep.PathLeads", spec := "pathLeads", unfollowed := true, recurses := true, plainKeys := false, apart := false }
def PathLeadsSaid : Prop := pathLeadsRow.holds Try.pinned (OpenSpec.ofChange pathLeadsSpec)

/-- ITS FALSE NEIGHBOUR: 'it returns false'. Refute it at one input. -/
def pathLeadsWrong : ChangeSpec := { name := "pathLeads", fn := fun _ => fun
  | [d1, d2] => { results := [.lit (.bool false)], args := [d1, d2] }
  | _ => none }
def PathLeadsWrongFalsely : Prop := pathLeadsRow.holds Try.pinned (OpenSpec.ofChange pathLeadsWrong)

/-- 'ragpickerkeep.GraphRenamed': WHATEVER THE INPUT: true; the input reads as it did. -/
def graphRenamedSpec : ChangeSpec := { name := "graphRenamed", fn := fun _ => fun
  | [d1, d2] => { results := [.lit (.bool true)], args := [d1, d2] }
  | _ => none }
def graphRenamedRow : OpenClaim := { program := "ytjeaaiklbefmmaa", sum := "7d35ec00de9429e2b5e8f81c261a04eee52440bef0c265dcee8778d945e45e1a", func := "ragpicker/ragpickerkeep.GraphRenamed", spec := "graphRenamed", unfollowed := true, recurses := true, plainKeys := false, apart := false }
def GraphRenamedSaid : Prop := graphRenamedRow.holds Try.pinned (OpenSpec.ofChange graphRenamedSpec)

/-- ITS FALSE NEIGHBOUR: 'it returns false'. Refute it at one input. -/
def graphRenamedWrong : ChangeSpec := { name := "graphRenamed", fn := fun _ => fun
  | [d1, d2] => { results := [.lit (.bool false)], args := [d1, d2] }
  | _ => none }
def GraphRenamedWrongFalsely : Prop := graphRenamedRow.holds Try.pinned (OpenSpec.ofChange graphRenamedWrong)

/-- 'ragpickerkeep.GraphLike': WHATEVER THE INPUT: true; the input reads as it did. -/
def graphLikeSpec : ChangeSpec := { name := "graphLike", fn := fun _ => fun
  | [d1, d2, d3] => { results := [.lit (.bool true)], args := [d1, d2, d3] }
  | _ => none }
def graphLikeRow : OpenClaim := { program := "ytjeaaiklbefmmaa", sum := "7d35ec00de9429e2b5e8f81c261a04eee52440bef0c265dcee8778d945e45e1a", func := "ragpicker/ragpickerkeep.GraphLike", spec := "graphLike", unfollowed := true, recurses := true, plainKeys := false, apart := false }
def GraphLikeSaid : Prop := graphLikeRow.holds Try.pinned (OpenSpec.ofChange graphLikeSpec)

/-- ITS FALSE NEIGHBOUR: 'it returns false'. Refute it at one input. -/
def graphLikeWrong : ChangeSpec := { name := "graphLike", fn := fun _ => fun
  | [d1, d2, d3] => { results := [.lit (.bool false)], args := [d1, d2, d3] }
  | _ => none }
def GraphLikeWrongFalsely : Prop := graphLikeRow.holds Try.pinned (OpenSpec.ofChange graphLikeWrong)

/-- 'ragpickerkeep.GraphLeast': WHATEVER THE INPUT: true; the input reads as it did. -/
def graphLeastSpec : ChangeSpec := { name := "graphLeast", fn := fun _ => fun
  | [d1, d2] => { results := [.lit (.bool true)], args := [d1, d2] }
  | _ => none }
def graphLeastRow : OpenClaim := { program := "ytjeaaiklbefmmaa", sum := "7d35ec00de9429e2b5e8f81c261a04eee52440bef0c265dcee8778d945e45e1a", func := "ragpicker/ragpickerkeep.GraphLeast", spec := "graphLeast", unfollowed := true, recurses := true, plainKeys := false, apart := false }
def GraphLeastSaid : Prop := graphLeastRow.holds Try.pinned (OpenSpec.ofChange graphLeastSpec)

/-- ITS FALSE NEIGHBOUR: 'it returns false'. Refute it at one input. -/
def graphLeastWrong : ChangeSpec := { name := "graphLeast", fn := fun _ => fun
  | [d1, d2] => { results := [.lit (.bool false)], args := [d1, d2] }
  | _ => none }
def GraphLeastWrongFalsely : Prop := graphLeastRow.holds Try.pinned (OpenSpec.ofChange graphLeastWrong)

/-- 'ragpickerkeep.GraphTwice': WHATEVER THE INPUT: true; the input reads as it did. -/
def graphTwiceSpec : ChangeSpec := { name := "graphTwice", fn := fun _ => fun
  | [d] => { results := [.lit (.bool true)], args := [d] }
  | _ => none }
def graphTwiceRow : OpenClaim := { program := "ytjeaaiklbefmmaa", sum := "7d35ec00de9429e2b5e8f81c261a04eee52440bef0c265dcee8778d945e45e1a", func := "ragpicker/ragpickerkeep.GraphTwice", spec := "graphTwice", unfollowed := true, recurses := true, plainKeys := false, apart := false }
def GraphTwiceSaid : Prop := graphTwiceRow.holds Try.pinned (OpenSpec.ofChange graphTwiceSpec)

/-- ITS FALSE NEIGHBOUR: 'it returns false'. Refute it at one input. -/
def graphTwiceWrong : ChangeSpec := { name := "graphTwice", fn := fun _ => fun
  | [d] => { results := [.lit (.bool false)], args := [d] }
  | _ => none }
def GraphTwiceWrongFalsely : Prop := graphTwiceRow.holds Try.pinned (OpenSpec.ofChange graphTwiceWrong)

/-- 'ragpickerkeep.DualSolves': WHATEVER THE INPUT: true; the input reads as it did. -/
def dualSolvesSpec : ChangeSpec := { name := "dualSolves", fn := fun _ => fun
  | [d1, d2] => { results := [.lit (.bool true)], args := [d1, d2] }
  | _ => none }
def dualSolvesRow : OpenClaim := { program := "ytjeaaiklbefmmaa", sum := "7d35ec00de9429e2b5e8f81c261a04eee52440bef0c265dcee8778d945e45e1a", func := "ragpicker/ragpickerkeep.DualSolves", spec := "dualSolves", unfollowed := true, recurses := true, plainKeys := false, apart := false }
def DualSolvesSaid : Prop := dualSolvesRow.holds Try.pinned (OpenSpec.ofChange dualSolvesSpec)

/-- ITS FALSE NEIGHBOUR: 'it returns false'. Refute it at one input. -/
def dualSolvesWrong : ChangeSpec := { name := "dualSolves", fn := fun _ => fun
  | [d1, d2] => { results := [.lit (.bool false)], args := [d1, d2] }
  | _ => none }
def DualSolvesWrongFalsely : Prop := dualSolvesRow.holds Try.pinned (OpenSpec.ofChange dualSolvesWrong)

/-- 'ragpickerkeep.ShareMeans': WHATEVER THE INPUT: true; the input reads as it did. -/
def shareMeansSpec : ChangeSpec := { name := "shareMeans", fn := fun _ => fun
  | [d1, d2, d3, d4] => { results := [.lit (.bool true)], args := [d1, d2, d3, d4] }
  | _ => none }
def shareMeansRow : OpenClaim := { program := "ytjeaaiklbefmmaa", sum := "7d35ec00de9429e2b5e8f81c261a04eee52440bef0c265dcee8778d945e45e1a", func := "ragpicker/ragpickerkeep.ShareMeans", spec := "shareMeans", unfollowed := true, recurses := true, plainKeys := false, apart := false }
def ShareMeansSaid : Prop := shareMeansRow.holds Try.pinned (OpenSpec.ofChange shareMeansSpec)

/-- ITS FALSE NEIGHBOUR: 'it returns false'. Refute it at one input. -/
def shareMeansWrong : ChangeSpec := { name := "shareMeans", fn := fun _ => fun
  | [d1, d2, d3, d4] => { results := [.lit (.bool false)], args := [d1, d2, d3, d4] }
  | _ => none }
def ShareMeansWrongFalsely : Prop := shareMeansRow.holds Try.pinned (OpenSpec.ofChange shareMeansWrong)

/-- 'ragpickerkeep.ShareLike': WHATEVER THE INPUT: true; the input reads as it did. -/
def shareLikeSpec : ChangeSpec := { name := "shareLike", fn := fun _ => fun
  | [d1, d2, d3, d4] => { results := [.lit (.bool true)], args := [d1, d2, d3, d4] }
  | _ => none }
def shareLikeRow : OpenClaim := { program := "ytjeaaiklbefmmaa", sum := "7d35ec00de9429e2b5e8f81c261a04eee52440bef0c265dcee8778d945e45e1a", func := "ragpicker/ragpickerkeep.ShareLike", spec := "shareLike", unfollowed := true, recurses := true, plainKeys := false, apart := false }
def ShareLikeSaid : Prop := shareLikeRow.holds Try.pinned (OpenSpec.ofChange shareLikeSpec)

/-- ITS FALSE NEIGHBOUR: 'it returns false'. Refute it at one input. -/
def shareLikeWrong : ChangeSpec := { name := "shareLike", fn := fun _ => fun
  | [d1, d2, d3, d4] => { results := [.lit (.bool false)], args := [d1, d2, d3, d4] }
  | _ => none }
def ShareLikeWrongFalsely : Prop := shareLikeRow.holds Try.pinned (OpenSpec.ofChange shareLikeWrong)

/-- 'ragpickerkeep.ShareWays': WHATEVER THE INPUT: true; the input reads as it did. -/
def shareWaysSpec : ChangeSpec := { name := "shareWays", fn := fun _ => fun
  | [d1, d2, d3] => { results := [.lit (.bool true)], args := [d1, d2, d3] }
  | _ => none }
def shareWaysRow : OpenClaim := { program := "ytjeaaiklbefmmaa", sum := "7d35ec00de9429e2b5e8f81c261a04eee52440bef0c265dcee8778d945e45e1a", func := "ragpicker/ragpickerkeep.ShareWays", spec := "shareWays", unfollowed := true, recurses := true, plainKeys := false, apart := false }
def ShareWaysSaid : Prop := shareWaysRow.holds Try.pinned (OpenSpec.ofChange shareWaysSpec)

/-- ITS FALSE NEIGHBOUR: 'it returns false'. Refute it at one input. -/
def shareWaysWrong : ChangeSpec := { name := "shareWays", fn := fun _ => fun
  | [d1, d2, d3] => { results := [.lit (.bool false)], args := [d1, d2, d3] }
  | _ => none }
def ShareWaysWrongFalsely : Prop := shareWaysRow.holds Try.pinned (OpenSpec.ofChange shareWaysWrong)

/- THE SECOND FORM. 'bulk': how many values and letters a reading holds, each counted each time it is reached (what is shared counts as often as it is met; a slice's spare places count too). A statement '..UptoSaid' is the law's where the arguments, and the package variables that the reading takes, are together of bulk at most 1048576: NARROWER than '..Said'. Prove '..Said' where nothing that the law and all that it calls make is longer than what came in: it says more and counts as full. Else prove '..UptoSaid'. A law counts once. -/
mutual
def uptoBulk {H : Type} : DataW H → Nat
  | .lit (.string bytes) => bytes.length + 1
  | .lit _ => 1
  | .nil => 1
  | .ptr d => uptoBulk d + 1
  | .slice elems spare => uptoBulkAll elems + uptoBulkAll spare + 1
  | .agg parts => uptoBulkAll parts + 1
  | .iface _ d => uptoBulk d + 1
  | .map entries => uptoBulkEntries entries + 1
  | .held _ => 1
def uptoBulkAll {H : Type} : List (DataW H) → Nat
  | [] => 0
  | d :: r => uptoBulk d + uptoBulkAll r
def uptoBulkEntries {H : Type} : List (Lit × DataW H) → Nat
  | [] => 0
  | x :: r => uptoBulkEntry x + uptoBulkEntries r
def uptoBulkEntry {H : Type} : Lit × DataW H → Nat
  | (.string bytes, d) => bytes.length + uptoBulk d + 1
  | (_, d) => uptoBulk d + 1
 end
def uptoSmall : (H : Type) → List (DataW H) → Bool := fun _ ds => decide (uptoBulkAll ds ≤ 1048576)
def OpenSpec.upto (s : _root_.Go.ChangeSpec) : _root_.Go.OpenSpec := { _root_.Go.OpenSpec.ofChange s with cond := some uptoSmall }

/-- 'ragpickerkeep.GraphSteps', WHERE WHAT IT READS IS OF BULK AT MOST 1048576: true; the input reads as it did. -/
def graphStepsUptoRow : OpenClaim := { program := "ytjeaaiklbefmmaa", sum := "7d35ec00de9429e2b5e8f81c261a04eee52440bef0c265dcee8778d945e45e1a", func := "ragpicker/ragpickerkeep.GraphSteps", spec := "graphSteps", unfollowed := true, recurses := true, plainKeys := false, apart := false, narrowed := true }
def GraphStepsUptoSaid : Prop := graphStepsUptoRow.holds Try.pinned (OpenSpec.upto graphStepsSpec)

/-- 'ragpickerkeep.PathLeast', WHERE WHAT IT READS IS OF BULK AT MOST 1048576: true; the input reads as it did. -/
def pathLeastUptoRow : OpenClaim := { program := "ytjeaaiklbefmmaa", sum := "7d35ec00de9429e2b5e8f81c261a04eee52440bef0c265dcee8778d945e45e1a", func := "ragpicker/ragpickerkeep.PathLeast", spec := "pathLeast", unfollowed := true, recurses := true, plainKeys := false, apart := false, narrowed := true }
def PathLeastUptoSaid : Prop := pathLeastUptoRow.holds Try.pinned (OpenSpec.upto pathLeastSpec)

/-- 'ragpickerkeep.GraphWays', WHERE WHAT IT READS IS OF BULK AT MOST 1048576: true; the input reads as it did. -/
def graphWaysUptoRow : OpenClaim := { program := "ytjeaaiklbefmmaa", sum := "7d35ec00de9429e2b5e8f81c261a04eee52440bef0c265dcee8778d945e45e1a", func := "ragpicker/ragpickerkeep.GraphWays", spec := "graphWays", unfollowed := true, recurses := true, plainKeys := false, apart := false, narrowed := true }
def GraphWaysUptoSaid : Prop := graphWaysUptoRow.holds Try.pinned (OpenSpec.upto graphWaysSpec)

/-- 'ragpickerkeep.PathLeads', WHERE WHAT IT READS IS OF BULK AT MOST 1048576: true; the input reads as it did. -/
def pathLeadsUptoRow : OpenClaim := { program := "ytjeaaiklbefmmaa", sum := "7d35ec00de9429e2b5e8f81c261a04eee52440bef0c265dcee8778d945e45e1a", func := "ragpicker/ragpickerkeep.PathLeads", spec := "pathLeads", unfollowed := true, recurses := true, plainKeys := false, apart := false, narrowed := true }
def PathLeadsUptoSaid : Prop := pathLeadsUptoRow.holds Try.pinned (OpenSpec.upto pathLeadsSpec)

/-- 'ragpickerkeep.GraphRenamed', WHERE WHAT IT READS IS OF BULK AT MOST 1048576: true; the input reads as it did. -/
def graphRenamedUptoRow : OpenClaim := { program := "ytjeaaiklbefmmaa", sum := "7d35ec00de9429e2b5e8f81c261a04eee52440bef0c265dcee8778d945e45e1a", func := "ragpicker/ragpickerkeep.GraphRenamed", spec := "graphRenamed", unfollowed := true, recurses := true, plainKeys := false, apart := false, narrowed := true }
def GraphRenamedUptoSaid : Prop := graphRenamedUptoRow.holds Try.pinned (OpenSpec.upto graphRenamedSpec)

/-- 'ragpickerkeep.GraphLike', WHERE WHAT IT READS IS OF BULK AT MOST 1048576: true; the input reads as it did. -/
def graphLikeUptoRow : OpenClaim := { program := "ytjeaaiklbefmmaa", sum := "7d35ec00de9429e2b5e8f81c261a04eee52440bef0c265dcee8778d945e45e1a", func := "ragpicker/ragpickerkeep.GraphLike", spec := "graphLike", unfollowed := true, recurses := true, plainKeys := false, apart := false, narrowed := true }
def GraphLikeUptoSaid : Prop := graphLikeUptoRow.holds Try.pinned (OpenSpec.upto graphLikeSpec)

/-- 'ragpickerkeep.GraphLeast', WHERE WHAT IT READS IS OF BULK AT MOST 1048576: true; the input reads as it did. -/
def graphLeastUptoRow : OpenClaim := { program := "ytjeaaiklbefmmaa", sum := "7d35ec00de9429e2b5e8f81c261a04eee52440bef0c265dcee8778d945e45e1a", func := "ragpicker/ragpickerkeep.GraphLeast", spec := "graphLeast", unfollowed := true, recurses := true, plainKeys := false, apart := false, narrowed := true }
def GraphLeastUptoSaid : Prop := graphLeastUptoRow.holds Try.pinned (OpenSpec.upto graphLeastSpec)

/-- 'ragpickerkeep.GraphTwice', WHERE WHAT IT READS IS OF BULK AT MOST 1048576: true; the input reads as it did. -/
def graphTwiceUptoRow : OpenClaim := { program := "ytjeaaiklbefmmaa", sum := "7d35ec00de9429e2b5e8f81c261a04eee52440bef0c265dcee8778d945e45e1a", func := "ragpicker/ragpickerkeep.GraphTwice", spec := "graphTwice", unfollowed := true, recurses := true, plainKeys := false, apart := false, narrowed := true }
def GraphTwiceUptoSaid : Prop := graphTwiceUptoRow.holds Try.pinned (OpenSpec.upto graphTwiceSpec)

/-- 'ragpickerkeep.DualSolves', WHERE WHAT IT READS IS OF BULK AT MOST 1048576: true; the input reads as it did. -/
def dualSolvesUptoRow : OpenClaim := { program := "ytjeaaiklbefmmaa", sum := "7d35ec00de9429e2b5e8f81c261a04eee52440bef0c265dcee8778d945e45e1a", func := "ragpicker/ragpickerkeep.DualSolves", spec := "dualSolves", unfollowed := true, recurses := true, plainKeys := false, apart := false, narrowed := true }
def DualSolvesUptoSaid : Prop := dualSolvesUptoRow.holds Try.pinned (OpenSpec.upto dualSolvesSpec)

/-- 'ragpickerkeep.ShareMeans', WHERE WHAT IT READS IS OF BULK AT MOST 1048576: true; the input reads as it did. -/
def shareMeansUptoRow : OpenClaim := { program := "ytjeaaiklbefmmaa", sum := "7d35ec00de9429e2b5e8f81c261a04eee52440bef0c265dcee8778d945e45e1a", func := "ragpicker/ragpickerkeep.ShareMeans", spec := "shareMeans", unfollowed := true, recurses := true, plainKeys := false, apart := false, narrowed := true }
def ShareMeansUptoSaid : Prop := shareMeansUptoRow.holds Try.pinned (OpenSpec.upto shareMeansSpec)

/-- 'ragpickerkeep.ShareLike', WHERE WHAT IT READS IS OF BULK AT MOST 1048576: true; the input reads as it did. -/
def shareLikeUptoRow : OpenClaim := { program := "ytjeaaiklbefmmaa", sum := "7d35ec00de9429e2b5e8f81c261a04eee52440bef0c265dcee8778d945e45e1a", func := "ragpicker/ragpickerkeep.ShareLike", spec := "shareLike", unfollowed := true, recurses := true, plainKeys := false, apart := false, narrowed := true }
def ShareLikeUptoSaid : Prop := shareLikeUptoRow.holds Try.pinned (OpenSpec.upto shareLikeSpec)

/-- 'ragpickerkeep.ShareWays', WHERE WHAT IT READS IS OF BULK AT MOST 1048576: true; the input reads as it did. -/
def shareWaysUptoRow : OpenClaim := { program := "ytjeaaiklbefmmaa", sum := "7d35ec00de9429e2b5e8f81c261a04eee52440bef0c265dcee8778d945e45e1a", func := "ragpicker/ragpickerkeep.ShareWays", spec := "shareWays", unfollowed := true, recurses := true, plainKeys := false, apart := false, narrowed := true }
def ShareWaysUptoSaid : Prop := shareWaysUptoRow.holds Try.pinned (OpenSpec.upto shareWaysSpec)

end Rows
end Go.Proofs.Ytjeaaiklbefmmaa
