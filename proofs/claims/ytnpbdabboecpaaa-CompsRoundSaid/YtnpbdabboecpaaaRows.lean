/-
  No cell of these rows narrows 'for every input' (looked for: loops, veiled, ifaces, maps, wideKeys, modest, calm, conditions, laid).
  DERIVED. THE GIVEN ROWS OF THIS SEAT. 8 by the template 'for every input the law returns true; each argument reads behind the call as it read before'; 0 by the template 'total and deterministic' (their statements: YtnpbdabboecpaaaTotals.lean).
  GIVEN WITH THE SEED: the statements are not yours to turn. If you find one false, say at which input.
  Laid BY PROGRAM, IN A SANDBOX (cutbox-rows.mjs): the forced cells as the released guide's own fill.sh prints them over the translation a9d7489ce6dcd5d9… (all of the seat's roots in one cut). By AI agents, Wed Nov 11 2026. No macro, syntax, notation, axiom, sorry.
-/
import Derived.Test.YtnpbdabboecpaaaChecked
import GoSem.Claim
import GoSem.ClaimJoined
import GoSem.ClaimMapViews
import Derived.JoinedTies
import Derived.KernelRfl
namespace Go.Proofs.Ytnpbdabboecpaaa
/- THE CELL 'sum', in the pinned program and in every row, IS THE sha256 OF THE DUMP (.gsa) THAT YtnpbdabboecpaaaProg.lean LOADS. Nothing in Lean hashes anything: it is a label: what it is worth is what the hold of that sum in a sandbox is worth. -/
noncomputable def Try.pinned : Pinned := { name := "ytnpbdabboecpaaa", sum := "a9d7489ce6dcd5d9837537365e868cab5549864357d4691d004d5b6c3f697644", checked := Try.checked }
namespace Rows
def none {H : Type} : Left H := { results := [], args := [] }

/-- 'ragpickerkeep.DomTree': WHATEVER THE INPUT: true; the input reads as it did. -/
def domTreeSpec : ChangeSpec := { name := "domTree", fn := fun _ => fun
  | [d] => { results := [.lit (.bool true)], args := [d] }
  | _ => none }
def domTreeRow : OpenClaim := { program := "ytnpbdabboecpaaa", sum := "a9d7489ce6dcd5d9837537365e868cab5549864357d4691d004d5b6c3f697644", func := "ragpicker/ragpickerkeep.DomTree", spec := "domTree", unfollowed := true, recurses := true, apart := false }
def DomTreeSaid : Prop := domTreeRow.holds Try.pinned (OpenSpec.ofChange domTreeSpec)

/-- ITS FALSE NEIGHBOUR: 'it returns false'. Refute it at one input. -/
def domTreeWrong : ChangeSpec := { name := "domTree", fn := fun _ => fun
  | [d] => { results := [.lit (.bool false)], args := [d] }
  | _ => none }
def DomTreeWrongFalsely : Prop := domTreeRow.holds Try.pinned (OpenSpec.ofChange domTreeWrong)

/-- 'ragpickerkeep.DomCuts': WHATEVER THE INPUT: true; the input reads as it did. -/
def domCutsSpec : ChangeSpec := { name := "domCuts", fn := fun _ => fun
  | [d1, d2] => { results := [.lit (.bool true)], args := [d1, d2] }
  | _ => none }
def domCutsRow : OpenClaim := { program := "ytnpbdabboecpaaa", sum := "a9d7489ce6dcd5d9837537365e868cab5549864357d4691d004d5b6c3f697644", func := "ragpicker/ragpickerkeep.DomCuts", spec := "domCuts", unfollowed := true, recurses := true, apart := false }
def DomCutsSaid : Prop := domCutsRow.holds Try.pinned (OpenSpec.ofChange domCutsSpec)

/-- ITS FALSE NEIGHBOUR: 'it returns false'. Refute it at one input. -/
def domCutsWrong : ChangeSpec := { name := "domCuts", fn := fun _ => fun
  | [d1, d2] => { results := [.lit (.bool false)], args := [d1, d2] }
  | _ => none }
def DomCutsWrongFalsely : Prop := domCutsRow.holds Try.pinned (OpenSpec.ofChange domCutsWrong)

/-- 'ragpickerkeep.DomNested': WHATEVER THE INPUT: true; the input reads as it did. -/
def domNestedSpec : ChangeSpec := { name := "domNested", fn := fun _ => fun
  | [d1, d2, d3] => { results := [.lit (.bool true)], args := [d1, d2, d3] }
  | _ => none }
def domNestedRow : OpenClaim := { program := "ytnpbdabboecpaaa", sum := "a9d7489ce6dcd5d9837537365e868cab5549864357d4691d004d5b6c3f697644", func := "ragpicker/ragpickerkeep.DomNested", spec := "domNested", unfollowed := true, recurses := true, apart := false }
def DomNestedSaid : Prop := domNestedRow.holds Try.pinned (OpenSpec.ofChange domNestedSpec)

/-- ITS FALSE NEIGHBOUR: 'it returns false'. Refute it at one input. -/
def domNestedWrong : ChangeSpec := { name := "domNested", fn := fun _ => fun
  | [d1, d2, d3] => { results := [.lit (.bool false)], args := [d1, d2, d3] }
  | _ => none }
def DomNestedWrongFalsely : Prop := domNestedRow.holds Try.pinned (OpenSpec.ofChange domNestedWrong)

/-- 'ragpickerkeep.CompsMutual': WHATEVER THE INPUT: true; the input reads as it did. -/
def compsMutualSpec : ChangeSpec := { name := "compsMutual", fn := fun _ => fun
  | [d] => { results := [.lit (.bool true)], args := [d] }
  | _ => none }
def compsMutualRow : OpenClaim := { program := "ytnpbdabboecpaaa", sum := "a9d7489ce6dcd5d9837537365e868cab5549864357d4691d004d5b6c3f697644", func := "ragpicker/ragpickerkeep.CompsMutual", spec := "compsMutual", unfollowed := true, recurses := true, apart := false }
def CompsMutualSaid : Prop := compsMutualRow.holds Try.pinned (OpenSpec.ofChange compsMutualSpec)

/-- ITS FALSE NEIGHBOUR: 'it returns false'. Refute it at one input. -/
def compsMutualWrong : ChangeSpec := { name := "compsMutual", fn := fun _ => fun
  | [d] => { results := [.lit (.bool false)], args := [d] }
  | _ => none }
def CompsMutualWrongFalsely : Prop := compsMutualRow.holds Try.pinned (OpenSpec.ofChange compsMutualWrong)

/-- 'ragpickerkeep.CompsRound': WHATEVER THE INPUT: true; the input reads as it did. -/
def compsRoundSpec : ChangeSpec := { name := "compsRound", fn := fun _ => fun
  | [d] => { results := [.lit (.bool true)], args := [d] }
  | _ => none }
def compsRoundRow : OpenClaim := { program := "ytnpbdabboecpaaa", sum := "a9d7489ce6dcd5d9837537365e868cab5549864357d4691d004d5b6c3f697644", func := "ragpicker/ragpickerkeep.CompsRound", spec := "compsRound", unfollowed := true, recurses := true, apart := false }
def CompsRoundSaid : Prop := compsRoundRow.holds Try.pinned (OpenSpec.ofChange compsRoundSpec)

/-- ITS FALSE NEIGHBOUR: 'it returns false'. Refute it at one input. -/
def compsRoundWrong : ChangeSpec := { name := "compsRound", fn := fun _ => fun
  | [d] => { results := [.lit (.bool false)], args := [d] }
  | _ => none }
def CompsRoundWrongFalsely : Prop := compsRoundRow.holds Try.pinned (OpenSpec.ofChange compsRoundWrong)

/-- 'ragpickerkeep.LastSome': WHATEVER THE INPUT: true; the input reads as it did. -/
def lastSomeSpec : ChangeSpec := { name := "lastSome", fn := fun _ => fun
  | [d1, d2] => { results := [.lit (.bool true)], args := [d1, d2] }
  | _ => none }
def lastSomeRow : OpenClaim := { program := "ytnpbdabboecpaaa", sum := "a9d7489ce6dcd5d9837537365e868cab5549864357d4691d004d5b6c3f697644", func := "ragpicker/ragpickerkeep.LastSome", spec := "lastSome", unfollowed := true, recurses := true, apart := false }
def LastSomeSaid : Prop := lastSomeRow.holds Try.pinned (OpenSpec.ofChange lastSomeSpec)

/-- ITS FALSE NEIGHBOUR: 'it returns false'. Refute it at one input. -/
def lastSomeWrong : ChangeSpec := { name := "lastSome", fn := fun _ => fun
  | [d1, d2] => { results := [.lit (.bool false)], args := [d1, d2] }
  | _ => none }
def LastSomeWrongFalsely : Prop := lastSomeRow.holds Try.pinned (OpenSpec.ofChange lastSomeWrong)

/-- 'ragpickerkeep.DualTraces': WHATEVER THE INPUT: true; the input reads as it did. -/
def dualTracesSpec : ChangeSpec := { name := "dualTraces", fn := fun _ => fun
  | [d] => { results := [.lit (.bool true)], args := [d] }
  | _ => none }
def dualTracesRow : OpenClaim := { program := "ytnpbdabboecpaaa", sum := "a9d7489ce6dcd5d9837537365e868cab5549864357d4691d004d5b6c3f697644", func := "ragpicker/ragpickerkeep.DualTraces", spec := "dualTraces", unfollowed := true, recurses := true, apart := false }
def DualTracesSaid : Prop := dualTracesRow.holds Try.pinned (OpenSpec.ofChange dualTracesSpec)

/-- ITS FALSE NEIGHBOUR: 'it returns false'. Refute it at one input. -/
def dualTracesWrong : ChangeSpec := { name := "dualTraces", fn := fun _ => fun
  | [d] => { results := [.lit (.bool false)], args := [d] }
  | _ => none }
def DualTracesWrongFalsely : Prop := dualTracesRow.holds Try.pinned (OpenSpec.ofChange dualTracesWrong)

/-- 'ragpickerkeep.GraphSteps': WHATEVER THE INPUT: true; the input reads as it did. -/
def graphStepsSpec : ChangeSpec := { name := "graphSteps", fn := fun _ => fun
  | [d] => { results := [.lit (.bool true)], args := [d] }
  | _ => none }
def graphStepsRow : OpenClaim := { program := "ytnpbdabboecpaaa", sum := "a9d7489ce6dcd5d9837537365e868cab5549864357d4691d004d5b6c3f697644", func := "ragpicker/ragpickerkeep.GraphSteps", spec := "graphSteps", unfollowed := true, recurses := true, apart := false }
def GraphStepsSaid : Prop := graphStepsRow.holds Try.pinned (OpenSpec.ofChange graphStepsSpec)

/-- ITS FALSE NEIGHBOUR: 'it returns false'. Refute it at one input. -/
def graphStepsWrong : ChangeSpec := { name := "graphSteps", fn := fun _ => fun
  | [d] => { results := [.lit (.bool false)], args := [d] }
  | _ => none }
def GraphStepsWrongFalsely : Prop := graphStepsRow.holds Try.pinned (OpenSpec.ofChange graphStepsWrong)

/- THE SECOND FORM. 'bulk': how many values and letters a reading holds, each counted each time it is reached (what is shared counts as often as it is met; a slice's spare places count too). A statement '..UptoSaid' is the law's where the arguments, and the package variables that the reading takes, are together of bulk at most 1048576: NARROWER than '..Said'. Prove '..Said' where nothing that the law and all that it calls make is longer than what came in: it says more and counts as full. Else prove '..UptoSaid'. A law counts once. -/
mutual
def uptoBulk {H : Type} : DataW H → Nat
  | .lit (.string bytes) => bytes.length + 1
  | .lit _ => 1
  | .nil => 1
  | .ptr d => uptoBulk d + 1
  | .slice elems spare => uptoBulkAll elems + uptoBulkAll spare + 1
  | .agg parts => uptoBulkAll parts + 1
  | .iface _ d => uptoBulk d + 1
  | .map entries => uptoBulkEntries entries + 1
  | .held _ => 1
def uptoBulkAll {H : Type} : List (DataW H) → Nat
  | [] => 0
  | d :: r => uptoBulk d + uptoBulkAll r
def uptoBulkEntries {H : Type} : List (Lit × DataW H) → Nat
  | [] => 0
  | x :: r => uptoBulkEntry x + uptoBulkEntries r
def uptoBulkEntry {H : Type} : Lit × DataW H → Nat
  | (.string bytes, d) => bytes.length + uptoBulk d + 1
  | (_, d) => uptoBulk d + 1
 end
def uptoSmall : (H : Type) → List (DataW H) → Bool := fun _ ds => decide (uptoBulkAll ds ≤ 1048576)
def OpenSpec.upto (s : _root_.Go.ChangeSpec) : _root_.Go.OpenSpec := { _root_.Go.OpenSpec.ofChange s with cond := some uptoSmall }

/-- 'ragpickerkeep.DomTree', WHERE WHAT IT READS IS OF BULK AT MOST 1048576: true; the input reads as it did. -/
def domTreeUptoRow : OpenClaim := { program := "ytnpbdabboecpaaa", sum := "a9d7489ce6dcd5d9837537365e868cab5549864357d4691d004d5b6c3f697644", func := "ragpicker/ragpickerkeep.DomTree", spec := "domTree", unfollowed := true, recurses := true, apart := false, narrowed := true }
def DomTreeUptoSaid : Prop := domTreeUptoRow.holds Try.pinned (OpenSpec.upto domTreeSpec)

/-- 'ragpickerkeep.DomCuts', WHERE WHAT IT READS IS OF BULK AT MOST 1048576: true; the input reads as it did. -/
def domCutsUptoRow : OpenClaim := { program := "ytnpbdabboecpaaa", sum := "a9d7489ce6dcd5d9837537365e868cab5549864357d4691d004d5b6c3f697644", func := "ragpicker/ragpickerkeep.DomCuts", spec := "domCuts", unfollowed := true, recurses := true, apart := false, narrowed := true }
def DomCutsUptoSaid : Prop := domCutsUptoRow.holds Try.pinned (OpenSpec.upto domCutsSpec)

/-- 'ragpickerkeep.DomNested', WHERE WHAT IT READS IS OF BULK AT MOST 1048576: true; the input reads as it did. -/
def domNestedUptoRow : OpenClaim := { program := "ytnpbdabboecpaaa", sum := "a9d7489ce6dcd5d9837537365e868cab5549864357d4691d004d5b6c3f697644", func := "ragpicker/ragpickerkeep.DomNested", spec := "domNested", unfollowed := true, recurses := true, apart := false, narrowed := true }
def DomNestedUptoSaid : Prop := domNestedUptoRow.holds Try.pinned (OpenSpec.upto domNestedSpec)

/-- 'ragpickerkeep.CompsMutual', WHERE WHAT IT READS IS OF BULK AT MOST 1048576: true; the input reads as it did. -/
def compsMutualUptoRow : OpenClaim := { program := "ytnpbdabboecpaaa", sum := "a9d7489ce6dcd5d9837537365e868cab5549864357d4691d004d5b6c3f697644", func := "ragpicker/ragpickerkeep.CompsMutual", spec := "compsMutual", unfollowed := true, recurses := true, apart := false, narrowed := true }
def CompsMutualUptoSaid : Prop := compsMutualUptoRow.holds Try.pinned (OpenSpec.upto compsMutualSpec)

/-- 'ragpickerkeep.CompsRound', WHERE WHAT IT READS IS OF BULK AT MOST 1048576: true; the input reads as it did. -/
def compsRoundUptoRow : OpenClaim := { program := "ytnpbdabboecpaaa", sum := "a9d7489ce6dcd5d9837537365e868cab5549864357d4691d004d5b6c3f697644", func := "ragpicker/ragpickerkeep.CompsRound", spec := "compsRound", unfollowed := true, recurses := true, apart := false, narrowed := true }
def CompsRoundUptoSaid : Prop := compsRoundUptoRow.holds Try.pinned (OpenSpec.upto compsRoundSpec)

/-- 'ragpickerkeep.LastSome', WHERE WHAT IT READS IS OF BULK AT MOST 1048576: true; the input reads as it did. -/
def lastSomeUptoRow : OpenClaim := { program := "ytnpbdabboecpaaa", sum := "a9d7489ce6dcd5d9837537365e868cab5549864357d4691d004d5b6c3f697644", func := "ragpicker/ragpickerkeep.LastSome", spec := "lastSome", unfollowed := true, recurses := true, apart := false, narrowed := true }
def LastSomeUptoSaid : Prop := lastSomeUptoRow.holds Try.pinned (OpenSpec.upto lastSomeSpec)

/-- 'ragpickerkeep.DualTraces', WHERE WHAT IT READS IS OF BULK AT MOST 1048576: true; the input reads as it did. -/
def dualTracesUptoRow : OpenClaim := { program := "ytnpbdabboecpaaa", sum := "a9d7489ce6dcd5d9837537365e868cab5549864357d4691d004d5b6c3f697644", func := "ragpicker/ragpickerkeep.DualTraces", spec := "dualTraces", unfollowed := true, recurses := true, apart := false, narrowed := true }
def DualTracesUptoSaid : Prop := dualTracesUptoRow.holds Try.pinned (OpenSpec.upto dualTracesSpec)

/-- 'ragpickerkeep.GraphSteps', WHERE WHAT IT READS IS OF BULK AT MOST 1048576: true; the input reads as it did. -/
def graphStepsUptoRow : OpenClaim := { program := "ytnpbdabboecpaaa", sum := "a9d7489ce6dcd5d9837537365e868cab5549864357d4691d004d5b6c3f697644", func := "ragpicker/ragpickerkeep.GraphSteps", spec := "graphSteps", unfollowed := true, recurses := true, apart := false, narrowed := true }
def GraphStepsUptoSaid : Prop := graphStepsUptoRow.holds Try.pinned (OpenSpec.upto graphStepsSpec)

end Rows
end Go.Proofs.Ytnpbdabboecpaaa
