/-
  No cell of these rows narrows 'for every input' (looked for: loops, veiled, ifaces, maps, wideKeys, modest, calm, conditions, laid).
  DERIVED. THE GIVEN ROWS OF THIS SEAT. 9 by the template 'for every input the law returns true; each argument reads behind the call as it read before'; 0 by the template 'total and deterministic' (their statements: YtgdodbdipbomfaaTotals.lean).
  GIVEN WITH THE SEED: the statements are not yours to turn. If you find one false, say at which input.
  Laid BY PROGRAM, IN A SANDBOX (cutbox-rows.mjs): the forced cells as the released guide's own fill.sh prints them over the translation 6c9f45f502f64007… (all of the seat's roots in one cut). By AI agents, Wed Nov 11 2026. No macro, syntax, notation, axiom, sorry.
-/
import Derived.Test.YtgdodbdipbomfaaChecked
import GoSem.Claim
import GoSem.ClaimJoined
import GoSem.ClaimMapViews
import Derived.JoinedTies
import Derived.KernelRfl
namespace Go.Proofs.Ytgdodbdipbomfaa
/- THE CELL 'sum', in the pinned program and in every row, IS THE sha256 OF THE DUMP (.gsa) THAT YtgdodbdipbomfaaProg.lean LOADS. Nothing in Lean hashes anything: it is a label: what it is worth is what the hold of that sum in a sandbox is worth. -/
noncomputable def Try.pinned : Pinned := { name := "ytgdodbdipbomfaa", sum := "6c9f45f502f640075b5a3a06c2ddf7267b1a2a495cd1a79d8640a5c77d9d7b1d", checked := Try.checked }
namespace Rows
def none {H : Type} : Left H := { results := [], args := [] }

/-- 'ragpickerkeep.VisitOnce': WHATEVER THE INPUT: true; the input reads as it did. -/
def visitOnceSpec : ChangeSpec := { name := "visitOnce", fn := fun _ => fun
  | [d] => { results := [.lit (.bool true)], args := [d] }
  | _ => none }
def visitOnceRow : OpenClaim := { program := "ytgdodbdipbomfaa", sum := "6c9f45f502f640075b5a3a06c2ddf7267b1a2a495cd1a79d8640a5c77d9d7b1d", func := "ragpicker/ragpickerkeep.VisitOnce", spec := "visitOnce", unfollowed := true, recurses := true, apart := false }
def VisitOnceSaid : Prop := visitOnceRow.holds Try.pinned (OpenSpec.ofChange visitOnceSpec)

/-- ITS FALSE NEIGHBOUR: 'it returns false'. Refute it at one input. -/
def visitOnceWrong : ChangeSpec := { name := "visitOnce", fn := fun _ => fun
  | [d] => { results := [.lit (.bool false)], args := [d] }
  | _ => none }
def VisitOnceWrongFalsely : Prop := visitOnceRow.holds Try.pinned (OpenSpec.ofChange visitOnceWrong)

/-- 'ragpickerkeep.VisitRestores': WHATEVER THE INPUT: true; the input reads as it did. -/
def visitRestoresSpec : ChangeSpec := { name := "visitRestores", fn := fun _ => fun
  | [d] => { results := [.lit (.bool true)], args := [d] }
  | _ => none }
def visitRestoresRow : OpenClaim := { program := "ytgdodbdipbomfaa", sum := "6c9f45f502f640075b5a3a06c2ddf7267b1a2a495cd1a79d8640a5c77d9d7b1d", func := "ragpicker/ragpickerkeep.VisitRestores", spec := "visitRestores", unfollowed := true, recurses := true, apart := false }
def VisitRestoresSaid : Prop := visitRestoresRow.holds Try.pinned (OpenSpec.ofChange visitRestoresSpec)

/-- ITS FALSE NEIGHBOUR: 'it returns false'. Refute it at one input. -/
def visitRestoresWrong : ChangeSpec := { name := "visitRestores", fn := fun _ => fun
  | [d] => { results := [.lit (.bool false)], args := [d] }
  | _ => none }
def VisitRestoresWrongFalsely : Prop := visitRestoresRow.holds Try.pinned (OpenSpec.ofChange visitRestoresWrong)

/-- 'ragpickerkeep.FingersSame': WHATEVER THE INPUT: true; the input reads as it did. -/
def fingersSameSpec : ChangeSpec := { name := "fingersSame", fn := fun _ => fun
  | [d1, d2] => { results := [.lit (.bool true)], args := [d1, d2] }
  | _ => none }
def fingersSameRow : OpenClaim := { program := "ytgdodbdipbomfaa", sum := "6c9f45f502f640075b5a3a06c2ddf7267b1a2a495cd1a79d8640a5c77d9d7b1d", func := "ragpicker/ragpickerkeep.FingersSame", spec := "fingersSame", unfollowed := true, recurses := true, apart := false }
def FingersSameSaid : Prop := fingersSameRow.holds Try.pinned (OpenSpec.ofChange fingersSameSpec)

/-- ITS FALSE NEIGHBOUR: 'it returns false'. Refute it at one input. -/
def fingersSameWrong : ChangeSpec := { name := "fingersSame", fn := fun _ => fun
  | [d1, d2] => { results := [.lit (.bool false)], args := [d1, d2] }
  | _ => none }
def FingersSameWrongFalsely : Prop := fingersSameRow.holds Try.pinned (OpenSpec.ofChange fingersSameWrong)

/-- 'ragpickerkeep.FingersFew': WHATEVER THE INPUT: true; the input reads as it did. -/
def fingersFewSpec : ChangeSpec := { name := "fingersFew", fn := fun _ => fun
  | [d1, d2] => { results := [.lit (.bool true)], args := [d1, d2] }
  | _ => none }
def fingersFewRow : OpenClaim := { program := "ytgdodbdipbomfaa", sum := "6c9f45f502f640075b5a3a06c2ddf7267b1a2a495cd1a79d8640a5c77d9d7b1d", func := "ragpicker/ragpickerkeep.FingersFew", spec := "fingersFew", unfollowed := true, recurses := true, apart := false }
def FingersFewSaid : Prop := fingersFewRow.holds Try.pinned (OpenSpec.ofChange fingersFewSpec)

/-- ITS FALSE NEIGHBOUR: 'it returns false'. Refute it at one input. -/
def fingersFewWrong : ChangeSpec := { name := "fingersFew", fn := fun _ => fun
  | [d1, d2] => { results := [.lit (.bool false)], args := [d1, d2] }
  | _ => none }
def FingersFewWrongFalsely : Prop := fingersFewRow.holds Try.pinned (OpenSpec.ofChange fingersFewWrong)

/-- 'ragpickerkeep.ArenaBack': WHATEVER THE INPUT: true; the input reads as it did. -/
def arenaBackSpec : ChangeSpec := { name := "arenaBack", fn := fun _ => fun
  | [d] => { results := [.lit (.bool true)], args := [d] }
  | _ => none }
def arenaBackRow : OpenClaim := { program := "ytgdodbdipbomfaa", sum := "6c9f45f502f640075b5a3a06c2ddf7267b1a2a495cd1a79d8640a5c77d9d7b1d", func := "ragpicker/ragpickerkeep.ArenaBack", spec := "arenaBack", unfollowed := true, recurses := true, apart := false }
def ArenaBackSaid : Prop := arenaBackRow.holds Try.pinned (OpenSpec.ofChange arenaBackSpec)

/-- ITS FALSE NEIGHBOUR: 'it returns false'. Refute it at one input. -/
def arenaBackWrong : ChangeSpec := { name := "arenaBack", fn := fun _ => fun
  | [d] => { results := [.lit (.bool false)], args := [d] }
  | _ => none }
def ArenaBackWrongFalsely : Prop := arenaBackRow.holds Try.pinned (OpenSpec.ofChange arenaBackWrong)

/-- 'ragpickerkeep.ArenaOnly': WHATEVER THE INPUT: true; the input reads as it did. -/
def arenaOnlySpec : ChangeSpec := { name := "arenaOnly", fn := fun _ => fun
  | [d] => { results := [.lit (.bool true)], args := [d] }
  | _ => none }
def arenaOnlyRow : OpenClaim := { program := "ytgdodbdipbomfaa", sum := "6c9f45f502f640075b5a3a06c2ddf7267b1a2a495cd1a79d8640a5c77d9d7b1d", func := "ragpicker/ragpickerkeep.ArenaOnly", spec := "arenaOnly", unfollowed := true, recurses := true, apart := false }
def ArenaOnlySaid : Prop := arenaOnlyRow.holds Try.pinned (OpenSpec.ofChange arenaOnlySpec)

/-- ITS FALSE NEIGHBOUR: 'it returns false'. Refute it at one input. -/
def arenaOnlyWrong : ChangeSpec := { name := "arenaOnly", fn := fun _ => fun
  | [d] => { results := [.lit (.bool false)], args := [d] }
  | _ => none }
def ArenaOnlyWrongFalsely : Prop := arenaOnlyRow.holds Try.pinned (OpenSpec.ofChange arenaOnlyWrong)

/-- 'ragpickerkeep.ArenaCovers': WHATEVER THE INPUT: true; the input reads as it did. -/
def arenaCoversSpec : ChangeSpec := { name := "arenaCovers", fn := fun _ => fun
  | [d] => { results := [.lit (.bool true)], args := [d] }
  | _ => none }
def arenaCoversRow : OpenClaim := { program := "ytgdodbdipbomfaa", sum := "6c9f45f502f640075b5a3a06c2ddf7267b1a2a495cd1a79d8640a5c77d9d7b1d", func := "ragpicker/ragpickerkeep.ArenaCovers", spec := "arenaCovers", unfollowed := true, recurses := true, apart := false }
def ArenaCoversSaid : Prop := arenaCoversRow.holds Try.pinned (OpenSpec.ofChange arenaCoversSpec)

/-- ITS FALSE NEIGHBOUR: 'it returns false'. Refute it at one input. -/
def arenaCoversWrong : ChangeSpec := { name := "arenaCovers", fn := fun _ => fun
  | [d] => { results := [.lit (.bool false)], args := [d] }
  | _ => none }
def ArenaCoversWrongFalsely : Prop := arenaCoversRow.holds Try.pinned (OpenSpec.ofChange arenaCoversWrong)

/-- 'ragpickerkeep.MoveCheney': WHATEVER THE INPUT: true; the input reads as it did. -/
def moveCheneySpec : ChangeSpec := { name := "moveCheney", fn := fun _ => fun
  | [d] => { results := [.lit (.bool true)], args := [d] }
  | _ => none }
def moveCheneyRow : OpenClaim := { program := "ytgdodbdipbomfaa", sum := "6c9f45f502f640075b5a3a06c2ddf7267b1a2a495cd1a79d8640a5c77d9d7b1d", func := "ragpicker/ragpickerkeep.MoveCheney", spec := "moveCheney", unfollowed := true, recurses := true, apart := false }
def MoveCheneySaid : Prop := moveCheneyRow.holds Try.pinned (OpenSpec.ofChange moveCheneySpec)

/-- ITS FALSE NEIGHBOUR: 'it returns false'. Refute it at one input. -/
def moveCheneyWrong : ChangeSpec := { name := "moveCheney", fn := fun _ => fun
  | [d] => { results := [.lit (.bool false)], args := [d] }
  | _ => none }
def MoveCheneyWrongFalsely : Prop := moveCheneyRow.holds Try.pinned (OpenSpec.ofChange moveCheneyWrong)

/-- 'ragpickerkeep.MarkSwept': WHATEVER THE INPUT: true; the input reads as it did. -/
def markSweptSpec : ChangeSpec := { name := "markSwept", fn := fun _ => fun
  | [d] => { results := [.lit (.bool true)], args := [d] }
  | _ => none }
def markSweptRow : OpenClaim := { program := "ytgdodbdipbomfaa", sum := "6c9f45f502f640075b5a3a06c2ddf7267b1a2a495cd1a79d8640a5c77d9d7b1d", func := "ragpicker/ragpickerkeep.MarkSwept", spec := "markSwept", unfollowed := true, recurses := true, apart := false }
def MarkSweptSaid : Prop := markSweptRow.holds Try.pinned (OpenSpec.ofChange markSweptSpec)

/-- ITS FALSE NEIGHBOUR: 'it returns false'. Refute it at one input. -/
def markSweptWrong : ChangeSpec := { name := "markSwept", fn := fun _ => fun
  | [d] => { results := [.lit (.bool false)], args := [d] }
  | _ => none }
def MarkSweptWrongFalsely : Prop := markSweptRow.holds Try.pinned (OpenSpec.ofChange markSweptWrong)

/- THE SECOND FORM. 'bulk': how many values and letters a reading holds, each counted each time it is reached (what is shared counts as often as it is met; a slice's spare places count too). A statement '..UptoSaid' is the law's where the arguments, and the package variables that the reading takes, are together of bulk at most 1048576: NARROWER than '..Said'. Prove '..Said' where nothing that the law and all that it calls make is longer than what came in: it says more and counts as full. Else prove '..UptoSaid'. A law counts once. -/
mutual
def uptoBulk {H : Type} : DataW H → Nat
  | .lit (.string bytes) => bytes.length + 1
  | .lit _ => 1
  | .nil => 1
  | .ptr d => uptoBulk d + 1
  | .slice elems spare => uptoBulkAll elems + uptoBulkAll spare + 1
  | .agg parts => uptoBulkAll parts + 1
  | .iface _ d => uptoBulk d + 1
  | .map entries => uptoBulkEntries entries + 1
  | .held _ => 1
def uptoBulkAll {H : Type} : List (DataW H) → Nat
  | [] => 0
  | d :: r => uptoBulk d + uptoBulkAll r
def uptoBulkEntries {H : Type} : List (Lit × DataW H) → Nat
  | [] => 0
  | x :: r => uptoBulkEntry x + uptoBulkEntries r
def uptoBulkEntry {H : Type} : Lit × DataW H → Nat
  | (.string bytes, d) => bytes.length + uptoBulk d + 1
  | (_, d) => uptoBulk d + 1
 end
def uptoSmall : (H : Type) → List (DataW H) → Bool := fun _ ds => decide (uptoBulkAll ds ≤ 1048576)
def OpenSpec.upto (s : _root_.Go.ChangeSpec) : _root_.Go.OpenSpec := { _root_.Go.OpenSpec.ofChange s with cond := some uptoSmall }

/-- 'ragpickerkeep.VisitOnce', WHERE WHAT IT READS IS OF BULK AT MOST 1048576: true; the input reads as it did. -/
def visitOnceUptoRow : OpenClaim := { program := "ytgdodbdipbomfaa", sum := "6c9f45f502f640075b5a3a06c2ddf7267b1a2a495cd1a79d8640a5c77d9d7b1d", func := "ragpicker/ragpickerkeep.VisitOnce", spec := "visitOnce", unfollowed := true, recurses := true, apart := false, narrowed := true }
def VisitOnceUptoSaid : Prop := visitOnceUptoRow.holds Try.pinned (OpenSpec.upto visitOnceSpec)

/-- 'ragpickerkeep.VisitRestores', WHERE WHAT IT READS IS OF BULK AT MOST 1048576: true; the input reads as it did. -/
def visitRestoresUptoRow : OpenClaim := { program := "ytgdodbdipbomfaa", sum := "6c9f45f502f640075b5a3a06c2ddf7267b1a2a495cd1a79d8640a5c77d9d7b1d", func := "ragpicker/ragpickerkeep.VisitRestores", spec := "visitRestores", unfollowed := true, recurses := true, apart := false, narrowed := true }
def VisitRestoresUptoSaid : Prop := visitRestoresUptoRow.holds Try.pinned (OpenSpec.upto visitRestoresSpec)

/-- 'ragpickerkeep.FingersSame', WHERE WHAT IT READS IS OF BULK AT MOST 1048576: true; the input reads as it did. -/
def fingersSameUptoRow : OpenClaim := { program := "ytgdodbdipbomfaa", sum := "6c9f45f502f640075b5a3a06c2ddf7267b1a2a495cd1a79d8640a5c77d9d7b1d", func := "ragpicker/ragpickerkeep.FingersSame", spec := "fingersSame", unfollowed := true, recurses := true, apart := false, narrowed := true }
def FingersSameUptoSaid : Prop := fingersSameUptoRow.holds Try.pinned (OpenSpec.upto fingersSameSpec)

/-- 'ragpickerkeep.FingersFew', WHERE WHAT IT READS IS OF BULK AT MOST 1048576: true; the input reads as it did. -/
def fingersFewUptoRow : OpenClaim := { program := "ytgdodbdipbomfaa", sum := "6c9f45f502f640075b5a3a06c2ddf7267b1a2a495cd1a79d8640a5c77d9d7b1d", func := "ragpicker/ragpickerkeep.FingersFew", spec := "fingersFew", unfollowed := true, recurses := true, apart := false, narrowed := true }
def FingersFewUptoSaid : Prop := fingersFewUptoRow.holds Try.pinned (OpenSpec.upto fingersFewSpec)

/-- 'ragpickerkeep.ArenaBack', WHERE WHAT IT READS IS OF BULK AT MOST 1048576: true; the input reads as it did. -/
def arenaBackUptoRow : OpenClaim := { program := "ytgdodbdipbomfaa", sum := "6c9f45f502f640075b5a3a06c2ddf7267b1a2a495cd1a79d8640a5c77d9d7b1d", func := "ragpicker/ragpickerkeep.ArenaBack", spec := "arenaBack", unfollowed := true, recurses := true, apart := false, narrowed := true }
def ArenaBackUptoSaid : Prop := arenaBackUptoRow.holds Try.pinned (OpenSpec.upto arenaBackSpec)

/-- 'ragpickerkeep.ArenaOnly', WHERE WHAT IT READS IS OF BULK AT MOST 1048576: true; the input reads as it did. -/
def arenaOnlyUptoRow : OpenClaim := { program := "ytgdodbdipbomfaa", sum := "6c9f45f502f640075b5a3a06c2ddf7267b1a2a495cd1a79d8640a5c77d9d7b1d", func := "ragpicker/ragpickerkeep.ArenaOnly", spec := "arenaOnly", unfollowed := true, recurses := true, apart := false, narrowed := true }
def ArenaOnlyUptoSaid : Prop := arenaOnlyUptoRow.holds Try.pinned (OpenSpec.upto arenaOnlySpec)

/-- 'ragpickerkeep.ArenaCovers', WHERE WHAT IT READS IS OF BULK AT MOST 1048576: true; the input reads as it did. -/
def arenaCoversUptoRow : OpenClaim := { program := "ytgdodbdipbomfaa", sum := "6c9f45f502f640075b5a3a06c2ddf7267b1a2a495cd1a79d8640a5c77d9d7b1d", func := "ragpicker/ragpickerkeep.ArenaCovers", spec := "arenaCovers", unfollowed := true, recurses := true, apart := false, narrowed := true }
def ArenaCoversUptoSaid : Prop := arenaCoversUptoRow.holds Try.pinned (OpenSpec.upto arenaCoversSpec)

/-- 'ragpickerkeep.MoveCheney', WHERE WHAT IT READS IS OF BULK AT MOST 1048576: true; the input reads as it did. -/
def moveCheneyUptoRow : OpenClaim := { program := "ytgdodbdipbomfaa", sum := "6c9f45f502f640075b5a3a06c2ddf7267b1a2a495cd1a79d8640a5c77d9d7b1d", func := "ragpicker/ragpickerkeep.MoveCheney", spec := "moveCheney", unfollowed := true, recurses := true, apart := false, narrowed := true }
def MoveCheneyUptoSaid : Prop := moveCheneyUptoRow.holds Try.pinned (OpenSpec.upto moveCheneySpec)

/-- 'ragpickerkeep.MarkSwept', WHERE WHAT IT READS IS OF BULK AT MOST 1048576: true; the input reads as it did. -/
def markSweptUptoRow : OpenClaim := { program := "ytgdodbdipbomfaa", sum := "6c9f45f502f640075b5a3a06c2ddf7267b1a2a495cd1a79d8640a5c77d9d7b1d", func := "ragpicker/ragpickerkeep.MarkSwept", spec := "markSwept", unfollowed := true, recurses := true, apart := false, narrowed := true }
def MarkSweptUptoSaid : Prop := markSweptUptoRow.holds Try.pinned (OpenSpec.upto markSweptSpec)

end Rows
end Go.Proofs.Ytgdodbdipbomfaa
