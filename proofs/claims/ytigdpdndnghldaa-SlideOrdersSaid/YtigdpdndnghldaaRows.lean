/-
  No cell of these rows narrows 'for every input' (looked for: loops, veiled, ifaces, maps, wideKeys, modest, calm, conditions, laid).
  DERIVED. THE GIVEN ROWS OF THIS SEAT. 12 by the template 'for every input the law returns true; each argument reads behind the call as it read before'; 0 by the template 'total and deterministic' (their statements: YtigdpdndnghldaaTotals.lean).
  GIVEN WITH THE SEED: the statements are not yours to turn. If you find one false, say at which input.
  Laid BY PROGRAM, IN A SANDBOX (cutbox-rows.mjs): the forced cells as the released guide's own fill.sh prints them over the translation 127938ac0e953b8a… (all of the seat's roots in one cut). By AI agents, Wed Nov 11 2026. No macro, syntax, notation, axiom, sorry.
-/
import Derived.Test.YtigdpdndnghldaaChecked
import GoSem.Claim
import GoSem.ClaimJoined
import GoSem.ClaimMapViews
import Derived.JoinedTies
import Derived.KernelRfl
namespace Go.Proofs.Ytigdpdndnghldaa
/- THE CELL 'sum', in the pinned program and in every row, IS THE sha256 OF THE DUMP (.gsa) THAT YtigdpdndnghldaaProg.lean LOADS. Nothing in Lean hashes anything: it is a label: what it is worth is what the hold of that sum in a sandbox is worth. -/
noncomputable def Try.pinned : Pinned := { name := "ytigdpdndnghldaa", sum := "127938ac0e953b8a649dc2bd0da34a820ced8bc3da4d6d5583504c07223bbed4", checked := Try.checked }
namespace Rows
def none {H : Type} : Left H := { results := [], args := [] }

/-- 'ragpickerkeep.MarkSwept': WHATEVER THE INPUT: true; the input reads as it did. -/
def markSweptSpec : ChangeSpec := { name := "markSwept", fn := fun _ => fun
  | [d] => { results := [.lit (.bool true)], args := [d] }
  | _ => none }
def markSweptRow : OpenClaim := { program := "ytigdpdndnghldaa", sum := "127938ac0e953b8a649dc2bd0da34a820ced8bc3da4d6d5583504c07223bbed4", func := "ragpicker/ragpickerkeep.MarkSwept", spec := "markSwept", unfollowed := true, recurses := true, apart := false }
def MarkSweptSaid : Prop := markSweptRow.holds Try.pinned (OpenSpec.ofChange markSweptSpec)

/-- ITS FALSE NEIGHBOUR: 'it returns false'. Refute it at one input. -/
def markSweptWrong : ChangeSpec := { name := "markSwept", fn := fun _ => fun
  | [d] => { results := [.lit (.bool false)], args := [d] }
  | _ => none }
def MarkSweptWrongFalsely : Prop := markSweptRow.holds Try.pinned (OpenSpec.ofChange markSweptWrong)

/-- 'ragpickerkeep.ArenaCovers': WHATEVER THE INPUT: true; the input reads as it did. -/
def arenaCoversSpec : ChangeSpec := { name := "arenaCovers", fn := fun _ => fun
  | [d] => { results := [.lit (.bool true)], args := [d] }
  | _ => none }
def arenaCoversRow : OpenClaim := { program := "ytigdpdndnghldaa", sum := "127938ac0e953b8a649dc2bd0da34a820ced8bc3da4d6d5583504c07223bbed4", func := "ragpicker/ragpickerkeep.ArenaCovers", spec := "arenaCovers", unfollowed := true, recurses := true, apart := false }
def ArenaCoversSaid : Prop := arenaCoversRow.holds Try.pinned (OpenSpec.ofChange arenaCoversSpec)

/-- ITS FALSE NEIGHBOUR: 'it returns false'. Refute it at one input. -/
def arenaCoversWrong : ChangeSpec := { name := "arenaCovers", fn := fun _ => fun
  | [d] => { results := [.lit (.bool false)], args := [d] }
  | _ => none }
def ArenaCoversWrongFalsely : Prop := arenaCoversRow.holds Try.pinned (OpenSpec.ofChange arenaCoversWrong)

/-- 'ragpickerkeep.ArenaBack': WHATEVER THE INPUT: true; the input reads as it did. -/
def arenaBackSpec : ChangeSpec := { name := "arenaBack", fn := fun _ => fun
  | [d] => { results := [.lit (.bool true)], args := [d] }
  | _ => none }
def arenaBackRow : OpenClaim := { program := "ytigdpdndnghldaa", sum := "127938ac0e953b8a649dc2bd0da34a820ced8bc3da4d6d5583504c07223bbed4", func := "ragpicker/ragpickerkeep.ArenaBack", spec := "arenaBack", unfollowed := true, recurses := true, apart := false }
def ArenaBackSaid : Prop := arenaBackRow.holds Try.pinned (OpenSpec.ofChange arenaBackSpec)

/-- ITS FALSE NEIGHBOUR: 'it returns false'. Refute it at one input. -/
def arenaBackWrong : ChangeSpec := { name := "arenaBack", fn := fun _ => fun
  | [d] => { results := [.lit (.bool false)], args := [d] }
  | _ => none }
def ArenaBackWrongFalsely : Prop := arenaBackRow.holds Try.pinned (OpenSpec.ofChange arenaBackWrong)

/-- 'ragpickerkeep.ArenaOnly': WHATEVER THE INPUT: true; the input reads as it did. -/
def arenaOnlySpec : ChangeSpec := { name := "arenaOnly", fn := fun _ => fun
  | [d] => { results := [.lit (.bool true)], args := [d] }
  | _ => none }
def arenaOnlyRow : OpenClaim := { program := "ytigdpdndnghldaa", sum := "127938ac0e953b8a649dc2bd0da34a820ced8bc3da4d6d5583504c07223bbed4", func := "ragpicker/ragpickerkeep.ArenaOnly", spec := "arenaOnly", unfollowed := true, recurses := true, apart := false }
def ArenaOnlySaid : Prop := arenaOnlyRow.holds Try.pinned (OpenSpec.ofChange arenaOnlySpec)

/-- ITS FALSE NEIGHBOUR: 'it returns false'. Refute it at one input. -/
def arenaOnlyWrong : ChangeSpec := { name := "arenaOnly", fn := fun _ => fun
  | [d] => { results := [.lit (.bool false)], args := [d] }
  | _ => none }
def ArenaOnlyWrongFalsely : Prop := arenaOnlyRow.holds Try.pinned (OpenSpec.ofChange arenaOnlyWrong)

/-- 'ragpickerkeep.MarkLives': WHATEVER THE INPUT: true; the input reads as it did. -/
def markLivesSpec : ChangeSpec := { name := "markLives", fn := fun _ => fun
  | [d] => { results := [.lit (.bool true)], args := [d] }
  | _ => none }
def markLivesRow : OpenClaim := { program := "ytigdpdndnghldaa", sum := "127938ac0e953b8a649dc2bd0da34a820ced8bc3da4d6d5583504c07223bbed4", func := "ragpicker/ragpickerkeep.MarkLives", spec := "markLives", unfollowed := true, recurses := true, apart := false }
def MarkLivesSaid : Prop := markLivesRow.holds Try.pinned (OpenSpec.ofChange markLivesSpec)

/-- ITS FALSE NEIGHBOUR: 'it returns false'. Refute it at one input. -/
def markLivesWrong : ChangeSpec := { name := "markLives", fn := fun _ => fun
  | [d] => { results := [.lit (.bool false)], args := [d] }
  | _ => none }
def MarkLivesWrongFalsely : Prop := markLivesRow.holds Try.pinned (OpenSpec.ofChange markLivesWrong)

/-- 'ragpickerkeep.MarkRoom': WHATEVER THE INPUT: true; the input reads as it did. -/
def markRoomSpec : ChangeSpec := { name := "markRoom", fn := fun _ => fun
  | [d1, d2, d3] => { results := [.lit (.bool true)], args := [d1, d2, d3] }
  | _ => none }
def markRoomRow : OpenClaim := { program := "ytigdpdndnghldaa", sum := "127938ac0e953b8a649dc2bd0da34a820ced8bc3da4d6d5583504c07223bbed4", func := "ragpicker/ragpickerkeep.MarkRoom", spec := "markRoom", unfollowed := true, recurses := true, apart := false }
def MarkRoomSaid : Prop := markRoomRow.holds Try.pinned (OpenSpec.ofChange markRoomSpec)

/-- ITS FALSE NEIGHBOUR: 'it returns false'. Refute it at one input. -/
def markRoomWrong : ChangeSpec := { name := "markRoom", fn := fun _ => fun
  | [d1, d2, d3] => { results := [.lit (.bool false)], args := [d1, d2, d3] }
  | _ => none }
def MarkRoomWrongFalsely : Prop := markRoomRow.holds Try.pinned (OpenSpec.ofChange markRoomWrong)

/-- 'ragpickerkeep.MarkTwice': WHATEVER THE INPUT: true; the input reads as it did. -/
def markTwiceSpec : ChangeSpec := { name := "markTwice", fn := fun _ => fun
  | [d1, d2] => { results := [.lit (.bool true)], args := [d1, d2] }
  | _ => none }
def markTwiceRow : OpenClaim := { program := "ytigdpdndnghldaa", sum := "127938ac0e953b8a649dc2bd0da34a820ced8bc3da4d6d5583504c07223bbed4", func := "ragpicker/ragpickerkeep.MarkTwice", spec := "markTwice", unfollowed := true, recurses := true, apart := false }
def MarkTwiceSaid : Prop := markTwiceRow.holds Try.pinned (OpenSpec.ofChange markTwiceSpec)

/-- ITS FALSE NEIGHBOUR: 'it returns false'. Refute it at one input. -/
def markTwiceWrong : ChangeSpec := { name := "markTwice", fn := fun _ => fun
  | [d1, d2] => { results := [.lit (.bool false)], args := [d1, d2] }
  | _ => none }
def MarkTwiceWrongFalsely : Prop := markTwiceRow.holds Try.pinned (OpenSpec.ofChange markTwiceWrong)

/-- 'ragpickerkeep.MoveCheney': WHATEVER THE INPUT: true; the input reads as it did. -/
def moveCheneySpec : ChangeSpec := { name := "moveCheney", fn := fun _ => fun
  | [d] => { results := [.lit (.bool true)], args := [d] }
  | _ => none }
def moveCheneyRow : OpenClaim := { program := "ytigdpdndnghldaa", sum := "127938ac0e953b8a649dc2bd0da34a820ced8bc3da4d6d5583504c07223bbed4", func := "ragpicker/ragpickerkeep.MoveCheney", spec := "moveCheney", unfollowed := true, recurses := true, apart := false }
def MoveCheneySaid : Prop := moveCheneyRow.holds Try.pinned (OpenSpec.ofChange moveCheneySpec)

/-- ITS FALSE NEIGHBOUR: 'it returns false'. Refute it at one input. -/
def moveCheneyWrong : ChangeSpec := { name := "moveCheney", fn := fun _ => fun
  | [d] => { results := [.lit (.bool false)], args := [d] }
  | _ => none }
def MoveCheneyWrongFalsely : Prop := moveCheneyRow.holds Try.pinned (OpenSpec.ofChange moveCheneyWrong)

/-- 'ragpickerkeep.MoveTwice': WHATEVER THE INPUT: true; the input reads as it did. -/
def moveTwiceSpec : ChangeSpec := { name := "moveTwice", fn := fun _ => fun
  | [d] => { results := [.lit (.bool true)], args := [d] }
  | _ => none }
def moveTwiceRow : OpenClaim := { program := "ytigdpdndnghldaa", sum := "127938ac0e953b8a649dc2bd0da34a820ced8bc3da4d6d5583504c07223bbed4", func := "ragpicker/ragpickerkeep.MoveTwice", spec := "moveTwice", unfollowed := true, recurses := true, apart := false }
def MoveTwiceSaid : Prop := moveTwiceRow.holds Try.pinned (OpenSpec.ofChange moveTwiceSpec)

/-- ITS FALSE NEIGHBOUR: 'it returns false'. Refute it at one input. -/
def moveTwiceWrong : ChangeSpec := { name := "moveTwice", fn := fun _ => fun
  | [d] => { results := [.lit (.bool false)], args := [d] }
  | _ => none }
def MoveTwiceWrongFalsely : Prop := moveTwiceRow.holds Try.pinned (OpenSpec.ofChange moveTwiceWrong)

/-- 'ragpickerkeep.SlideSame': WHATEVER THE INPUT: true; the input reads as it did. -/
def slideSameSpec : ChangeSpec := { name := "slideSame", fn := fun _ => fun
  | [d] => { results := [.lit (.bool true)], args := [d] }
  | _ => none }
def slideSameRow : OpenClaim := { program := "ytigdpdndnghldaa", sum := "127938ac0e953b8a649dc2bd0da34a820ced8bc3da4d6d5583504c07223bbed4", func := "ragpicker/ragpickerkeep.SlideSame", spec := "slideSame", unfollowed := true, recurses := true, apart := false }
def SlideSameSaid : Prop := slideSameRow.holds Try.pinned (OpenSpec.ofChange slideSameSpec)

/-- ITS FALSE NEIGHBOUR: 'it returns false'. Refute it at one input. -/
def slideSameWrong : ChangeSpec := { name := "slideSame", fn := fun _ => fun
  | [d] => { results := [.lit (.bool false)], args := [d] }
  | _ => none }
def SlideSameWrongFalsely : Prop := slideSameRow.holds Try.pinned (OpenSpec.ofChange slideSameWrong)

/-- 'ragpickerkeep.SlideOrders': WHATEVER THE INPUT: true; the input reads as it did. -/
def slideOrdersSpec : ChangeSpec := { name := "slideOrders", fn := fun _ => fun
  | [d] => { results := [.lit (.bool true)], args := [d] }
  | _ => none }
def slideOrdersRow : OpenClaim := { program := "ytigdpdndnghldaa", sum := "127938ac0e953b8a649dc2bd0da34a820ced8bc3da4d6d5583504c07223bbed4", func := "ragpicker/ragpickerkeep.SlideOrders", spec := "slideOrders", unfollowed := true, recurses := true, apart := false }
def SlideOrdersSaid : Prop := slideOrdersRow.holds Try.pinned (OpenSpec.ofChange slideOrdersSpec)

/-- ITS FALSE NEIGHBOUR: 'it returns false'. Refute it at one input. -/
def slideOrdersWrong : ChangeSpec := { name := "slideOrders", fn := fun _ => fun
  | [d] => { results := [.lit (.bool false)], args := [d] }
  | _ => none }
def SlideOrdersWrongFalsely : Prop := slideOrdersRow.holds Try.pinned (OpenSpec.ofChange slideOrdersWrong)

/-- 'ragpickerkeep.SlideMoves': WHATEVER THE INPUT: true; the input reads as it did. -/
def slideMovesSpec : ChangeSpec := { name := "slideMoves", fn := fun _ => fun
  | [d] => { results := [.lit (.bool true)], args := [d] }
  | _ => none }
def slideMovesRow : OpenClaim := { program := "ytigdpdndnghldaa", sum := "127938ac0e953b8a649dc2bd0da34a820ced8bc3da4d6d5583504c07223bbed4", func := "ragpicker/ragpickerkeep.SlideMoves", spec := "slideMoves", unfollowed := true, recurses := true, apart := false }
def SlideMovesSaid : Prop := slideMovesRow.holds Try.pinned (OpenSpec.ofChange slideMovesSpec)

/-- ITS FALSE NEIGHBOUR: 'it returns false'. Refute it at one input. -/
def slideMovesWrong : ChangeSpec := { name := "slideMoves", fn := fun _ => fun
  | [d] => { results := [.lit (.bool false)], args := [d] }
  | _ => none }
def SlideMovesWrongFalsely : Prop := slideMovesRow.holds Try.pinned (OpenSpec.ofChange slideMovesWrong)

/- THE SECOND FORM. 'bulk': how many values and letters a reading holds, each counted each time it is reached (what is shared counts as often as it is met; a slice's spare places count too). A statement '..UptoSaid' is the law's where the arguments, and the package variables that the reading takes, are together of bulk at most 1048576: NARROWER than '..Said'. Prove '..Said' where nothing that the law and all that it calls make is longer than what came in: it says more and counts as full. Else prove '..UptoSaid'. A law counts once. -/
mutual
def uptoBulk {H : Type} : DataW H → Nat
  | .lit (.string bytes) => bytes.length + 1
  | .lit _ => 1
  | .nil => 1
  | .ptr d => uptoBulk d + 1
  | .slice elems spare => uptoBulkAll elems + uptoBulkAll spare + 1
  | .agg parts => uptoBulkAll parts + 1
  | .iface _ d => uptoBulk d + 1
  | .map entries => uptoBulkEntries entries + 1
  | .held _ => 1
def uptoBulkAll {H : Type} : List (DataW H) → Nat
  | [] => 0
  | d :: r => uptoBulk d + uptoBulkAll r
def uptoBulkEntries {H : Type} : List (Lit × DataW H) → Nat
  | [] => 0
  | x :: r => uptoBulkEntry x + uptoBulkEntries r
def uptoBulkEntry {H : Type} : Lit × DataW H → Nat
  | (.string bytes, d) => bytes.length + uptoBulk d + 1
  | (_, d) => uptoBulk d + 1
 end
def uptoSmall : (H : Type) → List (DataW H) → Bool := fun _ ds => decide (uptoBulkAll ds ≤ 1048576)
def OpenSpec.upto (s : _root_.Go.ChangeSpec) : _root_.Go.OpenSpec := { _root_.Go.OpenSpec.ofChange s with cond := some uptoSmall }

/-- 'ragpickerkeep.MarkSwept', WHERE WHAT IT READS IS OF BULK AT MOST 1048576: true; the input reads as it did. -/
def markSweptUptoRow : OpenClaim := { program := "ytigdpdndnghldaa", sum := "127938ac0e953b8a649dc2bd0da34a820ced8bc3da4d6d5583504c07223bbed4", func := "ragpicker/ragpickerkeep.MarkSwept", spec := "markSwept", unfollowed := true, recurses := true, apart := false, narrowed := true }
def MarkSweptUptoSaid : Prop := markSweptUptoRow.holds Try.pinned (OpenSpec.upto markSweptSpec)

/-- 'ragpickerkeep.ArenaCovers', WHERE WHAT IT READS IS OF BULK AT MOST 1048576: true; the input reads as it did. -/
def arenaCoversUptoRow : OpenClaim := { program := "ytigdpdndnghldaa", sum := "127938ac0e953b8a649dc2bd0da34a820ced8bc3da4d6d5583504c07223bbed4", func := "ragpicker/ragpickerkeep.ArenaCovers", spec := "arenaCovers", unfollowed := true, recurses := true, apart := false, narrowed := true }
def ArenaCoversUptoSaid : Prop := arenaCoversUptoRow.holds Try.pinned (OpenSpec.upto arenaCoversSpec)

/-- 'ragpickerkeep.ArenaBack', WHERE WHAT IT READS IS OF BULK AT MOST 1048576: true; the input reads as it did. -/
def arenaBackUptoRow : OpenClaim := { program := "ytigdpdndnghldaa", sum := "127938ac0e953b8a649dc2bd0da34a820ced8bc3da4d6d5583504c07223bbed4", func := "ragpicker/ragpickerkeep.ArenaBack", spec := "arenaBack", unfollowed := true, recurses := true, apart := false, narrowed := true }
def ArenaBackUptoSaid : Prop := arenaBackUptoRow.holds Try.pinned (OpenSpec.upto arenaBackSpec)

/-- 'ragpickerkeep.ArenaOnly', WHERE WHAT IT READS IS OF BULK AT MOST 1048576: true; the input reads as it did. -/
def arenaOnlyUptoRow : OpenClaim := { program := "ytigdpdndnghldaa", sum := "127938ac0e953b8a649dc2bd0da34a820ced8bc3da4d6d5583504c07223bbed4", func := "ragpicker/ragpickerkeep.ArenaOnly", spec := "arenaOnly", unfollowed := true, recurses := true, apart := false, narrowed := true }
def ArenaOnlyUptoSaid : Prop := arenaOnlyUptoRow.holds Try.pinned (OpenSpec.upto arenaOnlySpec)

/-- 'ragpickerkeep.MarkLives', WHERE WHAT IT READS IS OF BULK AT MOST 1048576: true; the input reads as it did. -/
def markLivesUptoRow : OpenClaim := { program := "ytigdpdndnghldaa", sum := "127938ac0e953b8a649dc2bd0da34a820ced8bc3da4d6d5583504c07223bbed4", func := "ragpicker/ragpickerkeep.MarkLives", spec := "markLives", unfollowed := true, recurses := true, apart := false, narrowed := true }
def MarkLivesUptoSaid : Prop := markLivesUptoRow.holds Try.pinned (OpenSpec.upto markLivesSpec)

/-- 'ragpickerkeep.MarkRoom', WHERE WHAT IT READS IS OF BULK AT MOST 1048576: true; the input reads as it did. -/
def markRoomUptoRow : OpenClaim := { program := "ytigdpdndnghldaa", sum := "127938ac0e953b8a649dc2bd0da34a820ced8bc3da4d6d5583504c07223bbed4", func := "ragpicker/ragpickerkeep.MarkRoom", spec := "markRoom", unfollowed := true, recurses := true, apart := false, narrowed := true }
def MarkRoomUptoSaid : Prop := markRoomUptoRow.holds Try.pinned (OpenSpec.upto markRoomSpec)

/-- 'ragpickerkeep.MarkTwice', WHERE WHAT IT READS IS OF BULK AT MOST 1048576: true; the input reads as it did. -/
def markTwiceUptoRow : OpenClaim := { program := "ytigdpdndnghldaa", sum := "127938ac0e953b8a649dc2bd0da34a820ced8bc3da4d6d5583504c07223bbed4", func := "ragpicker/ragpickerkeep.MarkTwice", spec := "markTwice", unfollowed := true, recurses := true, apart := false, narrowed := true }
def MarkTwiceUptoSaid : Prop := markTwiceUptoRow.holds Try.pinned (OpenSpec.upto markTwiceSpec)

/-- 'ragpickerkeep.MoveCheney', WHERE WHAT IT READS IS OF BULK AT MOST 1048576: true; the input reads as it did. -/
def moveCheneyUptoRow : OpenClaim := { program := "ytigdpdndnghldaa", sum := "127938ac0e953b8a649dc2bd0da34a820ced8bc3da4d6d5583504c07223bbed4", func := "ragpicker/ragpickerkeep.MoveCheney", spec := "moveCheney", unfollowed := true, recurses := true, apart := false, narrowed := true }
def MoveCheneyUptoSaid : Prop := moveCheneyUptoRow.holds Try.pinned (OpenSpec.upto moveCheneySpec)

/-- 'ragpickerkeep.MoveTwice', WHERE WHAT IT READS IS OF BULK AT MOST 1048576: true; the input reads as it did. -/
def moveTwiceUptoRow : OpenClaim := { program := "ytigdpdndnghldaa", sum := "127938ac0e953b8a649dc2bd0da34a820ced8bc3da4d6d5583504c07223bbed4", func := "ragpicker/ragpickerkeep.MoveTwice", spec := "moveTwice", unfollowed := true, recurses := true, apart := false, narrowed := true }
def MoveTwiceUptoSaid : Prop := moveTwiceUptoRow.holds Try.pinned (OpenSpec.upto moveTwiceSpec)

/-- 'ragpickerkeep.SlideSame', WHERE WHAT IT READS IS OF BULK AT MOST 1048576: true; the input reads as it did. -/
def slideSameUptoRow : OpenClaim := { program := "ytigdpdndnghldaa", sum := "127938ac0e953b8a649dc2bd0da34a820ced8bc3da4d6d5583504c07223bbed4", func := "ragpicker/ragpickerkeep.SlideSame", spec := "slideSame", unfollowed := true, recurses := true, apart := false, narrowed := true }
def SlideSameUptoSaid : Prop := slideSameUptoRow.holds Try.pinned (OpenSpec.upto slideSameSpec)

/-- 'ragpickerkeep.SlideOrders', WHERE WHAT IT READS IS OF BULK AT MOST 1048576: true; the input reads as it did. -/
def slideOrdersUptoRow : OpenClaim := { program := "ytigdpdndnghldaa", sum := "127938ac0e953b8a649dc2bd0da34a820ced8bc3da4d6d5583504c07223bbed4", func := "ragpicker/ragpickerkeep.SlideOrders", spec := "slideOrders", unfollowed := true, recurses := true, apart := false, narrowed := true }
def SlideOrdersUptoSaid : Prop := slideOrdersUptoRow.holds Try.pinned (OpenSpec.upto slideOrdersSpec)

/-- 'ragpickerkeep.SlideMoves', WHERE WHAT IT READS IS OF BULK AT MOST 1048576: true; the input reads as it did. -/
def slideMovesUptoRow : OpenClaim := { program := "ytigdpdndnghldaa", sum := "127938ac0e953b8a649dc2bd0da34a820ced8bc3da4d6d5583504c07223bbed4", func := "ragpicker/ragpickerkeep.SlideMoves", spec := "slideMoves", unfollowed := true, recurses := true, apart := false, narrowed := true }
def SlideMovesUptoSaid : Prop := slideMovesUptoRow.holds Try.pinned (OpenSpec.upto slideMovesSpec)

end Rows
end Go.Proofs.Ytigdpdndnghldaa
