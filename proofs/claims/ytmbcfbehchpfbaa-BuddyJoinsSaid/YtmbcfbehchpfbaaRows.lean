/-
  No cell of these rows narrows 'for every input' (looked for: loops, veiled, ifaces, maps, wideKeys, modest, calm, conditions, laid).
  DERIVED. THE GIVEN ROWS OF THIS SEAT. 11 by the template 'for every input the law returns true; each argument reads behind the call as it read before'; 0 by the template 'total and deterministic' (their statements: YtmbcfbehchpfbaaTotals.lean).
  GIVEN WITH THE SEED: the statements are not yours to turn. If you find one false, say at which input.
  Laid BY PROGRAM, IN A SANDBOX (cutbox-rows.mjs): the forced cells as the released guide's own fill.sh prints them over the translation 93acd23836bde222… (all of the seat's roots in one cut). By AI agents, Wed Nov 11 2026. No macro, syntax, notation, axiom, sorry.
-/
import Derived.Test.YtmbcfbehchpfbaaChecked
import GoSem.Claim
import GoSem.ClaimJoined
import GoSem.ClaimMapViews
import Derived.JoinedTies
import Derived.KernelRfl
namespace Go.Proofs.Ytmbcfbehchpfbaa
/- THE CELL 'sum', in the pinned program and in every row, IS THE sha256 OF THE DUMP (.gsa) THAT YtmbcfbehchpfbaaProg.lean LOADS. Nothing in Lean hashes anything: it is a label: what it is worth is what the hold of that sum in a sandbox is worth. -/
noncomputable def Try.pinned : Pinned := { name := "ytmbcfbehchpfbaa", sum := "93acd23836bde22255a818f973078bb3e1b146158a82738a6ed6d7291bd435c6", checked := Try.checked }
namespace Rows
def none {H : Type} : Left H := { results := [], args := [] }

/-- 'ragpickerkeep.FreeApart': WHATEVER THE INPUT: true; the input reads as it did. -/
def freeApartSpec : ChangeSpec := { name := "freeApart", fn := fun _ => fun
  | [d1, d2, d3] => { results := [.lit (.bool true)], args := [d1, d2, d3] }
  | _ => none }
def freeApartRow : OpenClaim := { program := "ytmbcfbehchpfbaa", sum := "93acd23836bde22255a818f973078bb3e1b146158a82738a6ed6d7291bd435c6", func := "ragpicker/ragpickerkeep.FreeApart", spec := "freeApart", inPlace := ["slices.overlaps[ragpicker/api.Block]"], unfollowed := true, recurses := true, apart := false }
def FreeApartSaid : Prop := freeApartRow.holds Try.pinned (OpenSpec.ofChange freeApartSpec)

/-- ITS FALSE NEIGHBOUR: 'it returns false'. Refute it at one input. -/
def freeApartWrong : ChangeSpec := { name := "freeApart", fn := fun _ => fun
  | [d1, d2, d3] => { results := [.lit (.bool false)], args := [d1, d2, d3] }
  | _ => none }
def FreeApartWrongFalsely : Prop := freeApartRow.holds Try.pinned (OpenSpec.ofChange freeApartWrong)

/-- 'ragpickerkeep.FreeJoins': WHATEVER THE INPUT: true; the input reads as it did. -/
def freeJoinsSpec : ChangeSpec := { name := "freeJoins", fn := fun _ => fun
  | [d1, d2, d3] => { results := [.lit (.bool true)], args := [d1, d2, d3] }
  | _ => none }
def freeJoinsRow : OpenClaim := { program := "ytmbcfbehchpfbaa", sum := "93acd23836bde22255a818f973078bb3e1b146158a82738a6ed6d7291bd435c6", func := "ragpicker/ragpickerkeep.FreeJoins", spec := "freeJoins", inPlace := ["slices.overlaps[ragpicker/api.Block]"], unfollowed := true, recurses := true, apart := false }
def FreeJoinsSaid : Prop := freeJoinsRow.holds Try.pinned (OpenSpec.ofChange freeJoinsSpec)

/-- ITS FALSE NEIGHBOUR: 'it returns false'. Refute it at one input. -/
def freeJoinsWrong : ChangeSpec := { name := "freeJoins", fn := fun _ => fun
  | [d1, d2, d3] => { results := [.lit (.bool false)], args := [d1, d2, d3] }
  | _ => none }
def FreeJoinsWrongFalsely : Prop := freeJoinsRow.holds Try.pinned (OpenSpec.ofChange freeJoinsWrong)

/-- 'ragpickerkeep.FreeChooses': WHATEVER THE INPUT: true; the input reads as it did. -/
def freeChoosesSpec : ChangeSpec := { name := "freeChooses", fn := fun _ => fun
  | [d1, d2, d3, d4] => { results := [.lit (.bool true)], args := [d1, d2, d3, d4] }
  | _ => none }
def freeChoosesRow : OpenClaim := { program := "ytmbcfbehchpfbaa", sum := "93acd23836bde22255a818f973078bb3e1b146158a82738a6ed6d7291bd435c6", func := "ragpicker/ragpickerkeep.FreeChooses", spec := "freeChooses", inPlace := ["slices.overlaps[ragpicker/api.Block]"], unfollowed := true, recurses := true, apart := false }
def FreeChoosesSaid : Prop := freeChoosesRow.holds Try.pinned (OpenSpec.ofChange freeChoosesSpec)

/-- ITS FALSE NEIGHBOUR: 'it returns false'. Refute it at one input. -/
def freeChoosesWrong : ChangeSpec := { name := "freeChooses", fn := fun _ => fun
  | [d1, d2, d3, d4] => { results := [.lit (.bool false)], args := [d1, d2, d3, d4] }
  | _ => none }
def FreeChoosesWrongFalsely : Prop := freeChoosesRow.holds Try.pinned (OpenSpec.ofChange freeChoosesWrong)

/-- 'ragpickerkeep.FreeBack': WHATEVER THE INPUT: true; the input reads as it did. -/
def freeBackSpec : ChangeSpec := { name := "freeBack", fn := fun _ => fun
  | [d1, d2, d3, d4] => { results := [.lit (.bool true)], args := [d1, d2, d3, d4] }
  | _ => none }
def freeBackRow : OpenClaim := { program := "ytmbcfbehchpfbaa", sum := "93acd23836bde22255a818f973078bb3e1b146158a82738a6ed6d7291bd435c6", func := "ragpicker/ragpickerkeep.FreeBack", spec := "freeBack", inPlace := ["slices.overlaps[ragpicker/api.Block]"], unfollowed := true, recurses := true, apart := false }
def FreeBackSaid : Prop := freeBackRow.holds Try.pinned (OpenSpec.ofChange freeBackSpec)

/-- ITS FALSE NEIGHBOUR: 'it returns false'. Refute it at one input. -/
def freeBackWrong : ChangeSpec := { name := "freeBack", fn := fun _ => fun
  | [d1, d2, d3, d4] => { results := [.lit (.bool false)], args := [d1, d2, d3, d4] }
  | _ => none }
def FreeBackWrongFalsely : Prop := freeBackRow.holds Try.pinned (OpenSpec.ofChange freeBackWrong)

/-- 'ragpickerkeep.FreeFront': WHATEVER THE INPUT: true; the input reads as it did. -/
def freeFrontSpec : ChangeSpec := { name := "freeFront", fn := fun _ => fun
  | [d1, d2, d3, d4] => { results := [.lit (.bool true)], args := [d1, d2, d3, d4] }
  | _ => none }
def freeFrontRow : OpenClaim := { program := "ytmbcfbehchpfbaa", sum := "93acd23836bde22255a818f973078bb3e1b146158a82738a6ed6d7291bd435c6", func := "ragpicker/ragpickerkeep.FreeFront", spec := "freeFront", inPlace := ["slices.overlaps[ragpicker/api.Block]"], unfollowed := true, recurses := true, apart := false }
def FreeFrontSaid : Prop := freeFrontRow.holds Try.pinned (OpenSpec.ofChange freeFrontSpec)

/-- ITS FALSE NEIGHBOUR: 'it returns false'. Refute it at one input. -/
def freeFrontWrong : ChangeSpec := { name := "freeFront", fn := fun _ => fun
  | [d1, d2, d3, d4] => { results := [.lit (.bool false)], args := [d1, d2, d3, d4] }
  | _ => none }
def FreeFrontWrongFalsely : Prop := freeFrontRow.holds Try.pinned (OpenSpec.ofChange freeFrontWrong)

/-- 'ragpickerkeep.BuddyApart': WHATEVER THE INPUT: true; the input reads as it did. -/
def buddyApartSpec : ChangeSpec := { name := "buddyApart", fn := fun _ => fun
  | [d1, d2] => { results := [.lit (.bool true)], args := [d1, d2] }
  | _ => none }
def buddyApartRow : OpenClaim := { program := "ytmbcfbehchpfbaa", sum := "93acd23836bde22255a818f973078bb3e1b146158a82738a6ed6d7291bd435c6", func := "ragpicker/ragpickerkeep.BuddyApart", spec := "buddyApart", unfollowed := true, recurses := true, apart := false }
def BuddyApartSaid : Prop := buddyApartRow.holds Try.pinned (OpenSpec.ofChange buddyApartSpec)

/-- ITS FALSE NEIGHBOUR: 'it returns false'. Refute it at one input. -/
def buddyApartWrong : ChangeSpec := { name := "buddyApart", fn := fun _ => fun
  | [d1, d2] => { results := [.lit (.bool false)], args := [d1, d2] }
  | _ => none }
def BuddyApartWrongFalsely : Prop := buddyApartRow.holds Try.pinned (OpenSpec.ofChange buddyApartWrong)

/-- 'ragpickerkeep.BuddyJoins': WHATEVER THE INPUT: true; the input reads as it did. -/
def buddyJoinsSpec : ChangeSpec := { name := "buddyJoins", fn := fun _ => fun
  | [d1, d2] => { results := [.lit (.bool true)], args := [d1, d2] }
  | _ => none }
def buddyJoinsRow : OpenClaim := { program := "ytmbcfbehchpfbaa", sum := "93acd23836bde22255a818f973078bb3e1b146158a82738a6ed6d7291bd435c6", func := "ragpicker/ragpickerkeep.BuddyJoins", spec := "buddyJoins", unfollowed := true, recurses := true, apart := false }
def BuddyJoinsSaid : Prop := buddyJoinsRow.holds Try.pinned (OpenSpec.ofChange buddyJoinsSpec)

/-- ITS FALSE NEIGHBOUR: 'it returns false'. Refute it at one input. -/
def buddyJoinsWrong : ChangeSpec := { name := "buddyJoins", fn := fun _ => fun
  | [d1, d2] => { results := [.lit (.bool false)], args := [d1, d2] }
  | _ => none }
def BuddyJoinsWrongFalsely : Prop := buddyJoinsRow.holds Try.pinned (OpenSpec.ofChange buddyJoinsWrong)

/-- 'ragpickerkeep.BuddyBack': WHATEVER THE INPUT: true; the input reads as it did. -/
def buddyBackSpec : ChangeSpec := { name := "buddyBack", fn := fun _ => fun
  | [d1, d2, d3] => { results := [.lit (.bool true)], args := [d1, d2, d3] }
  | _ => none }
def buddyBackRow : OpenClaim := { program := "ytmbcfbehchpfbaa", sum := "93acd23836bde22255a818f973078bb3e1b146158a82738a6ed6d7291bd435c6", func := "ragpicker/ragpickerkeep.BuddyBack", spec := "buddyBack", unfollowed := true, recurses := true, apart := false }
def BuddyBackSaid : Prop := buddyBackRow.holds Try.pinned (OpenSpec.ofChange buddyBackSpec)

/-- ITS FALSE NEIGHBOUR: 'it returns false'. Refute it at one input. -/
def buddyBackWrong : ChangeSpec := { name := "buddyBack", fn := fun _ => fun
  | [d1, d2, d3] => { results := [.lit (.bool false)], args := [d1, d2, d3] }
  | _ => none }
def BuddyBackWrongFalsely : Prop := buddyBackRow.holds Try.pinned (OpenSpec.ofChange buddyBackWrong)

/-- 'ragpickerkeep.BuddyFront': WHATEVER THE INPUT: true; the input reads as it did. -/
def buddyFrontSpec : ChangeSpec := { name := "buddyFront", fn := fun _ => fun
  | [d1, d2, d3] => { results := [.lit (.bool true)], args := [d1, d2, d3] }
  | _ => none }
def buddyFrontRow : OpenClaim := { program := "ytmbcfbehchpfbaa", sum := "93acd23836bde22255a818f973078bb3e1b146158a82738a6ed6d7291bd435c6", func := "ragpicker/ragpickerkeep.BuddyFront", spec := "buddyFront", unfollowed := true, recurses := true, apart := false }
def BuddyFrontSaid : Prop := buddyFrontRow.holds Try.pinned (OpenSpec.ofChange buddyFrontSpec)

/-- ITS FALSE NEIGHBOUR: 'it returns false'. Refute it at one input. -/
def buddyFrontWrong : ChangeSpec := { name := "buddyFront", fn := fun _ => fun
  | [d1, d2, d3] => { results := [.lit (.bool false)], args := [d1, d2, d3] }
  | _ => none }
def BuddyFrontWrongFalsely : Prop := buddyFrontRow.holds Try.pinned (OpenSpec.ofChange buddyFrontWrong)

/-- 'ragpickerkeep.CompsMutual': WHATEVER THE INPUT: true; the input reads as it did. -/
def compsMutualSpec : ChangeSpec := { name := "compsMutual", fn := fun _ => fun
  | [d] => { results := [.lit (.bool true)], args := [d] }
  | _ => none }
def compsMutualRow : OpenClaim := { program := "ytmbcfbehchpfbaa", sum := "93acd23836bde22255a818f973078bb3e1b146158a82738a6ed6d7291bd435c6", func := "ragpicker/ragpickerkeep.CompsMutual", spec := "compsMutual", unfollowed := true, recurses := true, apart := false }
def CompsMutualSaid : Prop := compsMutualRow.holds Try.pinned (OpenSpec.ofChange compsMutualSpec)

/-- ITS FALSE NEIGHBOUR: 'it returns false'. Refute it at one input. -/
def compsMutualWrong : ChangeSpec := { name := "compsMutual", fn := fun _ => fun
  | [d] => { results := [.lit (.bool false)], args := [d] }
  | _ => none }
def CompsMutualWrongFalsely : Prop := compsMutualRow.holds Try.pinned (OpenSpec.ofChange compsMutualWrong)

/-- 'ragpickerkeep.CompsRound': WHATEVER THE INPUT: true; the input reads as it did. -/
def compsRoundSpec : ChangeSpec := { name := "compsRound", fn := fun _ => fun
  | [d] => { results := [.lit (.bool true)], args := [d] }
  | _ => none }
def compsRoundRow : OpenClaim := { program := "ytmbcfbehchpfbaa", sum := "93acd23836bde22255a818f973078bb3e1b146158a82738a6ed6d7291bd435c6", func := "ragpicker/ragpickerkeep.CompsRound", spec := "compsRound", unfollowed := true, recurses := true, apart := false }
def CompsRoundSaid : Prop := compsRoundRow.holds Try.pinned (OpenSpec.ofChange compsRoundSpec)

/-- ITS FALSE NEIGHBOUR: 'it returns false'. Refute it at one input. -/
def compsRoundWrong : ChangeSpec := { name := "compsRound", fn := fun _ => fun
  | [d] => { results := [.lit (.bool false)], args := [d] }
  | _ => none }
def CompsRoundWrongFalsely : Prop := compsRoundRow.holds Try.pinned (OpenSpec.ofChange compsRoundWrong)

/- THE SECOND FORM. 'bulk': how many values and letters a reading holds, each counted each time it is reached (what is shared counts as often as it is met; a slice's spare places count too). A statement '..UptoSaid' is the law's where the arguments, and the package variables that the reading takes, are together of bulk at most 1048576: NARROWER than '..Said'. Prove '..Said' where nothing that the law and all that it calls make is longer than what came in: it says more and counts as full. Else prove '..UptoSaid'. A law counts once. -/
mutual
def uptoBulk {H : Type} : DataW H → Nat
  | .lit (.string bytes) => bytes.length + 1
  | .lit _ => 1
  | .nil => 1
  | .ptr d => uptoBulk d + 1
  | .slice elems spare => uptoBulkAll elems + uptoBulkAll spare + 1
  | .agg parts => uptoBulkAll parts + 1
  | .iface _ d => uptoBulk d + 1
  | .map entries => uptoBulkEntries entries + 1
  | .held _ => 1
def uptoBulkAll {H : Type} : List (DataW H) → Nat
  | [] => 0
  | d :: r => uptoBulk d + uptoBulkAll r
def uptoBulkEntries {H : Type} : List (Lit × DataW H) → Nat
  | [] => 0
  | x :: r => uptoBulkEntry x + uptoBulkEntries r
def uptoBulkEntry {H : Type} : Lit × DataW H → Nat
  | (.string bytes, d) => bytes.length + uptoBulk d + 1
  | (_, d) => uptoBulk d + 1
 end
def uptoSmall : (H : Type) → List (DataW H) → Bool := fun _ ds => decide (uptoBulkAll ds ≤ 1048576)
def OpenSpec.upto (s : _root_.Go.ChangeSpec) : _root_.Go.OpenSpec := { _root_.Go.OpenSpec.ofChange s with cond := some uptoSmall }

/-- 'ragpickerkeep.FreeApart', WHERE WHAT IT READS IS OF BULK AT MOST 1048576: true; the input reads as it did. -/
def freeApartUptoRow : OpenClaim := { program := "ytmbcfbehchpfbaa", sum := "93acd23836bde22255a818f973078bb3e1b146158a82738a6ed6d7291bd435c6", func := "ragpicker/ragpickerkeep.FreeApart", spec := "freeApart", inPlace := ["slices.overlaps[ragpicker/api.Block]"], unfollowed := true, recurses := true, apart := false, narrowed := true }
def FreeApartUptoSaid : Prop := freeApartUptoRow.holds Try.pinned (OpenSpec.upto freeApartSpec)

/-- 'ragpickerkeep.FreeJoins', WHERE WHAT IT READS IS OF BULK AT MOST 1048576: true; the input reads as it did. -/
def freeJoinsUptoRow : OpenClaim := { program := "ytmbcfbehchpfbaa", sum := "93acd23836bde22255a818f973078bb3e1b146158a82738a6ed6d7291bd435c6", func := "ragpicker/ragpickerkeep.FreeJoins", spec := "freeJoins", inPlace := ["slices.overlaps[ragpicker/api.Block]"], unfollowed := true, recurses := true, apart := false, narrowed := true }
def FreeJoinsUptoSaid : Prop := freeJoinsUptoRow.holds Try.pinned (OpenSpec.upto freeJoinsSpec)

/-- 'ragpickerkeep.FreeChooses', WHERE WHAT IT READS IS OF BULK AT MOST 1048576: true; the input reads as it did. -/
def freeChoosesUptoRow : OpenClaim := { program := "ytmbcfbehchpfbaa", sum := "93acd23836bde22255a818f973078bb3e1b146158a82738a6ed6d7291bd435c6", func := "ragpicker/ragpickerkeep.FreeChooses", spec := "freeChooses", inPlace := ["slices.overlaps[ragpicker/api.Block]"], unfollowed := true, recurses := true, apart := false, narrowed := true }
def FreeChoosesUptoSaid : Prop := freeChoosesUptoRow.holds Try.pinned (OpenSpec.upto freeChoosesSpec)

/-- 'ragpickerkeep.FreeBack', WHERE WHAT IT READS IS OF BULK AT MOST 1048576: true; the input reads as it did. -/
def freeBackUptoRow : OpenClaim := { program := "ytmbcfbehchpfbaa", sum := "93acd23836bde22255a818f973078bb3e1b146158a82738a6ed6d7291bd435c6", func := "ragpicker/ragpickerkeep.FreeBack", spec := "freeBack", inPlace := ["slices.overlaps[ragpicker/api.Block]"], unfollowed := true, recurses := true, apart := false, narrowed := true }
def FreeBackUptoSaid : Prop := freeBackUptoRow.holds Try.pinned (OpenSpec.upto freeBackSpec)

/-- 'ragpickerkeep.FreeFront', WHERE WHAT IT READS IS OF BULK AT MOST 1048576: true; the input reads as it did. -/
def freeFrontUptoRow : OpenClaim := { program := "ytmbcfbehchpfbaa", sum := "93acd23836bde22255a818f973078bb3e1b146158a82738a6ed6d7291bd435c6", func := "ragpicker/ragpickerkeep.FreeFront", spec := "freeFront", inPlace := ["slices.overlaps[ragpicker/api.Block]"], unfollowed := true, recurses := true, apart := false, narrowed := true }
def FreeFrontUptoSaid : Prop := freeFrontUptoRow.holds Try.pinned (OpenSpec.upto freeFrontSpec)

/-- 'ragpickerkeep.BuddyApart', WHERE WHAT IT READS IS OF BULK AT MOST 1048576: true; the input reads as it did. -/
def buddyApartUptoRow : OpenClaim := { program := "ytmbcfbehchpfbaa", sum := "93acd23836bde22255a818f973078bb3e1b146158a82738a6ed6d7291bd435c6", func := "ragpicker/ragpickerkeep.BuddyApart", spec := "buddyApart", unfollowed := true, recurses := true, apart := false, narrowed := true }
def BuddyApartUptoSaid : Prop := buddyApartUptoRow.holds Try.pinned (OpenSpec.upto buddyApartSpec)

/-- 'ragpickerkeep.BuddyJoins', WHERE WHAT IT READS IS OF BULK AT MOST 1048576: true; the input reads as it did. -/
def buddyJoinsUptoRow : OpenClaim := { program := "ytmbcfbehchpfbaa", sum := "93acd23836bde22255a818f973078bb3e1b146158a82738a6ed6d7291bd435c6", func := "ragpicker/ragpickerkeep.BuddyJoins", spec := "buddyJoins", unfollowed := true, recurses := true, apart := false, narrowed := true }
def BuddyJoinsUptoSaid : Prop := buddyJoinsUptoRow.holds Try.pinned (OpenSpec.upto buddyJoinsSpec)

/-- 'ragpickerkeep.BuddyBack', WHERE WHAT IT READS IS OF BULK AT MOST 1048576: true; the input reads as it did. -/
def buddyBackUptoRow : OpenClaim := { program := "ytmbcfbehchpfbaa", sum := "93acd23836bde22255a818f973078bb3e1b146158a82738a6ed6d7291bd435c6", func := "ragpicker/ragpickerkeep.BuddyBack", spec := "buddyBack", unfollowed := true, recurses := true, apart := false, narrowed := true }
def BuddyBackUptoSaid : Prop := buddyBackUptoRow.holds Try.pinned (OpenSpec.upto buddyBackSpec)

/-- 'ragpickerkeep.BuddyFront', WHERE WHAT IT READS IS OF BULK AT MOST 1048576: true; the input reads as it did. -/
def buddyFrontUptoRow : OpenClaim := { program := "ytmbcfbehchpfbaa", sum := "93acd23836bde22255a818f973078bb3e1b146158a82738a6ed6d7291bd435c6", func := "ragpicker/ragpickerkeep.BuddyFront", spec := "buddyFront", unfollowed := true, recurses := true, apart := false, narrowed := true }
def BuddyFrontUptoSaid : Prop := buddyFrontUptoRow.holds Try.pinned (OpenSpec.upto buddyFrontSpec)

/-- 'ragpickerkeep.CompsMutual', WHERE WHAT IT READS IS OF BULK AT MOST 1048576: true; the input reads as it did. -/
def compsMutualUptoRow : OpenClaim := { program := "ytmbcfbehchpfbaa", sum := "93acd23836bde22255a818f973078bb3e1b146158a82738a6ed6d7291bd435c6", func := "ragpicker/ragpickerkeep.CompsMutual", spec := "compsMutual", unfollowed := true, recurses := true, apart := false, narrowed := true }
def CompsMutualUptoSaid : Prop := compsMutualUptoRow.holds Try.pinned (OpenSpec.upto compsMutualSpec)

/-- 'ragpickerkeep.CompsRound', WHERE WHAT IT READS IS OF BULK AT MOST 1048576: true; the input reads as it did. -/
def compsRoundUptoRow : OpenClaim := { program := "ytmbcfbehchpfbaa", sum := "93acd23836bde22255a818f973078bb3e1b146158a82738a6ed6d7291bd435c6", func := "ragpicker/ragpickerkeep.CompsRound", spec := "compsRound", unfollowed := true, recurses := true, apart := false, narrowed := true }
def CompsRoundUptoSaid : Prop := compsRoundUptoRow.holds Try.pinned (OpenSpec.upto compsRoundSpec)

end Rows
end Go.Proofs.Ytmbcfbehchpfbaa
