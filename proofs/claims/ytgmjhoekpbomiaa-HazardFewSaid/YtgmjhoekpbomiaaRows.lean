/-
  No cell of these rows narrows 'for every input' (looked for: loops, veiled, ifaces, maps, wideKeys, modest, calm, conditions, laid).
  DERIVED. THE GIVEN ROWS OF THIS SEAT. 9 by the template 'for every input the law returns true; each argument reads behind the call as it read before'; 0 by the template 'total and deterministic' (their statements: YtgmjhoekpbomiaaTotals.lean).
  GIVEN WITH THE SEED: the statements are not yours to turn. If you find one false, say at which input.
  Laid BY PROGRAM, IN A SANDBOX (cutbox-rows.mjs): the forced cells as the released guide's own fill.sh prints them over the translation 61d003ada29a4baa… (all of the seat's roots in one cut). By AI agents, Wed Nov 11 2026. No macro, syntax, notation, axiom, sorry.
-/
import Derived.Test.YtgmjhoekpbomiaaChecked
import GoSem.Claim
import GoSem.ClaimJoined
import GoSem.ClaimMapViews
import Derived.JoinedTies
import Derived.KernelRfl
namespace Go.Proofs.Ytgmjhoekpbomiaa
/- THE CELL 'sum', in the pinned program and in every row, IS THE sha256 OF THE DUMP (.gsa) THAT YtgmjhoekpbomiaaProg.lean LOADS. Nothing in Lean hashes anything: it is a label: what it is worth is what the hold of that sum in a sandbox is worth. -/
noncomputable def Try.pinned : Pinned := { name := "ytgmjhoekpbomiaa", sum := "61d003ada29a4baa7c452f1a0158e243bb800f184392794e7efe4bc3aa56d5c9", checked := Try.checked }
namespace Rows
def none {H : Type} : Left H := { results := [], args := [] }

/-- 'ragpickerkeep.HazardSafe': WHATEVER THE INPUT: true; the input reads as it did. -/
def hazardSafeSpec : ChangeSpec := { name := "hazardSafe", fn := fun _ => fun
  | [d1, d2] => { results := [.lit (.bool true)], args := [d1, d2] }
  | _ => none }
def hazardSafeRow : OpenClaim := { program := "ytgmjhoekpbomiaa", sum := "61d003ada29a4baa7c452f1a0158e243bb800f184392794e7efe4bc3aa56d5c9", func := "ragpicker/ragpickerkeep.HazardSafe", spec := "hazardSafe", unfollowed := true, recurses := true, apart := false }
def HazardSafeSaid : Prop := hazardSafeRow.holds Try.pinned (OpenSpec.ofChange hazardSafeSpec)

/-- ITS FALSE NEIGHBOUR: 'it returns false'. Refute it at one input. -/
def hazardSafeWrong : ChangeSpec := { name := "hazardSafe", fn := fun _ => fun
  | [d1, d2] => { results := [.lit (.bool false)], args := [d1, d2] }
  | _ => none }
def HazardSafeWrongFalsely : Prop := hazardSafeRow.holds Try.pinned (OpenSpec.ofChange hazardSafeWrong)

/-- 'ragpickerkeep.HazardFew': WHATEVER THE INPUT: true; the input reads as it did. -/
def hazardFewSpec : ChangeSpec := { name := "hazardFew", fn := fun _ => fun
  | [d1, d2, d3] => { results := [.lit (.bool true)], args := [d1, d2, d3] }
  | _ => none }
def hazardFewRow : OpenClaim := { program := "ytgmjhoekpbomiaa", sum := "61d003ada29a4baa7c452f1a0158e243bb800f184392794e7efe4bc3aa56d5c9", func := "ragpicker/ragpickerkeep.HazardFew", spec := "hazardFew", unfollowed := true, recurses := true, apart := false }
def HazardFewSaid : Prop := hazardFewRow.holds Try.pinned (OpenSpec.ofChange hazardFewSpec)

/-- ITS FALSE NEIGHBOUR: 'it returns false'. Refute it at one input. -/
def hazardFewWrong : ChangeSpec := { name := "hazardFew", fn := fun _ => fun
  | [d1, d2, d3] => { results := [.lit (.bool false)], args := [d1, d2, d3] }
  | _ => none }
def HazardFewWrongFalsely : Prop := hazardFewRow.holds Try.pinned (OpenSpec.ofChange hazardFewWrong)

/-- 'ragpickerkeep.EpochSafe': WHATEVER THE INPUT: true; the input reads as it did. -/
def epochSafeSpec : ChangeSpec := { name := "epochSafe", fn := fun _ => fun
  | [d1, d2] => { results := [.lit (.bool true)], args := [d1, d2] }
  | _ => none }
def epochSafeRow : OpenClaim := { program := "ytgmjhoekpbomiaa", sum := "61d003ada29a4baa7c452f1a0158e243bb800f184392794e7efe4bc3aa56d5c9", func := "ragpicker/ragpickerkeep.EpochSafe", spec := "epochSafe", unfollowed := true, recurses := true, apart := false }
def EpochSafeSaid : Prop := epochSafeRow.holds Try.pinned (OpenSpec.ofChange epochSafeSpec)

/-- ITS FALSE NEIGHBOUR: 'it returns false'. Refute it at one input. -/
def epochSafeWrong : ChangeSpec := { name := "epochSafe", fn := fun _ => fun
  | [d1, d2] => { results := [.lit (.bool false)], args := [d1, d2] }
  | _ => none }
def EpochSafeWrongFalsely : Prop := epochSafeRow.holds Try.pinned (OpenSpec.ofChange epochSafeWrong)

/-- 'ragpickerkeep.EpochSoon': WHATEVER THE INPUT: true; the input reads as it did. -/
def epochSoonSpec : ChangeSpec := { name := "epochSoon", fn := fun _ => fun
  | [d1, d2] => { results := [.lit (.bool true)], args := [d1, d2] }
  | _ => none }
def epochSoonRow : OpenClaim := { program := "ytgmjhoekpbomiaa", sum := "61d003ada29a4baa7c452f1a0158e243bb800f184392794e7efe4bc3aa56d5c9", func := "ragpicker/ragpickerkeep.EpochSoon", spec := "epochSoon", unfollowed := true, recurses := true, apart := false }
def EpochSoonSaid : Prop := epochSoonRow.holds Try.pinned (OpenSpec.ofChange epochSoonSpec)

/-- ITS FALSE NEIGHBOUR: 'it returns false'. Refute it at one input. -/
def epochSoonWrong : ChangeSpec := { name := "epochSoon", fn := fun _ => fun
  | [d1, d2] => { results := [.lit (.bool false)], args := [d1, d2] }
  | _ => none }
def EpochSoonWrongFalsely : Prop := epochSoonRow.holds Try.pinned (OpenSpec.ofChange epochSoonWrong)

/-- 'ragpickerkeep.FreeApart': WHATEVER THE INPUT: true; the input reads as it did. -/
def freeApartSpec : ChangeSpec := { name := "freeApart", fn := fun _ => fun
  | [d1, d2, d3] => { results := [.lit (.bool true)], args := [d1, d2, d3] }
  | _ => none }
def freeApartRow : OpenClaim := { program := "ytgmjhoekpbomiaa", sum := "61d003ada29a4baa7c452f1a0158e243bb800f184392794e7efe4bc3aa56d5c9", func := "ragpicker/ragpickerkeep.FreeApart", spec := "freeApart", inPlace := ["slices.overlaps[ragpicker/api.Block]"], unfollowed := true, recurses := true, apart := false }
def FreeApartSaid : Prop := freeApartRow.holds Try.pinned (OpenSpec.ofChange freeApartSpec)

/-- ITS FALSE NEIGHBOUR: 'it returns false'. Refute it at one input. -/
def freeApartWrong : ChangeSpec := { name := "freeApart", fn := fun _ => fun
  | [d1, d2, d3] => { results := [.lit (.bool false)], args := [d1, d2, d3] }
  | _ => none }
def FreeApartWrongFalsely : Prop := freeApartRow.holds Try.pinned (OpenSpec.ofChange freeApartWrong)

/-- 'ragpickerkeep.FreeJoins': WHATEVER THE INPUT: true; the input reads as it did. -/
def freeJoinsSpec : ChangeSpec := { name := "freeJoins", fn := fun _ => fun
  | [d1, d2, d3] => { results := [.lit (.bool true)], args := [d1, d2, d3] }
  | _ => none }
def freeJoinsRow : OpenClaim := { program := "ytgmjhoekpbomiaa", sum := "61d003ada29a4baa7c452f1a0158e243bb800f184392794e7efe4bc3aa56d5c9", func := "ragpicker/ragpickerkeep.FreeJoins", spec := "freeJoins", inPlace := ["slices.overlaps[ragpicker/api.Block]"], unfollowed := true, recurses := true, apart := false }
def FreeJoinsSaid : Prop := freeJoinsRow.holds Try.pinned (OpenSpec.ofChange freeJoinsSpec)

/-- ITS FALSE NEIGHBOUR: 'it returns false'. Refute it at one input. -/
def freeJoinsWrong : ChangeSpec := { name := "freeJoins", fn := fun _ => fun
  | [d1, d2, d3] => { results := [.lit (.bool false)], args := [d1, d2, d3] }
  | _ => none }
def FreeJoinsWrongFalsely : Prop := freeJoinsRow.holds Try.pinned (OpenSpec.ofChange freeJoinsWrong)

/-- 'ragpickerkeep.FreeChooses': WHATEVER THE INPUT: true; the input reads as it did. -/
def freeChoosesSpec : ChangeSpec := { name := "freeChooses", fn := fun _ => fun
  | [d1, d2, d3, d4] => { results := [.lit (.bool true)], args := [d1, d2, d3, d4] }
  | _ => none }
def freeChoosesRow : OpenClaim := { program := "ytgmjhoekpbomiaa", sum := "61d003ada29a4baa7c452f1a0158e243bb800f184392794e7efe4bc3aa56d5c9", func := "ragpicker/ragpickerkeep.FreeChooses", spec := "freeChooses", inPlace := ["slices.overlaps[ragpicker/api.Block]"], unfollowed := true, recurses := true, apart := false }
def FreeChoosesSaid : Prop := freeChoosesRow.holds Try.pinned (OpenSpec.ofChange freeChoosesSpec)

/-- ITS FALSE NEIGHBOUR: 'it returns false'. Refute it at one input. -/
def freeChoosesWrong : ChangeSpec := { name := "freeChooses", fn := fun _ => fun
  | [d1, d2, d3, d4] => { results := [.lit (.bool false)], args := [d1, d2, d3, d4] }
  | _ => none }
def FreeChoosesWrongFalsely : Prop := freeChoosesRow.holds Try.pinned (OpenSpec.ofChange freeChoosesWrong)

/-- 'ragpickerkeep.FreeBack': WHATEVER THE INPUT: true; the input reads as it did. -/
def freeBackSpec : ChangeSpec := { name := "freeBack", fn := fun _ => fun
  | [d1, d2, d3, d4] => { results := [.lit (.bool true)], args := [d1, d2, d3, d4] }
  | _ => none }
def freeBackRow : OpenClaim := { program := "ytgmjhoekpbomiaa", sum := "61d003ada29a4baa7c452f1a0158e243bb800f184392794e7efe4bc3aa56d5c9", func := "ragpicker/ragpickerkeep.FreeBack", spec := "freeBack", inPlace := ["slices.overlaps[ragpicker/api.Block]"], unfollowed := true, recurses := true, apart := false }
def FreeBackSaid : Prop := freeBackRow.holds Try.pinned (OpenSpec.ofChange freeBackSpec)

/-- ITS FALSE NEIGHBOUR: 'it returns false'. Refute it at one input. -/
def freeBackWrong : ChangeSpec := { name := "freeBack", fn := fun _ => fun
  | [d1, d2, d3, d4] => { results := [.lit (.bool false)], args := [d1, d2, d3, d4] }
  | _ => none }
def FreeBackWrongFalsely : Prop := freeBackRow.holds Try.pinned (OpenSpec.ofChange freeBackWrong)

/-- 'ragpickerkeep.FreeFront': WHATEVER THE INPUT: true; the input reads as it did. -/
def freeFrontSpec : ChangeSpec := { name := "freeFront", fn := fun _ => fun
  | [d1, d2, d3, d4] => { results := [.lit (.bool true)], args := [d1, d2, d3, d4] }
  | _ => none }
def freeFrontRow : OpenClaim := { program := "ytgmjhoekpbomiaa", sum := "61d003ada29a4baa7c452f1a0158e243bb800f184392794e7efe4bc3aa56d5c9", func := "ragpicker/ragpickerkeep.FreeFront", spec := "freeFront", inPlace := ["slices.overlaps[ragpicker/api.Block]"], unfollowed := true, recurses := true, apart := false }
def FreeFrontSaid : Prop := freeFrontRow.holds Try.pinned (OpenSpec.ofChange freeFrontSpec)

/-- ITS FALSE NEIGHBOUR: 'it returns false'. Refute it at one input. -/
def freeFrontWrong : ChangeSpec := { name := "freeFront", fn := fun _ => fun
  | [d1, d2, d3, d4] => { results := [.lit (.bool false)], args := [d1, d2, d3, d4] }
  | _ => none }
def FreeFrontWrongFalsely : Prop := freeFrontRow.holds Try.pinned (OpenSpec.ofChange freeFrontWrong)

/- THE SECOND FORM. 'bulk': how many values and letters a reading holds, each counted each time it is reached (what is shared counts as often as it is met; a slice's spare places count too). A statement '..UptoSaid' is the law's where the arguments, and the package variables that the reading takes, are together of bulk at most 1048576: NARROWER than '..Said'. Prove '..Said' where nothing that the law and all that it calls make is longer than what came in: it says more and counts as full. Else prove '..UptoSaid'. A law counts once. -/
mutual
def uptoBulk {H : Type} : DataW H → Nat
  | .lit (.string bytes) => bytes.length + 1
  | .lit _ => 1
  | .nil => 1
  | .ptr d => uptoBulk d + 1
  | .slice elems spare => uptoBulkAll elems + uptoBulkAll spare + 1
  | .agg parts => uptoBulkAll parts + 1
  | .iface _ d => uptoBulk d + 1
  | .map entries => uptoBulkEntries entries + 1
  | .held _ => 1
def uptoBulkAll {H : Type} : List (DataW H) → Nat
  | [] => 0
  | d :: r => uptoBulk d + uptoBulkAll r
def uptoBulkEntries {H : Type} : List (Lit × DataW H) → Nat
  | [] => 0
  | x :: r => uptoBulkEntry x + uptoBulkEntries r
def uptoBulkEntry {H : Type} : Lit × DataW H → Nat
  | (.string bytes, d) => bytes.length + uptoBulk d + 1
  | (_, d) => uptoBulk d + 1
 end
def uptoSmall : (H : Type) → List (DataW H) → Bool := fun _ ds => decide (uptoBulkAll ds ≤ 1048576)
def OpenSpec.upto (s : _root_.Go.ChangeSpec) : _root_.Go.OpenSpec := { _root_.Go.OpenSpec.ofChange s with cond := some uptoSmall }

/-- 'ragpickerkeep.HazardSafe', WHERE WHAT IT READS IS OF BULK AT MOST 1048576: true; the input reads as it did. -/
def hazardSafeUptoRow : OpenClaim := { program := "ytgmjhoekpbomiaa", sum := "61d003ada29a4baa7c452f1a0158e243bb800f184392794e7efe4bc3aa56d5c9", func := "ragpicker/ragpickerkeep.HazardSafe", spec := "hazardSafe", unfollowed := true, recurses := true, apart := false, narrowed := true }
def HazardSafeUptoSaid : Prop := hazardSafeUptoRow.holds Try.pinned (OpenSpec.upto hazardSafeSpec)

/-- 'ragpickerkeep.HazardFew', WHERE WHAT IT READS IS OF BULK AT MOST 1048576: true; the input reads as it did. -/
def hazardFewUptoRow : OpenClaim := { program := "ytgmjhoekpbomiaa", sum := "61d003ada29a4baa7c452f1a0158e243bb800f184392794e7efe4bc3aa56d5c9", func := "ragpicker/ragpickerkeep.HazardFew", spec := "hazardFew", unfollowed := true, recurses := true, apart := false, narrowed := true }
def HazardFewUptoSaid : Prop := hazardFewUptoRow.holds Try.pinned (OpenSpec.upto hazardFewSpec)

/-- 'ragpickerkeep.EpochSafe', WHERE WHAT IT READS IS OF BULK AT MOST 1048576: true; the input reads as it did. -/
def epochSafeUptoRow : OpenClaim := { program := "ytgmjhoekpbomiaa", sum := "61d003ada29a4baa7c452f1a0158e243bb800f184392794e7efe4bc3aa56d5c9", func := "ragpicker/ragpickerkeep.EpochSafe", spec := "epochSafe", unfollowed := true, recurses := true, apart := false, narrowed := true }
def EpochSafeUptoSaid : Prop := epochSafeUptoRow.holds Try.pinned (OpenSpec.upto epochSafeSpec)

/-- 'ragpickerkeep.EpochSoon', WHERE WHAT IT READS IS OF BULK AT MOST 1048576: true; the input reads as it did. -/
def epochSoonUptoRow : OpenClaim := { program := "ytgmjhoekpbomiaa", sum := "61d003ada29a4baa7c452f1a0158e243bb800f184392794e7efe4bc3aa56d5c9", func := "ragpicker/ragpickerkeep.EpochSoon", spec := "epochSoon", unfollowed := true, recurses := true, apart := false, narrowed := true }
def EpochSoonUptoSaid : Prop := epochSoonUptoRow.holds Try.pinned (OpenSpec.upto epochSoonSpec)

/-- 'ragpickerkeep.FreeApart', WHERE WHAT IT READS IS OF BULK AT MOST 1048576: true; the input reads as it did. -/
def freeApartUptoRow : OpenClaim := { program := "ytgmjhoekpbomiaa", sum := "61d003ada29a4baa7c452f1a0158e243bb800f184392794e7efe4bc3aa56d5c9", func := "ragpicker/ragpickerkeep.FreeApart", spec := "freeApart", inPlace := ["slices.overlaps[ragpicker/api.Block]"], unfollowed := true, recurses := true, apart := false, narrowed := true }
def FreeApartUptoSaid : Prop := freeApartUptoRow.holds Try.pinned (OpenSpec.upto freeApartSpec)

/-- 'ragpickerkeep.FreeJoins', WHERE WHAT IT READS IS OF BULK AT MOST 1048576: true; the input reads as it did. -/
def freeJoinsUptoRow : OpenClaim := { program := "ytgmjhoekpbomiaa", sum := "61d003ada29a4baa7c452f1a0158e243bb800f184392794e7efe4bc3aa56d5c9", func := "ragpicker/ragpickerkeep.FreeJoins", spec := "freeJoins", inPlace := ["slices.overlaps[ragpicker/api.Block]"], unfollowed := true, recurses := true, apart := false, narrowed := true }
def FreeJoinsUptoSaid : Prop := freeJoinsUptoRow.holds Try.pinned (OpenSpec.upto freeJoinsSpec)

/-- 'ragpickerkeep.FreeChooses', WHERE WHAT IT READS IS OF BULK AT MOST 1048576: true; the input reads as it did. -/
def freeChoosesUptoRow : OpenClaim := { program := "ytgmjhoekpbomiaa", sum := "61d003ada29a4baa7c452f1a0158e243bb800f184392794e7efe4bc3aa56d5c9", func := "ragpicker/ragpickerkeep.FreeChooses", spec := "freeChooses", inPlace := ["slices.overlaps[ragpicker/api.Block]"], unfollowed := true, recurses := true, apart := false, narrowed := true }
def FreeChoosesUptoSaid : Prop := freeChoosesUptoRow.holds Try.pinned (OpenSpec.upto freeChoosesSpec)

/-- 'ragpickerkeep.FreeBack', WHERE WHAT IT READS IS OF BULK AT MOST 1048576: true; the input reads as it did. -/
def freeBackUptoRow : OpenClaim := { program := "ytgmjhoekpbomiaa", sum := "61d003ada29a4baa7c452f1a0158e243bb800f184392794e7efe4bc3aa56d5c9", func := "ragpicker/ragpickerkeep.FreeBack", spec := "freeBack", inPlace := ["slices.overlaps[ragpicker/api.Block]"], unfollowed := true, recurses := true, apart := false, narrowed := true }
def FreeBackUptoSaid : Prop := freeBackUptoRow.holds Try.pinned (OpenSpec.upto freeBackSpec)

/-- 'ragpickerkeep.FreeFront', WHERE WHAT IT READS IS OF BULK AT MOST 1048576: true; the input reads as it did. -/
def freeFrontUptoRow : OpenClaim := { program := "ytgmjhoekpbomiaa", sum := "61d003ada29a4baa7c452f1a0158e243bb800f184392794e7efe4bc3aa56d5c9", func := "ragpicker/ragpickerkeep.FreeFront", spec := "freeFront", inPlace := ["slices.overlaps[ragpicker/api.Block]"], unfollowed := true, recurses := true, apart := false, narrowed := true }
def FreeFrontUptoSaid : Prop := freeFrontUptoRow.holds Try.pinned (OpenSpec.upto freeFrontSpec)

end Rows
end Go.Proofs.Ytgmjhoekpbomiaa
