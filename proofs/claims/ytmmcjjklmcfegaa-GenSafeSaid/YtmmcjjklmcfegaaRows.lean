/-
  No cell of these rows narrows 'for every input' (looked for: loops, veiled, ifaces, maps, wideKeys, modest, calm, conditions, laid).
  DERIVED. THE GIVEN ROWS OF THIS SEAT. 12 by the template 'for every input the law returns true; each argument reads behind the call as it read before'; 0 by the template 'total and deterministic' (their statements: YtmmcjjklmcfegaaTotals.lean).
  GIVEN WITH THE SEED: the statements are not yours to turn. If you find one false, say at which input.
  Laid BY PROGRAM, IN A SANDBOX (cutbox-rows.mjs): the forced cells as the released guide's own fill.sh prints them over the translation 200fe7a5e4181845… (all of the seat's roots in one cut). By AI agents, Wed Nov 11 2026. No macro, syntax, notation, axiom, sorry.
-/
import Derived.Test.YtmmcjjklmcfegaaChecked
import GoSem.Claim
import GoSem.ClaimJoined
import GoSem.ClaimMapViews
import Derived.JoinedTies
import Derived.KernelRfl
namespace Go.Proofs.Ytmmcjjklmcfegaa
/- THE CELL 'sum', in the pinned program and in every row, IS THE sha256 OF THE DUMP (.gsa) THAT YtmmcjjklmcfegaaProg.lean LOADS. Nothing in Lean hashes anything: it is a label: what it is worth is what the hold of that sum in a sandbox is worth. -/
noncomputable def Try.pinned : Pinned := { name := "ytmmcjjklmcfegaa", sum := "200fe7a5e41818459973412660cbbe8a91aec0ce6902d287a426e35ebeffbec4", checked := Try.checked }
namespace Rows
def none {H : Type} : Left H := { results := [], args := [] }

/-- 'ragpickerkeep.IdealSplits': WHATEVER THE INPUT: true; the input reads as it did. -/
def idealSplitsSpec : ChangeSpec := { name := "idealSplits", fn := fun _ => fun
  | [d1, d2, d3] => { results := [.lit (.bool true)], args := [d1, d2, d3] }
  | _ => none }
def idealSplitsRow : OpenClaim := { program := "ytmmcjjklmcfegaa", sum := "200fe7a5e41818459973412660cbbe8a91aec0ce6902d287a426e35ebeffbec4", func := "ragpicker/ragpickerkeep.IdealSplits", spec := "idealSplits", unfollowed := true, recurses := true, plainKeys := false, apart := false }
def IdealSplitsSaid : Prop := idealSplitsRow.holds Try.pinned (OpenSpec.ofChange idealSplitsSpec)

/-- ITS FALSE NEIGHBOUR: 'it returns false'. Refute it at one input. -/
def idealSplitsWrong : ChangeSpec := { name := "idealSplits", fn := fun _ => fun
  | [d1, d2, d3] => { results := [.lit (.bool false)], args := [d1, d2, d3] }
  | _ => none }
def IdealSplitsWrongFalsely : Prop := idealSplitsRow.holds Try.pinned (OpenSpec.ofChange idealSplitsWrong)

/-- 'ragpickerkeep.IdealLike': WHATEVER THE INPUT: true; the input reads as it did. -/
def idealLikeSpec : ChangeSpec := { name := "idealLike", fn := fun _ => fun
  | [d1, d2, d3] => { results := [.lit (.bool true)], args := [d1, d2, d3] }
  | _ => none }
def idealLikeRow : OpenClaim := { program := "ytmmcjjklmcfegaa", sum := "200fe7a5e41818459973412660cbbe8a91aec0ce6902d287a426e35ebeffbec4", func := "ragpicker/ragpickerkeep.IdealLike", spec := "idealLike", unfollowed := true, recurses := true, plainKeys := false, apart := false }
def IdealLikeSaid : Prop := idealLikeRow.holds Try.pinned (OpenSpec.ofChange idealLikeSpec)

/-- ITS FALSE NEIGHBOUR: 'it returns false'. Refute it at one input. -/
def idealLikeWrong : ChangeSpec := { name := "idealLike", fn := fun _ => fun
  | [d1, d2, d3] => { results := [.lit (.bool false)], args := [d1, d2, d3] }
  | _ => none }
def IdealLikeWrongFalsely : Prop := idealLikeRow.holds Try.pinned (OpenSpec.ofChange idealLikeWrong)

/-- 'ragpickerkeep.CountFront': WHATEVER THE INPUT: true; the input reads as it did. -/
def countFrontSpec : ChangeSpec := { name := "countFront", fn := fun _ => fun
  | [d1, d2, d3, d4] => { results := [.lit (.bool true)], args := [d1, d2, d3, d4] }
  | _ => none }
def countFrontRow : OpenClaim := { program := "ytmmcjjklmcfegaa", sum := "200fe7a5e41818459973412660cbbe8a91aec0ce6902d287a426e35ebeffbec4", func := "ragpicker/ragpickerkeep.CountFront", spec := "countFront", unfollowed := true, recurses := true, plainKeys := false, apart := false }
def CountFrontSaid : Prop := countFrontRow.holds Try.pinned (OpenSpec.ofChange countFrontSpec)

/-- ITS FALSE NEIGHBOUR: 'it returns false'. Refute it at one input. -/
def countFrontWrong : ChangeSpec := { name := "countFront", fn := fun _ => fun
  | [d1, d2, d3, d4] => { results := [.lit (.bool false)], args := [d1, d2, d3, d4] }
  | _ => none }
def CountFrontWrongFalsely : Prop := countFrontRow.holds Try.pinned (OpenSpec.ofChange countFrontWrong)

/-- 'ragpickerkeep.CountSafe': WHATEVER THE INPUT: true; the input reads as it did. -/
def countSafeSpec : ChangeSpec := { name := "countSafe", fn := fun _ => fun
  | [d1, d2, d3] => { results := [.lit (.bool true)], args := [d1, d2, d3] }
  | _ => none }
def countSafeRow : OpenClaim := { program := "ytmmcjjklmcfegaa", sum := "200fe7a5e41818459973412660cbbe8a91aec0ce6902d287a426e35ebeffbec4", func := "ragpicker/ragpickerkeep.CountSafe", spec := "countSafe", unfollowed := true, recurses := true, plainKeys := false, apart := false }
def CountSafeSaid : Prop := countSafeRow.holds Try.pinned (OpenSpec.ofChange countSafeSpec)

/-- ITS FALSE NEIGHBOUR: 'it returns false'. Refute it at one input. -/
def countSafeWrong : ChangeSpec := { name := "countSafe", fn := fun _ => fun
  | [d1, d2, d3] => { results := [.lit (.bool false)], args := [d1, d2, d3] }
  | _ => none }
def CountSafeWrongFalsely : Prop := countSafeRow.holds Try.pinned (OpenSpec.ofChange countSafeWrong)

/-- 'ragpickerkeep.DualCounts': WHATEVER THE INPUT: true; the input reads as it did. -/
def dualCountsSpec : ChangeSpec := { name := "dualCounts", fn := fun _ => fun
  | [d] => { results := [.lit (.bool true)], args := [d] }
  | _ => none }
def dualCountsRow : OpenClaim := { program := "ytmmcjjklmcfegaa", sum := "200fe7a5e41818459973412660cbbe8a91aec0ce6902d287a426e35ebeffbec4", func := "ragpicker/ragpickerkeep.DualCounts", spec := "dualCounts", unfollowed := true, recurses := true, plainKeys := false, apart := false }
def DualCountsSaid : Prop := dualCountsRow.holds Try.pinned (OpenSpec.ofChange dualCountsSpec)

/-- ITS FALSE NEIGHBOUR: 'it returns false'. Refute it at one input. -/
def dualCountsWrong : ChangeSpec := { name := "dualCounts", fn := fun _ => fun
  | [d] => { results := [.lit (.bool false)], args := [d] }
  | _ => none }
def DualCountsWrongFalsely : Prop := dualCountsRow.holds Try.pinned (OpenSpec.ofChange dualCountsWrong)

/-- 'ragpickerkeep.CountAcyclic': WHATEVER THE INPUT: true; the input reads as it did. -/
def countAcyclicSpec : ChangeSpec := { name := "countAcyclic", fn := fun _ => fun
  | [d1, d2, d3] => { results := [.lit (.bool true)], args := [d1, d2, d3] }
  | _ => none }
def countAcyclicRow : OpenClaim := { program := "ytmmcjjklmcfegaa", sum := "200fe7a5e41818459973412660cbbe8a91aec0ce6902d287a426e35ebeffbec4", func := "ragpicker/ragpickerkeep.CountAcyclic", spec := "countAcyclic", unfollowed := true, recurses := true, plainKeys := false, apart := false }
def CountAcyclicSaid : Prop := countAcyclicRow.holds Try.pinned (OpenSpec.ofChange countAcyclicSpec)

/-- ITS FALSE NEIGHBOUR: 'it returns false'. Refute it at one input. -/
def countAcyclicWrong : ChangeSpec := { name := "countAcyclic", fn := fun _ => fun
  | [d1, d2, d3] => { results := [.lit (.bool false)], args := [d1, d2, d3] }
  | _ => none }
def CountAcyclicWrongFalsely : Prop := countAcyclicRow.holds Try.pinned (OpenSpec.ofChange countAcyclicWrong)

/-- 'ragpickerkeep.ReplicaFront': WHATEVER THE INPUT: true; the input reads as it did. -/
def replicaFrontSpec : ChangeSpec := { name := "replicaFront", fn := fun _ => fun
  | [d1, d2, d3] => { results := [.lit (.bool true)], args := [d1, d2, d3] }
  | _ => none }
def replicaFrontRow : OpenClaim := { program := "ytmmcjjklmcfegaa", sum := "200fe7a5e41818459973412660cbbe8a91aec0ce6902d287a426e35ebeffbec4", func := "ragpicker/ragpickerkeep.ReplicaFront", spec := "replicaFront", unfollowed := true, recurses := true, plainKeys := false, apart := false }
def ReplicaFrontSaid : Prop := replicaFrontRow.holds Try.pinned (OpenSpec.ofChange replicaFrontSpec)

/-- ITS FALSE NEIGHBOUR: 'it returns false'. Refute it at one input. -/
def replicaFrontWrong : ChangeSpec := { name := "replicaFront", fn := fun _ => fun
  | [d1, d2, d3] => { results := [.lit (.bool false)], args := [d1, d2, d3] }
  | _ => none }
def ReplicaFrontWrongFalsely : Prop := replicaFrontRow.holds Try.pinned (OpenSpec.ofChange replicaFrontWrong)

/-- 'ragpickerkeep.ReplicaSafe': WHATEVER THE INPUT: true; the input reads as it did. -/
def replicaSafeSpec : ChangeSpec := { name := "replicaSafe", fn := fun _ => fun
  | [d1, d2] => { results := [.lit (.bool true)], args := [d1, d2] }
  | _ => none }
def replicaSafeRow : OpenClaim := { program := "ytmmcjjklmcfegaa", sum := "200fe7a5e41818459973412660cbbe8a91aec0ce6902d287a426e35ebeffbec4", func := "ragpicker/ragpickerkeep.ReplicaSafe", spec := "replicaSafe", unfollowed := true, recurses := true, plainKeys := false, apart := false }
def ReplicaSafeSaid : Prop := replicaSafeRow.holds Try.pinned (OpenSpec.ofChange replicaSafeSpec)

/-- ITS FALSE NEIGHBOUR: 'it returns false'. Refute it at one input. -/
def replicaSafeWrong : ChangeSpec := { name := "replicaSafe", fn := fun _ => fun
  | [d1, d2] => { results := [.lit (.bool false)], args := [d1, d2] }
  | _ => none }
def ReplicaSafeWrongFalsely : Prop := replicaSafeRow.holds Try.pinned (OpenSpec.ofChange replicaSafeWrong)

/-- 'ragpickerkeep.ReplicaEnds': WHATEVER THE INPUT: true; the input reads as it did. -/
def replicaEndsSpec : ChangeSpec := { name := "replicaEnds", fn := fun _ => fun
  | [d1, d2] => { results := [.lit (.bool true)], args := [d1, d2] }
  | _ => none }
def replicaEndsRow : OpenClaim := { program := "ytmmcjjklmcfegaa", sum := "200fe7a5e41818459973412660cbbe8a91aec0ce6902d287a426e35ebeffbec4", func := "ragpicker/ragpickerkeep.ReplicaEnds", spec := "replicaEnds", unfollowed := true, recurses := true, plainKeys := false, apart := false }
def ReplicaEndsSaid : Prop := replicaEndsRow.holds Try.pinned (OpenSpec.ofChange replicaEndsSpec)

/-- ITS FALSE NEIGHBOUR: 'it returns false'. Refute it at one input. -/
def replicaEndsWrong : ChangeSpec := { name := "replicaEnds", fn := fun _ => fun
  | [d1, d2] => { results := [.lit (.bool false)], args := [d1, d2] }
  | _ => none }
def ReplicaEndsWrongFalsely : Prop := replicaEndsRow.holds Try.pinned (OpenSpec.ofChange replicaEndsWrong)

/-- 'ragpickerkeep.GenFront': WHATEVER THE INPUT: true; the input reads as it did. -/
def genFrontSpec : ChangeSpec := { name := "genFront", fn := fun _ => fun
  | [d1, d2, d3, d4] => { results := [.lit (.bool true)], args := [d1, d2, d3, d4] }
  | _ => none }
def genFrontRow : OpenClaim := { program := "ytmmcjjklmcfegaa", sum := "200fe7a5e41818459973412660cbbe8a91aec0ce6902d287a426e35ebeffbec4", func := "ragpicker/ragpickerkeep.GenFront", spec := "genFront", unfollowed := true, recurses := true, plainKeys := false, apart := false }
def GenFrontSaid : Prop := genFrontRow.holds Try.pinned (OpenSpec.ofChange genFrontSpec)

/-- ITS FALSE NEIGHBOUR: 'it returns false'. Refute it at one input. -/
def genFrontWrong : ChangeSpec := { name := "genFront", fn := fun _ => fun
  | [d1, d2, d3, d4] => { results := [.lit (.bool false)], args := [d1, d2, d3, d4] }
  | _ => none }
def GenFrontWrongFalsely : Prop := genFrontRow.holds Try.pinned (OpenSpec.ofChange genFrontWrong)

/-- 'ragpickerkeep.GenSafe': WHATEVER THE INPUT: true; the input reads as it did. -/
def genSafeSpec : ChangeSpec := { name := "genSafe", fn := fun _ => fun
  | [d1, d2, d3] => { results := [.lit (.bool true)], args := [d1, d2, d3] }
  | _ => none }
def genSafeRow : OpenClaim := { program := "ytmmcjjklmcfegaa", sum := "200fe7a5e41818459973412660cbbe8a91aec0ce6902d287a426e35ebeffbec4", func := "ragpicker/ragpickerkeep.GenSafe", spec := "genSafe", unfollowed := true, recurses := true, plainKeys := false, apart := false }
def GenSafeSaid : Prop := genSafeRow.holds Try.pinned (OpenSpec.ofChange genSafeSpec)

/-- ITS FALSE NEIGHBOUR: 'it returns false'. Refute it at one input. -/
def genSafeWrong : ChangeSpec := { name := "genSafe", fn := fun _ => fun
  | [d1, d2, d3] => { results := [.lit (.bool false)], args := [d1, d2, d3] }
  | _ => none }
def GenSafeWrongFalsely : Prop := genSafeRow.holds Try.pinned (OpenSpec.ofChange genSafeWrong)

/-- 'ragpickerkeep.GenClears': WHATEVER THE INPUT: true; the input reads as it did. -/
def genClearsSpec : ChangeSpec := { name := "genClears", fn := fun _ => fun
  | [d1, d2, d3] => { results := [.lit (.bool true)], args := [d1, d2, d3] }
  | _ => none }
def genClearsRow : OpenClaim := { program := "ytmmcjjklmcfegaa", sum := "200fe7a5e41818459973412660cbbe8a91aec0ce6902d287a426e35ebeffbec4", func := "ragpicker/ragpickerkeep.GenClears", spec := "genClears", unfollowed := true, recurses := true, plainKeys := false, apart := false }
def GenClearsSaid : Prop := genClearsRow.holds Try.pinned (OpenSpec.ofChange genClearsSpec)

/-- ITS FALSE NEIGHBOUR: 'it returns false'. Refute it at one input. -/
def genClearsWrong : ChangeSpec := { name := "genClears", fn := fun _ => fun
  | [d1, d2, d3] => { results := [.lit (.bool false)], args := [d1, d2, d3] }
  | _ => none }
def GenClearsWrongFalsely : Prop := genClearsRow.holds Try.pinned (OpenSpec.ofChange genClearsWrong)

/- THE SECOND FORM. 'bulk': how many values and letters a reading holds, each counted each time it is reached (what is shared counts as often as it is met; a slice's spare places count too). A statement '..UptoSaid' is the law's where the arguments, and the package variables that the reading takes, are together of bulk at most 1048576: NARROWER than '..Said'. Prove '..Said' where nothing that the law and all that it calls make is longer than what came in: it says more and counts as full. Else prove '..UptoSaid'. A law counts once. -/
mutual
def uptoBulk {H : Type} : DataW H → Nat
  | .lit (.string bytes) => bytes.length + 1
  | .lit _ => 1
  | .nil => 1
  | .ptr d => uptoBulk d + 1
  | .slice elems spare => uptoBulkAll elems + uptoBulkAll spare + 1
  | .agg parts => uptoBulkAll parts + 1
  | .iface _ d => uptoBulk d + 1
  | .map entries => uptoBulkEntries entries + 1
  | .held _ => 1
def uptoBulkAll {H : Type} : List (DataW H) → Nat
  | [] => 0
  | d :: r => uptoBulk d + uptoBulkAll r
def uptoBulkEntries {H : Type} : List (Lit × DataW H) → Nat
  | [] => 0
  | x :: r => uptoBulkEntry x + uptoBulkEntries r
def uptoBulkEntry {H : Type} : Lit × DataW H → Nat
  | (.string bytes, d) => bytes.length + uptoBulk d + 1
  | (_, d) => uptoBulk d + 1
 end
def uptoSmall : (H : Type) → List (DataW H) → Bool := fun _ ds => decide (uptoBulkAll ds ≤ 1048576)
def OpenSpec.upto (s : _root_.Go.ChangeSpec) : _root_.Go.OpenSpec := { _root_.Go.OpenSpec.ofChange s with cond := some uptoSmall }

/-- 'ragpickerkeep.IdealSplits', WHERE WHAT IT READS IS OF BULK AT MOST 1048576: true; the input reads as it did. -/
def idealSplitsUptoRow : OpenClaim := { program := "ytmmcjjklmcfegaa", sum := "200fe7a5e41818459973412660cbbe8a91aec0ce6902d287a426e35ebeffbec4", func := "ragpicker/ragpickerkeep.IdealSplits", spec := "idealSplits", unfollowed := true, recurses := true, plainKeys := false, apart := false, narrowed := true }
def IdealSplitsUptoSaid : Prop := idealSplitsUptoRow.holds Try.pinned (OpenSpec.upto idealSplitsSpec)

/-- 'ragpickerkeep.IdealLike', WHERE WHAT IT READS IS OF BULK AT MOST 1048576: true; the input reads as it did. -/
def idealLikeUptoRow : OpenClaim := { program := "ytmmcjjklmcfegaa", sum := "200fe7a5e41818459973412660cbbe8a91aec0ce6902d287a426e35ebeffbec4", func := "ragpicker/ragpickerkeep.IdealLike", spec := "idealLike", unfollowed := true, recurses := true, plainKeys := false, apart := false, narrowed := true }
def IdealLikeUptoSaid : Prop := idealLikeUptoRow.holds Try.pinned (OpenSpec.upto idealLikeSpec)

/-- 'ragpickerkeep.CountFront', WHERE WHAT IT READS IS OF BULK AT MOST 1048576: true; the input reads as it did. -/
def countFrontUptoRow : OpenClaim := { program := "ytmmcjjklmcfegaa", sum := "200fe7a5e41818459973412660cbbe8a91aec0ce6902d287a426e35ebeffbec4", func := "ragpicker/ragpickerkeep.CountFront", spec := "countFront", unfollowed := true, recurses := true, plainKeys := false, apart := false, narrowed := true }
def CountFrontUptoSaid : Prop := countFrontUptoRow.holds Try.pinned (OpenSpec.upto countFrontSpec)

/-- 'ragpickerkeep.CountSafe', WHERE WHAT IT READS IS OF BULK AT MOST 1048576: true; the input reads as it did. -/
def countSafeUptoRow : OpenClaim := { program := "ytmmcjjklmcfegaa", sum := "200fe7a5e41818459973412660cbbe8a91aec0ce6902d287a426e35ebeffbec4", func := "ragpicker/ragpickerkeep.CountSafe", spec := "countSafe", unfollowed := true, recurses := true, plainKeys := false, apart := false, narrowed := true }
def CountSafeUptoSaid : Prop := countSafeUptoRow.holds Try.pinned (OpenSpec.upto countSafeSpec)

/-- 'ragpickerkeep.DualCounts', WHERE WHAT IT READS IS OF BULK AT MOST 1048576: true; the input reads as it did. -/
def dualCountsUptoRow : OpenClaim := { program := "ytmmcjjklmcfegaa", sum := "200fe7a5e41818459973412660cbbe8a91aec0ce6902d287a426e35ebeffbec4", func := "ragpicker/ragpickerkeep.DualCounts", spec := "dualCounts", unfollowed := true, recurses := true, plainKeys := false, apart := false, narrowed := true }
def DualCountsUptoSaid : Prop := dualCountsUptoRow.holds Try.pinned (OpenSpec.upto dualCountsSpec)

/-- 'ragpickerkeep.CountAcyclic', WHERE WHAT IT READS IS OF BULK AT MOST 1048576: true; the input reads as it did. -/
def countAcyclicUptoRow : OpenClaim := { program := "ytmmcjjklmcfegaa", sum := "200fe7a5e41818459973412660cbbe8a91aec0ce6902d287a426e35ebeffbec4", func := "ragpicker/ragpickerkeep.CountAcyclic", spec := "countAcyclic", unfollowed := true, recurses := true, plainKeys := false, apart := false, narrowed := true }
def CountAcyclicUptoSaid : Prop := countAcyclicUptoRow.holds Try.pinned (OpenSpec.upto countAcyclicSpec)

/-- 'ragpickerkeep.ReplicaFront', WHERE WHAT IT READS IS OF BULK AT MOST 1048576: true; the input reads as it did. -/
def replicaFrontUptoRow : OpenClaim := { program := "ytmmcjjklmcfegaa", sum := "200fe7a5e41818459973412660cbbe8a91aec0ce6902d287a426e35ebeffbec4", func := "ragpicker/ragpickerkeep.ReplicaFront", spec := "replicaFront", unfollowed := true, recurses := true, plainKeys := false, apart := false, narrowed := true }
def ReplicaFrontUptoSaid : Prop := replicaFrontUptoRow.holds Try.pinned (OpenSpec.upto replicaFrontSpec)

/-- 'ragpickerkeep.ReplicaSafe', WHERE WHAT IT READS IS OF BULK AT MOST 1048576: true; the input reads as it did. -/
def replicaSafeUptoRow : OpenClaim := { program := "ytmmcjjklmcfegaa", sum := "200fe7a5e41818459973412660cbbe8a91aec0ce6902d287a426e35ebeffbec4", func := "ragpicker/ragpickerkeep.ReplicaSafe", spec := "replicaSafe", unfollowed := true, recurses := true, plainKeys := false, apart := false, narrowed := true }
def ReplicaSafeUptoSaid : Prop := replicaSafeUptoRow.holds Try.pinned (OpenSpec.upto replicaSafeSpec)

/-- 'ragpickerkeep.ReplicaEnds', WHERE WHAT IT READS IS OF BULK AT MOST 1048576: true; the input reads as it did. -/
def replicaEndsUptoRow : OpenClaim := { program := "ytmmcjjklmcfegaa", sum := "200fe7a5e41818459973412660cbbe8a91aec0ce6902d287a426e35ebeffbec4", func := "ragpicker/ragpickerkeep.ReplicaEnds", spec := "replicaEnds", unfollowed := true, recurses := true, plainKeys := false, apart := false, narrowed := true }
def ReplicaEndsUptoSaid : Prop := replicaEndsUptoRow.holds Try.pinned (OpenSpec.upto replicaEndsSpec)

/-- 'ragpickerkeep.GenFront', WHERE WHAT IT READS IS OF BULK AT MOST 1048576: true; the input reads as it did. -/
def genFrontUptoRow : OpenClaim := { program := "ytmmcjjklmcfegaa", sum := "200fe7a5e41818459973412660cbbe8a91aec0ce6902d287a426e35ebeffbec4", func := "ragpicker/ragpickerkeep.GenFront", spec := "genFront", unfollowed := true, recurses := true, plainKeys := false, apart := false, narrowed := true }
def GenFrontUptoSaid : Prop := genFrontUptoRow.holds Try.pinned (OpenSpec.upto genFrontSpec)

/-- 'ragpickerkeep.GenSafe', WHERE WHAT IT READS IS OF BULK AT MOST 1048576: true; the input reads as it did. -/
def genSafeUptoRow : OpenClaim := { program := "ytmmcjjklmcfegaa", sum := "200fe7a5e41818459973412660cbbe8a91aec0ce6902d287a426e35ebeffbec4", func := "ragpicker/ragpickerkeep.GenSafe", spec := "genSafe", unfollowed := true, recurses := true, plainKeys := false, apart := false, narrowed := true }
def GenSafeUptoSaid : Prop := genSafeUptoRow.holds Try.pinned (OpenSpec.upto genSafeSpec)

/-- 'ragpickerkeep.GenClears', WHERE WHAT IT READS IS OF BULK AT MOST 1048576: true; the input reads as it did. -/
def genClearsUptoRow : OpenClaim := { program := "ytmmcjjklmcfegaa", sum := "200fe7a5e41818459973412660cbbe8a91aec0ce6902d287a426e35ebeffbec4", func := "ragpicker/ragpickerkeep.GenClears", spec := "genClears", unfollowed := true, recurses := true, plainKeys := false, apart := false, narrowed := true }
def GenClearsUptoSaid : Prop := genClearsUptoRow.holds Try.pinned (OpenSpec.upto genClearsSpec)

end Rows
end Go.Proofs.Ytmmcjjklmcfegaa
