/-
  No cell of these rows narrows 'for every input' (looked for: loops, veiled, ifaces, maps, wideKeys, modest, calm, conditions, laid).
  DERIVED. THE GIVEN ROWS OF THIS SEAT. 5 by the template 'for every input the law returns true; each argument reads behind the call as it read before'; 0 by the template 'total and deterministic' (their statements: YthpdgpeoadlhjaaTotals.lean).
  GIVEN WITH THE SEED: the statements are not yours to turn. If you find one false, say at which input.
  Laid BY PROGRAM, IN A SANDBOX (cutbox-rows.mjs): the forced cells as the released guide's own fill.sh prints them over the translation 2024953d81949232… (all of the seat's roots in one cut). By AI agents, Wed Nov 11 2026. No macro, syntax, notation, axiom, sorry.
-/
import Derived.Test.YthpdgpeoadlhjaaChecked
import GoSem.Claim
import GoSem.ClaimJoined
import GoSem.ClaimMapViews
import Derived.JoinedTies
import Derived.KernelRfl
namespace Go.Proofs.Ythpdgpeoadlhjaa
/- THE CELL 'sum', in the pinned program and in every row, IS THE sha256 OF THE DUMP (.gsa) THAT YthpdgpeoadlhjaaProg.lean LOADS. Nothing in Lean hashes anything: it is a label: what it is worth is what the hold of that sum in a sandbox is worth. -/
noncomputable def Try.pinned : Pinned := { name := "ythpdgpeoadlhjaa", sum := "2024953d81949232c73480471171e221222c5a58e2ed6757570031da9d20605c", checked := Try.checked }
namespace Rows
def none {H : Type} : Left H := { results := [], args := [] }

/-- 'ragpickerkeep.WordsHeaded': WHATEVER THE INPUT: true; the input reads as it did. -/
def wordsHeadedSpec : ChangeSpec := { name := "wordsHeaded", fn := fun _ => fun
  | [d] => { results := [.lit (.bool true)], args := [d] }
  | _ => none }
def wordsHeadedRow : OpenClaim := { program := "ythpdgpeoadlhjaa", sum := "2024953d81949232c73480471171e221222c5a58e2ed6757570031da9d20605c", func := "ragpicker/ragpickerkeep.WordsHeaded", spec := "wordsHeaded", apart := false }
def WordsHeadedSaid : Prop := wordsHeadedRow.holds Try.pinned (OpenSpec.ofChange wordsHeadedSpec)

/-- ITS FALSE NEIGHBOUR: 'it returns false'. Refute it at one input. -/
def wordsHeadedWrong : ChangeSpec := { name := "wordsHeaded", fn := fun _ => fun
  | [d] => { results := [.lit (.bool false)], args := [d] }
  | _ => none }
def WordsHeadedWrongFalsely : Prop := wordsHeadedRow.holds Try.pinned (OpenSpec.ofChange wordsHeadedWrong)

/-- 'ragpickerkeep.WordsBack': WHATEVER THE INPUT: true; the input reads as it did. -/
def wordsBackSpec : ChangeSpec := { name := "wordsBack", fn := fun _ => fun
  | [d1, d2] => { results := [.lit (.bool true)], args := [d1, d2] }
  | _ => none }
def wordsBackRow : OpenClaim := { program := "ythpdgpeoadlhjaa", sum := "2024953d81949232c73480471171e221222c5a58e2ed6757570031da9d20605c", func := "ragpicker/ragpickerkeep.WordsBack", spec := "wordsBack", apart := false }
def WordsBackSaid : Prop := wordsBackRow.holds Try.pinned (OpenSpec.ofChange wordsBackSpec)

/-- ITS FALSE NEIGHBOUR: 'it returns false'. Refute it at one input. -/
def wordsBackWrong : ChangeSpec := { name := "wordsBack", fn := fun _ => fun
  | [d1, d2] => { results := [.lit (.bool false)], args := [d1, d2] }
  | _ => none }
def WordsBackWrongFalsely : Prop := wordsBackRow.holds Try.pinned (OpenSpec.ofChange wordsBackWrong)

/-- 'ragpickerkeep.WordsOnly': WHATEVER THE INPUT: true; the input reads as it did. -/
def wordsOnlySpec : ChangeSpec := { name := "wordsOnly", fn := fun _ => fun
  | [d] => { results := [.lit (.bool true)], args := [d] }
  | _ => none }
def wordsOnlyRow : OpenClaim := { program := "ythpdgpeoadlhjaa", sum := "2024953d81949232c73480471171e221222c5a58e2ed6757570031da9d20605c", func := "ragpicker/ragpickerkeep.WordsOnly", spec := "wordsOnly", apart := false }
def WordsOnlySaid : Prop := wordsOnlyRow.holds Try.pinned (OpenSpec.ofChange wordsOnlySpec)

/-- ITS FALSE NEIGHBOUR: 'it returns false'. Refute it at one input. -/
def wordsOnlyWrong : ChangeSpec := { name := "wordsOnly", fn := fun _ => fun
  | [d] => { results := [.lit (.bool false)], args := [d] }
  | _ => none }
def WordsOnlyWrongFalsely : Prop := wordsOnlyRow.holds Try.pinned (OpenSpec.ofChange wordsOnlyWrong)

/-- 'ragpickerkeep.HazardSafe': WHATEVER THE INPUT: true; the input reads as it did. -/
def hazardSafeSpec : ChangeSpec := { name := "hazardSafe", fn := fun _ => fun
  | [d1, d2] => { results := [.lit (.bool true)], args := [d1, d2] }
  | _ => none }
def hazardSafeRow : OpenClaim := { program := "ythpdgpeoadlhjaa", sum := "2024953d81949232c73480471171e221222c5a58e2ed6757570031da9d20605c", func := "ragpicker/ragpickerkeep.HazardSafe", spec := "hazardSafe", unfollowed := true, recurses := true, apart := false }
def HazardSafeSaid : Prop := hazardSafeRow.holds Try.pinned (OpenSpec.ofChange hazardSafeSpec)

/-- ITS FALSE NEIGHBOUR: 'it returns false'. Refute it at one input. -/
def hazardSafeWrong : ChangeSpec := { name := "hazardSafe", fn := fun _ => fun
  | [d1, d2] => { results := [.lit (.bool false)], args := [d1, d2] }
  | _ => none }
def HazardSafeWrongFalsely : Prop := hazardSafeRow.holds Try.pinned (OpenSpec.ofChange hazardSafeWrong)

/-- 'ragpickerkeep.HazardFew': WHATEVER THE INPUT: true; the input reads as it did. -/
def hazardFewSpec : ChangeSpec := { name := "hazardFew", fn := fun _ => fun
  | [d1, d2, d3] => { results := [.lit (.bool true)], args := [d1, d2, d3] }
  | _ => none }
def hazardFewRow : OpenClaim := { program := "ythpdgpeoadlhjaa", sum := "2024953d81949232c73480471171e221222c5a58e2ed6757570031da9d20605c", func := "ragpicker/ragpickerkeep.HazardFew", spec := "hazardFew", unfollowed := true, recurses := true, apart := false }
def HazardFewSaid : Prop := hazardFewRow.holds Try.pinned (OpenSpec.ofChange hazardFewSpec)

/-- ITS FALSE NEIGHBOUR: 'it returns false'. Refute it at one input. -/
def hazardFewWrong : ChangeSpec := { name := "hazardFew", fn := fun _ => fun
  | [d1, d2, d3] => { results := [.lit (.bool false)], args := [d1, d2, d3] }
  | _ => none }
def HazardFewWrongFalsely : Prop := hazardFewRow.holds Try.pinned (OpenSpec.ofChange hazardFewWrong)

/- THE SECOND FORM. 'bulk': how many values and letters a reading holds, each counted each time it is reached (what is shared counts as often as it is met; a slice's spare places count too). A statement '..UptoSaid' is the law's where the arguments, and the package variables that the reading takes, are together of bulk at most 1048576: NARROWER than '..Said'. Prove '..Said' where nothing that the law and all that it calls make is longer than what came in: it says more and counts as full. Else prove '..UptoSaid'. A law counts once. -/
mutual
def uptoBulk {H : Type} : DataW H → Nat
  | .lit (.string bytes) => bytes.length + 1
  | .lit _ => 1
  | .nil => 1
  | .ptr d => uptoBulk d + 1
  | .slice elems spare => uptoBulkAll elems + uptoBulkAll spare + 1
  | .agg parts => uptoBulkAll parts + 1
  | .iface _ d => uptoBulk d + 1
  | .map entries => uptoBulkEntries entries + 1
  | .held _ => 1
def uptoBulkAll {H : Type} : List (DataW H) → Nat
  | [] => 0
  | d :: r => uptoBulk d + uptoBulkAll r
def uptoBulkEntries {H : Type} : List (Lit × DataW H) → Nat
  | [] => 0
  | x :: r => uptoBulkEntry x + uptoBulkEntries r
def uptoBulkEntry {H : Type} : Lit × DataW H → Nat
  | (.string bytes, d) => bytes.length + uptoBulk d + 1
  | (_, d) => uptoBulk d + 1
 end
def uptoSmall : (H : Type) → List (DataW H) → Bool := fun _ ds => decide (uptoBulkAll ds ≤ 1048576)
def OpenSpec.upto (s : _root_.Go.ChangeSpec) : _root_.Go.OpenSpec := { _root_.Go.OpenSpec.ofChange s with cond := some uptoSmall }

/-- 'ragpickerkeep.WordsHeaded', WHERE WHAT IT READS IS OF BULK AT MOST 1048576: true; the input reads as it did. -/
def wordsHeadedUptoRow : OpenClaim := { program := "ythpdgpeoadlhjaa", sum := "2024953d81949232c73480471171e221222c5a58e2ed6757570031da9d20605c", func := "ragpicker/ragpickerkeep.WordsHeaded", spec := "wordsHeaded", apart := false, narrowed := true }
def WordsHeadedUptoSaid : Prop := wordsHeadedUptoRow.holds Try.pinned (OpenSpec.upto wordsHeadedSpec)

/-- 'ragpickerkeep.WordsBack', WHERE WHAT IT READS IS OF BULK AT MOST 1048576: true; the input reads as it did. -/
def wordsBackUptoRow : OpenClaim := { program := "ythpdgpeoadlhjaa", sum := "2024953d81949232c73480471171e221222c5a58e2ed6757570031da9d20605c", func := "ragpicker/ragpickerkeep.WordsBack", spec := "wordsBack", apart := false, narrowed := true }
def WordsBackUptoSaid : Prop := wordsBackUptoRow.holds Try.pinned (OpenSpec.upto wordsBackSpec)

/-- 'ragpickerkeep.WordsOnly', WHERE WHAT IT READS IS OF BULK AT MOST 1048576: true; the input reads as it did. -/
def wordsOnlyUptoRow : OpenClaim := { program := "ythpdgpeoadlhjaa", sum := "2024953d81949232c73480471171e221222c5a58e2ed6757570031da9d20605c", func := "ragpicker/ragpickerkeep.WordsOnly", spec := "wordsOnly", apart := false, narrowed := true }
def WordsOnlyUptoSaid : Prop := wordsOnlyUptoRow.holds Try.pinned (OpenSpec.upto wordsOnlySpec)

/-- 'ragpickerkeep.HazardSafe', WHERE WHAT IT READS IS OF BULK AT MOST 1048576: true; the input reads as it did. -/
def hazardSafeUptoRow : OpenClaim := { program := "ythpdgpeoadlhjaa", sum := "2024953d81949232c73480471171e221222c5a58e2ed6757570031da9d20605c", func := "ragpicker/ragpickerkeep.HazardSafe", spec := "hazardSafe", unfollowed := true, recurses := true, apart := false, narrowed := true }
def HazardSafeUptoSaid : Prop := hazardSafeUptoRow.holds Try.pinned (OpenSpec.upto hazardSafeSpec)

/-- 'ragpickerkeep.HazardFew', WHERE WHAT IT READS IS OF BULK AT MOST 1048576: true; the input reads as it did. -/
def hazardFewUptoRow : OpenClaim := { program := "ythpdgpeoadlhjaa", sum := "2024953d81949232c73480471171e221222c5a58e2ed6757570031da9d20605c", func := "ragpicker/ragpickerkeep.HazardFew", spec := "hazardFew", unfollowed := true, recurses := true, apart := false, narrowed := true }
def HazardFewUptoSaid : Prop := hazardFewUptoRow.holds Try.pinned (OpenSpec.upto hazardFewSpec)

end Rows
end Go.Proofs.Ythpdgpeoadlhjaa
