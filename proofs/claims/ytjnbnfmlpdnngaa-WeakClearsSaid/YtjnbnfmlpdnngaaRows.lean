/-
  No cell of these rows narrows 'for every input' (looked for: loops, veiled, ifaces, maps, wideKeys, modest, calm, conditions, laid).
  DERIVED. THE GIVEN ROWS OF THIS SEAT. 8 by the template 'for every input the law returns true; each argument reads behind the call as it read before'; 0 by the template 'total and deterministic' (their statements: YtjnbnfmlpdnngaaTotals.lean).
  GIVEN WITH THE SEED: the statements are not yours to turn. If you find one false, say at which input.
  Laid BY PROGRAM, IN A SANDBOX (cutbox-rows.mjs): the forced cells as the released guide's own fill.sh prints them over the translation 8dcc9c0225dc57cb… (all of the seat's roots in one cut). By AI agents, Wed Nov 11 2026. No macro, syntax, notation, axiom, sorry.
-/
import Derived.Test.YtjnbnfmlpdnngaaChecked
import GoSem.Claim
import GoSem.ClaimJoined
import GoSem.ClaimMapViews
import Derived.JoinedTies
import Derived.KernelRfl
namespace Go.Proofs.Ytjnbnfmlpdnngaa
/- THE CELL 'sum', in the pinned program and in every row, IS THE sha256 OF THE DUMP (.gsa) THAT YtjnbnfmlpdnngaaProg.lean LOADS. Nothing in Lean hashes anything: it is a label: what it is worth is what the hold of that sum in a sandbox is worth. -/
noncomputable def Try.pinned : Pinned := { name := "ytjnbnfmlpdnngaa", sum := "8dcc9c0225dc57cb0234347cbd62f2da3bf80bde98d2db617e0f96a81b2817cb", checked := Try.checked }
namespace Rows
def none {H : Type} : Left H := { results := [], args := [] }

/-- 'ragpickerkeep.TriAll': WHATEVER THE INPUT: true; the input reads as it did. -/
def triAllSpec : ChangeSpec := { name := "triAll", fn := fun _ => fun
  | [d1, d2, d3] => { results := [.lit (.bool true)], args := [d1, d2, d3] }
  | _ => none }
def triAllRow : OpenClaim := { program := "ytjnbnfmlpdnngaa", sum := "8dcc9c0225dc57cb0234347cbd62f2da3bf80bde98d2db617e0f96a81b2817cb", func := "ragpicker/ragpickerkeep.TriAll", spec := "triAll", unfollowed := true, recurses := true, apart := false }
def TriAllSaid : Prop := triAllRow.holds Try.pinned (OpenSpec.ofChange triAllSpec)

/-- ITS FALSE NEIGHBOUR: 'it returns false'. Refute it at one input. -/
def triAllWrong : ChangeSpec := { name := "triAll", fn := fun _ => fun
  | [d1, d2, d3] => { results := [.lit (.bool false)], args := [d1, d2, d3] }
  | _ => none }
def TriAllWrongFalsely : Prop := triAllRow.holds Try.pinned (OpenSpec.ofChange triAllWrong)

/-- 'ragpickerkeep.TriFront': WHATEVER THE INPUT: true; the input reads as it did. -/
def triFrontSpec : ChangeSpec := { name := "triFront", fn := fun _ => fun
  | [d1, d2, d3, d4] => { results := [.lit (.bool true)], args := [d1, d2, d3, d4] }
  | _ => none }
def triFrontRow : OpenClaim := { program := "ytjnbnfmlpdnngaa", sum := "8dcc9c0225dc57cb0234347cbd62f2da3bf80bde98d2db617e0f96a81b2817cb", func := "ragpicker/ragpickerkeep.TriFront", spec := "triFront", unfollowed := true, recurses := true, apart := false }
def TriFrontSaid : Prop := triFrontRow.holds Try.pinned (OpenSpec.ofChange triFrontSpec)

/-- ITS FALSE NEIGHBOUR: 'it returns false'. Refute it at one input. -/
def triFrontWrong : ChangeSpec := { name := "triFront", fn := fun _ => fun
  | [d1, d2, d3, d4] => { results := [.lit (.bool false)], args := [d1, d2, d3, d4] }
  | _ => none }
def TriFrontWrongFalsely : Prop := triFrontRow.holds Try.pinned (OpenSpec.ofChange triFrontWrong)

/-- 'ragpickerkeep.TriSafe': WHATEVER THE INPUT: true; the input reads as it did. -/
def triSafeSpec : ChangeSpec := { name := "triSafe", fn := fun _ => fun
  | [d1, d2, d3] => { results := [.lit (.bool true)], args := [d1, d2, d3] }
  | _ => none }
def triSafeRow : OpenClaim := { program := "ytjnbnfmlpdnngaa", sum := "8dcc9c0225dc57cb0234347cbd62f2da3bf80bde98d2db617e0f96a81b2817cb", func := "ragpicker/ragpickerkeep.TriSafe", spec := "triSafe", unfollowed := true, recurses := true, apart := false }
def TriSafeSaid : Prop := triSafeRow.holds Try.pinned (OpenSpec.ofChange triSafeSpec)

/-- ITS FALSE NEIGHBOUR: 'it returns false'. Refute it at one input. -/
def triSafeWrong : ChangeSpec := { name := "triSafe", fn := fun _ => fun
  | [d1, d2, d3] => { results := [.lit (.bool false)], args := [d1, d2, d3] }
  | _ => none }
def TriSafeWrongFalsely : Prop := triSafeRow.holds Try.pinned (OpenSpec.ofChange triSafeWrong)

/-- 'ragpickerkeep.TriEnds': WHATEVER THE INPUT: true; the input reads as it did. -/
def triEndsSpec : ChangeSpec := { name := "triEnds", fn := fun _ => fun
  | [d1, d2, d3] => { results := [.lit (.bool true)], args := [d1, d2, d3] }
  | _ => none }
def triEndsRow : OpenClaim := { program := "ytjnbnfmlpdnngaa", sum := "8dcc9c0225dc57cb0234347cbd62f2da3bf80bde98d2db617e0f96a81b2817cb", func := "ragpicker/ragpickerkeep.TriEnds", spec := "triEnds", unfollowed := true, recurses := true, apart := false }
def TriEndsSaid : Prop := triEndsRow.holds Try.pinned (OpenSpec.ofChange triEndsSpec)

/-- ITS FALSE NEIGHBOUR: 'it returns false'. Refute it at one input. -/
def triEndsWrong : ChangeSpec := { name := "triEnds", fn := fun _ => fun
  | [d1, d2, d3] => { results := [.lit (.bool false)], args := [d1, d2, d3] }
  | _ => none }
def TriEndsWrongFalsely : Prop := triEndsRow.holds Try.pinned (OpenSpec.ofChange triEndsWrong)

/-- 'ragpickerkeep.WeakClears': WHATEVER THE INPUT: true; the input reads as it did. -/
def weakClearsSpec : ChangeSpec := { name := "weakClears", fn := fun _ => fun
  | [d1, d2] => { results := [.lit (.bool true)], args := [d1, d2] }
  | _ => none }
def weakClearsRow : OpenClaim := { program := "ytjnbnfmlpdnngaa", sum := "8dcc9c0225dc57cb0234347cbd62f2da3bf80bde98d2db617e0f96a81b2817cb", func := "ragpicker/ragpickerkeep.WeakClears", spec := "weakClears", unfollowed := true, recurses := true, apart := false }
def WeakClearsSaid : Prop := weakClearsRow.holds Try.pinned (OpenSpec.ofChange weakClearsSpec)

/-- ITS FALSE NEIGHBOUR: 'it returns false'. Refute it at one input. -/
def weakClearsWrong : ChangeSpec := { name := "weakClears", fn := fun _ => fun
  | [d1, d2] => { results := [.lit (.bool false)], args := [d1, d2] }
  | _ => none }
def WeakClearsWrongFalsely : Prop := weakClearsRow.holds Try.pinned (OpenSpec.ofChange weakClearsWrong)

/-- 'ragpickertop.TopAlike': WHATEVER THE INPUT: true; the input reads as it did. -/
def topAlikeSpec : ChangeSpec := { name := "topAlike", fn := fun _ => fun
  | [d1, d2] => { results := [.lit (.bool true)], args := [d1, d2] }
  | _ => none }
def topAlikeRow : OpenClaim := { program := "ytjnbnfmlpdnngaa", sum := "8dcc9c0225dc57cb0234347cbd62f2da3bf80bde98d2db617e0f96a81b2817cb", func := "ragpicker/ragpickertop.TopAlike", spec := "topAlike", unfollowed := true, recurses := true, apart := false }
def TopAlikeSaid : Prop := topAlikeRow.holds Try.pinned (OpenSpec.ofChange topAlikeSpec)

/-- ITS FALSE NEIGHBOUR: 'it returns false'. Refute it at one input. -/
def topAlikeWrong : ChangeSpec := { name := "topAlike", fn := fun _ => fun
  | [d1, d2] => { results := [.lit (.bool false)], args := [d1, d2] }
  | _ => none }
def TopAlikeWrongFalsely : Prop := topAlikeRow.holds Try.pinned (OpenSpec.ofChange topAlikeWrong)

/-- 'ragpickertop.TopMore': WHATEVER THE INPUT: true; the input reads as it did. -/
def topMoreSpec : ChangeSpec := { name := "topMore", fn := fun _ => fun
  | [d1, d2, d3, d4] => { results := [.lit (.bool true)], args := [d1, d2, d3, d4] }
  | _ => none }
def topMoreRow : OpenClaim := { program := "ytjnbnfmlpdnngaa", sum := "8dcc9c0225dc57cb0234347cbd62f2da3bf80bde98d2db617e0f96a81b2817cb", func := "ragpicker/ragpickertop.TopMore", spec := "topMore", unfollowed := true, recurses := true, apart := false }
def TopMoreSaid : Prop := topMoreRow.holds Try.pinned (OpenSpec.ofChange topMoreSpec)

/-- ITS FALSE NEIGHBOUR: 'it returns false'. Refute it at one input. -/
def topMoreWrong : ChangeSpec := { name := "topMore", fn := fun _ => fun
  | [d1, d2, d3, d4] => { results := [.lit (.bool false)], args := [d1, d2, d3, d4] }
  | _ => none }
def TopMoreWrongFalsely : Prop := topMoreRow.holds Try.pinned (OpenSpec.ofChange topMoreWrong)

/-- 'ragpickertop.TopFront': WHATEVER THE INPUT: true; the input reads as it did. -/
def topFrontSpec : ChangeSpec := { name := "topFront", fn := fun _ => fun
  | [d1, d2, d3, d4] => { results := [.lit (.bool true)], args := [d1, d2, d3, d4] }
  | _ => none }
def topFrontRow : OpenClaim := { program := "ytjnbnfmlpdnngaa", sum := "8dcc9c0225dc57cb0234347cbd62f2da3bf80bde98d2db617e0f96a81b2817cb", func := "ragpicker/ragpickertop.TopFront", spec := "topFront", unfollowed := true, recurses := true, apart := false }
def TopFrontSaid : Prop := topFrontRow.holds Try.pinned (OpenSpec.ofChange topFrontSpec)

/-- ITS FALSE NEIGHBOUR: 'it returns false'. Refute it at one input. -/
def topFrontWrong : ChangeSpec := { name := "topFront", fn := fun _ => fun
  | [d1, d2, d3, d4] => { results := [.lit (.bool false)], args := [d1, d2, d3, d4] }
  | _ => none }
def TopFrontWrongFalsely : Prop := topFrontRow.holds Try.pinned (OpenSpec.ofChange topFrontWrong)

/- THE SECOND FORM. 'bulk': how many values and letters a reading holds, each counted each time it is reached (what is shared counts as often as it is met; a slice's spare places count too). A statement '..UptoSaid' is the law's where the arguments, and the package variables that the reading takes, are together of bulk at most 1048576: NARROWER than '..Said'. Prove '..Said' where nothing that the law and all that it calls make is longer than what came in: it says more and counts as full. Else prove '..UptoSaid'. A law counts once. -/
mutual
def uptoBulk {H : Type} : DataW H → Nat
  | .lit (.string bytes) => bytes.length + 1
  | .lit _ => 1
  | .nil => 1
  | .ptr d => uptoBulk d + 1
  | .slice elems spare => uptoBulkAll elems + uptoBulkAll spare + 1
  | .agg parts => uptoBulkAll parts + 1
  | .iface _ d => uptoBulk d + 1
  | .map entries => uptoBulkEntries entries + 1
  | .held _ => 1
def uptoBulkAll {H : Type} : List (DataW H) → Nat
  | [] => 0
  | d :: r => uptoBulk d + uptoBulkAll r
def uptoBulkEntries {H : Type} : List (Lit × DataW H) → Nat
  | [] => 0
  | x :: r => uptoBulkEntry x + uptoBulkEntries r
def uptoBulkEntry {H : Type} : Lit × DataW H → Nat
  | (.string bytes, d) => bytes.length + uptoBulk d + 1
  | (_, d) => uptoBulk d + 1
 end
def uptoSmall : (H : Type) → List (DataW H) → Bool := fun _ ds => decide (uptoBulkAll ds ≤ 1048576)
def OpenSpec.upto (s : _root_.Go.ChangeSpec) : _root_.Go.OpenSpec := { _root_.Go.OpenSpec.ofChange s with cond := some uptoSmall }

/-- 'ragpickerkeep.TriAll', WHERE WHAT IT READS IS OF BULK AT MOST 1048576: true; the input reads as it did. -/
def triAllUptoRow : OpenClaim := { program := "ytjnbnfmlpdnngaa", sum := "8dcc9c0225dc57cb0234347cbd62f2da3bf80bde98d2db617e0f96a81b2817cb", func := "ragpicker/ragpickerkeep.TriAll", spec := "triAll", unfollowed := true, recurses := true, apart := false, narrowed := true }
def TriAllUptoSaid : Prop := triAllUptoRow.holds Try.pinned (OpenSpec.upto triAllSpec)

/-- 'ragpickerkeep.TriFront', WHERE WHAT IT READS IS OF BULK AT MOST 1048576: true; the input reads as it did. -/
def triFrontUptoRow : OpenClaim := { program := "ytjnbnfmlpdnngaa", sum := "8dcc9c0225dc57cb0234347cbd62f2da3bf80bde98d2db617e0f96a81b2817cb", func := "ragpicker/ragpickerkeep.TriFront", spec := "triFront", unfollowed := true, recurses := true, apart := false, narrowed := true }
def TriFrontUptoSaid : Prop := triFrontUptoRow.holds Try.pinned (OpenSpec.upto triFrontSpec)

/-- 'ragpickerkeep.TriSafe', WHERE WHAT IT READS IS OF BULK AT MOST 1048576: true; the input reads as it did. -/
def triSafeUptoRow : OpenClaim := { program := "ytjnbnfmlpdnngaa", sum := "8dcc9c0225dc57cb0234347cbd62f2da3bf80bde98d2db617e0f96a81b2817cb", func := "ragpicker/ragpickerkeep.TriSafe", spec := "triSafe", unfollowed := true, recurses := true, apart := false, narrowed := true }
def TriSafeUptoSaid : Prop := triSafeUptoRow.holds Try.pinned (OpenSpec.upto triSafeSpec)

/-- 'ragpickerkeep.TriEnds', WHERE WHAT IT READS IS OF BULK AT MOST 1048576: true; the input reads as it did. -/
def triEndsUptoRow : OpenClaim := { program := "ytjnbnfmlpdnngaa", sum := "8dcc9c0225dc57cb0234347cbd62f2da3bf80bde98d2db617e0f96a81b2817cb", func := "ragpicker/ragpickerkeep.TriEnds", spec := "triEnds", unfollowed := true, recurses := true, apart := false, narrowed := true }
def TriEndsUptoSaid : Prop := triEndsUptoRow.holds Try.pinned (OpenSpec.upto triEndsSpec)

/-- 'ragpickerkeep.WeakClears', WHERE WHAT IT READS IS OF BULK AT MOST 1048576: true; the input reads as it did. -/
def weakClearsUptoRow : OpenClaim := { program := "ytjnbnfmlpdnngaa", sum := "8dcc9c0225dc57cb0234347cbd62f2da3bf80bde98d2db617e0f96a81b2817cb", func := "ragpicker/ragpickerkeep.WeakClears", spec := "weakClears", unfollowed := true, recurses := true, apart := false, narrowed := true }
def WeakClearsUptoSaid : Prop := weakClearsUptoRow.holds Try.pinned (OpenSpec.upto weakClearsSpec)

/-- 'ragpickertop.TopAlike', WHERE WHAT IT READS IS OF BULK AT MOST 1048576: true; the input reads as it did. -/
def topAlikeUptoRow : OpenClaim := { program := "ytjnbnfmlpdnngaa", sum := "8dcc9c0225dc57cb0234347cbd62f2da3bf80bde98d2db617e0f96a81b2817cb", func := "ragpicker/ragpickertop.TopAlike", spec := "topAlike", unfollowed := true, recurses := true, apart := false, narrowed := true }
def TopAlikeUptoSaid : Prop := topAlikeUptoRow.holds Try.pinned (OpenSpec.upto topAlikeSpec)

/-- 'ragpickertop.TopMore', WHERE WHAT IT READS IS OF BULK AT MOST 1048576: true; the input reads as it did. -/
def topMoreUptoRow : OpenClaim := { program := "ytjnbnfmlpdnngaa", sum := "8dcc9c0225dc57cb0234347cbd62f2da3bf80bde98d2db617e0f96a81b2817cb", func := "ragpicker/ragpickertop.TopMore", spec := "topMore", unfollowed := true, recurses := true, apart := false, narrowed := true }
def TopMoreUptoSaid : Prop := topMoreUptoRow.holds Try.pinned (OpenSpec.upto topMoreSpec)

/-- 'ragpickertop.TopFront', WHERE WHAT IT READS IS OF BULK AT MOST 1048576: true; the input reads as it did. -/
def topFrontUptoRow : OpenClaim := { program := "ytjnbnfmlpdnngaa", sum := "8dcc9c0225dc57cb0234347cbd62f2da3bf80bde98d2db617e0f96a81b2817cb", func := "ragpicker/ragpickertop.TopFront", spec := "topFront", unfollowed := true, recurses := true, apart := false, narrowed := true }
def TopFrontUptoSaid : Prop := topFrontUptoRow.holds Try.pinned (OpenSpec.upto topFrontSpec)

end Rows
end Go.Proofs.Ytjnbnfmlpdnngaa
