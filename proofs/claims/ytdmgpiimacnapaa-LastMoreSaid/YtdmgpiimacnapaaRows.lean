/-
  No cell of these rows narrows 'for every input' (looked for: loops, veiled, ifaces, maps, wideKeys, modest, calm, conditions, laid).
  DERIVED. THE GIVEN ROWS OF THIS SEAT. 11 by the template 'for every input the law returns true; each argument reads behind the call as it read before'; 0 by the template 'total and deterministic' (their statements: YtdmgpiimacnapaaTotals.lean).
  GIVEN WITH THE SEED: the statements are not yours to turn. If you find one false, say at which input.
  Laid BY PROGRAM, IN A SANDBOX (cutbox-rows.mjs): the forced cells as the released guide's own fill.sh prints them over the translation 0b273b8884108519… (all of the seat's roots in one cut). By AI agents, Wed Nov 11 2026. No macro, syntax, notation, axiom, sorry.
-/
import Derived.Test.YtdmgpiimacnapaaChecked
import GoSem.Claim
import GoSem.ClaimJoined
import GoSem.ClaimMapViews
import Derived.JoinedTies
import Derived.KernelRfl
namespace Go.Proofs.Ytdmgpiimacnapaa
/- THE CELL 'sum', in the pinned program and in every row, IS THE sha256 OF THE DUMP (.gsa) THAT YtdmgpiimacnapaaProg.lean LOADS. Nothing in Lean hashes anything: it is a label: what it is worth is what the hold of that sum in a sandbox is worth. -/
noncomputable def Try.pinned : Pinned := { name := "ytdmgpiimacnapaa", sum := "0b273b8884108519580b42ae4aa5367ebe3e1d60b6ac7838165d52e2a9a0f50b", checked := Try.checked }
namespace Rows
def none {H : Type} : Left H := { results := [], args := [] }

/-- 'ragpickerkeep.ShareLeast': WHATEVER THE INPUT: true; the input reads as it did. -/
def shareLeastSpec : ChangeSpec := { name := "shareLeast", fn := fun _ => fun
  | [d] => { results := [.lit (.bool true)], args := [d] }
  | _ => none }
def shareLeastRow : OpenClaim := { program := "ytdmgpiimacnapaa", sum := "0b273b8884108519580b42ae4aa5367ebe3e1d60b6ac7838165d52e2a9a0f50b", func := "ragpicker/ragpickerkeep.ShareLeast", spec := "shareLeast", unfollowed := true, recurses := true, plainKeys := false, apart := false }
def ShareLeastSaid : Prop := shareLeastRow.holds Try.pinned (OpenSpec.ofChange shareLeastSpec)

/-- ITS FALSE NEIGHBOUR: 'it returns false'. Refute it at one input. -/
def shareLeastWrong : ChangeSpec := { name := "shareLeast", fn := fun _ => fun
  | [d] => { results := [.lit (.bool false)], args := [d] }
  | _ => none }
def ShareLeastWrongFalsely : Prop := shareLeastRow.holds Try.pinned (OpenSpec.ofChange shareLeastWrong)

/-- 'ragpickerkeep.WeakLeast': WHATEVER THE INPUT: true; the input reads as it did. -/
def weakLeastSpec : ChangeSpec := { name := "weakLeast", fn := fun _ => fun
  | [d1, d2, d3] => { results := [.lit (.bool true)], args := [d1, d2, d3] }
  | _ => none }
def weakLeastRow : OpenClaim := { program := "ytdmgpiimacnapaa", sum := "0b273b8884108519580b42ae4aa5367ebe3e1d60b6ac7838165d52e2a9a0f50b", func := "ragpicker/ragpickerkeep.WeakLeast", spec := "weakLeast", unfollowed := true, recurses := true, plainKeys := false, apart := false }
def WeakLeastSaid : Prop := weakLeastRow.holds Try.pinned (OpenSpec.ofChange weakLeastSpec)

/-- ITS FALSE NEIGHBOUR: 'it returns false'. Refute it at one input. -/
def weakLeastWrong : ChangeSpec := { name := "weakLeast", fn := fun _ => fun
  | [d1, d2, d3] => { results := [.lit (.bool false)], args := [d1, d2, d3] }
  | _ => none }
def WeakLeastWrongFalsely : Prop := weakLeastRow.holds Try.pinned (OpenSpec.ofChange weakLeastWrong)

/-- 'ragpickerkeep.WeakMore': WHATEVER THE INPUT: true; the input reads as it did. -/
def weakMoreSpec : ChangeSpec := { name := "weakMore", fn := fun _ => fun
  | [d1, d2, d3] => { results := [.lit (.bool true)], args := [d1, d2, d3] }
  | _ => none }
def weakMoreRow : OpenClaim := { program := "ytdmgpiimacnapaa", sum := "0b273b8884108519580b42ae4aa5367ebe3e1d60b6ac7838165d52e2a9a0f50b", func := "ragpicker/ragpickerkeep.WeakMore", spec := "weakMore", unfollowed := true, recurses := true, plainKeys := false, apart := false }
def WeakMoreSaid : Prop := weakMoreRow.holds Try.pinned (OpenSpec.ofChange weakMoreSpec)

/-- ITS FALSE NEIGHBOUR: 'it returns false'. Refute it at one input. -/
def weakMoreWrong : ChangeSpec := { name := "weakMore", fn := fun _ => fun
  | [d1, d2, d3] => { results := [.lit (.bool false)], args := [d1, d2, d3] }
  | _ => none }
def WeakMoreWrongFalsely : Prop := weakMoreRow.holds Try.pinned (OpenSpec.ofChange weakMoreWrong)

/-- 'ragpickerkeep.WeakPlain': WHATEVER THE INPUT: true; the input reads as it did. -/
def weakPlainSpec : ChangeSpec := { name := "weakPlain", fn := fun _ => fun
  | [d1, d2] => { results := [.lit (.bool true)], args := [d1, d2] }
  | _ => none }
def weakPlainRow : OpenClaim := { program := "ytdmgpiimacnapaa", sum := "0b273b8884108519580b42ae4aa5367ebe3e1d60b6ac7838165d52e2a9a0f50b", func := "ragpicker/ragpickerkeep.WeakPlain", spec := "weakPlain", unfollowed := true, recurses := true, plainKeys := false, apart := false }
def WeakPlainSaid : Prop := weakPlainRow.holds Try.pinned (OpenSpec.ofChange weakPlainSpec)

/-- ITS FALSE NEIGHBOUR: 'it returns false'. Refute it at one input. -/
def weakPlainWrong : ChangeSpec := { name := "weakPlain", fn := fun _ => fun
  | [d1, d2] => { results := [.lit (.bool false)], args := [d1, d2] }
  | _ => none }
def WeakPlainWrongFalsely : Prop := weakPlainRow.holds Try.pinned (OpenSpec.ofChange weakPlainWrong)

/-- 'ragpickerkeep.WeakClears': WHATEVER THE INPUT: true; the input reads as it did. -/
def weakClearsSpec : ChangeSpec := { name := "weakClears", fn := fun _ => fun
  | [d1, d2] => { results := [.lit (.bool true)], args := [d1, d2] }
  | _ => none }
def weakClearsRow : OpenClaim := { program := "ytdmgpiimacnapaa", sum := "0b273b8884108519580b42ae4aa5367ebe3e1d60b6ac7838165d52e2a9a0f50b", func := "ragpicker/ragpickerkeep.WeakClears", spec := "weakClears", unfollowed := true, recurses := true, plainKeys := false, apart := false }
def WeakClearsSaid : Prop := weakClearsRow.holds Try.pinned (OpenSpec.ofChange weakClearsSpec)

/-- ITS FALSE NEIGHBOUR: 'it returns false'. Refute it at one input. -/
def weakClearsWrong : ChangeSpec := { name := "weakClears", fn := fun _ => fun
  | [d1, d2] => { results := [.lit (.bool false)], args := [d1, d2] }
  | _ => none }
def WeakClearsWrongFalsely : Prop := weakClearsRow.holds Try.pinned (OpenSpec.ofChange weakClearsWrong)

/-- 'ragpickerkeep.TrialSafe': WHATEVER THE INPUT: true; the input reads as it did. -/
def trialSafeSpec : ChangeSpec := { name := "trialSafe", fn := fun _ => fun
  | [d1, d2] => { results := [.lit (.bool true)], args := [d1, d2] }
  | _ => none }
def trialSafeRow : OpenClaim := { program := "ytdmgpiimacnapaa", sum := "0b273b8884108519580b42ae4aa5367ebe3e1d60b6ac7838165d52e2a9a0f50b", func := "ragpicker/ragpickerkeep.TrialSafe", spec := "trialSafe", unfollowed := true, recurses := true, plainKeys := false, apart := false }
def TrialSafeSaid : Prop := trialSafeRow.holds Try.pinned (OpenSpec.ofChange trialSafeSpec)

/-- ITS FALSE NEIGHBOUR: 'it returns false'. Refute it at one input. -/
def trialSafeWrong : ChangeSpec := { name := "trialSafe", fn := fun _ => fun
  | [d1, d2] => { results := [.lit (.bool false)], args := [d1, d2] }
  | _ => none }
def TrialSafeWrongFalsely : Prop := trialSafeRow.holds Try.pinned (OpenSpec.ofChange trialSafeWrong)

/-- 'ragpickerkeep.TrialAll': WHATEVER THE INPUT: true; the input reads as it did. -/
def trialAllSpec : ChangeSpec := { name := "trialAll", fn := fun _ => fun
  | [d] => { results := [.lit (.bool true)], args := [d] }
  | _ => none }
def trialAllRow : OpenClaim := { program := "ytdmgpiimacnapaa", sum := "0b273b8884108519580b42ae4aa5367ebe3e1d60b6ac7838165d52e2a9a0f50b", func := "ragpicker/ragpickerkeep.TrialAll", spec := "trialAll", unfollowed := true, recurses := true, plainKeys := false, apart := false }
def TrialAllSaid : Prop := trialAllRow.holds Try.pinned (OpenSpec.ofChange trialAllSpec)

/-- ITS FALSE NEIGHBOUR: 'it returns false'. Refute it at one input. -/
def trialAllWrong : ChangeSpec := { name := "trialAll", fn := fun _ => fun
  | [d] => { results := [.lit (.bool false)], args := [d] }
  | _ => none }
def TrialAllWrongFalsely : Prop := trialAllRow.holds Try.pinned (OpenSpec.ofChange trialAllWrong)

/-- 'ragpickerkeep.TrialMore': WHATEVER THE INPUT: true; the input reads as it did. -/
def trialMoreSpec : ChangeSpec := { name := "trialMore", fn := fun _ => fun
  | [d1, d2, d3] => { results := [.lit (.bool true)], args := [d1, d2, d3] }
  | _ => none }
def trialMoreRow : OpenClaim := { program := "ytdmgpiimacnapaa", sum := "0b273b8884108519580b42ae4aa5367ebe3e1d60b6ac7838165d52e2a9a0f50b", func := "ragpicker/ragpickerkeep.TrialMore", spec := "trialMore", unfollowed := true, recurses := true, plainKeys := false, apart := false }
def TrialMoreSaid : Prop := trialMoreRow.holds Try.pinned (OpenSpec.ofChange trialMoreSpec)

/-- ITS FALSE NEIGHBOUR: 'it returns false'. Refute it at one input. -/
def trialMoreWrong : ChangeSpec := { name := "trialMore", fn := fun _ => fun
  | [d1, d2, d3] => { results := [.lit (.bool false)], args := [d1, d2, d3] }
  | _ => none }
def TrialMoreWrongFalsely : Prop := trialMoreRow.holds Try.pinned (OpenSpec.ofChange trialMoreWrong)

/-- 'ragpickerkeep.TrialLives': WHATEVER THE INPUT: true; the input reads as it did. -/
def trialLivesSpec : ChangeSpec := { name := "trialLives", fn := fun _ => fun
  | [d1, d2] => { results := [.lit (.bool true)], args := [d1, d2] }
  | _ => none }
def trialLivesRow : OpenClaim := { program := "ytdmgpiimacnapaa", sum := "0b273b8884108519580b42ae4aa5367ebe3e1d60b6ac7838165d52e2a9a0f50b", func := "ragpicker/ragpickerkeep.TrialLives", spec := "trialLives", unfollowed := true, recurses := true, plainKeys := false, apart := false }
def TrialLivesSaid : Prop := trialLivesRow.holds Try.pinned (OpenSpec.ofChange trialLivesSpec)

/-- ITS FALSE NEIGHBOUR: 'it returns false'. Refute it at one input. -/
def trialLivesWrong : ChangeSpec := { name := "trialLives", fn := fun _ => fun
  | [d1, d2] => { results := [.lit (.bool false)], args := [d1, d2] }
  | _ => none }
def TrialLivesWrongFalsely : Prop := trialLivesRow.holds Try.pinned (OpenSpec.ofChange trialLivesWrong)

/-- 'ragpickerkeep.LastMore': WHATEVER THE INPUT: true; the input reads as it did. -/
def lastMoreSpec : ChangeSpec := { name := "lastMore", fn := fun _ => fun
  | [d1, d2, d3] => { results := [.lit (.bool true)], args := [d1, d2, d3] }
  | _ => none }
def lastMoreRow : OpenClaim := { program := "ytdmgpiimacnapaa", sum := "0b273b8884108519580b42ae4aa5367ebe3e1d60b6ac7838165d52e2a9a0f50b", func := "ragpicker/ragpickerkeep.LastMore", spec := "lastMore", unfollowed := true, recurses := true, plainKeys := false, apart := false }
def LastMoreSaid : Prop := lastMoreRow.holds Try.pinned (OpenSpec.ofChange lastMoreSpec)

/-- ITS FALSE NEIGHBOUR: 'it returns false'. Refute it at one input. -/
def lastMoreWrong : ChangeSpec := { name := "lastMore", fn := fun _ => fun
  | [d1, d2, d3] => { results := [.lit (.bool false)], args := [d1, d2, d3] }
  | _ => none }
def LastMoreWrongFalsely : Prop := lastMoreRow.holds Try.pinned (OpenSpec.ofChange lastMoreWrong)

/-- 'ragpickerkeep.LastSaves': WHATEVER THE INPUT: true; the input reads as it did. -/
def lastSavesSpec : ChangeSpec := { name := "lastSaves", fn := fun _ => fun
  | [d1, d2] => { results := [.lit (.bool true)], args := [d1, d2] }
  | _ => none }
def lastSavesRow : OpenClaim := { program := "ytdmgpiimacnapaa", sum := "0b273b8884108519580b42ae4aa5367ebe3e1d60b6ac7838165d52e2a9a0f50b", func := "ragpicker/ragpickerkeep.LastSaves", spec := "lastSaves", unfollowed := true, recurses := true, plainKeys := false, apart := false }
def LastSavesSaid : Prop := lastSavesRow.holds Try.pinned (OpenSpec.ofChange lastSavesSpec)

/-- ITS FALSE NEIGHBOUR: 'it returns false'. Refute it at one input. -/
def lastSavesWrong : ChangeSpec := { name := "lastSaves", fn := fun _ => fun
  | [d1, d2] => { results := [.lit (.bool false)], args := [d1, d2] }
  | _ => none }
def LastSavesWrongFalsely : Prop := lastSavesRow.holds Try.pinned (OpenSpec.ofChange lastSavesWrong)

/- THE SECOND FORM. 'bulk': how many values and letters a reading holds, each counted each time it is reached (what is shared counts as often as it is met; a slice's spare places count too). A statement '..UptoSaid' is the law's where the arguments, and the package variables that the reading takes, are together of bulk at most 1048576: NARROWER than '..Said'. Prove '..Said' where nothing that the law and all that it calls make is longer than what came in: it says more and counts as full. Else prove '..UptoSaid'. A law counts once. -/
mutual
def uptoBulk {H : Type} : DataW H → Nat
  | .lit (.string bytes) => bytes.length + 1
  | .lit _ => 1
  | .nil => 1
  | .ptr d => uptoBulk d + 1
  | .slice elems spare => uptoBulkAll elems + uptoBulkAll spare + 1
  | .agg parts => uptoBulkAll parts + 1
  | .iface _ d => uptoBulk d + 1
  | .map entries => uptoBulkEntries entries + 1
  | .held _ => 1
def uptoBulkAll {H : Type} : List (DataW H) → Nat
  | [] => 0
  | d :: r => uptoBulk d + uptoBulkAll r
def uptoBulkEntries {H : Type} : List (Lit × DataW H) → Nat
  | [] => 0
  | x :: r => uptoBulkEntry x + uptoBulkEntries r
def uptoBulkEntry {H : Type} : Lit × DataW H → Nat
  | (.string bytes, d) => bytes.length + uptoBulk d + 1
  | (_, d) => uptoBulk d + 1
 end
def uptoSmall : (H : Type) → List (DataW H) → Bool := fun _ ds => decide (uptoBulkAll ds ≤ 1048576)
def OpenSpec.upto (s : _root_.Go.ChangeSpec) : _root_.Go.OpenSpec := { _root_.Go.OpenSpec.ofChange s with cond := some uptoSmall }

/-- 'ragpickerkeep.ShareLeast', WHERE WHAT IT READS IS OF BULK AT MOST 1048576: true; the input reads as it did. -/
def shareLeastUptoRow : OpenClaim := { program := "ytdmgpiimacnapaa", sum := "0b273b8884108519580b42ae4aa5367ebe3e1d60b6ac7838165d52e2a9a0f50b", func := "ragpicker/ragpickerkeep.ShareLeast", spec := "shareLeast", unfollowed := true, recurses := true, plainKeys := false, apart := false, narrowed := true }
def ShareLeastUptoSaid : Prop := shareLeastUptoRow.holds Try.pinned (OpenSpec.upto shareLeastSpec)

/-- 'ragpickerkeep.WeakLeast', WHERE WHAT IT READS IS OF BULK AT MOST 1048576: true; the input reads as it did. -/
def weakLeastUptoRow : OpenClaim := { program := "ytdmgpiimacnapaa", sum := "0b273b8884108519580b42ae4aa5367ebe3e1d60b6ac7838165d52e2a9a0f50b", func := "ragpicker/ragpickerkeep.WeakLeast", spec := "weakLeast", unfollowed := true, recurses := true, plainKeys := false, apart := false, narrowed := true }
def WeakLeastUptoSaid : Prop := weakLeastUptoRow.holds Try.pinned (OpenSpec.upto weakLeastSpec)

/-- 'ragpickerkeep.WeakMore', WHERE WHAT IT READS IS OF BULK AT MOST 1048576: true; the input reads as it did. -/
def weakMoreUptoRow : OpenClaim := { program := "ytdmgpiimacnapaa", sum := "0b273b8884108519580b42ae4aa5367ebe3e1d60b6ac7838165d52e2a9a0f50b", func := "ragpicker/ragpickerkeep.WeakMore", spec := "weakMore", unfollowed := true, recurses := true, plainKeys := false, apart := false, narrowed := true }
def WeakMoreUptoSaid : Prop := weakMoreUptoRow.holds Try.pinned (OpenSpec.upto weakMoreSpec)

/-- 'ragpickerkeep.WeakPlain', WHERE WHAT IT READS IS OF BULK AT MOST 1048576: true; the input reads as it did. -/
def weakPlainUptoRow : OpenClaim := { program := "ytdmgpiimacnapaa", sum := "0b273b8884108519580b42ae4aa5367ebe3e1d60b6ac7838165d52e2a9a0f50b", func := "ragpicker/ragpickerkeep.WeakPlain", spec := "weakPlain", unfollowed := true, recurses := true, plainKeys := false, apart := false, narrowed := true }
def WeakPlainUptoSaid : Prop := weakPlainUptoRow.holds Try.pinned (OpenSpec.upto weakPlainSpec)

/-- 'ragpickerkeep.WeakClears', WHERE WHAT IT READS IS OF BULK AT MOST 1048576: true; the input reads as it did. -/
def weakClearsUptoRow : OpenClaim := { program := "ytdmgpiimacnapaa", sum := "0b273b8884108519580b42ae4aa5367ebe3e1d60b6ac7838165d52e2a9a0f50b", func := "ragpicker/ragpickerkeep.WeakClears", spec := "weakClears", unfollowed := true, recurses := true, plainKeys := false, apart := false, narrowed := true }
def WeakClearsUptoSaid : Prop := weakClearsUptoRow.holds Try.pinned (OpenSpec.upto weakClearsSpec)

/-- 'ragpickerkeep.TrialSafe', WHERE WHAT IT READS IS OF BULK AT MOST 1048576: true; the input reads as it did. -/
def trialSafeUptoRow : OpenClaim := { program := "ytdmgpiimacnapaa", sum := "0b273b8884108519580b42ae4aa5367ebe3e1d60b6ac7838165d52e2a9a0f50b", func := "ragpicker/ragpickerkeep.TrialSafe", spec := "trialSafe", unfollowed := true, recurses := true, plainKeys := false, apart := false, narrowed := true }
def TrialSafeUptoSaid : Prop := trialSafeUptoRow.holds Try.pinned (OpenSpec.upto trialSafeSpec)

/-- 'ragpickerkeep.TrialAll', WHERE WHAT IT READS IS OF BULK AT MOST 1048576: true; the input reads as it did. -/
def trialAllUptoRow : OpenClaim := { program := "ytdmgpiimacnapaa", sum := "0b273b8884108519580b42ae4aa5367ebe3e1d60b6ac7838165d52e2a9a0f50b", func := "ragpicker/ragpickerkeep.TrialAll", spec := "trialAll", unfollowed := true, recurses := true, plainKeys := false, apart := false, narrowed := true }
def TrialAllUptoSaid : Prop := trialAllUptoRow.holds Try.pinned (OpenSpec.upto trialAllSpec)

/-- 'ragpickerkeep.TrialMore', WHERE WHAT IT READS IS OF BULK AT MOST 1048576: true; the input reads as it did. -/
def trialMoreUptoRow : OpenClaim := { program := "ytdmgpiimacnapaa", sum := "0b273b8884108519580b42ae4aa5367ebe3e1d60b6ac7838165d52e2a9a0f50b", func := "ragpicker/ragpickerkeep.TrialMore", spec := "trialMore", unfollowed := true, recurses := true, plainKeys := false, apart := false, narrowed := true }
def TrialMoreUptoSaid : Prop := trialMoreUptoRow.holds Try.pinned (OpenSpec.upto trialMoreSpec)

/-- 'ragpickerkeep.TrialLives', WHERE WHAT IT READS IS OF BULK AT MOST 1048576: true; the input reads as it did. -/
def trialLivesUptoRow : OpenClaim := { program := "ytdmgpiimacnapaa", sum := "0b273b8884108519580b42ae4aa5367ebe3e1d60b6ac7838165d52e2a9a0f50b", func := "ragpicker/ragpickerkeep.TrialLives", spec := "trialLives", unfollowed := true, recurses := true, plainKeys := false, apart := false, narrowed := true }
def TrialLivesUptoSaid : Prop := trialLivesUptoRow.holds Try.pinned (OpenSpec.upto trialLivesSpec)

/-- 'ragpickerkeep.LastMore', WHERE WHAT IT READS IS OF BULK AT MOST 1048576: true; the input reads as it did. -/
def lastMoreUptoRow : OpenClaim := { program := "ytdmgpiimacnapaa", sum := "0b273b8884108519580b42ae4aa5367ebe3e1d60b6ac7838165d52e2a9a0f50b", func := "ragpicker/ragpickerkeep.LastMore", spec := "lastMore", unfollowed := true, recurses := true, plainKeys := false, apart := false, narrowed := true }
def LastMoreUptoSaid : Prop := lastMoreUptoRow.holds Try.pinned (OpenSpec.upto lastMoreSpec)

/-- 'ragpickerkeep.LastSaves', WHERE WHAT IT READS IS OF BULK AT MOST 1048576: true; the input reads as it did. -/
def lastSavesUptoRow : OpenClaim := { program := "ytdmgpiimacnapaa", sum := "0b273b8884108519580b42ae4aa5367ebe3e1d60b6ac7838165d52e2a9a0f50b", func := "ragpicker/ragpickerkeep.LastSaves", spec := "lastSaves", unfollowed := true, recurses := true, plainKeys := false, apart := false, narrowed := true }
def LastSavesUptoSaid : Prop := lastSavesUptoRow.holds Try.pinned (OpenSpec.upto lastSavesSpec)

end Rows
end Go.Proofs.Ytdmgpiimacnapaa
