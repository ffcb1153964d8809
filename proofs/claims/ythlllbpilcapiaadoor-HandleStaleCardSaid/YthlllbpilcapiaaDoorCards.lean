/-
  DERIVED. GIVEN WITH THE SEED: THE CARDS: each row of YthlllbpilcapiaaDoorRows.lean that lists a variable, with what it lists TIED to the program's text (the seventh form; the later family's looks); each row that meets fmt, with fmt's text TOLD by the authors' own Lean function (tested against real Go, not proved from fmt's source: count such statements apart). THE CARD IS WHAT COUNTS. Prove the row's statement (the work); the ties are given (YthlllbpilcapiaaDoorTie.lean); close each card by the builder's one call (the guide's Derived/Test/ToyasCard.lean, 'card_holds'). Laid BY PROGRAM, IN A SANDBOX (cutbox-door.mjs). By AI agents, Wed Nov 11 2026. No macro, syntax, notation, axiom, sorry.
-/
import Derived.Test.YthlllbpilcapiaaDoorRows
import GoSem.ClaimSeven
namespace Go.Proofs.YthlllbpilcapiaaDoor
namespace Rows

/-- THE TIED CARD OF 'ragpickerkeep.HandleStale'. -/
def handleStaleCard : Claim7 := { stood := { row := handleStaleRow, standIns := [], harness := (true, "0c6c0d1750329c6aec2f40d899af7ff051f889d46c87ae96407ac2bd930d0233"), looks := true }, kinds := [], alts := [], laidByText := true, laidKinds := [.handle], laidTests := true, laidLooks := .later }
def HandleStaleCardSaid : Prop := Claim7.holds Tryd.pinned (.plain (OpenSpec.ofChange handleStaleSpec)) handleStaleCard

/-- THE TIED CARD OF 'ragpickerkeep.HandleFull'. -/
def handleFullCard : Claim7 := { stood := { row := handleFullRow, standIns := [], harness := (true, "0c6c0d1750329c6aec2f40d899af7ff051f889d46c87ae96407ac2bd930d0233"), looks := true }, kinds := [], alts := [], laidByText := true, laidKinds := [.handle], laidTests := true, laidLooks := .later }
def HandleFullCardSaid : Prop := Claim7.holds Tryd.pinned (.plain (OpenSpec.ofChange handleFullSpec)) handleFullCard

/-- THE SECOND FORM's CARD OF 'ragpickerkeep.HandleStale'. -/
def handleStaleUptoCard : Claim7 := { stood := { row := handleStaleUptoRow, standIns := [], harness := (true, "0c6c0d1750329c6aec2f40d899af7ff051f889d46c87ae96407ac2bd930d0233"), looks := true }, kinds := [], alts := [], laidByText := true, laidKinds := [.handle], laidTests := true, laidLooks := .later }
def HandleStaleUptoCardSaid : Prop := Claim7.holds Tryd.pinned (.plain (OpenSpec.upto handleStaleSpec)) handleStaleUptoCard

/-- THE SECOND FORM's CARD OF 'ragpickerkeep.HandleFull'. -/
def handleFullUptoCard : Claim7 := { stood := { row := handleFullUptoRow, standIns := [], harness := (true, "0c6c0d1750329c6aec2f40d899af7ff051f889d46c87ae96407ac2bd930d0233"), looks := true }, kinds := [], alts := [], laidByText := true, laidKinds := [.handle], laidTests := true, laidLooks := .later }
def HandleFullUptoCardSaid : Prop := Claim7.holds Tryd.pinned (.plain (OpenSpec.upto handleFullSpec)) handleFullUptoCard
end Rows
end Go.Proofs.YthlllbpilcapiaaDoor
