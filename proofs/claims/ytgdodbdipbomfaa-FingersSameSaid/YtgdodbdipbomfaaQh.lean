/- FingersSame at what comes in. -/
import Derived.Test.YtgdodbdipbomfaaQg
import Derived.Test.YtgdodbdipbomfaaAo
import Derived.Test.YtgdodbdipbomfaaOn
namespace Go.Proofs.Ytgdodbdipbomfaa
open Go.RowKit
theorem fingersSame_law (W : World) (v0 v1 : Value) (g0 : ∃ ws rs, IsArena W v0 ws rs) (g1 : ∃ i : Int, v1 = .int .i64 i) :
    Calls Try.prog 5 #[v0, v1] W fun e w' => e = .returned (.bool true) ∧ Below W.heap.size W w' := by
  obtain ⟨ws, rs, vw, vr, rfl, hw, hr⟩ := g0
  obtain ⟨r, rfl⟩ := g1
  exact fingersSame_walk vw vr ws rs r W hw hr
end Go.Proofs.Ytgdodbdipbomfaa
