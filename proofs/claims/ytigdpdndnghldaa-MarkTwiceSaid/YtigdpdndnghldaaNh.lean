/- MarkTwice at what comes in. -/
import Derived.Test.YtigdpdndnghldaaNg
import Derived.Test.YtigdpdndnghldaaAo
import Derived.Test.YtigdpdndnghldaaOn
namespace Go.Proofs.Ytigdpdndnghldaa
open Go.RowKit
theorem markTwice_law (W : World) (v0 v1 : Value) (g0 : ∃ ws rs, IsArena W v0 ws rs) (g1 : ∃ i : Int, v1 = .int .i64 i) :
    Calls Try.prog 9 #[v0, v1] W fun e w' => e = .returned (.bool true) ∧ Below W.heap.size W w' := by
  obtain ⟨ws, rs, vw, vr, rfl, hw, hr⟩ := g0
  obtain ⟨r, rfl⟩ := g1
  exact markTwice_walk vw vr ws rs r W hw hr
end Go.Proofs.Ytigdpdndnghldaa
