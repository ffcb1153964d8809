/- SlideOrders at what comes in. -/
import Derived.Test.YtigdpdndnghldaaJl
namespace Go.Proofs.Ytigdpdndnghldaa
open Go.RowKit
theorem slideOrders_law (W : World) (v0 : Value) (g0 : ∃ ws rs, IsArena W v0 ws rs) :
    Calls Try.prog 13 #[v0] W fun e w' => e = .returned (.bool true) ∧ Below W.heap.size W w' := by
  obtain ⟨ws, rs, vw, vr, rfl, hw, hr⟩ := g0
  exact slideOrders_walk vw vr ws rs W hw hr
end Go.Proofs.Ytigdpdndnghldaa
