/- HazardSafe at what comes in. -/
import Derived.Test.YtgmjhoekpbomiaaZm
import Derived.Test.YtgmjhoekpbomiaaZn
namespace Go.Proofs.Ytgmjhoekpbomiaa
open Go.RowKit
theorem hazardSafe_walk (W : World) (v0 v1 : Value) (g0 : ∃ x : Int, v0 = .int .i64 x ∧ i64ok x) (g1 : ∃ l : List Deed, IsTup 3 encD W v1 l) :
    Calls Try.prog 3 #[v0, v1] W fun e w' => e = .returned (.bool true) ∧ Below W.heap.size W w' := by
  obtain ⟨x, rfl, _⟩ := g0
  obtain ⟨l, hl⟩ := g1
  exact hazardSafe_yes x v1 l W hl
end Go.Proofs.Ytgmjhoekpbomiaa
