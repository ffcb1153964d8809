/- HazardFew at what comes in. -/
import Derived.Test.YtgmjhoekpbomiaaZr
import Derived.Test.YtgmjhoekpbomiaaZn
namespace Go.Proofs.Ytgmjhoekpbomiaa
open Go.RowKit Go.ChangeShapes Go.WideShapes Go.Joins
set_option maxRecDepth 100000 in
theorem open_b {H : Type} {enc : TypeId × Value → H} {W : World} {base : Nat} {v : Value} {d : DataW H} {p : List MemPlace}
    (hv : Value.okWide Try.prog W .any base 4 v) (h : DataW.Trod enc Try.prog W 0 (fun _ => true) true 4 v d p) : ∃ b : Bool, v = .bool b := by
  obtain ⟨b, rfl, _⟩ := open_bool Try.underlying4 hv h
  exact ⟨_, rfl⟩
theorem hazardFew_walk (W : World) (v0 v1 v2 : Value) (g0 : ∃ x : Int, v0 = .int .i64 x ∧ i64ok x) (g1 : ∃ l : List Deed, IsTup 3 encD W v1 l ∧ l.length ≤ 17592186044416) (g2 : ∃ b : Bool, v2 = .bool b) :
    Calls Try.prog 4 #[v0, v1, v2] W fun e w' => e = .returned (.bool true) ∧ Below W.heap.size W w' := by
  obtain ⟨x, rfl, _⟩ := g0
  obtain ⟨l, hl, hs⟩ := g1
  obtain ⟨b, rfl⟩ := g2
  cases b
  · exact hazardFew_no x v1 l W hl hs
  · exact hazardFew_clr x v1 l W hl hs
end Go.Proofs.Ytgmjhoekpbomiaa
