/- An int that comes in; MarkRoom at what comes in. -/
import Derived.Test.YtigdpdndnghldaaNe
import Derived.Test.YtigdpdndnghldaaAo
namespace Go.Proofs.Ytigdpdndnghldaa
open Go.RowKit
set_option maxRecDepth 100000 in
open Go.ChangeShapes Go.WideShapes Go.Joins in
theorem open_num {H : Type} {enc : TypeId × Value → H} {W : World} {base : Nat} {v : Value} {d : DataW H} {p : List MemPlace}
    (hv : Value.okWide Try.prog W .any base 3 v) (h : DataW.Trod enc Try.prog W 0 (fun _ => true) true 3 v d p) : ∃ x : Int, v = .int .i64 x := by
  obtain ⟨x, rfl, rfl, rfl, wx⟩ := open_int Try.underlying3 hv h
  exact ⟨_, rfl⟩
theorem markRoom_law (W : World) (v0 v1 v2 : Value) (g0 : ∃ ws rs, IsArena W v0 ws rs) (g1 : ∃ i : Int, v1 = .int .i64 i) (g2 : ∃ i : Int, v2 = .int .i64 i) :
    Calls Try.prog 8 #[v0, v1, v2] W fun e w' => e = .returned (.bool true) ∧ Below W.heap.size W w' := by
  obtain ⟨ws, rs, vw, vr, rfl, hw, hr⟩ := g0
  obtain ⟨r, rfl⟩ := g1
  obtain ⟨s, rfl⟩ := g2
  exact markRoom_walk vw vr ws rs r s W hw hr
end Go.Proofs.Ytigdpdndnghldaa
