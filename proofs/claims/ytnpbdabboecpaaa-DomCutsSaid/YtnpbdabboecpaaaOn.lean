/- An int that comes in. -/
import Derived.Test.YtnpbdabboecpaaaOpen
namespace Go.Proofs.Ytnpbdabboecpaaa
open Go.RowKit
set_option maxRecDepth 100000 in
open Go.ChangeShapes Go.WideShapes Go.Joins in
theorem open_num {H : Type} {enc : TypeId × Value → H} {W : World} {base : Nat} {v : Value} {d : DataW H} {p : List MemPlace}
    (hv : Value.okWide Try.prog W .any base 3 v) (h : DataW.Trod enc Try.prog W 0 (fun _ => true) true 3 v d p) : ∃ x : Int, v = .int .i64 x := by
  obtain ⟨x, rfl, rfl, rfl, wx⟩ := open_int Try.underlying3 hv h
  exact ⟨_, rfl⟩
end Go.Proofs.Ytnpbdabboecpaaa
