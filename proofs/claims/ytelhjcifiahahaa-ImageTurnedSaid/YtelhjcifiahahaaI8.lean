/- Opening bytes, a number of 16 bits, one of 8. -/
import Derived.Test.YtelhjcifiahahaaI7
import Derived.SizedLaws
import Derived.Lib.SmallJoins
import Derived.ProofKit
namespace Go.Proofs.Ytelhjcifiahahaa
open Go.RowKit Go.ChangeShapes Go.WideShapes Go.Joins
set_option maxRecDepth 100000 in
theorem open_u8 {H : Type} {enc : TypeId × Value → H} {W : World} {base : Nat} {v : Value} {d : DataW H} {p : List MemPlace}
    (hv : Value.okWide Try.prog W .any base 5 v) (h : DataW.Trod enc Try.prog W 0 (fun _ => true) true 5 v d p) : IsU8 v := by
  obtain ⟨x, rfl, rfl, rfl, wx⟩ := open_int Try.underlying5 hv h
  have hb := bounds_u8 wx
  exact ⟨x.toNat, by rw [Int.toNat_of_nonneg (by omega)], by omega⟩
set_option maxRecDepth 100000 in
theorem open_u16 {H : Type} {enc : TypeId × Value → H} {W : World} {base : Nat} {v : Value} {d : DataW H} {p : List MemPlace}
    (hv : Value.okWide Try.prog W .any base 36 v) (h : DataW.Trod enc Try.prog W 0 (fun _ => true) true 36 v d p) : IsU16 v := by
  obtain ⟨x, rfl, rfl, rfl, wx⟩ := open_int Try.underlying36 hv h
  have hb := bounds_u16 wx
  exact ⟨x.toNat, by rw [Int.toNat_of_nonneg (by omega)], by omega⟩
end Go.Proofs.Ytelhjcifiahahaa
