/- A slice of one int: a box of the call's own. -/
import Derived.Test.YtjnbnfmlpdnngaaBcx
namespace Go.Proofs.Ytjnbnfmlpdnngaa
open Go.RowKit Go.Shelf
section
variable {B : Nat} {w0 w : World} {L : List Ent}
theorem Mem.boxInts (h : Mem B w0 w L) {b : Nat} {x : Int} {t : TypeId} (hm : ebox b #[.int .i64 x] t ∈ L) (hx : i64ok x) : IsInts w (.slice (some ⟨b, 0, none⟩) 1 1) [x] := by
  refine ⟨some ⟨b, 0, none⟩, 1, rfl, by simp, ?_⟩
  intro k y hk
  cases k with
  | zero =>
    simp at hk; subst hk
    exact ⟨b, 0, rfl, (h.lt hm _ rfl).2, h.boxCell hm 0 rfl, hx⟩
  | succ k => simp at hk
end
end Go.Proofs.Ytjnbnfmlpdnngaa
