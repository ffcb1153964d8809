/- A box of two cells. -/
import Derived.Test.YtnpbdabboecpaaaMem
namespace Go.Proofs.Ytnpbdabboecpaaa
open Go.RowKit

theorem Mem.cells2 {B : Nat} {w0 w : World} {L : List Ent} (h : Mem B w0 w L) (k : Nat) {b : Nat} {x y : Value} {t : TypeId} (hk : L[k]? = some (ebox b #[x, y] t)) : w.cell? ⟨b, 0, none⟩ = some x ∧ w.cell? ⟨b, 1, none⟩ = some y :=
  ⟨by have := h.cell k hk 0; simpa using this, by have := h.cell k hk 1; simpa using this⟩
end Go.Proofs.Ytnpbdabboecpaaa
