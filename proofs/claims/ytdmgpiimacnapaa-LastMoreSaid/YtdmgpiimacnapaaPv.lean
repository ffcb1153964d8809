/- Plain: the value that a way of fields comes to; a box of two cells. -/
import Derived.Test.YtdmgpiimacnapaaRm
namespace Go.Proofs.Ytdmgpiimacnapaa
open Go.RowKit Go.Shelf

/-- The value that a way of fields comes to. -/
def atWay (g : G) (v : V) : List Int → Option V
  | [] => some v
  | x :: xs => if v.ref = true ∧ 0 ≤ v.n ∧ v.n < g.objs.length ∧ 0 ≤ x ∧ x < (fieldsAt g v.n).length then atWay g ((fieldsAt g v.n).getD x.toNat default) xs else none
def atG (g : G) (root : Int) (way : List Int) : Option V := if 0 ≤ root ∧ root < g.roots.length then atWay g (g.roots.getD root.toNat default) way else none
def atV (o : Option V) : V := o.getD ⟨false, 0⟩
def atE (o : Option V) (e : Ending) : Prop := e = .returned (.tuple #[.agg #[.bool (atV o).ref, .int .i64 (atV o).n], .bool o.isSome])

theorem drop_some {l : List Int} {k : Nat} {x : Int} (h : l[k]? = some x) : l.drop k = x :: l.drop (k + 1) := by
  obtain ⟨hk, rfl⟩ := List.getElem?_eq_some_iff.1 h
  exact List.drop_eq_getElem_cons hk
theorem Mem.cells2 {B : Nat} {w0 w : World} {L : List Ent} (h : Mem B w0 w L) (k : Nat) {b : Nat} {x y : Value} {t : TypeId} (hk : L[k]? = some (ebox b #[x, y] t)) : w.cell? ⟨b, 0, none⟩ = some x ∧ w.cell? ⟨b, 1, none⟩ = some y :=
  ⟨by have := h.cell k hk 0; simpa using this, by have := h.cell k hk 1; simpa using this⟩
theorem take_ne {α : Type} {l m : List α} {k : Nat} {x y : α} (hx : l[k]? = some x) (hy : m[k]? = some y) (h : x ≠ y) : l ≠ m := by
  rintro rfl
  rw [hx] at hy; cases hy; exact h rfl
end Go.Proofs.Ytdmgpiimacnapaa
