/- Plain: the value that a way of fields comes to; a box of two cells. -/
import Derived.Test.YtjnbnfmlpdnngaaBase1
import Derived.Test.YtjnbnfmlpdnngaaBase4
namespace Go.Proofs.Ytjnbnfmlpdnngaa
open Go.RowKit Go.Shelf

/-- The value that a way of fields comes to. -/
def atWay (g : G) (v : V) : List Int → Option V
  | [] => some v
  | x :: xs => if v.ref = true ∧ 0 ≤ v.n ∧ v.n < g.objs.length ∧ 0 ≤ x ∧ x < (fieldsAt g v.n).length then atWay g ((fieldsAt g v.n).getD x.toNat default) xs else none
def atG (g : G) (root : Int) (way : List Int) : Option V := if 0 ≤ root ∧ root < g.roots.length then atWay g (g.roots.getD root.toNat default) way else none
def atV (o : Option V) : V := o.getD ⟨false, 0⟩
def atE (o : Option V) (e : Ending) : Prop := e = .returned (.tuple #[.agg #[.bool (atV o).ref, .int .i64 (atV o).n], .bool o.isSome])

theorem drop_some {l : List Int} {k : Nat} {x : Int} (h : l[k]? = some x) : l.drop k = x :: l.drop (k + 1) := by
  obtain ⟨hk, rfl⟩ := List.getElem?_eq_some_iff.1 h
  exact List.drop_eq_getElem_cons hk
end Go.Proofs.Ytjnbnfmlpdnngaa
