/- Small facts on graphs: four fields at most; a graph's shape. -/
import Derived.Test.YtnpbdabboecpaaaPk
namespace Go.Proofs.Ytnpbdabboecpaaa
open Go.RowKit

theorem fieldsAt_len {g : G} (hG : Good g) (x : Int) : (fieldsAt g x).length ≤ 4 := by
  unfold fieldsAt
  rw [List.getD_eq_getElem?_getD]
  cases h : g.objs[x.toNat]? with
  | none => simp
  | some o => exact hG.fields o (List.mem_of_getElem? h)
theorem IsGraph.shape {w : World} {v : Value} {g : G} (h : IsGraph w v g) : ∃ ao co ar cr, v = .agg #[.slice ao g.objs.length co, .slice ar g.roots.length cr] ∧ g.objs.length ≤ 9223372036854775807 ∧ g.roots.length ≤ 9223372036854775807 := by
  obtain ⟨vo, vr, rfl, ho, hr⟩ := h
  obtain ⟨ao, co, rfl, h1⟩ := ho.slice
  obtain ⟨ar, cr, rfl, h2⟩ := hr.slice
  exact ⟨ao, co, ar, cr, rfl, h1, h2⟩
end Go.Proofs.Ytnpbdabboecpaaa
