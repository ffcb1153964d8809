/- A graph without the references to one object. Plain. -/
import Derived.Test.YtnpbdabboecpaaaD0
namespace Go.Proofs.Ytnpbdabboecpaaa

def cutV (v : Int) (x : V) : V := if x.ref = true ∧ x.n = v then ⟨false, 0⟩ else x
def cutG (g : G) (v : Int) : G := ⟨g.objs.map fun o => o.map (cutV v), g.roots.map (cutV v)⟩
theorem cut_mem {v : Int} {l : List V} {y : V} (hr : y.ref = true) : y ∈ l.map (cutV v) ↔ y ∈ l ∧ y.n ≠ v := by
  rw [List.mem_map]
  constructor
  · rintro ⟨x, hx, rfl⟩
    unfold cutV at hr ⊢
    by_cases h : x.ref = true ∧ x.n = v
    · rw [if_pos h] at hr; cases hr
    · rw [if_neg h] at hr ⊢
      exact ⟨hx, fun e => h ⟨hr, e⟩⟩
  · rintro ⟨h1, h2⟩
    exact ⟨y, h1, by unfold cutV; rw [if_neg (fun h => h2 h.2)]⟩
theorem cut_fields (g : G) (v i : Int) : fieldsAt (cutG g v) i = (fieldsAt g i).map (cutV v) := by
  unfold fieldsAt cutG
  simp only [List.getD_eq_getElem?_getD, List.getElem?_map]
  cases g.objs[i.toNat]? <;> rfl
theorem cut_rch (g : G) (v y : Int) : Rch (cutG g v) y ↔ Av g (fun z => z = v) y := by
  constructor
  · intro h
    induction h with
    | @root x h1 h2 _ =>
      obtain ⟨h3, h4⟩ := (cut_mem h2).1 (show x ∈ g.roots.map (cutV v) from h1)
      exact .root h3 h2 h4
    | @step i x _ h1 h2 _ ih =>
      rw [cut_fields] at h1
      obtain ⟨h3, h4⟩ := (cut_mem h2).1 h1
      exact .step ih h3 h2 h4
  · intro h
    induction h with
    | @root x h1 h2 h3 => exact .root (show x ∈ g.roots.map (cutV v) from (cut_mem h2).2 ⟨h1, h3⟩) h2 (fun h => h)
    | @step i x _ h1 h2 h3 ih => exact .step ih (by rw [cut_fields]; exact (cut_mem h2).2 ⟨h1, h3⟩) h2 (fun h => h)
end Go.Proofs.Ytnpbdabboecpaaa
