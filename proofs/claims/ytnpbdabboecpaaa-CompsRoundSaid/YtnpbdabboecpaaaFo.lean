/- What is come to from an object's fields: what it leads to by a step and more. -/
import Derived.Test.YtnpbdabboecpaaaLd
import Derived.Test.YtnpbdabboecpaaaFr
import Derived.Test.YtnpbdabboecpaaaNr
namespace Go.Proofs.Ytnpbdabboecpaaa
open Go.RowKit Go.Shelf Tarj
theorem from_lead {g : G} (hG : Good g) {r : Int} (h0 : 0 ≤ r) (x : Int) : Rch (fromG g r) x ↔ ∃ j, EG' g r j ∧ Lead (EG' g) j x := by
  constructor
  · intro h
    induction h with
    | @root y h1 h2 _ => exact ⟨y.n, ⟨h0, mem_targets_iff.2 ⟨y, h1, h2, rfl⟩⟩, .here _⟩
    | @step i y hi h1 h2 _ ih =>
      obtain ⟨j, h3, h4⟩ := ih
      have hr := rch_rng (fromG_good hG r) hi
      exact ⟨j, h3, h4.trans (.one ⟨hr.1, mem_targets_iff.2 ⟨y, h1, h2, rfl⟩⟩)⟩
  · rintro ⟨j, ⟨_, h1⟩, h2⟩
    have h3 : Rch (fromG g r) j := by
      obtain ⟨y, hy, hr, rfl⟩ := mem_targets_iff.1 h1
      exact .root hy hr (fun h => h)
    clear h1
    induction h2 with
    | here => exact h3
    | @step a b c e _ ih =>
      refine ih ?_
      obtain ⟨y, hy, hr, rfl⟩ := mem_targets_iff.1 e.2
      exact Av.step h3 hy hr (fun h => h)
end Go.Proofs.Ytnpbdabboecpaaa
