/- Targets as data; what iterators' contracts lean on. -/
import Derived.Test.YtnpbdabboecpaaaG2
import Derived.RangeFuncNested
import Derived.RangeFuncBound
import Derived.RangeFuncCalls
import Derived.RangeFuncLeaves
import Derived.RangeFuncBox
import Derived.Shelf.Abstract
import Derived.Shelf.RegionOpen
import Derived.OwnWalkIn
import Derived.TacticsInMore
import Derived.LoopNIn
import Derived.LoopIn
namespace Go.Proofs.Ytnpbdabboecpaaa
open Go.RowKit Go.Shelf

attribute [local go_sem] Oper.semAt_some

/-- The objects to which references go, in order. -/
def targets (l : List V) : List Int := (l.filter (·.ref)).map (·.n)
theorem targets_succ {l : List V} {k : Nat} {x : V} (h : l.take (k + 1) = l.take k ++ [x]) : targets (l.take (k + 1)) = targets (l.take k) ++ if x.ref then [x.n] else [] := by
  rw [h]; unfold targets; rw [List.filter_append, List.map_append]
  cases hx : x.ref <;> simp [hx]
theorem targets_prefix (l : List V) (k : Nat) : targets (l.take k) <+: targets l :=
  List.IsPrefix.map _ (List.IsPrefix.filter _ (List.take_prefix k l))
/-- One of the targets. -/
abbrev Tg (l : List V) := { x : Int // x ∈ targets l }
theorem mem_targets {l : List V} {x : V} (h : x ∈ l) (hr : x.ref = true) : x.n ∈ targets l := by
  unfold targets; exact List.mem_map.2 ⟨x, List.mem_filter.2 ⟨h, hr⟩, rfl⟩

end Go.Proofs.Ytnpbdabboecpaaa
