/- CompsRound at every input. -/
import Derived.Test.YtnpbdabboecpaaaO9
import Derived.Test.YtnpbdabboecpaaaGd
import Derived.Test.YtnpbdabboecpaaaOpen
namespace Go.Proofs.Ytnpbdabboecpaaa
open Go.RowKit Go.Shelf

theorem cround_walk (w : World) (v : Value) (h : ∃ g, IsGraph w v g) : Calls Try.prog 7 #[v] w fun e w' => e = .returned (.bool true) ∧ Below w.heap.size w w' := by
  obtain ⟨g, hg⟩ := h
  by_cases hG : Good g
  · exact cround_good g hG v w hg
  · have hg0 := hg
    obtain ⟨vo, vr, rfl, ho, hr⟩ := hg
    obtain ⟨ao, co, rfl, hlo⟩ := ho.slice
    obtain ⟨ar, cr, rfl, hlr⟩ := hr.slice
    have Hg := Lib.hid hg0
    have HG := Lib.hid hG
    clear ho hr hg0 hG
    have hM0 := (Mem.start w).alloc #[.slice ao g.objs.length co, .slice ar g.roots.length cr] 25
    go_enter Try.func7, Try.ntmps7
    go_wp2_with fail
    refine (good_no _ g _ (Hg.out.later hM0.below) HG.out).mono ?_
    rintro e w1 ⟨rfl, hb1⟩
    have hM1 := hM0.call hb1
    have p0 : w1.cell? ⟨w.heap.size, 0, none⟩ = some (.slice ao g.objs.length co) := by have := hM1.cell 0 rfl 0; simpa using this
    have p1 : w1.cell? ⟨w.heap.size, 1, none⟩ = some (.slice ar g.roots.length cr) := by have := hM1.cell 0 rfl 1; simpa using this
    go_wp2_with fail
    refine (refused_yes _ g _ (Hg.out.later hM1.below) HG.out).mono ?_
    rintro e w2 ⟨rfl, hb2⟩
    have hM2 := hM1.call hb2
    go_wp2
    go_ret
    exact ⟨rfl, hM2.below⟩
end Go.Proofs.Ytnpbdabboecpaaa
