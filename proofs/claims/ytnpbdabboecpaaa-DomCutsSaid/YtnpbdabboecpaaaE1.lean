/- Idom, walked. -/
import Derived.Test.YtnpbdabboecpaaaD7
import Derived.Test.YtnpbdabboecpaaaGd
namespace Go.Proofs.Ytnpbdabboecpaaa
open Go.RowKit Go.Shelf

theorem grow_any (g : G) (hG : Good g) (v : Value) (w : World) (hg : IsGraph w v g) :
    Calls Try.prog 32 #[v] w fun e w' => ∃ (bt : Nat) (vo vr vu : Value) (up : List Int), e = .returned (.pointer (some ⟨bt, 0, none⟩)) ∧ Dom.GrowS g up ∧ Mem w.heap.size w w' [ebox bt #[vo, vr, vu] 53, rowI 3 vu up] :=
  callsIn_wide.1 (grow_main g hG v w hg)
set_option maxRecDepth 100000 in
set_option maxHeartbeats 1000000 in
theorem idom_yes (g : G) (hG : Good g) (v : Value) (w : World) (hg : IsGraph w v g) :
    Calls Try.prog 13 #[v] w fun e w' => ∃ (vu : Value) (up : List Int), e = .returned (.tuple #[vu, .int .i64 0]) ∧ Dom.GrowS g up ∧ Mem w.heap.size w w' [rowI 3 vu up] := by
  have hg0 := hg
  obtain ⟨vo, vr, rfl, ho, hr⟩ := hg
  obtain ⟨ao, co, rfl, hlo⟩ := ho.slice
  obtain ⟨ar, cr, rfl, hlr⟩ := hr.slice
  have Hg := Lib.hid hg0
  have HG := Lib.hid hG
  clear ho hr hg0 hG
  have hM0 := (Mem.start w).alloc #[.slice ao g.objs.length co, .slice ar g.roots.length cr] 25
  go_enter Try.func13, Try.ntmps13
  go_wp2_with fail
  refine (gcheck_yes _ g _ (Hg.out.later hM0.below) HG.out).mono ?_
  rintro e w1 ⟨rfl, hb⟩
  have hM1 := hM0.call hb
  have p0 : w1.cell? ⟨w.heap.size, 0, none⟩ = some (.slice ao g.objs.length co) := by have := hM1.cell 0 rfl 0; simpa using this
  have p1 : w1.cell? ⟨w.heap.size, 1, none⟩ = some (.slice ar g.roots.length cr) := by have := hM1.cell 0 rfl 1; simpa using this
  go_wp2_with fail
  refine (grow_any g HG.out _ w1 (Hg.out.later hM1.below)).mono ?_
  rintro e w2 ⟨bt, v1, v2, vu, up, rfl, hS, hM2⟩
  have hM3 := hM1.callMem hM2
  have q2 : w2.cell? ⟨bt, 2, none⟩ = some vu := by have := hM3.cell 0 rfl 2; simpa using this
  have HS := Lib.hid hS
  clear hS
  obtain ⟨au, cu, rfl⟩ := hM3.intsSlice 1 rfl
  go_wp2
  refine bodyPost_ret (v := .tuple #[.slice au up.length cu, .int .i64 0]) (by simp [results, Try.results13, go_sem]) rfl ⟨_, up, rfl, HS.out, ?_⟩
  exact hM3.pick0 [1] (by decide) rfl
end Go.Proofs.Ytnpbdabboecpaaa
