/- DomNested at every input. -/
import Derived.Test.YtnpbdabboecpaaaE7
import Derived.Test.YtnpbdabboecpaaaOn
import Derived.Test.YtnpbdabboecpaaaOpen
namespace Go.Proofs.Ytnpbdabboecpaaa
open Go.RowKit Go.Shelf

set_option maxRecDepth 100000 in
set_option maxHeartbeats 1000000 in
theorem domNested_bad (g : G) (hG : ¬ Good g) (v : Value) (x y : Int) (w : World) (hg : IsGraph w v g) :
    Calls Try.prog 5 #[v, .int .i64 x, .int .i64 y] w fun e w' => e = .returned (.bool true) ∧ Below w.heap.size w w' := by
  have hg0 := hg
  obtain ⟨vo, vr, rfl, ho, hr⟩ := hg
  obtain ⟨ao, co, rfl, hlo⟩ := ho.slice
  obtain ⟨ar, cr, rfl, hlr⟩ := hr.slice
  have Hg := Lib.hid hg0
  have HG := Lib.hid hG
  clear ho hr hg0 hG
  have hM0 := (Mem.start w).alloc #[.slice ao g.objs.length co, .slice ar g.roots.length cr] 25
  go_enter Try.func5, Try.ntmps5
  go_wp2_with fail
  refine (retained_bad g HG.out _ x _ (Hg.out.later hM0.below)).mono ?_
  rintro e w1 ⟨c, hc, rfl, hb1⟩
  have hM2 := hM0.call hb1
  have p0 : w1.cell? ⟨w.heap.size, 0, none⟩ = some (.slice ao g.objs.length co) := by have := hM2.cell 0 rfl 0; simpa using this
  have p1 : w1.cell? ⟨w.heap.size, 1, none⟩ = some (.slice ar g.roots.length cr) := by have := hM2.cell 0 rfl 1; simpa using this
  go_wp2_with fail
  refine (retained_bad g HG.out _ y _ (Hg.out.later hM2.below)).mono ?_
  rintro e w2 ⟨d, hd, rfl, hb2⟩
  have hM4 := hM2.call hb2
  have q0 : w2.cell? ⟨w.heap.size, 0, none⟩ = some (.slice ao g.objs.length co) := by have := hM4.cell 0 rfl 0; simpa using this
  have q1 : w2.cell? ⟨w.heap.size, 1, none⟩ = some (.slice ar g.roots.length cr) := by have := hM4.cell 0 rfl 1; simpa using this
  go_wp2_with fail
  refine (good_no _ g _ (Hg.out.later hM4.below) HG.out).mono ?_
  rintro e w3 ⟨rfl, hb3⟩
  have hM5 := hM4.call hb3
  have hc2 : (c != 0) = true := by simpa using hc
  go_wp2
  go_ret
  exact ⟨rfl, hM5.below⟩

set_option maxRecDepth 100000 in
set_option maxHeartbeats 1000000 in
theorem domNested_out1 (g : G) (hG : Good g) (v : Value) (x y : Int) (hx : x < 0 ∨ (g.objs.length : Int) ≤ x) (w : World) (hg : IsGraph w v g) :
    Calls Try.prog 5 #[v, .int .i64 x, .int .i64 y] w fun e w' => e = .returned (.bool true) ∧ Below w.heap.size w w' := by
  have hg0 := hg
  obtain ⟨vo, vr, rfl, ho, hr⟩ := hg
  obtain ⟨ao, co, rfl, hlo⟩ := ho.slice
  obtain ⟨ar, cr, rfl, hlr⟩ := hr.slice
  have Hg := Lib.hid hg0
  have HG := Lib.hid hG
  clear ho hr hg0 hG
  have hM0 := (Mem.start w).alloc #[.slice ao g.objs.length co, .slice ar g.roots.length cr] 25
  have key : ∀ W, Below w.heap.size w W → ∀ z : Int, Calls Try.prog 14 #[.agg #[.slice ao g.objs.length co, .slice ar g.roots.length cr], .int .i64 z] W fun e w' => ∃ (vl : Value) (c : Int), e = .returned (.tuple #[vl, .int .i64 c]) ∧ Below W.heap.size W w' := by
    intro W hB z
    by_cases hz : z < 0 ∨ (g.objs.length : Int) ≤ z
    · refine (retained_out g HG.out _ z hz _ (Hg.out.later hB)).mono ?_
      rintro e w' ⟨c, _, rfl, hb⟩
      exact ⟨_, c, rfl, hb⟩
    · obtain ⟨j, rfl⟩ : ∃ j : Nat, z = (j : Int) := ⟨z.toNat, by omega⟩
      refine (retained_yes g HG.out _ j (by omega) _ (Hg.out.later hB)).mono ?_
      rintro e w' ⟨vl, up, rfl, _, hM⟩
      exact ⟨vl, 0, rfl, hM.below⟩
  have Hkey := Lib.hid key
  have Hx := Lib.hid hx
  clear key hx
  have hR := Lib.hid (retained_out g HG.out _ x Hx.out _ (Hg.out.later hM0.below))
  have hsp : x < 0 ∨ (¬ x < 0 ∧ (g.objs.length : Int) ≤ x) := by have := Hx.out; omega
  by_cases hy0 : y < 0
  all_goals
    rcases hsp with hs | ⟨hs, hs2⟩
    all_goals
      go_enter Try.func5, Try.ntmps5
      go_wp2_with fail
      refine hR.out.mono ?_
      rintro e w1 ⟨c, hc, rfl, hb1⟩
      have hM2 := hM0.call hb1
      have p0 : w1.cell? ⟨w.heap.size, 0, none⟩ = some (.slice ao g.objs.length co) := by have := hM2.cell 0 rfl 0; simpa using this
      have p1 : w1.cell? ⟨w.heap.size, 1, none⟩ = some (.slice ar g.roots.length cr) := by have := hM2.cell 0 rfl 1; simpa using this
      go_wp2_with fail
      refine (Hkey.out _ hM2.below y).mono ?_
      rintro e w2 ⟨vl, d, rfl, hb2⟩
      have hM4 := hM2.call hb2
      have q0 : w2.cell? ⟨w.heap.size, 0, none⟩ = some (.slice ao g.objs.length co) := by have := hM4.cell 0 rfl 0; simpa using this
      have q1 : w2.cell? ⟨w.heap.size, 1, none⟩ = some (.slice ar g.roots.length cr) := by have := hM4.cell 0 rfl 1; simpa using this
      go_wp2_with fail
      refine (good_yes _ g _ (Hg.out.later hM4.below) HG.out).mono ?_
      rintro e w3 ⟨rfl, hb3⟩
      have hM5 := hM4.call hb3
      have r0 : w3.cell? ⟨w.heap.size, 0, none⟩ = some (.slice ao g.objs.length co) := by have := hM5.cell 0 rfl 0; simpa using this
      have hc2 : (c != 0) = true := by simpa using hc
      go_wp2
      go_ret
      exact ⟨rfl, hM5.below⟩
end Go.Proofs.Ytnpbdabboecpaaa
