/- DomNested where the second object is not there; at every input. -/
import Derived.Test.YtnpbdabboecpaaaE8
namespace Go.Proofs.Ytnpbdabboecpaaa
open Go.RowKit Go.Shelf

set_option maxRecDepth 100000 in
set_option maxHeartbeats 1000000 in
theorem domNested_out2 (g : G) (hG : Good g) (v : Value) (x : Nat) (hx : x < g.objs.length) (y : Int) (hy : y < 0 ∨ (g.objs.length : Int) ≤ y) (w : World) (hg : IsGraph w v g) :
    Calls Try.prog 5 #[v, .int .i64 (x : Int), .int .i64 y] w fun e w' => e = .returned (.bool true) ∧ Below w.heap.size w w' := by
  have hg0 := hg
  obtain ⟨vo, vr, rfl, ho, hr⟩ := hg
  obtain ⟨ao, co, rfl, hlo⟩ := ho.slice
  obtain ⟨ar, cr, rfl, hlr⟩ := hr.slice
  have Hg := Lib.hid hg0
  have HG := Lib.hid hG
  clear ho hr hg0 hG
  have hM0 := (Mem.start w).alloc #[.slice ao g.objs.length co, .slice ar g.roots.length cr] 25
  have hx0 : (0 : Int) ≤ (x : Int) := by omega
  have hx1 : (x : Int) < (g.objs.length : Int) := by omega
  have Hy := Lib.hid hy
  have hsp : y < 0 ∨ (¬ y < 0 ∧ (g.objs.length : Int) ≤ y) := by omega
  clear hy
  rcases hsp with hs | ⟨hs, hs2⟩
  all_goals
    go_enter Try.func5, Try.ntmps5
    go_wp2_with fail
    refine (retained_yes g HG.out _ x hx _ (Hg.out.later hM0.below)).mono ?_
    rintro e w1 ⟨va, up, rfl, _, hM1⟩
    have hM2 := hM0.call hM1.below
    have p0 : w1.cell? ⟨w.heap.size, 0, none⟩ = some (.slice ao g.objs.length co) := by have := hM2.cell 0 rfl 0; simpa using this
    have p1 : w1.cell? ⟨w.heap.size, 1, none⟩ = some (.slice ar g.roots.length cr) := by have := hM2.cell 0 rfl 1; simpa using this
    go_wp2_with fail
    refine (retained_out g HG.out _ y Hy.out _ (Hg.out.later hM2.below)).mono ?_
    rintro e w2 ⟨d, hd, rfl, hb2⟩
    have hM4 := hM2.call hb2
    have q0 : w2.cell? ⟨w.heap.size, 0, none⟩ = some (.slice ao g.objs.length co) := by have := hM4.cell 0 rfl 0; simpa using this
    have q1 : w2.cell? ⟨w.heap.size, 1, none⟩ = some (.slice ar g.roots.length cr) := by have := hM4.cell 0 rfl 1; simpa using this
    go_wp2_with fail
    refine (good_yes _ g _ (Hg.out.later hM4.below) HG.out).mono ?_
    rintro e w3 ⟨rfl, hb3⟩
    have hM5 := hM4.call hb3
    have r0 : w3.cell? ⟨w.heap.size, 0, none⟩ = some (.slice ao g.objs.length co) := by have := hM5.cell 0 rfl 0; simpa using this
    have hd2 : (d != 0) = true := by simpa using hd
    go_wp2
    go_ret
    exact ⟨rfl, hM5.below⟩

theorem domNested_walk (w : World) (v u t : Value) (h : ∃ g, IsGraph w v g) (h1 : ∃ x : Int, u = .int .i64 x) (h2 : ∃ x : Int, t = .int .i64 x) : Calls Try.prog 5 #[v, u, t] w fun e w' => e = .returned (.bool true) ∧ Below w.heap.size w w' := by
  obtain ⟨g, hg⟩ := h
  obtain ⟨x, rfl⟩ := h1
  obtain ⟨y, rfl⟩ := h2
  by_cases hG : Good g
  · by_cases hx : x < 0 ∨ (g.objs.length : Int) ≤ x
    · exact domNested_out1 g hG v x y hx w hg
    · obtain ⟨i, rfl⟩ : ∃ i : Nat, x = (i : Int) := ⟨x.toNat, by omega⟩
      by_cases hy : y < 0 ∨ (g.objs.length : Int) ≤ y
      · exact domNested_out2 g hG v i (by omega) y hy w hg
      · obtain ⟨j, rfl⟩ : ∃ j : Nat, y = (j : Int) := ⟨y.toNat, by omega⟩
        exact domNested_in g hG v i j (by omega) (by omega) w hg
  · exact domNested_bad g hG v x y w hg
end Go.Proofs.Ytnpbdabboecpaaa
