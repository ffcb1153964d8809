/- Retained at a bad graph, and at an object that is not there. -/
import Derived.Test.YtnpbdabboecpaaaE2
namespace Go.Proofs.Ytnpbdabboecpaaa
open Go.RowKit Go.Shelf

set_option maxRecDepth 100000 in
theorem retained_bad (g : G) (hG : ¬ Good g) (v : Value) (x : Int) (w : World) (hg : IsGraph w v g) :
    Calls Try.prog 14 #[v, .int .i64 x] w fun e w' => ∃ c : Int, (c == 0) = false ∧ e = .returned (.tuple #[.slice none 0 0, .int .i64 c]) ∧ Below w.heap.size w w' := by
  have hg0 := hg
  obtain ⟨vo, vr, rfl, ho, hr⟩ := hg
  obtain ⟨ao, co, rfl, hlo⟩ := ho.slice
  obtain ⟨ar, cr, rfl, hlr⟩ := hr.slice
  have Hg := Lib.hid hg0
  have HG := Lib.hid hG
  clear ho hr hg0 hG
  have hM0 := (Mem.start w).alloc #[.slice ao g.objs.length co, .slice ar g.roots.length cr] 25
  go_enter Try.func14, Try.ntmps14
  go_wp2_with fail
  refine (gcheck_no _ g _ (Hg.out.later hM0.below) HG.out).mono ?_
  rintro e w1 ⟨⟨c, rfl, hc⟩, hb⟩
  have hM1 := hM0.call hb
  go_wp2
  refine bodyPost_ret (v := .tuple #[.slice none 0 0, .int .i64 c]) (by simp [results, Try.results14, go_sem]) rfl ⟨c, hc, rfl, hM1.below⟩

set_option maxRecDepth 100000 in
theorem retained_out (g : G) (hG : Good g) (v : Value) (x : Int) (hx : x < 0 ∨ (g.objs.length : Int) ≤ x) (w : World) (hg : IsGraph w v g) :
    Calls Try.prog 14 #[v, .int .i64 x] w fun e w' => ∃ c : Int, (c == 0) = false ∧ e = .returned (.tuple #[.slice none 0 0, .int .i64 c]) ∧ Below w.heap.size w w' := by
  have hg0 := hg
  obtain ⟨vo, vr, rfl, ho, hr⟩ := hg
  obtain ⟨ao, co, rfl, hlo⟩ := ho.slice
  obtain ⟨ar, cr, rfl, hlr⟩ := hr.slice
  have Hg := Lib.hid hg0
  have HG := Lib.hid hG
  clear ho hr hg0 hG
  have hM0 := (Mem.start w).alloc #[.slice ao g.objs.length co, .slice ar g.roots.length cr] 25
  by_cases h0 : x < 0
  all_goals
    have hx2 : x < 0 ∨ (g.objs.length : Int) ≤ x := hx
    clear hx
    first | (have h1 : (g.objs.length : Int) ≤ x := hx2.resolve_left h0; clear hx2) | clear hx2
    go_enter Try.func14, Try.ntmps14
    go_wp2_with fail
    refine (gcheck_yes _ g _ (Hg.out.later hM0.below) HG.out).mono ?_
    rintro e w1 ⟨rfl, hb⟩
    have hM1 := hM0.call hb
    have p0 : w1.cell? ⟨w.heap.size, 0, none⟩ = some (.slice ao g.objs.length co) := by have := hM1.cell 0 rfl 0; simpa using this
    have p1 : w1.cell? ⟨w.heap.size, 1, none⟩ = some (.slice ar g.roots.length cr) := by have := hM1.cell 0 rfl 1; simpa using this
    go_wp2
    refine bodyPost_ret (v := .tuple #[.slice none 0 0, .int .i64 2]) (by simp [results, Try.results14, go_sem]) rfl ⟨2, rfl, rfl, hM1.below⟩
end Go.Proofs.Ytnpbdabboecpaaa
