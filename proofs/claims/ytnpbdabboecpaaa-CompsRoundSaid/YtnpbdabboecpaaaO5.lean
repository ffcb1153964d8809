/- comps.Comps: its contract. -/
import Derived.Test.YtnpbdabboecpaaaO4
namespace Go.Proofs.Ytnpbdabboecpaaa
open Go.RowKit Go.Shelf Tarj

/-- What comps.Comps hands back at a good graph. -/
theorem comps_any (g : G) (hG : Good g) (v : Value) (w : World) (hg : IsGraph w v g) :
    Calls Try.prog 21 #[v] w fun e w' => ∃ (vl : Value) (comp : List Int) (fs : List (Value × List Int)) (o : List Nat), e = .returned (.tuple #[vl, .int .i64 0]) ∧ Res (EG g) g.objs.length (rd comp (-1)) (fs.map (·.2)) ∧ Took (EG g) (rd comp (-1)) fs.length (o.map fun c : Nat => (c : Int)) ∧ o.length = fs.length ∧
      Mem w.heap.size w w' (rowR vl (o.map fun c : Nat => (fs.getD c (.slice none 0 0, [])).1) :: rowsI fs) := callsIn_wide.1 (comps_main g hG v w hg)
set_option maxRecDepth 100000 in
set_option maxHeartbeats 1000000 in
theorem comps_bad (g : G) (hG : ¬ Good g) (v : Value) (w : World) (hg : IsGraph w v g) :
    Calls Try.prog 21 #[v] w fun e w' => ∃ c : Int, (c == 0) = false ∧ e = .returned (.tuple #[.slice none 0 0, .int .i64 c]) ∧ Below w.heap.size w w' := by
  have hg0 := hg
  obtain ⟨vo, vr, rfl, ho, hr⟩ := hg
  obtain ⟨ao, co, rfl, hlo⟩ := ho.slice
  obtain ⟨ar, cr, rfl, hlr⟩ := hr.slice
  have Hg := Lib.hid hg0
  have HG := Lib.hid hG
  clear ho hr hg0 hG
  have hM0 := (Mem.start w).alloc #[.slice ao g.objs.length co, .slice ar g.roots.length cr] 25
  go_enter Try.func21, Try.ntmps21
  go_wp2_with fail
  refine (gcheck_no _ g _ (Hg.out.later hM0.below) HG.out).mono ?_
  rintro e w1 ⟨⟨c, rfl, hc⟩, hb⟩
  have hM1 := hM0.call hb
  go_wp2
  refine bodyPost_ret (v := .tuple #[.slice none 0 0, .int .i64 c]) (by simp [results, Try.results21, go_sem]) rfl ⟨c, hc, rfl, hM1.below⟩
end Go.Proofs.Ytnpbdabboecpaaa

