/- CountSafe, walked at every input. -/
import Derived.Test.YtmmcjjklmcfegaaV6
import Derived.Test.YtmmcjjklmcfegaaV2
namespace Go.Proofs.Ytmmcjjklmcfegaa
open Go.RowKit Go.Shelf

set_option maxRecDepth 100000 in
set_option maxHeartbeats 2000000 in
theorem countSafe_bad (g : G) (v : Value) (u : Value) (room : Int) (ds : List Dd) (hk : ¬ (Good g ∧ (1 ≤ room ∧ room ≤ 64) ∧ ds.length ≤ 100)) (w : World) (hg : IsGraph w v g) (hu : IsTup 5 cellsD w u ds) :
    Calls Try.prog 6 #[v, .int .i64 room, u] w fun e w' => e = .returned (.bool true) ∧ Below w.heap.size w w' := by
  have Hg := Lib.hid hg
  obtain ⟨au, cu, rfl, _⟩ := hu.slice
  obtain ⟨vo, vr, rfl, ho, hr⟩ := hg
  obtain ⟨ao, co, rfl, hlo⟩ := ho.slice
  obtain ⟨ar, cr, rfl, hlr⟩ := hr.slice
  have hM0 := (Mem.start w).alloc #[.slice ao g.objs.length co, .slice ar g.roots.length cr] 25
  have HP1 := Lib.hid (cplay_no g _ _ room ds _ (Hg.out.later hM0.below) (hu.later hM0.below) hk)
  have HM0 := Lib.hid hM0
  clear hu hM0 ho hr hk
  go_enter Try.func6, Try.ntmps6
  go_wp2_with fail
  refine HP1.out.mono ?_
  rintro e w1 ⟨c, hc, rfl, hb1⟩
  rw [show NilC = .agg #[.slice none 0 0, .slice none 0 0, .slice none 0 0] from rfl]
  have hM1 := (HM0.out.call hb1).alloc #[.slice none 0 0, .slice none 0 0, .slice none 0 0] 41
  have HB := Lib.hid hM1.below
  have hcn : (c != 0) = true := by rw [bne, hc]; rfl
  clear hM1 hb1
  go_wp2
  go_ret
  exact ⟨rfl, HB.out⟩
theorem countSafe_walk (W : World) (v0 v1 v2 : Value) (g0 : ∃ g, IsGraph W v0 g) (g1 : ∃ x : Int, v1 = .int .i64 x ∧ i64ok x) (g2 : ∃ ds, IsTup 5 cellsD W v2 ds ∧ ∀ d ∈ ds, DdOk d) :
    Calls Try.prog 6 #[v0, v1, v2] W fun e w' => e = .returned (.bool true) ∧ Below W.heap.size W w' := by
  obtain ⟨g, hg⟩ := g0
  obtain ⟨room, rfl, _⟩ := g1
  obtain ⟨ds, hu, hd⟩ := g2
  by_cases hk : Good g ∧ (1 ≤ room ∧ room ≤ 64) ∧ ds.length ≤ 100
  · obtain ⟨a, c, rfl, _⟩ := hu.slice
    exact countSafe_good g hk.1 v0 a c room hk.2.1 ds W hg hu hd hk.2.2
  · exact countSafe_bad g v0 v2 room ds hk W hg hu
end Go.Proofs.Ytmmcjjklmcfegaa
