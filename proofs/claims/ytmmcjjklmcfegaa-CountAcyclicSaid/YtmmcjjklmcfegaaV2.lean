/- count.Play where it refuses. -/
import Derived.Test.YtmmcjjklmcfegaaS0
import Derived.Test.YtmmcjjklmcfegaaBase2
namespace Go.Proofs.Ytmmcjjklmcfegaa
open Go.RowKit Go.Shelf

def NilC : Value := .agg #[.slice none 0 0, .slice none 0 0, .slice none 0 0]
theorem cmpR {room : Int} (h : ¬ (1 ≤ room ∧ room ≤ 64)) : room < 1 ∨ (¬ room < 1 ∧ 64 < room) := by omega
set_option maxRecDepth 100000 in
set_option maxHeartbeats 2000000 in
theorem cplay_no (g : G) (v u : Value) (room : Int) (ds : List Dd) (w : World) (hg : IsGraph w v g) (hu : IsTup 5 cellsD w u ds) (hk : ¬ (Good g ∧ (1 ≤ room ∧ room ≤ 64) ∧ ds.length ≤ 100)) :
    Calls Try.prog 21 #[v, .int .i64 room, u] w fun e w' => ∃ c : Int, (c == 0) = false ∧ e = .returned (.tuple #[NilC, .int .i64 c]) ∧ Below w.heap.size w w' := by
  have Hg := Lib.hid hg
  obtain ⟨au, cu, rfl, _⟩ := hu.slice
  obtain ⟨vo, vr, rfl, ho, hr⟩ := hg
  obtain ⟨ao, co, rfl, hlo⟩ := ho.slice
  obtain ⟨ar, cr, rfl, hlr⟩ := hr.slice
  have hM0 := ((Mem.start w).alloc #[.slice ao g.objs.length co, .slice ar g.roots.length cr] 25).alloc #[.slice none 0 0, .slice none 0 0, .slice none 0 0] 41
  simp only [World.size_alloc] at hM0
  have HM0 := Lib.hid hM0
  clear ho hr hu hM0
  by_cases hG : Good g
  · by_cases hR : 1 ≤ room ∧ room ≤ 64
    · have hn2 : (100 : Int) < ds.length := by
        have : ¬ ds.length ≤ 100 := fun h => hk ⟨hG, hR, h⟩
        omega
      have hr3 : ¬ room < 1 := by omega
      have hr4 : ¬ 64 < room := by omega
      have HG := Lib.hid hG
      clear hk hG hR
      go_enter Try.func21, Try.ntmps21
      go_wp2_with fail
      refine (gcheck_yes _ g _ (Hg.out.later HM0.out.below) HG.out).mono ?_
      rintro e w1 ⟨rfl, hb1⟩
      have hM1 := HM0.out.call hb1
      have p0 := hM1.cell 0 rfl 0
      have p1 := hM1.cell 0 rfl 1
      have p2 := hM1.cell 0 rfl 2
      have f0 := hM1.free 0 rfl 0
      have f1 := hM1.free 0 rfl 1
      have f2 := hM1.free 0 rfl 2
      have hM2 := ((hM1.setBox 0 rfl 0 (.slice none 0 0)).setBox 0 rfl 1 (.slice none 0 0)).setBox 0 rfl 2 (.slice none 0 0)
      have z0 := hM2.cell 0 rfl 0
      have z1 := hM2.cell 0 rfl 1
      have z2 := hM2.cell 0 rfl 2
      have HB := Lib.hid hM2.below
      clear hM1 hM2 hb1 HM0
      go_wp2
      exact bodyPost_ret (v := .tuple #[NilC, .int .i64 1]) (by simp [results, Try.results21, go_sem, z0, z1, z2, NilC]) rfl ⟨1, by decide, rfl, HB.out⟩
    · have HG := Lib.hid hG
      have hrr := cmpR hR
      clear hk hG hR
      rcases hrr with hr3 | ⟨hr3, hr4⟩
      · go_enter Try.func21, Try.ntmps21
        go_wp2_with fail
        refine (gcheck_yes _ g _ (Hg.out.later HM0.out.below) HG.out).mono ?_
        rintro e w1 ⟨rfl, hb1⟩
        have hM1 := HM0.out.call hb1
        have p0 := hM1.cell 0 rfl 0
        have p1 := hM1.cell 0 rfl 1
        have p2 := hM1.cell 0 rfl 2
        have f0 := hM1.free 0 rfl 0
        have f1 := hM1.free 0 rfl 1
        have f2 := hM1.free 0 rfl 2
        have hM2 := ((hM1.setBox 0 rfl 0 (.slice none 0 0)).setBox 0 rfl 1 (.slice none 0 0)).setBox 0 rfl 2 (.slice none 0 0)
        have z0 := hM2.cell 0 rfl 0
        have z1 := hM2.cell 0 rfl 1
        have z2 := hM2.cell 0 rfl 2
        have HB := Lib.hid hM2.below
        clear hM1 hM2 hb1 HM0
        go_wp2
        exact bodyPost_ret (v := .tuple #[NilC, .int .i64 3]) (by simp [results, Try.results21, go_sem, z0, z1, z2, NilC]) rfl ⟨3, by decide, rfl, HB.out⟩
      · go_enter Try.func21, Try.ntmps21
        go_wp2_with fail
        refine (gcheck_yes _ g _ (Hg.out.later HM0.out.below) HG.out).mono ?_
        rintro e w1 ⟨rfl, hb1⟩
        have hM1 := HM0.out.call hb1
        have p0 := hM1.cell 0 rfl 0
        have p1 := hM1.cell 0 rfl 1
        have p2 := hM1.cell 0 rfl 2
        have f0 := hM1.free 0 rfl 0
        have f1 := hM1.free 0 rfl 1
        have f2 := hM1.free 0 rfl 2
        have hM2 := ((hM1.setBox 0 rfl 0 (.slice none 0 0)).setBox 0 rfl 1 (.slice none 0 0)).setBox 0 rfl 2 (.slice none 0 0)
        have z0 := hM2.cell 0 rfl 0
        have z1 := hM2.cell 0 rfl 1
        have z2 := hM2.cell 0 rfl 2
        have HB := Lib.hid hM2.below
        clear hM1 hM2 hb1 HM0
        go_wp2
        exact bodyPost_ret (v := .tuple #[NilC, .int .i64 3]) (by simp [results, Try.results21, go_sem, z0, z1, z2, NilC]) rfl ⟨3, by decide, rfl, HB.out⟩
  · have HG := Lib.hid hG
    clear hk hG
    go_enter Try.func21, Try.ntmps21
    go_wp2_with fail
    refine (gcheck_no _ g _ (Hg.out.later HM0.out.below) HG.out).mono ?_
    rintro e w1 ⟨⟨c, rfl, hc⟩, hb1⟩
    have hM1 := HM0.out.call hb1
    have p0 := hM1.cell 0 rfl 0
    have p1 := hM1.cell 0 rfl 1
    have p2 := hM1.cell 0 rfl 2
    have f0 := hM1.free 0 rfl 0
    have f1 := hM1.free 0 rfl 1
    have f2 := hM1.free 0 rfl 2
    have hM2 := ((hM1.setBox 0 rfl 0 (.slice none 0 0)).setBox 0 rfl 1 (.slice none 0 0)).setBox 0 rfl 2 (.slice none 0 0)
    have z0 := hM2.cell 0 rfl 0
    have z1 := hM2.cell 0 rfl 1
    have z2 := hM2.cell 0 rfl 2
    have HB := Lib.hid hM2.below
    clear hM1 hM2 hb1 HM0
    go_wp2
    exact bodyPost_ret (v := .tuple #[NilC, .int .i64 c]) (by simp [results, Try.results21, go_sem, z0, z1, z2, NilC]) rfl ⟨c, hc, rfl, HB.out⟩
end Go.Proofs.Ytmmcjjklmcfegaa
