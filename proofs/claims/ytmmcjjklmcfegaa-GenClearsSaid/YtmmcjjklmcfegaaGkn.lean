/- GenClears: gen.Play where it refuses, with its code. -/
import Derived.Test.YtmmcjjklmcfegaaGkk
import Derived.Test.YtmmcjjklmcfegaaGcc
namespace Go.Proofs.Ytmmcjjklmcfegaa
open Go.RowKit Go.Shelf

noncomputable def codeP (g : G) : Int := open Classical in if Good g then 3 else codeG g
theorem codeP_ne {g : G} : (codeP g == 0) = false := by
  unfold codeP
  split
  · decide
  · exact codeG_ne ‹_›
set_option maxRecDepth 100000 in
set_option maxHeartbeats 2000000 in
theorem gplay_noC (g : G) (v u : Value) (room : Int) (ds : List Dd) (w : World) (hg : IsGraph w v g) (hu : IsTup 5 cellsD w u ds) (hk : ¬ (Good g ∧ (1 ≤ room ∧ room ≤ 64))) :
    Calls Try.prog 35 #[v, .int .i64 room, u] w fun e w' => e = .returned (.tuple #[NilGr, .int .i64 (codeP g)]) ∧ Below w.heap.size w w' := by
  have Hg := Lib.hid hg
  obtain ⟨au, cu, rfl, _⟩ := hu.slice
  obtain ⟨vo, vr, rfl, ho, hr⟩ := hg
  obtain ⟨ao, co, rfl, hlo⟩ := ho.slice
  obtain ⟨ar, cr, rfl, hlr⟩ := hr.slice
  have hM0 := ((Mem.start w).alloc #[.slice ao g.objs.length co, .slice ar g.roots.length cr] 25).alloc #[.slice none 0 0, .slice none 0 0, .slice none 0 0] 68
  simp only [World.size_alloc] at hM0
  have HM0 := Lib.hid hM0
  clear ho hr hu hM0
  by_cases hG : Good g
  · have hR : ¬ (1 ≤ room ∧ room ≤ 64) := fun h => hk ⟨hG, h⟩
    have hcp : codeP g = 3 := by unfold codeP; rw [if_pos hG]
    rw [hcp]
    clear hcp
    have HG := Lib.hid hG
    have hrr := cmpRG hR
    clear hk hG hR
    rcases hrr with hr3 | ⟨hr3, hr4⟩
    · go_enter Try.func35, Try.ntmps35
      go_wp2_with fail
      refine (gcheck_yes _ g _ (Hg.out.later HM0.out.below) HG.out).mono ?_
      rintro e w1 ⟨rfl, hb1⟩
      have hM1 := HM0.out.call hb1
      have p0 := hM1.cell 0 rfl 0
      have p1 := hM1.cell 0 rfl 1
      have p2 := hM1.cell 0 rfl 2
      have f0 := hM1.free 0 rfl 0
      have f1 := hM1.free 0 rfl 1
      have f2 := hM1.free 0 rfl 2
      have hM2 := ((hM1.setBox 0 rfl 0 (.slice none 0 0)).setBox 0 rfl 1 (.slice none 0 0)).setBox 0 rfl 2 (.slice none 0 0)
      have z0 := hM2.cell 0 rfl 0
      have z1 := hM2.cell 0 rfl 1
      have z2 := hM2.cell 0 rfl 2
      have HB := Lib.hid hM2.below
      clear hM1 hM2 hb1 HM0
      go_wp2
      exact bodyPost_ret (v := .tuple #[NilGr, .int .i64 3]) (by simp [results, Try.results35, go_sem, z0, z1, z2, NilGr]) rfl ⟨rfl, HB.out⟩
    · go_enter Try.func35, Try.ntmps35
      go_wp2_with fail
      refine (gcheck_yes _ g _ (Hg.out.later HM0.out.below) HG.out).mono ?_
      rintro e w1 ⟨rfl, hb1⟩
      have hM1 := HM0.out.call hb1
      have p0 := hM1.cell 0 rfl 0
      have p1 := hM1.cell 0 rfl 1
      have p2 := hM1.cell 0 rfl 2
      have f0 := hM1.free 0 rfl 0
      have f1 := hM1.free 0 rfl 1
      have f2 := hM1.free 0 rfl 2
      have hM2 := ((hM1.setBox 0 rfl 0 (.slice none 0 0)).setBox 0 rfl 1 (.slice none 0 0)).setBox 0 rfl 2 (.slice none 0 0)
      have z0 := hM2.cell 0 rfl 0
      have z1 := hM2.cell 0 rfl 1
      have z2 := hM2.cell 0 rfl 2
      have HB := Lib.hid hM2.below
      clear hM1 hM2 hb1 HM0
      go_wp2
      exact bodyPost_ret (v := .tuple #[NilGr, .int .i64 3]) (by simp [results, Try.results35, go_sem, z0, z1, z2, NilGr]) rfl ⟨rfl, HB.out⟩
  · have hcp : codeP g = codeG g := by unfold codeP; rw [if_neg hG]
    rw [hcp]
    clear hcp
    have HG := Lib.hid hG
    clear hk hG
    go_enter Try.func35, Try.ntmps35
    go_wp2_with fail
    refine (gcheckC_any _ g _ (Hg.out.later HM0.out.below)).mono ?_
    rintro e w1 ⟨hce, hb1⟩
    unfold CheckedC at hce
    subst hce
    obtain ⟨c, hcc⟩ : ∃ c, codeG g = c := ⟨_, rfl⟩
    have hc := codeG_ne HG.out
    rw [hcc] at hc ⊢
    have hM1 := HM0.out.call hb1
    have p0 := hM1.cell 0 rfl 0
    have p1 := hM1.cell 0 rfl 1
    have p2 := hM1.cell 0 rfl 2
    have f0 := hM1.free 0 rfl 0
    have f1 := hM1.free 0 rfl 1
    have f2 := hM1.free 0 rfl 2
    have hM2 := ((hM1.setBox 0 rfl 0 (.slice none 0 0)).setBox 0 rfl 1 (.slice none 0 0)).setBox 0 rfl 2 (.slice none 0 0)
    have z0 := hM2.cell 0 rfl 0
    have z1 := hM2.cell 0 rfl 1
    have z2 := hM2.cell 0 rfl 2
    have HB := Lib.hid hM2.below
    clear hM1 hM2 hb1 HM0
    go_wp2
    exact bodyPost_ret (v := .tuple #[NilGr, .int .i64 c]) (by simp [results, Try.results35, go_sem, z0, z1, z2, NilGr]) rfl ⟨by rw [hcc], HB.out⟩
end Go.Proofs.Ytmmcjjklmcfegaa
