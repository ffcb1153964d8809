/- WeakPlain, walked. -/
import Derived.Test.YtdmgpiimacnapaaWl
import Derived.Test.YtdmgpiimacnapaaIn
import Derived.Deep.RegionHeld3
import Derived.Deep.LoopGhost
import Derived.Deep.DeepCutAuto
import Derived.Test.YtdmgpiimacnapaaGc
namespace Go.Proofs.Ytdmgpiimacnapaa
open Go.RowKit Go.Shelf

set_option maxRecDepth 100000 in
set_option maxHeartbeats 1000000 in
theorem wplain_bad (g : G) (v u : Value) (ks : List Int) (w : World) (hg : IsGraph w v g) (hu : IsInts w u ks) (hG : ¬ Good g) :
    Calls Try.prog 6 #[v, u] w fun e w' => e = .returned (.bool true) ∧ Below w.heap.size w w' := by
  have Hg := Lib.hid hg
  obtain ⟨vo, vr, rfl, ho, hr⟩ := hg
  obtain ⟨ao, co, rfl, hlo⟩ := ho.slice
  obtain ⟨ar, cr, rfl, hlr⟩ := hr.slice
  obtain ⟨au, cu, rfl, hlu⟩ := hu.slice
  have hM0 := (Mem.start w).alloc #[.slice ao g.objs.length co, .slice ar g.roots.length cr] 25
  have HG := Lib.hid hG
  clear ho hr hu hG
  go_enter Try.func6, Try.ntmps6
  go_wp2_with fail
  refine (good_no _ g _ (Hg.out.later hM0.below) HG.out).mono ?_
  rintro e w1 ⟨rfl, hb1⟩
  have hM1 := hM0.call hb1
  obtain ⟨p0, p1⟩ := hM1.cells2 0 rfl
  go_wp2_with fail
  refine (refused_yes _ g _ (Hg.out.later hM1.below) HG.out).mono ?_
  rintro e w2 ⟨rfl, hb2⟩
  have hbe := Lib.hid (hM1.call hb2).below
  go_wp2
  go_ret
  exact ⟨rfl, hbe.out⟩

set_option maxRecDepth 100000 in
set_option maxHeartbeats 4000000 in
theorem wplain_main (g : G) (v u : Value) (ks : List Int) (w : World) (hg : IsGraph w v g) (hroom : RoomG w v g) (hu : IsInts w u ks) (hG : Good g) :
    Calls Try.prog 6 #[v, u] w fun e w' => e = .returned (.bool true) ∧ Below w.heap.size w w' := by
  have Hg := Lib.hid hg
  obtain ⟨vo, vr, rfl, ho, hr⟩ := hg
  obtain ⟨ao, co, rfl, hlo⟩ := ho.slice
  obtain ⟨ar, cr, rfl, hlr⟩ := hr.slice
  have Hu := Lib.hid hu
  obtain ⟨au, cu, rfl, hlu⟩ := hu.slice
  have hM0 := (Mem.start w).alloc #[.slice ao g.objs.length co, .slice ar g.roots.length cr] 25
  have Hro0 := Lib.hid hroom
  have hgl := hG.objs
  have HG := Lib.hid hG
  clear ho hr hu hroom hG
  go_enter Try.func6, Try.ntmps6
  go_wp2_with fail
  refine (good_yes _ g _ (Hg.out.later hM0.below) HG.out).mono ?_
  rintro e w4 ⟨rfl, hb4⟩
  have hM5 := hM0.call hb4
  obtain ⟨p2, p3⟩ := hM5.cells2 0 rfl
  have z4 : w.heap.size < w4.heap.size := (hM5.box 0 rfl).2.1
  obtain ⟨inf, hinf, hz, hsz, hby⟩ := elemInts.info
  obtain ⟨w5, hrun, r1, r2⟩ := run_make_full (P := Try.prog) w4.drew w4.drew.heap.size 27 3 inf _ 1 elemInts.under hinf hz hsz .i64 .i64 g.objs.length (by rw [hby]; omega) (by simp [maxLen]; omega) (Nat.le_refl _)
  have hMk := (Mem.start w4).drew.make_own r1 r2
  have q3 : w5.cell? ⟨w.heap.size, 0, none⟩ = some (.slice ao g.objs.length co) := (hMk.below.cell (p := ⟨_, _, none⟩) z4).trans p2
  have q4 : w5.cell? ⟨w.heap.size, 1, none⟩ = some (.slice ar g.roots.length cr) := (hMk.below.cell (p := ⟨_, _, none⟩) z4).trans p3
  have hM6 := hM5.callMem hMk
  have Hkept := Lib.hid (kept_reads g _ _ (List.replicate g.objs.length 0) w5 (Hg.out.later hM6.below) (Hro0.out.later Hg.out hM6.below) (isInts_of_own (hMk.ownI 0 rfl) (by simp; omega) (by intro y hy; rw [(List.mem_replicate.1 hy).2]; exact ⟨by omega, by omega⟩)) (kindOf_zeroG HG.out))
  have HM5 := Lib.hid hM5
  have Hbk := Lib.hid hMk.below
  have z5 : w.heap.size < w5.heap.size := Nat.lt_of_lt_of_le z4 hMk.below.size
  clear hinf hz hsz hby r1 r2 hM6 hMk hM5 hb4 hM0
  go_wp2_with fail
  go_cut [5, 6] (fun s5 s6 W => s6 = .int .i64 0 ∧ ∃ Ka, WeakS g (List.replicate g.objs.length 0) Ka ∧ IsInts W s5 (listK Ka) ∧ Below w4.heap.size w4 W)
  case first =>
    go_region_held3 (fun W => W.cell? ⟨w.heap.size, 0, none⟩ = some (.slice ao g.objs.length co) ∧ W.cell? ⟨w.heap.size, 1, none⟩ = some (.slice ar g.roots.length cr))
      (first | exact ⟨by simpa using p2, by simpa using p3⟩ | exact ⟨q3, q4⟩ | exact ⟨q5, q6⟩)
      (first
        | (go_at_call 21
           refine Hkept.out.mono ?_
           rintro e w6 ⟨va, Ka, rfl, hWa, hla, hb6⟩
           have q5 := (hb6.cell (p := ⟨_, _, none⟩) z5).trans q3
           have q6 := (hb6.cell (p := ⟨_, _, none⟩) z5).trans q4))
    all_goals
      go_wp2_with fail
      go_meet
      exact ⟨rfl, Ka, hWa, hla, Hbk.out.trans (hb6.mono Hbk.out.size)⟩
  case rest =>
    obtain ⟨rfl, Ka, hWa, hla, hbW⟩ := hcut
    obtain ⟨na, hna⟩ : ∃ na, (listK Ka).length = na := ⟨_, rfl⟩
    obtain ⟨aa, ca, rfl, _⟩ := hla.slice
    rw [hna] at hla
    rw [hna]
    have hM7 := HM5.out.call hbW
    obtain ⟨s0, s1⟩ := hM7.cells2 0 rfl
    have HM7 := Lib.hid hM7
    have Hla := Lib.hid hla
    have HWa := Lib.hid hWa
    have Hna := Lib.hid hna
    clear hla hWa hna hM7 hrun p2 p3 q3 q4 Hkept
    go_wp2_with fail
    refine (kept_either g _ _ ks _ (Hg.out.later HM7.out.below) (Hro0.out.later Hg.out HM7.out.below) (Hu.out.later HM7.out.below)).mono ?_
    rintro e w8 ⟨vk, c, L, rfl, hL, hb8, hcase⟩
    obtain ⟨ak, ck, rfl, _⟩ := hL.slice
    have hM8 := HM7.out.call hb8
    obtain ⟨t0, t1⟩ := hM8.cells2 0 rfl
    have HL := Lib.hid hL
    have HC := Lib.hid hcase
    clear hL hcase
    go_wp2_with fail
    refine (reach_any g HG.out _ _ (Hg.out.later hM8.below)).mono ?_
    rintro e w9 ⟨vl, l, dist, rfl, hF, hM9⟩
    have hs := isInts_reach HG.out hF 0 hM9 rfl
    have hM10 := hM8.callMem hM9
    rw [HWa.out.far (hF.far HG.out)] at hs
    obtain ⟨al, cl, rfl, _⟩ := hs.slice
    have hla9 := (Hla.out.later hb8).later hM9.below
    have HL9 := Lib.hid (HL.out.later hM9.below)
    have Hla9 := Lib.hid hla9
    obtain ⟨t2, t3⟩ := hM10.cells2 1 rfl
    have Hs := Lib.hid hs
    have HM10 := Lib.hid hM10
    clear hs hla9 hM9 hM8 hM10 hF
    go_wp2_with fail
    refine (refInts_any _ _ _ _ _ Hla9.out Hs.out).mono ?_
    rintro e w11 ⟨he, hb11⟩
    rw [decide_eq_true rfl] at he
    subst he
    have hM11 := HM10.out.call hb11
    obtain ⟨t4, t5⟩ := hM11.cells2 1 rfl
    go_wp2_with fail
    refine (reachR_any g (by omega) _ _ (Hg.out.later hM11.below)).mono ?_
    rintro e w12 ⟨vr, lr, rfl, hR, hM12⟩
    obtain rfl := HWa.out.reach HG.out hR
    obtain ⟨a9, c9, hv9⟩ := hM12.intsSlice 0 rfl
    rw [Hna.out] at hv9
    subst hv9
    have hbe := Lib.hid (hM11.callMem hM12).below
    have HL12 := Lib.hid ((HL9.out.later hb11).later hM12.below)
    have Hla12 := Lib.hid ((Hla9.out.later hb11).later hM12.below)
    clear hR hM12 hM11
    rcases HC.out with hc | ⟨hc, K, hW, rfl⟩
    · go_wp2
      go_ret
      exact ⟨rfl, hbe.out⟩
    · have HW := Lib.hid hW
      clear hW
      go_wp2_with fail
      refine (inside_yes _ _ _ _ _ HL12.out Hla12.out (HW.out.more HWa.out (fun x => .inr (kindAt_zero _ x)))).mono ?_
      rintro e w13 ⟨rfl, rfl⟩
      go_wp2
      go_ret
      exact ⟨rfl, hbe.out⟩
theorem wplain_walk (w : World) (v u : Value) (h : ∃ g, IsGraph w v g ∧ RoomG w v g) (hu : ∃ l, IsInts w u l) :
    Calls Try.prog 6 #[v, u] w fun e w' => e = .returned (.bool true) ∧ Below w.heap.size w w' := by
  obtain ⟨g, hg, hr⟩ := h
  obtain ⟨ks, hu⟩ := hu
  by_cases hG : Good g
  · exact wplain_main g v u ks w hg hr hu hG
  · exact wplain_bad g v u ks w hg hu hG
end Go.Proofs.Ytdmgpiimacnapaa
