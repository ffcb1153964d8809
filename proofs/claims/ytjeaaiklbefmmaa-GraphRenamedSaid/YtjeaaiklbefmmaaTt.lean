/- GraphTwice, walked. -/
import Derived.Test.YtjeaaiklbefmmaaPr
import Derived.Test.YtjeaaiklbefmmaaSo
import Derived.Test.YtjeaaiklbefmmaaOpen
import Derived.BigQuiet
namespace Go.Proofs.Ytjeaaiklbefmmaa
open Go.RowKit Go.Shelf

theorem IsGraph.shape {w : World} {v : Value} {g : G} (h : IsGraph w v g) : ∃ ao co ar cr, v = .agg #[.slice ao g.objs.length co, .slice ar g.roots.length cr] ∧ g.objs.length ≤ 9223372036854775807 ∧ g.roots.length ≤ 9223372036854775807 := by
  obtain ⟨vo, vr, rfl, ho, hr⟩ := h
  obtain ⟨ao, co, rfl, h1⟩ := ho.slice
  obtain ⟨ar, cr, rfl, h2⟩ := hr.slice
  exact ⟨ao, co, ar, cr, rfl, h1, h2⟩
theorem lab_at {g : G} {l dist : List Int} (hG : Good g) (h : Far g l dist) : Lab l (at_ l l.length) := by
  have hll : l.length ≤ g.objs.length := h.inv.length_le
  have hn := hG.objs
  refine ⟨fun x hx y hy e => (at_inj h.inv.nodup hx hy).1 e, ?_, by omega⟩
  intro x hx
  have h1 := h.inv.rng x hx
  have h2 := at_rng l l.length x
  exact ⟨⟨by omega, by omega⟩, by omega, by omega⟩

set_option maxRecDepth 100000 in
set_option maxHeartbeats 8000000 in
theorem twice_good (g : G) (hG : Good g) (v : Value) (w : World) (hg : IsGraph w v g) :
    Calls Try.prog 10 #[v] w fun e w' => e = .returned (.bool true) ∧ Below w.heap.size w w' := by
  have Hg := Lib.hid hg
  obtain ⟨ao, co, ar, cr, rfl, hlo, hlr⟩ := hg.shape
  clear hg
  have hM0 := (Mem.start w).alloc #[.slice ao g.objs.length co, .slice ar g.roots.length cr] 25
  go_enter Try.func10, Try.ntmps10
  go_wp2_with fail
  refine (good_yes _ g _ (Hg.out.later hM0.below) hG).mono ?_
  rintro e w1 ⟨rfl, hb1⟩
  have hM1 := hM0.call hb1
  obtain ⟨p0, p1⟩ := hM1.cells2 0 rfl
  go_wp2_with fail
  refine (canon_any g hG _ _ (Hg.out.later hM1.below)).mono ?_
  rintro e w2 ⟨vc, c, rfl, hc, hgr, hb2⟩
  have hM2 := hM1.call hb2
  have HC := Lib.hid hgr.here
  have HCs := Lib.hid hc
  obtain ⟨l, dist, hF, hcl⟩ := hc
  have Hfar := Lib.hid (hF.far hG)
  have hcG : Good c := by rw [hcl]; exact good_renum hG Hfar.out
  have hclen : c.objs.length = l.length := by rw [hcl]; simp [renum]
  obtain ⟨n, hn⟩ : ∃ n, c.objs.length = n := ⟨_, rfl⟩
  obtain ⟨a5, c5, a6, c6, rfl, hlc, hlcr⟩ := hgr.here.shape
  rw [hn] at HC hclen hlc
  have Hcl := Lib.hid hcl
  have HF := Lib.hid hF
  have Hn := Lib.hid hn
  have Hclen := Lib.hid hclen
  have HcG := Lib.hid hcG
  obtain ⟨q0, q1⟩ := hM2.cells2 0 rfl
  have hsz2 : w.heap.size < w2.heap.size := (hM2.box 0 rfl).2.1
  rw [hn]
  clear hgr hF hcl hn hclen hcG
  have hM3 := hM2.alloc #[.slice a5 n c5, .slice a6 c.roots.length c6] 25
  have hC3 : Below w2.heap.size w2 (w2.alloc (.cells #[.slice a5 n c5, .slice a6 c.roots.length c6] 25)) := (Below.refl _ w2).alloc (Nat.le_refl _) _
  go_wp2_with fail
  refine (canon_any c HcG.out _ _ (HC.out.later hC3)).mono ?_
  rintro e w3 ⟨vb, b, rfl, hcb, hgrb, hb3⟩
  obtain rfl := canon_twice hG HCs.out hcb
  have hM4 := hM3.call hb3
  have hC4 := hC3.trans (hb3.mono (by simp))
  have HB := Lib.hid hgrb.here
  obtain ⟨a7, c7, a8, c8, rfl, _, _⟩ := hgrb.here.shape
  rw [Hn.out] at HB
  rw [Hn.out]
  clear hgrb hcb
  obtain ⟨r0, r1⟩ := hM4.cells2 0 rfl
  obtain ⟨r2, r3⟩ := hM4.cells2 1 rfl
  have z0 : w.heap.size < w3.heap.size := (hM4.box 1 rfl).2.1
  have z1 : w2.heap.size < w3.heap.size := (hM4.box 0 rfl).2.1
  have hM5 := hM4.alloc #[.slice a7 n c7, .slice a8 b.roots.length c8] 25
  have hC5 := hC4.alloc (o := .cells #[.slice a7 n c7, .slice a8 b.roots.length c8] 25) (by omega)
  have hB5 : Below w3.heap.size w3 (w3.alloc (.cells #[.slice a7 n c7, .slice a8 b.roots.length c8] 25)) := (Below.refl _ w3).alloc (Nat.le_refl _) _
  go_wp2_with fail
  refine (reach_any g hG _ _ (Hg.out.later hM5.below)).mono ?_
  rintro e w4 ⟨vl, l', dist', rfl, hF', hM6⟩
  obtain ⟨rfl, rfl⟩ := HF.out.unique hF'
  clear hF'
  have hC6 := hC5.trans (hM6.below.mono (by simp; omega))
  have hB6 := hB5.trans (hM6.below.mono (by simp))
  have hM7 := hM5.callMem hM6
  obtain ⟨al, cl, hvl, _⟩ := (isInts_reach hG HF.out 0 hM7 rfl).slice
  rw [length_sorted, ← Hclen.out] at hvl
  subst hvl
  obtain ⟨s0, s1⟩ := hM7.cells2 2 rfl
  obtain ⟨s2, s3⟩ := hM7.cells2 3 rfl
  obtain ⟨s4, s5⟩ := hM7.cells2 1 rfl
  have z2 : w.heap.size < w4.heap.size := (hM7.box 3 rfl).2.1
  have z3 : w2.heap.size < w4.heap.size := (hM7.box 2 rfl).2.1
  have z4 : w3.heap.size < w4.heap.size := (hM7.box 1 rfl).2.1
  clear hM6
  go_wp2_with fail
  refine (dist_any b HcG.out _ _ (HC.out.later hC6)).mono ?_
  rintro e w5 ⟨vd, l2, dist2, rfl, hF2, hM8⟩
  have hC7 := hC6.trans (hM8.below.mono (by omega))
  have hB7 := hB6.trans (hM8.below.mono (by omega))
  have hM9 := hM7.callMem hM8
  have hI2 := isInts_dist HcG.out (hF2.far HcG.out) 0 hM9 rfl
  rw [Hcl.out] at hF2
  obtain ⟨hl2, hD⟩ := canon_dist hG HF.out hF2
  obtain ⟨ad, cd, hvd, _⟩ := hI2.slice
  rw [hl2, ← Hclen.out] at hvd
  subst hvd
  have hd0 : ∀ (k : Nat) (x : Int), dist2[k]? = some x → 0 ≤ x := by
    intro k x hx
    have hk := (List.getElem?_eq_some_iff.1 hx).1
    obtain ⟨y, hy⟩ := get_some l k (by omega)
    have := hD k y hy
    rw [hx] at this
    cases this
    exact far_found Hfar.out (List.mem_of_getElem? hy)
  have hd1 : ∀ (k : Nat) (x y : Int), dist2[k]? = some x → dist2[k + 1]? = some y → x ≤ y := by
    intro k x y hx hy
    have hk := (List.getElem?_eq_some_iff.1 hy).1
    obtain ⟨a, ha⟩ := get_some l k (by omega)
    obtain ⟨b, hb⟩ := get_some l (k + 1) (by omega)
    have h1 := hD k a ha
    have h2 := hD (k + 1) b hb
    rw [hx] at h1
    rw [hy] at h2
    cases h1; cases h2
    exact Hfar.out.sorted k (k + 1) a b (by omega) ha hb
  have hl3 : dist2.length = n := by rw [hl2, ← Hclen.out]
  have HI2 := Lib.hid hI2
  have Hd0 := Lib.hid hd0
  have Hd1 := Lib.hid hd1
  have Hl3 := Lib.hid hl3
  obtain ⟨t0, t1⟩ := hM9.cells2 3 rfl
  obtain ⟨t2, t3⟩ := hM9.cells2 4 rfl
  obtain ⟨t4, t5⟩ := hM9.cells2 2 rfl
  have z5 : w.heap.size < w5.heap.size := (hM9.box 4 rfl).2.1
  have z6 : w2.heap.size < w5.heap.size := (hM9.box 3 rfl).2.1
  have z7 : w3.heap.size < w5.heap.size := (hM9.box 2 rfl).2.1
  clear hM8 hF2 hl2 hD hI2 hd0 hd1 hl3
  go_wp2_with fail
  refine (graphs_same _ _ b _ (HB.out.later hB7) (HC.out.later hC7)).mono ?_
  rintro e w6 ⟨rfl, hb6⟩
  have hM10 := hM9.call hb6
  have hC8 := hC7.trans (hb6.mono (by omega))
  obtain ⟨x0, x1⟩ := hM10.cells2 3 rfl
  obtain ⟨x2, x3⟩ := hM10.cells2 4 rfl
  have z8 : w.heap.size < w6.heap.size := (hM10.box 4 rfl).2.1
  have z9 : w2.heap.size < w6.heap.size := (hM10.box 3 rfl).2.1
  have HI6 := Lib.hid (HI2.out.later hb6)
  have HM10 := Lib.hid hM10
  have HC8 := Lib.hid hC8
  clear hM0 hM1 hM2 hM3 hM4 hM5 hM7 hM9 hM10 hC3 hC4 hC5 hC6 hC7 hC8 hB5 hB6 hB7 hb1 hb2 hb3 hb6 p0 p1 q0 q1 r0 r1 r2 r3 s0 s1 s2 s3 s4 s5 t0 t1 t2 t3 t4 t5
  go_wp2
  go_loopw [11] (fun i wr => ∃ k : Nat, k ≤ n ∧ i = .int .i64 k ∧ Below w6.heap.size w6 wr) (fun i _ => n - (intOf i).toNat)
  case atStart => exact ⟨0, Nat.zero_le _, rfl, Below.refl _ _⟩
  case round =>
    obtain ⟨k, hk, rfl, hB⟩ := hrel
    by_cases hlt : k < n
    · obtain ⟨y, hy⟩ := get_some dist2 k (by have := Hl3.out; omega)
      have hy0 := Hd0.out k y hy
      obtain ⟨bd, od, cap2, hv, _, _, c1, _⟩ := HI6.out.at hB hy
      cases hv
      by_cases hk0 : k = 0
      · have hd : decide (0 < k) = false := by simp [hk0]
        have hd2 : decide (0 < (k : Int)) = false := by simp [hk0]
        clear hy hk0 x0 x1 x2 x3 z0 z1 z2 z3 z4 z5 z6 z7 z8 z9 HM10 HC8 HC HB HI2 HI6 Hg Hfar HF HCs Hcl HcG Hclen Hn hlo hlr hlc hlcr Hd0 Hd1
        have hy2 : decide (y < 0) = false := by simpa using hy0
        go_wp2
        go_quiet (fail)
        go_wp2
        go_roundw
        case rel => exact ⟨k + 1, by omega, by go_num, hB.trans ⟨rfl, rfl, rfl, Nat.le_refl _, fun _ _ => rfl⟩⟩
        case measure => simp [intOf]; omega
      · obtain ⟨j, rfl⟩ : ∃ j, k = j + 1 := ⟨k - 1, by omega⟩
        obtain ⟨x, hx⟩ := get_some dist2 j (by omega)
        have hxy := Hd1.out j x y hx hy
        obtain ⟨bd2, od2, cap3, hv, _, _, c2, _⟩ := HI6.out.at hB hx
        cases hv
        have hx1 : ¬ y < x := by omega
        clear hx hy hk0
        have hj : (j : Int) + 1 < dist2.length := by omega
        clear x0 x1 x2 x3 z0 z1 z2 z3 z4 z5 z6 z7 z8 z9 HM10 HC8 HC HB HI2 HI6 Hg Hfar HF HCs Hcl HcG Hclen Hn hlo hlr hlc hlcr Hd0 Hd1
        have hj0 : (0:Int) ≤ (j : Int) + 1 := by omega
        have hj3 : ((j : Int) + 1).toNat = j + 1 := by omega
        have hy2 : decide (y < 0) = false := by simpa using hy0
        have hxy2 : decide (y < x) = false := by simpa using hxy
        have hlt2 : j < dist2.length := by omega
        have hj4 : IntKind.i64.wrap ((j : Int) + 1 - 1) = (j : Int) := by rw [Int.add_sub_cancel]; exact IntWalk.i64_in _ (by omega)
        go_wp2
        go_quiet (fail)
        go_wp2
        go_roundw
        case rel => exact ⟨j + 1 + 1, by omega, by go_num, hB.trans ⟨rfl, rfl, rfl, Nat.le_refl _, fun _ _ => rfl⟩⟩
        case measure => simp [intOf]; omega
    · obtain rfl : k = n := by omega
      have y0 : wr.cell? ⟨w2.heap.size, 0, none⟩ = some (.slice a5 k c5) := (hB.cell (p := ⟨_, _, none⟩) z9).trans x0
      have y1 : wr.cell? ⟨w2.heap.size, 1, none⟩ = some (.slice a6 b.roots.length c6) := (hB.cell (p := ⟨_, _, none⟩) z9).trans x1
      have y2 : wr.cell? ⟨w.heap.size, 0, none⟩ = some (.slice ao g.objs.length co) := (hB.cell (p := ⟨_, _, none⟩) z8).trans x2
      have y3 : wr.cell? ⟨w.heap.size, 1, none⟩ = some (.slice ar g.roots.length cr) := (hB.cell (p := ⟨_, _, none⟩) z8).trans x3
      have I := iso_self Hfar.out
      rw [← Hcl.out] at I
      have hB0 := HM10.out.below.trans (hB.mono HM10.out.base)
      have HI := Lib.hid I
      have HL := Lib.hid (lab_at hG Hfar.out)
      clear I
      go_wp2_with fail
      refine (sameR_iso g b l (at_ l l.length) HI.out HL.out hG _ _ _ (Hg.out.later hB0) (HC.out.later (HC8.out.trans (hB.mono (by omega))))).mono ?_
      rintro e w7 ⟨rfl, hb7⟩
      go_wp2
      go_ret
      exact ⟨rfl, hB0.trans (hb7.mono (Nat.le_trans HM10.out.base hB.size))⟩

theorem twice_walk (w : World) (v : Value) (h : ∃ g, IsGraph w v g) :
    Calls Try.prog 10 #[v] w fun e w' => e = .returned (.bool true) ∧ Below w.heap.size w w' := by
  obtain ⟨g, hg⟩ := h
  by_cases hG : Good g
  · exact twice_good g hG v w hg
  · have Hg := Lib.hid hg
    obtain ⟨ao, co, ar, cr, rfl, hlo, hlr⟩ := hg.shape
    have HG := Lib.hid hG
    clear hg hG
    have hM0 := (Mem.start w).alloc #[.slice ao g.objs.length co, .slice ar g.roots.length cr] 25
    go_enter Try.func10, Try.ntmps10
    go_wp2_with fail
    refine (good_no _ g _ (Hg.out.later hM0.below) HG.out).mono ?_
    rintro e w1 ⟨rfl, hb⟩
    have hM1 := hM0.call hb
    obtain ⟨p0, p1⟩ := hM1.cells2 0 rfl
    go_wp2_with fail
    refine (refused_yes _ g _ (Hg.out.later hM1.below) HG.out).mono ?_
    rintro e w2 ⟨rfl, hb2⟩
    have hM2 := hM1.call hb2
    go_wp2
    go_ret
    exact ⟨rfl, hM2.below⟩
end Go.Proofs.Ytjeaaiklbefmmaa
