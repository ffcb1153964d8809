/- TrialSafe, walked. -/
import Derived.Test.YtdmgpiimacnapaaTi
import Derived.Test.YtdmgpiimacnapaaRx
import Derived.Test.YtdmgpiimacnapaaOi
namespace Go.Proofs.Ytdmgpiimacnapaa
open Go.RowKit Go.Shelf

set_option maxRecDepth 100000 in
set_option maxHeartbeats 4000000 in
theorem tsafe_good (g : G) (v u : Value) (fr : List Int) (w : World) (hg : IsGraph w v g) (hu : IsInts w u fr) (hk : TrialOk g fr) :
    Calls Try.prog 8 #[v, u] w fun e w' => e = .returned (.bool true) ∧ Below w.heap.size w w' := by
  have Hg := Lib.hid hg
  obtain ⟨vo, vr, rfl, ho, hr⟩ := hg
  obtain ⟨ao, co, rfl, hlo⟩ := ho.slice
  obtain ⟨ar, cr, rfl, hlr⟩ := hr.slice
  have Hu := Lib.hid hu
  obtain ⟨au, cu, rfl, hlu⟩ := hu.slice
  have hM0 := (Mem.start w).alloc #[.slice ao g.objs.length co, .slice ar g.roots.length cr] 25
  have Hk := Lib.hid hk
  have hn := hk.1.objs
  have hfl := hk.2.1
  have Ho := Lib.hid ho
  have Hr := Lib.hid hr
  clear ho hr hu hk
  go_enter Try.func8, Try.ntmps8
  go_wp2_with fail
  refine (trial_reads g _ _ fr _ (Hg.out.later hM0.below) (Hu.out.later hM0.below) Hk.out).mono ?_
  rintro e w1 ⟨vl, L, rfl, hT, hl, hb1⟩
  obtain ⟨al, cl, rfl, hLl⟩ := hl.slice
  have hM1 := hM0.call hb1
  obtain ⟨p0, p1⟩ := hM1.cells2 0 rfl
  have HT := Lib.hid hT
  have Hl := Lib.hid hl
  clear hT hl
  go_wp2_with fail
  refine (good_yes _ g _ (Hg.out.later hM1.below) Hk.out.1).mono ?_
  rintro e w2 ⟨rfl, hb2⟩
  have hM2 := hM1.call hb2
  obtain ⟨p2, p3⟩ := hM2.cells2 0 rfl
  go_wp2_with fail
  refine (within_yes g.objs.length _ _ _ (Hu.out.later hM2.below) Hk.out.2.2).mono ?_
  rintro e w3 ⟨rfl, rfl⟩
  go_wp2_with fail
  refine (reach_any g Hk.out.1 _ _ (Hg.out.later hM2.below)).mono ?_
  rintro e w4 ⟨vr2, l, dist, rfl, hF, hM3⟩
  have hrl := isInts_reach Hk.out.1 hF 0 hM3 rfl
  obtain ⟨ar2, cr2, rfl, _⟩ := hrl.slice
  have hC4 := hb2.trans (hM3.below.mono hb2.size)
  have hM4 := hM2.callMem hM3
  obtain ⟨p4, p5⟩ := hM4.cells2 1 rfl
  have HF := Lib.hid (HT.out.far Hk.out.1 (hF.far Hk.out.1))
  have Hrl := Lib.hid hrl
  clear hF hM3 hrl
  go_wp2_with fail
  refine (rising_yes _ _ _ (Hl.out.later hC4) (rising_of HT.out.rising)).mono ?_
  rintro e w5 ⟨rfl, hb5⟩
  have hM5 := hM4.call hb5
  obtain ⟨p6, p7⟩ := hM5.cells2 1 rfl
  have hC5 := hC4.trans (hb5.mono hC4.size)
  go_wp2_with fail
  refine (within_yes g.objs.length _ _ _ (Hl.out.later hC5) HT.out.rng).mono ?_
  rintro e w6 ⟨rfl, rfl⟩
  have HM5 := Lib.hid (hM5.pick0 (A' := [ebox w.heap.size #[.slice ao g.objs.length co, .slice ar g.roots.length cr] 25]) [1] (by decide) rfl)
  have HL5 := Lib.hid (Hl.out.later hC5)
  have Hr5 := Lib.hid (Hrl.out.later hb5)
  have hB5 := Lib.hid hM5.below
  have hzb : w1.heap.size ≤ w5.heap.size := hC5.size
  clear hM0 hM1 hM2 hM4 hM5 hC4 hC5 hb1 hb2 hb5 p0 p1 p2 p3 p4 p5 p6 p7
  go_wp2
  go_loopw [63] (fun iv wr => ∃ k : Nat, k ≤ L.length ∧ iv = .int .i64 k ∧ Below w5.heap.size w5 wr) (fun iv _ => L.length - (intOf iv).toNat)
  case atStart => exact ⟨0, Nat.zero_le _, rfl, Below.refl _ _⟩
  case round =>
    obtain ⟨k, hk, rfl, hB⟩ := hrel
    by_cases hlt : k < L.length
    · obtain ⟨x, hx⟩ := get_some _ _ hlt
      obtain ⟨bx, ox, cx, hv, hbx, hnx, c1, _⟩ := HL5.out.at hB hx
      cases hv
      have hM := HM5.out.call hB
      obtain ⟨p0, p1⟩ := hM.cells2 0 rfl
      have z0 : w.heap.size < wr.heap.size := (hM.box 0 rfl).2.1
      have hmem := List.mem_of_getElem? hx
      have h1 : hasB (sorted l) x = false := by
        unfold hasB
        rw [decide_eq_false_iff_not, mem_sorted]
        exact fun h => HF.out x h hmem
      have h2 : refersB g.roots x = false := by
        unfold refersB
        rw [decide_eq_false_iff_not]
        exact fun h => HT.out.noroot x hmem (mem_targets (x := ⟨true, x⟩) h rfl)
      have hH := has_any _ (sorted l) x wr (Hr5.out.later hB)
      rw [h1] at hH
      have hR := refers_any (.slice ar g.roots.length cr) g.roots x wr (Hr.out.later hM.below)
      rw [h2] at hR
      have hrefs := HT.out.refs x hmem
      have Hrefs := Lib.hid hrefs
      have HB := Lib.hid hB
      have HM := Lib.hid hM
      have HH := Lib.hid hH
      have HR := Lib.hid hR
      clear hx h1 h2 hH hR hmem hrefs hB hM
      go_wp2_with fail
      refine HH.out.mono ?_
      rintro e w6 ⟨rfl, rfl⟩
      go_wp2_with fail
      refine HR.out.mono ?_
      rintro e w7 ⟨rfl, hb7⟩
      have hM7 := HM.out.call hb7
      obtain ⟨p2, p3⟩ := hM7.cells2 0 rfl
      have hB7 := HB.out.trans (hb7.mono HB.out.size)
      have HB7 := Lib.hid hB7
      clear hM7 hb7 hB7 HH HR
      go_wp2
      go_loopw [79] (fun iv wr => ∃ j : Nat, j ≤ g.objs.length ∧ iv = .int .i64 j ∧ Below w5.heap.size w5 wr) (fun iv _ => g.objs.length - (intOf iv).toNat)
      case atStart => exact ⟨0, Nat.zero_le _, rfl, HB7.out⟩
      case round =>
        clear p0 p1 p2 p3 c1
        obtain ⟨j, hj, rfl, hB⟩ := hrel
        have hM := HM5.out.call hB
        obtain ⟨p0, p1⟩ := hM.cells2 0 rfl
        have z1 : w.heap.size < wr.heap.size := (hM.box 0 rfl).2.1
        by_cases hlj : j < g.objs.length
        · obtain ⟨ob, hob⟩ := get_some _ _ hlj
          obtain ⟨b, off, cap2, uo, hv, hb, hb2, d1, huo⟩ := Ho.out.at hM.below hob
          cases hv
          obtain ⟨au2, cu2, rfl, hlu2⟩ := huo.slice
          have hb8 : Below wr.heap.size wr (wr.alloc (.cells #[.slice au2 ob.length cu2] 52)) := (Below.refl _ _).alloc (Nat.le_refl _) _
          have hR := refers_any (.slice au2 ob.length cu2) ob x _ ((huo.later hM.below).later hb8)
          have hfo : fieldsAt g (j : Int) = ob := by unfold fieldsAt; rw [Int.toNat_natCast, List.getD_eq_getElem?_getD, hob]; rfl
          have hin : refersB ob x = true → (j : Int) ∈ L := fun h => Hrefs.out j hlj (by rw [hfo]; exact refersB_target h)
          have Hin := Lib.hid hin
          obtain ⟨t, ht⟩ : ∃ t, refersB ob x = t := ⟨_, rfl⟩
          rw [ht] at hR
          have Ht := Lib.hid ht
          have HR := Lib.hid hR
          have HB8 := Lib.hid (hB.trans (hb8.mono hB.size))
          have HB := Lib.hid hB
          clear hob huo hb8 hR hfo hin ht hM hB
          go_wp2_with fail
          refine HR.out.mono ?_
          rintro e w9 ⟨rfl, hb9⟩
          have hB9 := HB8.out.trans (hb9.mono HB8.out.size)
          have HB9 := Lib.hid hB9
          clear hb9 hB9
          cases t with
          | false =>
            go_wp2
            go_roundw
            case rel => exact ⟨j + 1, by omega, by go_num, HB9.out⟩
            case measure => simp [intOf]; omega
          | true =>
            have hH := has_any _ L (j : Int) w9 (HL5.out.later HB9.out)
            rw [show hasB L (j : Int) = true from by unfold hasB; rw [decide_eq_true_eq]; exact Hin.out Ht.out] at hH
            have HH := Lib.hid hH
            clear hH
            go_wp2_with fail
            refine HH.out.mono ?_
            rintro e w6 ⟨rfl, rfl⟩
            go_wp2
            go_roundw
            case rel => exact ⟨j + 1, by omega, by go_num, HB9.out⟩
            case measure => simp [intOf]; omega
        · obtain rfl : j = g.objs.length := by omega
          have HB := Lib.hid hB
          clear hM hB
          go_wp2
          go_roundw
          case rel => exact ⟨k + 1, by omega, by go_num, HB.out⟩
          case measure => simp [intOf]; omega
    · obtain rfl : k = L.length := by omega
      have HB := Lib.hid (hB5.out.trans (hB.mono hB5.out.size))
      clear hB
      go_wp2
      go_ret
      exact ⟨rfl, HB.out⟩

set_option maxRecDepth 100000 in
set_option maxHeartbeats 1000000 in
theorem tsafe_bad (g : G) (v u : Value) (fr : List Int) (w : World) (hg : IsGraph w v g) (hu : IsInts w u fr) (hk : ¬ TrialOk g fr) :
    Calls Try.prog 8 #[v, u] w fun e w' => e = .returned (.bool true) ∧ Below w.heap.size w w' := by
  have Hg := Lib.hid hg
  obtain ⟨vo, vr, rfl, ho, hr⟩ := hg
  obtain ⟨ao, co, rfl, hlo⟩ := ho.slice
  obtain ⟨ar, cr, rfl, hlr⟩ := hr.slice
  have Hu := Lib.hid hu
  obtain ⟨au, cu, rfl, hlu⟩ := hu.slice
  have hM0 := (Mem.start w).alloc #[.slice ao g.objs.length co, .slice ar g.roots.length cr] 25
  have Hk := Lib.hid hk
  clear ho hr hu hk
  go_enter Try.func8, Try.ntmps8
  go_wp2_with fail
  refine (trial_no g _ _ fr _ (Hg.out.later hM0.below) (Hu.out.later hM0.below) Hk.out).mono ?_
  rintro e w1 ⟨c, hc, rfl, hb1⟩
  have hM1 := hM0.call hb1
  obtain ⟨p0, p1⟩ := hM1.cells2 0 rfl
  by_cases hG : Good g
  · go_wp2_with fail
    refine (good_yes _ g _ (Hg.out.later hM1.below) hG).mono ?_
    rintro e w2 ⟨rfl, hb2⟩
    have hM2 := hM1.call hb2
    obtain ⟨p2, p3⟩ := hM2.cells2 0 rfl
    by_cases hfl : fr.length ≤ 24
    · have Hno : Hid (¬ ∀ x ∈ fr, 0 ≤ x ∧ x < (g.objs.length : Int)) := Lib.hid (fun h => Hk.out ⟨hG, hfl, h⟩)
      go_wp2_with fail
      refine (within_either g.objs.length _ _ _ (Hu.out.later hM2.below)).mono ?_
      rintro e w3 ⟨t, rfl, ht, rfl⟩
      obtain rfl : t = false := by
        cases t with
        | false => rfl
        | true => exact (Hno.out (ht.1 rfl)).elim
      clear ht
      go_wp2
      go_ret
      exact ⟨by simp, hM2.below⟩
    · have hz : decide (24 < (fr.length : Int)) = true := by simp; omega
      go_wp2
      go_ret
      exact ⟨by simp, hM2.below⟩
  · go_wp2_with fail
    refine (good_no _ g _ (Hg.out.later hM1.below) hG).mono ?_
    rintro e w2 ⟨rfl, hb2⟩
    have hM2 := hM1.call hb2
    go_wp2
    go_ret
    exact ⟨by simp, hM2.below⟩
theorem tsafe_walk (w : World) (v u : Value) (h : ∃ g, IsGraph w v g) (hu : ∃ l, IsInts w u l) :
    Calls Try.prog 8 #[v, u] w fun e w' => e = .returned (.bool true) ∧ Below w.heap.size w w' := by
  obtain ⟨g, hg⟩ := h
  obtain ⟨fr, hu⟩ := hu
  by_cases hk : TrialOk g fr
  · exact tsafe_good g v u fr w hg hu hk
  · exact tsafe_bad g v u fr w hg hu hk
end Go.Proofs.Ytdmgpiimacnapaa
