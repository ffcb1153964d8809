/- LastSaves, walked. -/
import Derived.Test.YtdmgpiimacnapaaLx
namespace Go.Proofs.Ytdmgpiimacnapaa
open Go.RowKit Go.Shelf

/-- Has, its answer by a name. -/
theorem has_said (v : Value) (l : List Int) (x : Int) (w : World) (hl : IsInts w v l) (t : Bool) (ht : t = true ↔ x ∈ l) :
    Calls Try.prog 18 #[v, .int .i64 x] w fun e w' => e = .returned (.bool t) ∧ w = w' := by
  have h := has_any v l x w hl
  rw [show hasB l x = t from by unfold hasB; rw [Bool.eq_iff_iff, decide_eq_true_eq]; exact ht.symm] at h
  exact h
theorem dec_iff (p : Prop) : ∃ t : Bool, t = true ↔ p := by
  by_cases h : p
  · exact ⟨true, fun _ => h, fun _ => rfl⟩
  · exact ⟨false, fun h2 => (by cases h2), fun h2 => (h h2).elim⟩
set_option maxRecDepth 100000 in
set_option maxHeartbeats 4000000 in
theorem lsaves_good (g : G) (v u : Value) (wl : List Int) (w : World) (hg : IsGraph w v g) (hu : IsInts w u wl) (hk : LastOk g wl) :
    Calls Try.prog 13 #[v, u] w fun e w' => e = .returned (.bool true) ∧ Below w.heap.size w w' := by
  have Hg := Lib.hid hg
  obtain ⟨vo, vr, rfl, ho, hr⟩ := hg
  obtain ⟨ao, co, rfl, hlo⟩ := ho.slice
  obtain ⟨ar, cr, rfl, hlr⟩ := hr.slice
  have Hu := Lib.hid hu
  obtain ⟨au, cu, rfl, hlu⟩ := hu.slice
  have hM0 := (Mem.start w).alloc #[.slice ao g.objs.length co, .slice ar g.roots.length cr] 25
  have Hk := Lib.hid hk
  have hn := hk.1.objs
  have hfl := hk.2.1
  clear ho hr hu hk
  go_enter Try.func13, Try.ntmps13
  go_wp2_with fail
  refine (last_yes g _ _ wl _ (Hg.out.later hM0.below) (Hu.out.later hM0.below) Hk.out).mono ?_
  rintro e w1 ⟨vR, vS, R, S, rfl, hL, hIR, hIS, hb1⟩
  obtain ⟨aR, cR, rfl, _⟩ := hIR.slice
  obtain ⟨aS, cS, rfl, _⟩ := hIS.slice
  have hM1 := hM0.call hb1
  obtain ⟨p0, p1⟩ := hM1.cells2 0 rfl
  have HL := Lib.hid hL
  have HIR := Lib.hid hIR
  have HIS := Lib.hid hIS
  clear hL hIR hIS
  go_wp2_with fail
  refine (good_yes _ g _ (Hg.out.later hM1.below) Hk.out.1).mono ?_
  rintro e w2 ⟨rfl, hb2⟩
  have hM2 := hM1.call hb2
  obtain ⟨p2, p3⟩ := hM2.cells2 0 rfl
  go_wp2_with fail
  refine (within_yes g.objs.length _ _ _ (Hu.out.later hM2.below) Hk.out.2.2).mono ?_
  rintro e w3 ⟨rfl, rfl⟩
  go_wp2_with fail
  refine (reach_any g Hk.out.1 _ _ (Hg.out.later hM2.below)).mono ?_
  rintro e w4 ⟨vr2, l, dist, rfl, hF, hM3⟩
  have hrl := isInts_reach Hk.out.1 hF 0 hM3 rfl
  obtain ⟨ar2, cr2, rfl, _⟩ := hrl.slice
  have hC4 := hb2.trans (hM3.below.mono hb2.size)
  have hM4 := hM2.callMem hM3
  obtain ⟨p4, p5⟩ := hM4.cells2 1 rfl
  have HF : Hid (∀ x, x ∈ sorted l ↔ ReachP g x) := Lib.hid (fun x => by rw [mem_sorted]; exact (hF.far Hk.out.1).reachP x)
  have Hrl := Lib.hid hrl
  clear hF hM3 hrl
  go_wp2_with fail
  refine (within_yes g.objs.length _ _ _ (HIS.out.later hC4) HL.out.rngS).mono ?_
  rintro e w5 ⟨rfl, rfl⟩
  go_wp2_with fail
  refine (inside_yes _ _ _ _ _ (HIR.out.later hC4) (HIS.out.later hC4) HL.out.in).mono ?_
  rintro e w5 ⟨rfl, rfl⟩
  go_wp2_with fail
  refine (inside_yes _ _ _ _ _ (HIR.out.later hC4) (Hu.out.later hM4.below) (fun x hx => (HL.out.readyI hx).1.1)).mono ?_
  rintro e w5 ⟨rfl, rfl⟩
  have HM4 := Lib.hid (hM4.pick0 (A' := [ebox w.heap.size #[.slice ao g.objs.length co, .slice ar g.roots.length cr] 25]) [1] (by decide) rfl)
  have HS4 := Lib.hid (HIS.out.later hC4)
  have HR4 := Lib.hid (HIR.out.later hC4)
  have HU4 := Lib.hid (Hu.out.later hM4.below)
  have hB4 := Lib.hid hM4.below
  clear hM0 hM1 hM2 hM4 hC4 hb1 hb2 p0 p1 p2 p3 HIS HIR
  go_wp2
  go_loop [76] (fun iv => ∃ k : Nat, k ≤ wl.length ∧ iv = .int .i64 k) (fun iv => wl.length - (intOf iv).toNat)
  case atStart => exact ⟨0, Nat.zero_le _, rfl⟩
  case round =>
    obtain ⟨k, hk, rfl⟩ := hrel
    by_cases hlt : k < wl.length
    · obtain ⟨x, hx⟩ := get_some _ _ hlt
      obtain ⟨bx, ox, cx, hv, hbx, hnx, c1, _⟩ := HU4.out.at (Below.refl _ _) hx
      cases hv
      have hmem := List.mem_of_getElem? hx
      have hx0 := Hk.out.2.2 x hmem
      obtain ⟨t, ht⟩ := dec_iff (x ∈ sorted l)
      have H1 := Lib.hid (has_said _ (sorted l) x w4 Hrl.out t ht)
      have Hs : Hid (t = false → x ∈ S) := Lib.hid (fun h => HL.out.has hx0 hmem (fun hr => by have := ht.2 ((HF.out x).2 hr); rw [h] at this; cases this))
      clear hx hmem hx0 ht
      go_wp2_with fail
      refine H1.out.mono ?_
      rintro e w6 ⟨rfl, rfl⟩
      cases t with
      | true =>
        go_wp2
        go_round
        case rel => exact ⟨k + 1, by omega, by go_num⟩
        case measure => simp [intOf]; omega
      | false =>
        have H2 := Lib.hid (has_said _ S x w4 HS4.out true ⟨fun _ => Hs.out rfl, fun _ => rfl⟩)
        go_wp2_with fail
        refine H2.out.mono ?_
        rintro e w6 ⟨rfl, rfl⟩
        go_wp2
        go_round
        case rel => exact ⟨k + 1, by omega, by go_num⟩
        case measure => simp [intOf]; omega
    · obtain rfl : k = wl.length := by omega
      go_wp2
      go_loopw [93] (fun iv wr => ∃ k : Nat, k ≤ S.length ∧ iv = .int .i64 k ∧ Below w4.heap.size w4 wr) (fun iv _ => S.length - (intOf iv).toNat)
      case atStart => exact ⟨0, Nat.zero_le _, rfl, Below.refl _ _⟩
      case round =>
        clear p4 p5
        obtain ⟨k, hk, rfl, hB⟩ := hrel
        have hM := HM4.out.call hB
        obtain ⟨p0, p1⟩ := hM.cells2 0 rfl
        have z0 : w.heap.size < wr.heap.size := (hM.box 0 rfl).2.1
        have HB := Lib.hid hB
        have HM := Lib.hid hM
        by_cases hlt : k < S.length
        · obtain ⟨x, hx⟩ := get_some _ _ hlt
          obtain ⟨bx, ox, cx, hv, hbx, hnx, c1, _⟩ := HS4.out.at hB hx
          cases hv
          have hmem := List.mem_of_getElem? hx
          have hx0 := HL.out.rngS x hmem
          obtain ⟨i, rfl⟩ : ∃ i : Nat, x = (i : Int) := ⟨x.toNat, by omega⟩
          have hi : i < g.objs.length := by omega
          have Hmem := Lib.hid hmem
          have H1 := Lib.hid (has_said _ (sorted l) (i : Int) wr (Hrl.out.later hB) false ⟨fun h => (by cases h), fun h => (HL.out.out hmem ((HF.out _).1 h)).elim⟩)
          clear hx hmem hx0 hB hM
          go_wp2_with fail
          refine H1.out.mono ?_
          rintro e w6 ⟨rfl, rfl⟩
          go_wp2_with fail
          refine (leads_any g Hk.out.1 _ i _ (Hg.out.later HM.out.below) hi).mono ?_
          rintro e w7 ⟨vl, l2, dist2, rfl, hF2, hIl, hb7⟩
          obtain ⟨al, cl, rfl, _⟩ := hIl.slice
          have HF2 : Hid (∀ y, y ∈ sorted l2 ↔ LeadP g (i : Int) y) := Lib.hid (fun y => by rw [mem_sorted]; exact hF2.leadP y)
          have Hr2 : Hid (∀ y ∈ sorted l2, 0 ≤ y ∧ y < (g.objs.length : Int)) := Lib.hid (fun y hy => by have := hF2.inv.rng y (mem_sorted.1 hy); unfold fromG at this; exact this)
          have HIl := Lib.hid hIl
          have HB7 := Lib.hid (HB.out.trans (hb7.mono HB.out.size))
          clear hF2 hIl hb7
          go_wp2
          go_loop [108] (fun jv => ∃ j : Nat, j ≤ (sorted l2).length ∧ jv = .int .i64 j) (fun jv => (sorted l2).length - (intOf jv).toNat)
          case atStart => exact ⟨0, Nat.zero_le _, rfl⟩
          case round =>
            obtain ⟨j, hj, rfl⟩ := hrel
            by_cases hlj : j < (sorted l2).length
            · obtain ⟨y, hy⟩ := get_some _ _ hlj
              obtain ⟨by_, oy, cy, hv, hby, hny, c2, _⟩ := HIl.out.at (Below.refl _ _) hy
              cases hv
              have hym := List.mem_of_getElem? hy
              have hy0 := Hr2.out y hym
              have hyl := (HF2.out y).1 hym
              obtain ⟨c, rfl⟩ : ∃ c : Nat, y = (c : Int) := ⟨y.toNat, by omega⟩
              obtain ⟨t, ht⟩ := dec_iff ((c : Int) ∈ sorted l)
              have K1 := Lib.hid (has_said _ (sorted l) (c : Int) w7 (Hrl.out.later HB7.out) t ht)
              have Hs : Hid (t = false → (c : Int) ∈ S) := Lib.hid (fun h => HL.out.closed Hmem.out hyl hy0 (fun hr => by have := ht.2 ((HF.out _).2 hr); rw [h] at this; cases this))
              have Hnr : Hid (c ≠ i → (i : Int) ∈ wl → (c : Int) ∉ R) := Lib.hid (fun hne ha => HL.out.not_ready Hmem.out hyl (fun e => hne (by omega)) ha)
              obtain ⟨t2, ht2⟩ := dec_iff ((i : Int) ∈ wl)
              have H3 := Lib.hid (has_said _ wl (i : Int) w7 (HU4.out.later HB7.out) t2 ht2)
              have Ht2 := Lib.hid ht2
              clear hy hym hy0 hyl ht ht2
              by_cases hci : c = i
              · subst hci
                have hne : ((c : Int) != (c : Int)) = false := by simp
                go_wp2_with fail
                refine K1.out.mono ?_
                rintro e w8 ⟨rfl, rfl⟩
                cases t with
                | true =>
                  go_wp2
                  go_round
                  case rel => exact ⟨j + 1, by omega, by go_num⟩
                  case measure => simp [intOf]; omega
                | false =>
                  have H2 := Lib.hid (has_said _ S (c : Int) w7 (HS4.out.later HB7.out) true ⟨fun _ => Hs.out rfl, fun _ => rfl⟩)
                  go_wp2_with fail
                  refine H2.out.mono ?_
                  rintro e w9 ⟨rfl, rfl⟩
                  go_wp2
                  go_round
                  case rel => exact ⟨j + 1, by omega, by go_num⟩
                  case measure => simp [intOf]; omega
              · have hne : ((c : Int) != (i : Int)) = true := by simp; omega
                have hne2 : ((c : Int) == (i : Int)) = false := by simp; omega
                have Hci := Lib.hid hci
                go_wp2_with fail
                refine K1.out.mono ?_
                rintro e w8 ⟨rfl, rfl⟩
                cases t with
                | true =>
                  go_wp2_with fail
                  refine H3.out.mono ?_
                  rintro e w10 ⟨rfl, rfl⟩
                  cases t2 with
                  | false =>
                    go_wp2
                    go_round
                    case rel => exact ⟨j + 1, by omega, by go_num⟩
                    case measure => simp [intOf]; omega
                  | true =>
                    have H4 := Lib.hid (has_said _ R (c : Int) w7 (HR4.out.later HB7.out) false ⟨fun h => (by cases h), fun h => (Hnr.out Hci.out (Ht2.out.1 rfl) h).elim⟩)
                    go_wp2_with fail
                    refine H4.out.mono ?_
                    rintro e w11 ⟨rfl, rfl⟩
                    go_wp2
                    go_round
                    case rel => exact ⟨j + 1, by omega, by go_num⟩
                    case measure => simp [intOf]; omega
                | false =>
                  have H2 := Lib.hid (has_said _ S (c : Int) w7 (HS4.out.later HB7.out) true ⟨fun _ => Hs.out rfl, fun _ => rfl⟩)
                  go_wp2_with fail
                  refine H2.out.mono ?_
                  rintro e w9 ⟨rfl, rfl⟩
                  go_wp2_with fail
                  refine H3.out.mono ?_
                  rintro e w10 ⟨rfl, rfl⟩
                  cases t2 with
                  | false =>
                    go_wp2
                    go_round
                    case rel => exact ⟨j + 1, by omega, by go_num⟩
                    case measure => simp [intOf]; omega
                  | true =>
                    have H4 := Lib.hid (has_said _ R (c : Int) w7 (HR4.out.later HB7.out) false ⟨fun h => (by cases h), fun h => (Hnr.out Hci.out (Ht2.out.1 rfl) h).elim⟩)
                    go_wp2_with fail
                    refine H4.out.mono ?_
                    rintro e w11 ⟨rfl, rfl⟩
                    go_wp2
                    go_round
                    case rel => exact ⟨j + 1, by omega, by go_num⟩
                    case measure => simp [intOf]; omega
            · obtain rfl : j = (sorted l2).length := by omega
              go_wp2
              go_roundw
              case rel => exact ⟨k + 1, by omega, by go_num, HB7.out⟩
              case measure => simp [intOf]; omega
        · obtain rfl : k = S.length := by omega
          have hbe := Lib.hid HM.out.below
          clear hB hM
          go_wp2
          go_ret
          exact ⟨rfl, hbe.out⟩
set_option maxRecDepth 100000 in
set_option maxHeartbeats 1000000 in
theorem lsaves_bad (g : G) (v u : Value) (fr : List Int) (w : World) (hg : IsGraph w v g) (hu : IsInts w u fr) (hk : ¬ LastOk g fr) :
    Calls Try.prog 13 #[v, u] w fun e w' => e = .returned (.bool true) ∧ Below w.heap.size w w' := by
  have Hg := Lib.hid hg
  obtain ⟨vo, vr, rfl, ho, hr⟩ := hg
  obtain ⟨ao, co, rfl, hlo⟩ := ho.slice
  obtain ⟨ar, cr, rfl, hlr⟩ := hr.slice
  have Hu := Lib.hid hu
  obtain ⟨au, cu, rfl, hlu⟩ := hu.slice
  have hM0 := (Mem.start w).alloc #[.slice ao g.objs.length co, .slice ar g.roots.length cr] 25
  have Hk := Lib.hid hk
  clear ho hr hu hk
  go_enter Try.func13, Try.ntmps13
  go_wp2_with fail
  refine (last_no g _ _ fr _ (Hg.out.later hM0.below) (Hu.out.later hM0.below) Hk.out).mono ?_
  rintro e w1 ⟨c, hc, rfl, hb1⟩
  have hM1 := hM0.call hb1
  obtain ⟨p0, p1⟩ := hM1.cells2 0 rfl
  by_cases hG : Good g
  · go_wp2_with fail
    refine (good_yes _ g _ (Hg.out.later hM1.below) hG).mono ?_
    rintro e w2 ⟨rfl, hb2⟩
    have hM2 := hM1.call hb2
    obtain ⟨p2, p3⟩ := hM2.cells2 0 rfl
    by_cases hfl : fr.length ≤ 24
    · have Hno : Hid (¬ ∀ x ∈ fr, 0 ≤ x ∧ x < (g.objs.length : Int)) := Lib.hid (fun h => Hk.out ⟨hG, hfl, h⟩)
      go_wp2_with fail
      refine (within_either g.objs.length _ _ _ (Hu.out.later hM2.below)).mono ?_
      rintro e w3 ⟨t, rfl, ht, rfl⟩
      obtain rfl : t = false := by
        cases t with
        | false => rfl
        | true => exact (Hno.out (ht.1 rfl)).elim
      clear ht
      go_wp2
      go_ret
      exact ⟨by simp, hM2.below⟩
    · have hz : decide (24 < (fr.length : Int)) = true := by simp; omega
      go_wp2
      go_ret
      exact ⟨by simp, hM2.below⟩
  · go_wp2_with fail
    refine (good_no _ g _ (Hg.out.later hM1.below) hG).mono ?_
    rintro e w2 ⟨rfl, hb2⟩
    have hM2 := hM1.call hb2
    go_wp2
    go_ret
    exact ⟨by simp, hM2.below⟩
theorem lsaves_walk (w : World) (v u : Value) (h : ∃ g, IsGraph w v g) (hu : ∃ l, IsInts w u l) :
    Calls Try.prog 13 #[v, u] w fun e w' => e = .returned (.bool true) ∧ Below w.heap.size w w' := by
  obtain ⟨g, hg⟩ := h
  obtain ⟨fr, hu⟩ := hu
  by_cases hk : LastOk g fr
  · exact lsaves_good g v u fr w hg hu hk
  · exact lsaves_bad g v u fr w hg hu hk
end Go.Proofs.Ytdmgpiimacnapaa
