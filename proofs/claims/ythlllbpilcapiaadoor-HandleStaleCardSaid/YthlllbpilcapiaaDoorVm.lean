/- HandleStale, walked. -/
import Derived.Test.YthlllbpilcapiaaDoorVl
import Derived.BigQuiet
namespace Go.Proofs.YthlllbpilcapiaaDoor
open Go.RowKit

def ownK (x1 x2 x3 : Value) (A1 A2 : List Int) (A3 : List Bool) : List Ent := [rowI 2 x1 A1, rowI 2 x2 A2, rowT 4 1 encL x3 A3]
set_option maxRecDepth 100000 in
set_option maxHeartbeats 2000000 in
theorem handleStale_yes (T : Int) (v : Value) (l : List (Int × Int)) (w : World) (hl : IsTup 2 encG w v l) (h64 : ∀ a ∈ l, i64ok a.1 ∧ i64ok a.2) (he : EtOk w) :
    Calls Tryd.prog 3 #[.int .i64 T, v] w fun e w' => e = .returned (.bool true) ∧ Below w.heap.size w w' := by
  have HP := Lib.hid (playH_any T v l w hl h64 he)
  have Hl := Lib.hid hl
  obtain ⟨al, cl, rfl, hlm⟩ := hl.slice
  clear hl
  go_enter Tryd.func3, Tryd.ntmps3
  go_wp2_with fail
  refine HP.out.mono ?_
  rintro e w5 ⟨ov, c, rfl, hb5, hcase⟩
  have HB5 := Lib.hid hb5
  clear HP hb5
  rcases hcase with ⟨hc0, rfl⟩ | ⟨rfl, N, rfl, hN1, hN2, hl100, hT⟩
  · have e1 : (c != 0) = true := by simpa using hc0
    clear hc0
    go_wp2
    go_ret
    exact ⟨rfl, HB5.out⟩
  · obtain ⟨ao, co, rfl, hom⟩ := hT.slice
    have hol := outsH_len N l l.length (Nat.le_refl _)
    have HT := Lib.hid hT
    rw [hol]
    have Hol := Lib.hid hol
    clear hT hom hol
    have HL := Lib.hid (Hl.out.later HB5.out)
    have hM0 : Mem w5.heap.size w5 w5 (ownK (.slice none 0 0) (.slice none 0 0) (.slice none 0 0) [] [] []) := ((((Mem.start w5).nilT 4 1 encL).nilI 2).nilI 2)
    have HM0 := Lib.hid hM0
    clear hM0
    go_wp2
    go_loopw [7, 8, 9, 40] (fun kv vv lv i wr => ∃ (k m : Nat) (K : List Known) (A1 A2 : List Int) (A3 : List Bool) (x1 x2 x3 : Value), k ≤ l.length ∧ m ≤ k ∧ x1 = kv ∧ x2 = vv ∧ x3 = lv ∧ i = .int .i64 (k : Int) ∧ Mem w5.heap.size w5 wr (ownK x1 x2 x3 A1 A2 A3) ∧ KnL K A1 A2 A3 m ∧ HInv (stateH N l k) K) (fun _ _ _ i _ => l.length - (intOf i).toNat)
    case atStart => exact ⟨0, 0, [], [], [], [], _, _, _, Nat.zero_le _, Nat.le_refl _, rfl, rfl, rfl, rfl, HM0.out, ⟨rfl, rfl, rfl, rfl⟩, HInv.start hN2⟩
    case round =>
      clear HM0
      obtain ⟨k, m, K, A1, A2, A3, x1, x2, x3, hk, hmk, rfl, rfl, rfl, rfl, hM, hkn, hinv⟩ := hrel
      by_cases hlt : k < l.length
      · obtain ⟨a, ha⟩ := get_some _ _ hlt
        obtain ⟨bl, ol, cl2, hv, zl5, z1, hc⟩ := HL.out.at hM.below ha
        cases hv
        have d0 := hc 0 _ rfl
        have d1 := hc 1 _ rfl
        rw [Nat.add_zero] at d0
        have h64a := (h64 a (List.mem_of_getElem? ha)).2
        have hstep := hinv.step a
        rw [← stateH_succ ha] at hstep
        have hoa := outsH_at N l ha l.length hlt (Nat.le_refl _)
        obtain ⟨r, hr⟩ : ∃ r, (stepH (stateH N l k) a).2 = r := ⟨_, rfl⟩
        obtain ⟨c, g⟩ := r
        rw [hr] at hstep hoa
        simp only at hstep
        have hnd := hinv.nodup
        obtain ⟨l1, l2, l3⟩ := hkn.lens
        obtain ⟨ax1, cx1, rfl, hz1⟩ := own_shape (hM.ownI 0 rfl)
        obtain ⟨ax2, cx2, rfl, hz2⟩ := own_shape (hM.ownI 1 rfl)
        obtain ⟨ax3, cx3, rfl, hz3⟩ := own_shape (hM.ownT 2 rfl)
        rw [l1] at hz1 hM
        rw [l2] at hz2 hM
        rw [l3] at hz3 hM
        rw [l1, l2, l3]
        have hMa := hM.alloc #[.int .i64 a.1, .int .i64 a.2] 30
        obtain ⟨Wa, hWa⟩ : ∃ Wa, wr.alloc (.cells #[.int .i64 a.1, .int .i64 a.2] 30) = Wa := ⟨_, rfl⟩
        obtain ⟨ba, hba⟩ : ∃ ba, wr.heap.size = ba := ⟨_, rfl⟩
        rw [hWa, hba] at hMa
        have HMa := Lib.hid hMa
        have HWa := Lib.hid hWa
        have Hba := Lib.hid hba
        have Hkn := Lib.hid hkn
        have Hnd := Lib.hid hnd
        have Hoa := Lib.hid hoa
        have Hst := Lib.hid hstep
        have Hz1 := Lib.hid hz1
        have Hz2 := Lib.hid hz2
        have Hz3 := Lib.hid hz3
        have Hl1 := Lib.hid l1
        have Hl2 := Lib.hid l2
        have Hl3 := Lib.hid l3
        clear hM hMa hc hWa hba ha hoa hr hinv hnd hkn hstep hz1 hz2 hz3 l1 l2 l3
        go_upto_region 10 with (fail)
        rw [HWa.out, Hba.out]
        clear HWa Hba d0 d1
        go_wp2
        go_loopw [12, 13] (fun kk j wi => ∃ (jn : Nat) (q : Int), jn ≤ m ∧ j = .int .i64 (jn : Int) ∧ kk = .int .i64 q ∧ Mem w5.heap.size w5 wi (ebox ba #[.int .i64 a.1, .int .i64 a.2] 30 :: ownK (.slice ax1 m cx1) (.slice ax2 m cx2) (.slice ax3 m cx3) A1 A2 A3) ∧ ScanK A1 a.2 jn q) (fun _ j _ => m - (intOf j).toNat)
        case atStart => exact ⟨0, -1, Nat.zero_le _, rfl, rfl, HMa.out, .inl ⟨rfl, fun i hi => absurd hi (Nat.not_lt_zero _)⟩⟩
        case round =>
          clear HMa
          obtain ⟨jn, q, hj, rfl, rfl, hM, hsc⟩ := hrel
          have a0 := hM.cell 0 rfl 0
          have a1 := hM.cell 0 rfl 1
          simp only [List.getElem?_toArray, List.getElem?_cons_zero, List.getElem?_cons_succ] at a0 a1
          have az := (hM.box 0 rfl).2.1
          by_cases hjl : jn < m
          · obtain ⟨gx, hgx⟩ := Hz1.out (by omega)
            subst hgx
            obtain ⟨x, hx⟩ := get_some A1 jn (by rw [Hl1.out]; exact hjl)
            have y1 := (hM.intAt 1 rfl hx).1
            have zx : gx < wr.heap.size := ((hM.row 1 rfl).lt gx rfl).2
            have i0 : (0 : Int) ≤ (jn : Int) := by omega
            have i1 : (jn : Int) < (m : Int) := by omega
            have HM := Lib.hid hM
            have HS := Lib.hid hsc
            have HX := Lib.hid hx
            by_cases hxe : x = a.2
            · have e1 : (x == a.2) = true := beq_iff_eq.2 hxe
              have HE := Lib.hid hxe
              clear hM hsc hx hxe
              go_wp2
              go_quiet (fail)
              go_wp2
              go_roundw
              case rel => exact ⟨jn + 1, (jn : Int), by omega, by go_num, rfl, HM.out.drewN _, ScanK.hit (by rw [← HE.out]; exact HX.out)⟩
              case measure => simp [intOf]; omega
            · have e1 : (x == a.2) = false := by simpa using hxe
              have HE := Lib.hid hxe
              clear hM hsc hx hxe
              go_wp2
              go_quiet (fail)
              go_wp2
              go_roundw
              case rel => exact ⟨jn + 1, q, by omega, by go_num, rfl, HM.out.drewN _, HS.out.next HX.out HE.out⟩
              case measure => simp [intOf]; omega
          · obtain rfl : jn = m := by omega
            obtain ⟨bo, oo, co2, hv, zo5, zo, hco⟩ := HT.out.at hM.below Hoa.out
            rw [Hol.out] at hv
            cases hv
            have y0 := hco 0 _ rfl
            have y2 := hco 2 _ rfl
            rw [Nat.add_zero] at y0
            obtain ⟨h1, h2, h3, h4⟩ := Hst.out
            have HM := Lib.hid hM
            by_cases k1 : a.1 = 1
            · have q1 : (a.1 == 1) = true := beq_iff_eq.2 k1
              have q3 : (a.1 != 3) = true := by rw [k1]; rfl
              have q2 : (a.1 != 2) = true := by rw [k1]; rfl
              by_cases c0 : c = 0
              · have p1 : (c == 0) = true := beq_iff_eq.2 c0
                have e1 : knownS K a c g = K ++ [(g, a.2, true)] := by unfold knownS; rw [if_pos k1, if_pos c0]
                rw [e1] at h1
                have H1 := Lib.hid h1
                have HF := Lib.hid (h2 k1 c0)
                clear h1 h2 h3 h4 hsc hM hco e1 k1 c0
                go_wp2
                go_loopw [72] (fun j wi => ∃ pn : Nat, pn ≤ jn ∧ j = .int .i64 (pn : Int) ∧ wr = wi) (fun j _ => jn - (intOf j).toNat)
                case atStart => exact ⟨0, Nat.zero_le _, rfl, rfl⟩
                case round =>
                  obtain ⟨pn, hpn, rfl, rfl⟩ := hrel
                  by_cases hpl : pn < jn
                  · obtain ⟨gx, hgx⟩ := Hz1.out (by omega)
                    subst hgx
                    obtain ⟨x, hx⟩ := get_some A1 pn (by rw [Hl1.out]; exact hpl)
                    have y1 := (HM.out.intAt 1 rfl hx).1
                    have zx : gx < wr.heap.size := ((HM.out.row 1 rfl).lt gx rfl).2
                    have i0 : (0 : Int) ≤ (pn : Int) := by omega
                    have i1 : (pn : Int) < (jn : Int) := by omega
                    have e1 : (x == g) = false := by simpa using Hkn.out.fresh HF.out hx
                    clear hx
                    go_wp2
                    go_roundw
                    case rel => exact ⟨pn + 1, by omega, by go_num, trivial⟩
                    case measure => simp [intOf]; omega
                  · obtain rfl : pn = jn := by omega
                    have Hn1 : Hid (A1.length ≤ 1000000) := Lib.hid (by rw [Hl1.out]; omega)
                    have Hn2 : Hid (A2.length ≤ 1000000) := Lib.hid (by rw [Hl2.out]; omega)
                    have Hn3 : Hid (A3.length ≤ 1000000) := Lib.hid (by rw [Hl3.out]; omega)
                    go_wp2_with (first
                      | (refine Mem.wp_appI elemI64 rfl (.tmp 84) (.tmp 90) rfl HM.out 1 rfl rfl _ g _ _ rfl rfl Hn1.out ?_; intro ad7 n7 cp7 w7 hn7 hM7 hs7 hk7 ha7; have b1 : w7.cell? ⟨ba, 1, none⟩ = some (.int .i64 a.2) := (by have := hM7.cell 0 rfl 1; simpa using this); have bz : ba < w7.heap.size := (hM7.box 0 rfl).2.1)
                      | (refine Mem.wp_appI elemI64 rfl (.tmp 92) (.tmp 95) rfl hM7 2 rfl rfl _ a.2 _ _ rfl rfl Hn2.out ?_; intro ad8 n8 cp8 w8 hn8 hM8 hs8 hk8 ha8)
                      | (refine Mem.wp_appT elemBo rfl (.tmp 97) (.tmp 98) rfl hM8 3 rfl rfl _ true #[.bool true] rfl _ _ rfl (by simp) rfl rfl (by decide) Hn3.out ?_; intro ad9 n9 cp9 w9 hn9 hM9 hs9 hk9 ha9; have b0 : w9.cell? ⟨ba, 0, none⟩ = some (.int .i64 a.1) := (by have := hM9.cell 0 rfl 0; simpa using this); have bz9 : ba < w9.heap.size := (hM9.box 0 rfl).2.1))
                    go_roundw
                    case rel => exact ⟨k + 1, pn + 1, _, A1 ++ [g], A2 ++ [a.2], A3 ++ [true], _, _, _, by omega, by omega, rfl, rfl, rfl, by go_num, hM9.drop (List.sublist_cons_self _ _), Hkn.out.app g a.2, H1.out⟩
                    case measure => simp [intOf]; omega
              · have p1 : (c == 0) = false := by simpa using c0
                have e1 : knownS K a c g = K := by unfold knownS; rw [if_pos k1, if_neg c0]
                rw [e1] at h1
                have H1 := Lib.hid h1
                clear h1 h2 h3 h4 hsc hM hco e1 k1 c0
                go_wp2
                go_roundw
                case rel => exact ⟨k + 1, jn, K, A1, A2, A3, _, _, _, by omega, by omega, rfl, rfl, rfl, by go_num, HM.out.drop (List.sublist_cons_self _ _), Hkn.out, H1.out⟩
                case measure => simp [intOf]; omega
            · have q1 : (a.1 == 1) = false := by simpa using k1
              by_cases k2 : a.1 = 2
              · have q3 : (a.1 != 3) = true := by rw [k2]; rfl
                have q2 : (a.1 != 2) = false := by rw [k2]; rfl
                have q4 : (a.1 == 3) = false := by rw [k2]; rfl
                have q5 : (a.1 == 2) = true := by rw [k2]; rfl
                have hiff := h3 (.inl k2)
                have e1 : knownS K a c g = deadK K a.2 := by unfold knownS; rw [if_neg k1, if_pos k2]
                rw [e1] at h1
                rcases hsc with ⟨rfl, hno⟩ | ⟨i, hi, rfl, hAi⟩
                · have hmiss := Hkn.out.miss hno
                  have c0 : (c == 0) = false := by
                    simp only [beq_eq_false_iff_ne]
                    intro h9
                    obtain ⟨z, hz, hz1, _⟩ := hiff.1 h9
                    exact hmiss z hz hz1
                  rw [dead_miss hmiss] at h1
                  have H1 := Lib.hid h1
                  clear h1 h2 h3 h4 hM hco e1 k1 k2 hiff hno hmiss
                  go_wp2
                  go_quiet (fail)
                  go_wp2
                  go_quiet (fail)
                  go_wp2
                  go_roundw
                  case rel => exact ⟨k + 1, jn, K, A1, A2, A3, _, _, _, by omega, by omega, rfl, rfl, rfl, by go_num, (HM.out.drop (List.sublist_cons_self _ _)).drewN _, Hkn.out, H1.out⟩
                  case measure => simp [intOf]; omega
                · obtain ⟨x, b, hK, hA2, hA3⟩ := Hkn.out.at hAi
                  obtain ⟨gx, hgx⟩ := Hz3.out (by omega)
                  subst hgx
                  have hlc := hM.tupAt 3 rfl encL_len hA3 0 _ rfl
                  rw [Nat.mul_one, Nat.add_zero] at hlc
                  have v3 := hlc.1
                  have f3 := hlc.2
                  have zx : gx < wr.heap.size := ((hM.row 3 rfl).lt gx rfl).2
                  have i0 : (0 : Int) ≤ (i : Int) := by omega
                  have i1 : (i : Int) < (jn : Int) := by omega
                  have hcb := hiff.trans (live_iff Hnd.out hK)
                  have HD := Lib.hid (Hkn.out.dead Hnd.out hK)
                  have hset := fun n => (hM.drewN n).setT 3 rfl Hl3.out i (.bool false) set_L (by simp)
                  have H1 := Lib.hid h1
                  cases b with
                  | true =>
                    have p1 : (c == 0) = true := beq_iff_eq.2 (hcb.2 rfl)
                    have HSt := Lib.hid hset
                    clear h1 h2 h3 h4 hM hco e1 k1 k2 hiff hcb hK hA2 hA3 hlc hset hAi
                    go_wp2
                    go_quiet (fail)
                    go_wp2
                    go_quiet (fail)
                    go_wp2
                    go_roundw
                    case rel => exact ⟨k + 1, jn, _, A1, A2, A3.set i false, _, _, _, by omega, by omega, rfl, rfl, rfl, by go_num, (HSt.out _).drop (List.sublist_cons_self _ _), HD.out, H1.out⟩
                    case measure => simp [intOf]; omega
                  | false =>
                    have p1 : (c == 0) = false := by
                      simp only [beq_eq_false_iff_ne]
                      intro h9
                      exact absurd (hcb.1 h9) (by decide)
                    have HSt := Lib.hid hset
                    clear h1 h2 h3 h4 hM hco e1 k1 k2 hiff hcb hK hA2 hA3 hlc hset hAi
                    go_wp2
                    go_quiet (fail)
                    go_wp2
                    go_quiet (fail)
                    go_wp2
                    go_roundw
                    case rel => exact ⟨k + 1, jn, _, A1, A2, A3.set i false, _, _, _, by omega, by omega, rfl, rfl, rfl, by go_num, (HSt.out _).drop (List.sublist_cons_self _ _), HD.out, H1.out⟩
                    case measure => simp [intOf]; omega
              · by_cases k3 : a.1 = 3
                · have q3 : (a.1 != 3) = false := by rw [k3]; rfl
                  have q2 : (a.1 == 2) = false := by rw [k3]; rfl
                  have q4 : (a.1 == 3) = true := by rw [k3]; rfl
                  have hiff := h3 (.inr k3)
                  have e1 : knownS K a c g = K := by unfold knownS; rw [if_neg k1, if_neg k2]
                  rw [e1] at h1
                  have H1 := Lib.hid h1
                  rcases hsc with ⟨rfl, hno⟩ | ⟨i, hi, rfl, hAi⟩
                  · have hmiss := Hkn.out.miss hno
                    have c0 : (c == 0) = false := by
                      simp only [beq_eq_false_iff_ne]
                      intro h9
                      obtain ⟨z, hz, hz1, _⟩ := hiff.1 h9
                      exact hmiss z hz hz1
                    clear h1 h2 h3 h4 hM hco e1 k1 k2 k3 hiff hno hmiss
                    go_wp2
                    go_quiet (fail)
                    go_wp2
                    go_quiet (fail)
                    go_wp2
                    go_roundw
                    case rel => exact ⟨k + 1, jn, K, A1, A2, A3, _, _, _, by omega, by omega, rfl, rfl, rfl, by go_num, (HM.out.drop (List.sublist_cons_self _ _)).drewN _, Hkn.out, H1.out⟩
                    case measure => simp [intOf]; omega
                  · obtain ⟨x, b, hK, hA2, hA3⟩ := Hkn.out.at hAi
                    obtain ⟨gx, hgx⟩ := Hz3.out (by omega)
                    subst hgx
                    obtain ⟨gy, hgy⟩ := Hz2.out (by omega)
                    subst hgy
                    have hlc := hM.tupAt 3 rfl encL_len hA3 0 _ rfl
                    rw [Nat.mul_one, Nat.add_zero] at hlc
                    have v3 := hlc.1
                    have v2 := (hM.intAt 2 rfl hA2).1
                    have zx : gx < wr.heap.size := ((hM.row 3 rfl).lt gx rfl).2
                    have zy : gy < wr.heap.size := ((hM.row 2 rfl).lt gy rfl).2
                    have i0 : (0 : Int) ≤ (i : Int) := by omega
                    have i1 : (i : Int) < (jn : Int) := by omega
                    have hcb := hiff.trans (live_iff Hnd.out hK)
                    cases b with
                    | true =>
                      have p1 : (c == 0) = true := beq_iff_eq.2 (hcb.2 rfl)
                      have hgx := h4 k3 _ (List.mem_of_getElem? hK) rfl rfl
                      simp only at hgx
                      rw [hgx] at y2
                      have e9 : (x != x) = false := by simp
                      clear h1 h2 h3 h4 hM hco e1 k1 k2 k3 hiff hcb hK hA2 hA3 hlc hAi hgx
                      go_wp2
                      go_quiet (fail)
                      go_wp2
                      go_quiet (fail)
                      go_wp2
                      go_roundw
                      case rel => exact ⟨k + 1, jn, K, A1, A2, A3, _, _, _, by omega, by omega, rfl, rfl, rfl, by go_num, (HM.out.drop (List.sublist_cons_self _ _)).drewN _, Hkn.out, H1.out⟩
                      case measure => simp [intOf]; omega
                    | false =>
                      have p1 : (c == 0) = false := by
                        simp only [beq_eq_false_iff_ne]
                        intro h9
                        exact absurd (hcb.1 h9) (by decide)
                      clear h1 h2 h3 h4 hM hco e1 k1 k2 k3 hiff hcb hK hA2 hA3 hlc hAi
                      go_wp2
                      go_quiet (fail)
                      go_wp2
                      go_quiet (fail)
                      go_wp2
                      go_roundw
                      case rel => exact ⟨k + 1, jn, K, A1, A2, A3, _, _, _, by omega, by omega, rfl, rfl, rfl, by go_num, (HM.out.drop (List.sublist_cons_self _ _)).drewN _, Hkn.out, H1.out⟩
                      case measure => simp [intOf]; omega
                · have q3 : (a.1 != 3) = true := by simpa using k3
                  have q2 : (a.1 != 2) = true := by simpa using k2
                  have e1 : knownS K a c g = K := by unfold knownS; rw [if_neg k1, if_neg k2]
                  rw [e1] at h1
                  have H1 := Lib.hid h1
                  clear h1 h2 h3 h4 hsc hM hco e1 k1 k2 k3
                  go_wp2
                  go_roundw
                  case rel => exact ⟨k + 1, jn, K, A1, A2, A3, _, _, _, by omega, by omega, rfl, rfl, rfl, by go_num, HM.out.drop (List.sublist_cons_self _ _), Hkn.out, H1.out⟩
                  case measure => simp [intOf]; omega
      · obtain rfl : k = l.length := by omega
        have HB := Lib.hid (HB5.out.trans (hM.below.mono HB5.out.size))
        clear hM hkn hinv
        go_wp2
        go_ret
        exact ⟨rfl, HB.out⟩
theorem handleStale_walk (W : World) (v0 v1 : Value) (h0 : ∃ x : Int, v0 = .int .i64 x ∧ i64ok x) (h1 : ∃ l : List (Int × Int), IsTup 2 encG W v1 l ∧ ∀ a ∈ l, i64ok a.1 ∧ i64ok a.2) (he : EtOk W) :
    Calls Tryd.prog 3 #[v0, v1] W fun e w' => e = .returned (.bool true) ∧ Below W.heap.size W w' := by
  obtain ⟨x, rfl, _⟩ := h0
  obtain ⟨l, hl, h64⟩ := h1
  exact handleStale_yes x v1 l W hl h64 he
end Go.Proofs.YthlllbpilcapiaaDoor
