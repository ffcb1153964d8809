/- HandleFull, walked. -/
import Derived.Test.YthlllbpilcapiaaDoorVk
namespace Go.Proofs.YthlllbpilcapiaaDoor
open Go.RowKit

theorem step_pos {t : List Slot} {d : Int × Int} (h2 : d.1 = 2) (hc : (stepH t d).2.1 = 0) : 0 ≤ d.2 := by
  unfold stepH at hc
  rw [if_neg (by omega), if_pos h2] at hc
  split at hc
  · cases hc
  · rename_i t' h5
    unfold dropH at h5
    split at h5
    · cases h5
    · rename_i i hi
      obtain ⟨y, v, _, h6⟩ := findH_some hi
      omega
theorem quo_is {x : Int} (h0 : 0 ≤ x) (h64 : i64ok x) : wrap64 (x.tdiv 32) = x / 32 := by
  rw [Int.tdiv_eq_ediv_of_nonneg h0]; simp only [wrap64]; unfold i64ok at h64; omega
set_option maxRecDepth 100000 in
set_option maxHeartbeats 2000000 in
theorem handleFull_yes (T : Int) (v : Value) (l : List (Int × Int)) (w : World) (hl : IsTup 2 encG w v l) (h64 : ∀ a ∈ l, i64ok a.1 ∧ i64ok a.2) (he : EtOk w) :
    Calls Tryd.prog 4 #[.int .i64 T, v] w fun e w' => e = .returned (.bool true) ∧ Below w.heap.size w w' := by
  have HP := Lib.hid (playH_any T v l w hl h64 he)
  have Hl := Lib.hid hl
  obtain ⟨al, cl, rfl, hlm⟩ := hl.slice
  clear hl
  go_enter Tryd.func4, Tryd.ntmps4
  go_wp2_with fail
  refine HP.out.mono ?_
  rintro e w5 ⟨ov, c, rfl, hb5, hcase⟩
  have HB5 := Lib.hid hb5
  clear HP hb5
  rcases hcase with ⟨hc0, rfl⟩ | ⟨rfl, N, rfl, hN1, hN2, hl100, hT⟩
  · have e1 : (c != 0) = true := by simpa using hc0
    clear hc0
    go_wp2
    go_ret
    exact ⟨rfl, HB5.out⟩
  · obtain ⟨ao, co, rfl, hom⟩ := hT.slice
    have hol := outsH_len N l l.length (Nat.le_refl _)
    have HT := Lib.hid hT
    rw [hol]
    have Hol := Lib.hid hol
    clear hT hom hol
    have HL := Lib.hid (Hl.out.later HB5.out)
    go_wp2
    go_loopw [7, 8, 9, 31] (fun m th u i wr => ∃ (k mm tt : Nat) (b : Bool), k ≤ l.length ∧ m = .int .i64 (mm : Int) ∧ th = .int .i64 (tt : Int) ∧ u = .bool b ∧ i = .int .i64 (k : Int) ∧ Below w5.heap.size w5 wr ∧ CInv (stateH N l k) mm tt b) (fun _ _ _ i _ => l.length - (intOf i).toNat)
    case atStart => exact ⟨0, 0, 0, false, Nat.zero_le _, rfl, rfl, rfl, rfl, Below.refl _ _, CInv.start N⟩
    case round =>
      obtain ⟨k, mm, tt, b, hk, rfl, rfl, rfl, rfl, hB, hci⟩ := hrel
      have hsl := (stateH_inv N hN2 l k hk).1
      have hbd := hci.bound
      rw [hsl] at hbd
      have hmm : mm ≤ 128 := by omega
      have htt : tt ≤ 32 := by omega
      by_cases hlt : k < l.length
      · obtain ⟨a, ha⟩ := get_some _ _ hlt
        obtain ⟨bl, ol, cl2, hv, _, z1, hc⟩ := HL.out.at hB ha
        cases hv
        have d0 := hc 0 _ rfl
        have d1 := hc 1 _ rfl
        rw [Nat.add_zero] at d0
        have h64a := (h64 a (List.mem_of_getElem? ha)).2
        have hstep := hci.step a
        have hpos := @step_pos (stateH N l k) a
        rw [← stateH_succ ha] at hstep
        have hoa := outsH_at N l ha l.length hlt (Nat.le_refl _)
        obtain ⟨r, hr⟩ : ∃ r, (stepH (stateH N l k) a).2 = r := ⟨_, rfl⟩
        obtain ⟨c, g⟩ := r
        rw [hr] at hstep hpos hoa
        simp only at hstep hpos
        obtain ⟨bo, oo, co2, hv, _, z2, hco⟩ := HT.out.at hB hoa
        rw [Hol.out] at hv
        cases hv
        have hBa : Below w5.heap.size w5 (wr.alloc (.cells #[.int .i64 a.1, .int .i64 a.2] 30)) := hB.alloc hB.size _
        obtain ⟨Wa, hWa⟩ : ∃ Wa, wr.alloc (.cells #[.int .i64 a.1, .int .i64 a.2] 30) = Wa := ⟨_, rfl⟩
        obtain ⟨ba, hba⟩ : ∃ ba, wr.heap.size = ba := ⟨_, rfl⟩
        have a0 : Wa.cell? ⟨ba, 0, none⟩ = some (.int .i64 a.1) := by rw [← hWa, ← hba]; simp
        have a1 : Wa.cell? ⟨ba, 1, none⟩ = some (.int .i64 a.2) := by rw [← hWa, ← hba]; simp
        have az : ba < Wa.heap.size := by rw [← hWa, ← hba]; simp
        have y0 : Wa.cell? ⟨bo, oo + k * 3, none⟩ = some (.int .i64 c) := by
          have := hco 0 _ rfl
          rw [Nat.add_zero] at this
          rw [← hWa, World.cell?_alloc_lt _ _ ⟨_, _, none⟩ z2]; exact this
        have zo : bo < Wa.heap.size := by rw [← hWa]; simp; omega
        rw [hWa] at hBa
        have HBa := Lib.hid hBa
        have HWa := Lib.hid hWa
        have Hba := Lib.hid hba
        clear hB hBa hc hWa hba ha hco hoa hr hci
        go_upto_region 10 with (fail)
        rw [HWa.out, Hba.out]
        clear HWa Hba d0 d1
        obtain ⟨h1, h2, h3, h4⟩ := hstep
        rw [hsl] at h3
        by_cases k1 : a.1 = 1
        · have q1 : (a.1 == 1) = true := beq_iff_eq.2 k1
          have q2 : (a.1 == 2) = false := by rw [k1]; rfl
          by_cases c0 : c = 0
          · have p1 : (c == 0) = true := beq_iff_eq.2 c0
            have p2 : (c != 0) = false := by rw [c0]; rfl
            have e1 : madeS mm a c = mm + 1 := if_pos ⟨k1, c0⟩
            have e2 : thereS tt a c = tt + 1 := if_pos ⟨k1, c0⟩
            have e3 : spentS b a c = b := if_neg (by omega)
            rw [e1, e2, e3] at h1
            have H1 := Lib.hid h1
            clear h1 h2 h3 h4 hpos e1 e2 e3 k1 c0
            go_wp2
            go_roundw
            case rel => exact ⟨k + 1, mm + 1, tt + 1, b, by omega, by go_num, by go_num, rfl, by go_num, HBa.out, H1.out⟩
            case measure => simp [intOf]; omega
          · have p1 : (c == 0) = false := by simpa using c0
            have p2 : (c != 0) = true := by simpa using c0
            have e1 : madeS mm a c = mm := if_neg (by omega)
            have e2 : thereS tt a c = tt := by unfold thereS; rw [if_neg (by omega), if_neg (by omega)]
            have e3 : spentS b a c = b := if_neg (by omega)
            rw [e1, e2, e3] at h1
            have H1 := Lib.hid h1
            cases b with
            | true =>
              clear h1 h2 h3 h4 hpos e1 e2 e3 k1 c0
              go_wp2
              all_goals
                go_roundw
                case rel => exact ⟨k + 1, mm, tt, true, by omega, by go_num, by go_num, rfl, by go_num, HBa.out, H1.out⟩
                case measure => simp [intOf]; omega
            | false =>
              have h5 := h3 k1 c0 rfl
              have e5 : decide ((tt : Int) < (N : Int)) = false := decide_eq_false (by omega)
              have e6 : decide (tt < N) = false := decide_eq_false (by omega)
              clear h1 h2 h3 h4 hpos e1 e2 e3 k1 c0 h5
              go_wp2
              go_roundw
              case rel => exact ⟨k + 1, mm, tt, false, by omega, by go_num, by go_num, rfl, by go_num, HBa.out, H1.out⟩
              case measure => simp [intOf]; omega
        · have q1 : (a.1 == 1) = false := by simpa using k1
          by_cases k2 : a.1 = 2
          · have q2 : (a.1 == 2) = true := beq_iff_eq.2 k2
            by_cases c0 : c = 0
            · have p1 : (c == 0) = true := beq_iff_eq.2 c0
              have p2 : (c != 0) = false := by rw [c0]; rfl
              have e1 : madeS mm a c = mm := if_neg (by omega)
              have e2 : thereS tt a c = tt - 1 := by unfold thereS; rw [if_neg (by omega), if_pos ⟨k2, c0⟩]
              have e3 : spentS b a c = (b || (a.2 / 32 == 3)) := if_pos ⟨k2, c0⟩
              rw [e1, e2, e3] at h1
              have ht1 := h2 k2 c0
              obtain ⟨t1, rfl⟩ : ∃ t1, tt = t1 + 1 := ⟨tt - 1, by omega⟩
              rw [Nat.add_sub_cancel] at h1
              have hq := quo_is (hpos k2 c0) h64a
              cases b with
              | true =>
                have H1 := Lib.hid h1
                clear h1 h2 h3 h4 hpos e1 e2 e3 k1 c0 k2 hq
                go_wp2
                go_roundw
                case rel => exact ⟨k + 1, mm, t1, true, by omega, by go_num, by go_num, rfl, by go_num, HBa.out, H1.out⟩
                case measure => simp [intOf]; omega
              | false =>
                by_cases h33 : a.2 / 32 = 3
                · have g1 : (wrap64 (a.2.tdiv 32) == 3) = true := by rw [hq]; simpa using h33
                  have g2 : (false || (a.2 / 32 == 3)) = true := by simpa using h33
                  rw [g2] at h1
                  have H1 := Lib.hid h1
                  clear h1 h2 h3 h4 hpos e1 e2 e3 k1 c0 k2 hq g2 h33
                  go_wp2
                  go_roundw
                  case rel => exact ⟨k + 1, mm, t1, true, by omega, by go_num, by go_num, rfl, by go_num, HBa.out, H1.out⟩
                  case measure => simp [intOf]; omega
                · have g1 : (wrap64 (a.2.tdiv 32) == 3) = false := by rw [hq]; simpa using h33
                  have g2 : (false || (a.2 / 32 == 3)) = false := by simpa using h33
                  rw [g2] at h1
                  have H1 := Lib.hid h1
                  clear h1 h2 h3 h4 hpos e1 e2 e3 k1 c0 k2 hq g2 h33
                  go_wp2
                  go_roundw
                  case rel => exact ⟨k + 1, mm, t1, false, by omega, by go_num, by go_num, rfl, by go_num, HBa.out, H1.out⟩
                  case measure => simp [intOf]; omega
            · have p1 : (c == 0) = false := by simpa using c0
              have e1 : madeS mm a c = mm := if_neg (by omega)
              have e2 : thereS tt a c = tt := by unfold thereS; rw [if_neg (by omega), if_neg (by omega)]
              have e3 : spentS b a c = b := if_neg (by omega)
              rw [e1, e2, e3] at h1
              have H1 := Lib.hid h1
              clear h1 h2 h3 h4 hpos e1 e2 e3 k1 c0 k2
              go_wp2
              go_roundw
              case rel => exact ⟨k + 1, mm, tt, b, by omega, by go_num, by go_num, rfl, by go_num, HBa.out, H1.out⟩
              case measure => simp [intOf]; omega
          · have q2 : (a.1 == 2) = false := by simpa using k2
            have e1 : madeS mm a c = mm := if_neg (by omega)
            have e2 : thereS tt a c = tt := by unfold thereS; rw [if_neg (by omega), if_neg (by omega)]
            have e3 : spentS b a c = b := if_neg (by omega)
            rw [e1, e2, e3] at h1
            have H1 := Lib.hid h1
            clear h1 h2 h3 h4 hpos e1 e2 e3 k1 k2
            go_wp2
            go_roundw
            case rel => exact ⟨k + 1, mm, tt, b, by omega, by go_num, by go_num, rfl, by go_num, HBa.out, H1.out⟩
            case measure => simp [intOf]; omega
      · obtain rfl : k = l.length := by omega
        have HB := Lib.hid (HB5.out.trans (hB.mono HB5.out.size))
        have e1 : decide ((mm : Int) ≤ (N : Int) * 4) = true := decide_eq_true (by omega)
        have e2 : decide ((tt : Int) ≤ (N : Int)) = true := decide_eq_true (by omega)
        have e3 : decide (tt ≤ N) = true := decide_eq_true (by omega)
        clear hB hci
        go_wp2
        go_ret
        exact ⟨rfl, HB.out⟩
theorem handleFull_walk (W : World) (v0 v1 : Value) (h0 : ∃ x : Int, v0 = .int .i64 x ∧ i64ok x) (h1 : ∃ l : List (Int × Int), IsTup 2 encG W v1 l ∧ ∀ a ∈ l, i64ok a.1 ∧ i64ok a.2) (he : EtOk W) :
    Calls Tryd.prog 4 #[v0, v1] W fun e w' => e = .returned (.bool true) ∧ Below W.heap.size W w' := by
  obtain ⟨x, rfl, _⟩ := h0
  obtain ⟨l, hl, h64⟩ := h1
  exact handleFull_yes x v1 l W hl h64 he
end Go.Proofs.YthlllbpilcapiaaDoor
