/- BuddyJoins, walked. -/
import Derived.Test.YtmbcfbehchpfbaaXp
import Derived.Deep.QuietTactic
namespace Go.Proofs.Ytmbcfbehchpfbaa
open Go.RowKit

theorem pwI_pow {k : Nat} (h : k ≤ 7) : pwI ((2 ^ k : Nat) : Int) = 2 ^ k := by
  have h3 : k = 0 ∨ k = 1 ∨ k = 2 ∨ k = 3 ∨ k = 4 ∨ k = 5 ∨ k = 6 ∨ k = 7 := by omega
  rcases h3 with rfl | rfl | rfl | rfl | rfl | rfl | rfl | rfl <;> decide
/-- No free piece's twin is free. -/
theorem no_twin {lev : Nat} (hl : lev ≤ 7) {fr : Fr} (h : PInv lev fr) {b c : Nat × Nat} (hb : b ∈ freeB lev fr) (hc : c ∈ freeB lev fr) (h2 : c.2 = b.2) : (b.1 / b.2 % 2 ≠ 1 → c.1 ≠ b.1 + b.2) ∧ (b.1 / b.2 % 2 = 1 → b.2 ≤ b.1 ∧ c.1 ≠ b.1 - b.2) := by
  obtain ⟨k, _, h3, h4⟩ := (mem_freeB hl h b).1 hb
  obtain ⟨j, _, h5, h6⟩ := (mem_freeB hl h c).1 hc
  have hk := Nat.two_pow_pos k
  have hkj : k = j := by
    rw [h4, h6] at h2
    rcases Nat.lt_trichotomy k j with h7 | h7 | h7
    · have := Nat.pow_lt_pow_right (show 1 < 2 by omega) h7; omega
    · exact h7
    · have := Nat.pow_lt_pow_right (show 1 < 2 by omega) h7; omega
  subst hkj
  have hlv := h.lv k _ h3
  have key : c.1 = twinB k b.1 → False := by
    intro e
    rw [e] at h5
    rcases Nat.lt_or_ge k lev with h7 | h7
    · exact h.nob k _ h7 h3 h5
    · obtain rfl : k = lev := by omega
      have h8 := h.en k _ h3
      have h9 := h.en k _ h5
      have h10 : b.1 = 0 := by omega
      rw [h10] at h9
      unfold twinB at h9
      rw [Nat.zero_div, if_pos rfl] at h9
      omega
  rw [h4]
  constructor
  · intro h7 e
    refine key ?_
    unfold twinB
    rw [if_pos (by omega), e]
  · intro h7
    have h8 : 2 ^ k ≤ b.1 := by
      rcases Nat.lt_or_ge b.1 (2 ^ k) with h9 | h9
      · rw [Nat.div_eq_of_lt h9] at h7; cases h7
      · exact h9
    refine ⟨h8, fun e => key ?_⟩
    unfold twinB
    rw [if_neg (by omega), e]
set_option maxRecDepth 100000 in
set_option maxHeartbeats 2000000 in
theorem buddyJoins_yes (lev : Int) (v : Value) (l : List (Int × Int)) (w : World) (hl : IsTup 2 encA w v l) (h64 : AsksOk l) :
    Calls Try.prog 9 #[.int .i64 lev, v] w fun e w' => e = .returned (.bool true) ∧ Below w.heap.size w w' := by
  have HP := Lib.hid (bplay_any lev v l w hl h64)
  obtain ⟨al, cl, rfl, hlm⟩ := hl.slice
  clear hl h64
  go_enter Try.func9, Try.ntmps9
  go_wp2_with fail
  with_reducible refine HP.out.mono ?_
  rintro e w1 ⟨cv, av, fv, rfl, hb1, hor⟩
  clear HP
  rcases hor with ⟨hne, rfl, rfl, rfl⟩ | ⟨he, N, rfl, hN2, hn, hC, hA, hF, _⟩
  · have q1 : (errB lev l.length != 0) = true := by simpa using hne
    have HB := Lib.hid hb1
    clear hne hb1
    go_wp2
    go_ret
    exact ⟨rfl, HB.out.alloc HB.out.size _⟩
  · have q1 : (errB (N : Int) l.length != 0) = false := by simp [he]
    have hI := (buddyInv hN2 l l.length (Nat.le_refl _)).p
    obtain ⟨aC, cC, rfl, _⟩ := hC.slice
    obtain ⟨aA, cA, rfl, _⟩ := hA.slice
    have hmem := mem_freeB hN2 hI
    have htwin := fun b c => no_twin hN2 hI (b := b) (c := c)
    have hsort := freeB_sorted N (stateB N l l.length).fr
    have hlen := freeB_len N (stateB N l l.length).fr
    have h128 := (pow_le7 hN2).1
    have hpc : ∀ b ∈ freeB N (stateB N l l.length).fr, ∃ k, k ≤ 7 ∧ b.2 = 2 ^ k ∧ b.1 % 2 ^ k = 0 ∧ b.1 + 2 ^ k ≤ 128 := fun b hb => by
      obtain ⟨k, h1, h2, h3⟩ := (hmem b).1 hb
      exact ⟨k, by omega, h3, hI.al k _ h2, by have := hI.en k _ h2; omega⟩
    obtain ⟨fr, hfr⟩ : ∃ fr, freeB N (stateB N l l.length).fr = fr := ⟨_, rfl⟩
    rw [hfr] at htwin hsort hlen hpc hF
    obtain ⟨m, hm⟩ : ∃ m, fr.length = m := ⟨_, rfl⟩
    obtain ⟨aF, cF, rfl, _⟩ := hF.slice
    rw [hm] at hlen hF ⊢
    have hm2 : m ≤ 128 := by omega
    rw [codesB_len, atsB_len] at *
    have HF := Lib.hid hF
    have HR := Lib.hid hsort
    have HE := Lib.hid hpc
    have HT := Lib.hid htwin
    have HM := Lib.hid hm
    obtain ⟨b1, hb1e⟩ : ∃ b1, w1.heap.size = b1 := ⟨_, rfl⟩
    obtain ⟨W1, hW1⟩ : ∃ W1, w1.alloc (.cells #[.slice aC l.length cC, .slice aA l.length cA, .slice aF m cF] 27) = W1 := ⟨_, rfl⟩
    have c0 : W1.cell? ⟨b1, 0, none⟩ = some (.slice aC l.length cC) := by rw [← hW1, ← hb1e]; simp
    have c2 : W1.cell? ⟨b1, 2, none⟩ = some (.slice aF m cF) := by rw [← hW1, ← hb1e]; simp
    have z1 : b1 < W1.heap.size := by rw [← hW1, ← hb1e]; simp
    have hB := hb1.alloc hb1.size (.cells #[.slice aC l.length cC, .slice aA l.length cA, .slice aF m cF] 27)
    rw [hW1] at hB
    have hF1 : IsTup 2 encB W1 (.slice aF m cF) fr := hF.later (hW1 ▸ (Below.refl w1.heap.size w1).alloc (Nat.le_refl _) _)
    have HF1 := Lib.hid hF1
    have HB := Lib.hid hB
    have HW1 := Lib.hid hW1
    have Hb1 := Lib.hid hb1e
    clear hF hsort hpc htwin hmem hm hb1e hW1 hF1 hB hb1 HF hI hfr he hC hA hlen h128
    go_wp2_with fail
    rw [HW1.out, Hb1.out]
    clear HW1 Hb1
    go_loopw [27] (fun i wr => ∃ k : Nat, k ≤ m ∧ i = .int .i64 (k : Int) ∧ Below W1.heap.size W1 wr) (fun i _ => m - (intOf i).toNat)
    case atStart => exact ⟨0, Nat.zero_le _, rfl, Below.refl _ _⟩
    case round =>
      obtain ⟨k, hk, rfl, hB2⟩ := hrel
      have d0 : wr.cell? ⟨b1, 0, none⟩ = some (.slice aC l.length cC) := (hB2.cell (p := ⟨_, _, none⟩) z1).trans c0
      have d2 : wr.cell? ⟨b1, 2, none⟩ = some (.slice aF m cF) := (hB2.cell (p := ⟨_, _, none⟩) z1).trans c2
      have dz : b1 < wr.heap.size := Nat.lt_of_lt_of_le z1 hB2.size
      by_cases hlt : k < m
      · obtain ⟨y, hy⟩ := get_some fr k (by rw [HM.out]; omega)
        obtain ⟨bb, off, cap2, hv, _, hz, hcy⟩ := HF1.out.at hB2 hy
        rw [HM.out] at hv
        cases hv
        have y0 := hcy 0 _ rfl
        have y1 := hcy 1 _ rfl
        rw [Nat.add_zero] at y0
        obtain ⟨kk, hk7, hy2, hya, hye⟩ := HE.out y (List.mem_of_getElem? hy)
        have hyp := (pow_le7 hk7).2
        have hpw := pwI_pow hk7
        rw [← hy2] at hyp hpw hya hye
        have HPw : Hid (∀ X, Calls Try.prog 21 #[.int .i64 (y.2 : Int)] X fun e w' => e = .returned (.int .i64 (y.2 : Int)) ∧ w' = X) := fun X => (power_any (y.2 : Int) X).mono fun e w' h => ⟨by rw [h.1, hpw], h.2.symm⟩
        have HTw : Hid (∀ c ∈ fr, c.2 = y.2 → (y.1 / y.2 % 2 ≠ 1 → c.1 ≠ y.1 + y.2) ∧ (y.1 / y.2 % 2 = 1 → y.2 ≤ y.1 ∧ c.1 ≠ y.1 - y.2)) := Lib.hid (fun c hc h => HT.out y c (List.mem_of_getElem? hy) hc h)
        have hself := HTw.out y (List.mem_of_getElem? hy) rfl
        have hprev : ∀ j, k = j + 1 → ∃ x, fr[j]? = some x ∧ x.1 < y.1 := fun j hj => by
          obtain ⟨x, hx⟩ := get_some fr j (by rw [HM.out]; omega)
          refine ⟨x, hx, ?_⟩
          have := List.pairwise_iff_getElem.1 HR.out j k (by rw [HM.out]; omega) (by rw [HM.out]; omega) (by omega)
          rw [(List.getElem?_eq_some_iff.1 hx).2, (List.getElem?_eq_some_iff.1 hy).2] at this
          exact this
        obtain ⟨D, hD⟩ : ∃ D : Nat, y.1 / y.2 = D := ⟨_, rfl⟩
        obtain ⟨R, hRr⟩ : ∃ R : Nat, D % 2 = R := ⟨_, rfl⟩
        have hd1 : (y.1 : Int) / (y.2 : Int) = (D : Int) := by rw [← hD]; simp
        have hd2 : (y.1 : Int).tdiv (y.2 : Int) = (D : Int) := by rw [Int.tdiv_eq_ediv_of_nonneg (by omega)]; exact hd1
        have hd3 : (D : Int) % 2 = (R : Int) := by omega
        have hd4 : (D : Int).tmod 2 = (R : Int) := by rw [Int.tmod_eq_emod_of_nonneg (by omega)]; exact hd3
        have hd5 : (y.1 : Int) % (y.2 : Int) = 0 := by rw [← Int.natCast_emod, hya]; rfl
        have hd6 : (y.1 : Int).tmod (y.2 : Int) = 0 := by rw [Int.tmod_eq_emod_of_nonneg (by omega)]; exact hd5
        have hDl : D ≤ 128 := by rw [← hD]; exact Nat.le_trans (Nat.div_le_self _ _) (by omega)
        have hd7 : ¬ (y.2 : Int) = 0 := by omega
        have hd7n : ¬ y.2 = 0 := by omega
        have HRr := Lib.hid hRr
        have HDd := Lib.hid hD
        have r1 : (k : Int) < (m : Int) := by omega
        have p1 : decide ((y.2 : Int) < 1) = false := decide_eq_false (by omega)
        have p1n : decide (y.2 < 1) = false := decide_eq_false (by omega)
        have p2 : ((y.2 : Int) != (y.2 : Int)) = false := by simp
        obtain ⟨Wx, hWx⟩ : ∃ Wx, wr.alloc (.cells #[.int .i64 (y.1 : Int), .int .i64 (y.2 : Int)] 34) = Wx := ⟨_, rfl⟩
        obtain ⟨bx, hbx⟩ : ∃ bx, wr.heap.size = bx := ⟨_, rfl⟩
        have x0 : Wx.cell? ⟨bx, 0, none⟩ = some (.int .i64 (y.1 : Int)) := by rw [← hWx, ← hbx]; simp
        have x1 : Wx.cell? ⟨bx, 1, none⟩ = some (.int .i64 (y.2 : Int)) := by rw [← hWx, ← hbx]; simp
        have xz : bx < Wx.heap.size := by rw [← hWx, ← hbx]; simp
        have hBx : Below wr.heap.size wr Wx := hWx ▸ (Below.refl _ _).alloc (Nat.le_refl _) _
        have e2 : Wx.cell? ⟨b1, 2, none⟩ = some (.slice (some ⟨bb, off, none⟩) m cF) := (hBx.cell (p := ⟨_, _, none⟩) dz).trans d2
        have ez : b1 < Wx.heap.size := Nat.lt_of_lt_of_le dz hBx.size
        have HBx : Hid (Below W1.heap.size W1 Wx) := Lib.hid (hB2.trans (hBx.mono hB2.size))
        have HWx := Lib.hid hWx
        have Hbx := Lib.hid hbx
        rcases Nat.eq_zero_or_pos k with hk0 | hk0
        · have p3 : decide ((k : Int) > 0) = false := decide_eq_false (by omega)
          have p3n : decide (0 < k) = false := decide_eq_false (by omega)
          clear hk0 hprev hB2 hBx hWx hbx hy hcy hD hRr hya hy2 hpw
          by_cases hR : y.1 / y.2 % 2 = 1
          · have hR1 : R = 1 := by rw [← HRr.out, ← HDd.out]; exact hR
            subst hR1
            have s3 : ((1 : Int) == 1) = true := rfl
            have hsle := (hself.2 hR).1
            clear hself
            go_wp2
            rw [HWx.out, Hbx.out]
            clear HWx Hbx
            go_quiet (with_reducible exact Calls.quiet_of_same (HPw.out _))
            go_wp2
            go_loopw [87] (fun i w4 => ∃ q : Nat, q ≤ m ∧ i = .int .i64 (q : Int) ∧ Below Wx.heap.size Wx w4) (fun i _ => m - (intOf i).toNat)
            case atStart => exact ⟨0, Nat.zero_le _, rfl, below_drewN (Below.refl _ _) _⟩
            case round =>
              obtain ⟨q, hq, rfl, hB3⟩ := hrel
              have g0 : wr.cell? ⟨bx, 0, none⟩ = some (.int .i64 (y.1 : Int)) := (hB3.cell (p := ⟨_, _, none⟩) xz).trans x0
              have g1 : wr.cell? ⟨bx, 1, none⟩ = some (.int .i64 (y.2 : Int)) := (hB3.cell (p := ⟨_, _, none⟩) xz).trans x1
              have gz : bx < wr.heap.size := Nat.lt_of_lt_of_le xz hB3.size
              have hB4 := HBx.out.trans (hB3.mono HBx.out.size)
              by_cases hql : q < m
              · obtain ⟨c, hc⟩ := get_some fr q (by rw [HM.out]; omega)
                obtain ⟨bb2, off2, cap3, hv2, _, hz2, hcc⟩ := HF1.out.at hB4 hc
                rw [HM.out] at hv2
                cases hv2
                have u0 := hcc 0 _ rfl
                have u1 := hcc 1 _ rfl
                rw [Nat.add_zero] at u0
                have htw := HTw.out c (List.mem_of_getElem? hc)
                have r1 : (q : Int) < (m : Int) := by omega
                have HB5 := Lib.hid (hB3.alloc hB3.size (.cells #[.int .i64 (c.1 : Int), .int .i64 (c.2 : Int)] 34))
                by_cases hc2 : c.2 = y.2
                · have s1 : ((c.2 : Int) == (y.2 : Int)) = true := beq_iff_eq.2 (by omega)
                  have s1n : decide (c.2 = y.2) = true := decide_eq_true hc2
                  have s2 : ((c.1 : Int) == ((y.1 : Int) - (y.2 : Int))) = false := beq_eq_false_iff_ne.2 (by have := htw hc2; omega)
                  have s2n : ¬ (c.1 : Int) = ((y.1 : Int) - (y.2 : Int)) := by have := htw hc2; omega
                  have HC2 := Lib.hid hc2
                  clear htw hc hcc hB3 hB4 hc2
                  go_wp2
                  go_roundw
                  case rel => exact ⟨q + 1, by omega, by go_num, HB5.out⟩
                  case measure => simp [intOf]; omega
                · have s1 : ((c.2 : Int) == (y.2 : Int)) = false := beq_eq_false_iff_ne.2 (by omega)
                  have s1n : decide (c.2 = y.2) = false := decide_eq_false hc2
                  clear htw hc hcc hB3 hB4
                  go_wp2
                  go_roundw
                  case rel => exact ⟨q + 1, by omega, by go_num, HB5.out⟩
                  case measure => simp [intOf]; omega
              · obtain rfl : q = m := by omega
                have HB4 := Lib.hid hB4
                clear hB3 hB4
                go_wp2
                go_roundw
                case rel => exact ⟨k + 1, by omega, by go_num, HB4.out⟩
                case measure => simp [intOf]; omega
          · have hR1 : R ≠ 1 := by rw [← HRr.out, ← HDd.out]; exact hR
            have s3 : ((R : Int) == 1) = false := beq_eq_false_iff_ne.2 (by omega)
            have s3n : decide (R = 1) = false := decide_eq_false hR1
            clear hself
            go_wp2
            rw [HWx.out, Hbx.out]
            clear HWx Hbx
            go_quiet (with_reducible exact Calls.quiet_of_same (HPw.out _))
            go_wp2
            go_loopw [87] (fun i w4 => ∃ q : Nat, q ≤ m ∧ i = .int .i64 (q : Int) ∧ Below Wx.heap.size Wx w4) (fun i _ => m - (intOf i).toNat)
            case atStart => exact ⟨0, Nat.zero_le _, rfl, below_drewN (Below.refl _ _) _⟩
            case round =>
              obtain ⟨q, hq, rfl, hB3⟩ := hrel
              have g0 : wr.cell? ⟨bx, 0, none⟩ = some (.int .i64 (y.1 : Int)) := (hB3.cell (p := ⟨_, _, none⟩) xz).trans x0
              have g1 : wr.cell? ⟨bx, 1, none⟩ = some (.int .i64 (y.2 : Int)) := (hB3.cell (p := ⟨_, _, none⟩) xz).trans x1
              have gz : bx < wr.heap.size := Nat.lt_of_lt_of_le xz hB3.size
              have hB4 := HBx.out.trans (hB3.mono HBx.out.size)
              by_cases hql : q < m
              · obtain ⟨c, hc⟩ := get_some fr q (by rw [HM.out]; omega)
                obtain ⟨bb2, off2, cap3, hv2, _, hz2, hcc⟩ := HF1.out.at hB4 hc
                rw [HM.out] at hv2
                cases hv2
                have u0 := hcc 0 _ rfl
                have u1 := hcc 1 _ rfl
                rw [Nat.add_zero] at u0
                have htw := HTw.out c (List.mem_of_getElem? hc)
                have r1 : (q : Int) < (m : Int) := by omega
                have HB5 := Lib.hid (hB3.alloc hB3.size (.cells #[.int .i64 (c.1 : Int), .int .i64 (c.2 : Int)] 34))
                by_cases hc2 : c.2 = y.2
                · have s1 : ((c.2 : Int) == (y.2 : Int)) = true := beq_iff_eq.2 (by omega)
                  have s1n : decide (c.2 = y.2) = true := decide_eq_true hc2
                  have s2 : ((c.1 : Int) == ((y.1 : Int) + (y.2 : Int))) = false := beq_eq_false_iff_ne.2 (by have := htw hc2; omega)
                  have s2n : ¬ (c.1 : Int) = ((y.1 : Int) + (y.2 : Int)) := by have := htw hc2; omega
                  have HC2 := Lib.hid hc2
                  clear htw hc hcc hB3 hB4 hc2
                  go_wp2
                  go_roundw
                  case rel => exact ⟨q + 1, by omega, by go_num, HB5.out⟩
                  case measure => simp [intOf]; omega
                · have s1 : ((c.2 : Int) == (y.2 : Int)) = false := beq_eq_false_iff_ne.2 (by omega)
                  have s1n : decide (c.2 = y.2) = false := decide_eq_false hc2
                  clear htw hc hcc hB3 hB4
                  go_wp2
                  go_roundw
                  case rel => exact ⟨q + 1, by omega, by go_num, HB5.out⟩
                  case measure => simp [intOf]; omega
              · obtain rfl : q = m := by omega
                have HB4 := Lib.hid hB4
                clear hB3 hB4
                go_wp2
                go_roundw
                case rel => exact ⟨k + 1, by omega, by go_num, HB4.out⟩
                case measure => simp [intOf]; omega
        · obtain ⟨j, hj⟩ : ∃ j, k = j + 1 := ⟨k - 1, by omega⟩
          obtain ⟨x, hx, hxy⟩ := hprev j hj
          obtain ⟨bb3, off3, cap4, hv3, _, hz3, hcx⟩ := HF1.out.at HBx.out hx
          rw [HM.out] at hv3
          cases hv3
          have v0 := hcx 0 _ rfl
          rw [Nat.add_zero] at v0
          have w1' : IntKind.i64.wrap ((k : Int) - 1) = (j : Int) := by rw [IntKind.wrap_i64]; omega
          have w2' : (k : Int) - 1 = (j : Int) := by omega
          have p3 : decide ((k : Int) > 0) = true := decide_eq_true (by omega)
          have p3n : decide (0 < k) = true := decide_eq_true hk0
          have p4 : decide ((x.1 : Int) ≥ (y.1 : Int)) = false := decide_eq_false (by omega)
          have p4n : decide (y.1 ≤ x.1) = false := decide_eq_false (by omega)
          have r2 : j < m := by omega
          have r3 : (j : Int) < (m : Int) := by omega
          have r4 : (0 : Int) ≤ (j : Int) := by omega
          clear hprev hB2 hBx hWx hbx hy hcy hD hRr hya hy2 hpw hx hcx hj
          by_cases hR : y.1 / y.2 % 2 = 1
          · have hR1 : R = 1 := by rw [← HRr.out, ← HDd.out]; exact hR
            subst hR1
            have s3 : ((1 : Int) == 1) = true := rfl
            have hsle := (hself.2 hR).1
            clear hself
            go_wp2
            rw [HWx.out, Hbx.out]
            clear HWx Hbx
            go_quiet (with_reducible exact Calls.quiet_of_same (HPw.out _))
            go_wp2
            go_loopw [87] (fun i w4 => ∃ q : Nat, q ≤ m ∧ i = .int .i64 (q : Int) ∧ Below Wx.heap.size Wx w4) (fun i _ => m - (intOf i).toNat)
            case atStart => exact ⟨0, Nat.zero_le _, rfl, below_drewN (Below.refl _ _) _⟩
            case round =>
              obtain ⟨q, hq, rfl, hB3⟩ := hrel
              have g0 : wr.cell? ⟨bx, 0, none⟩ = some (.int .i64 (y.1 : Int)) := (hB3.cell (p := ⟨_, _, none⟩) xz).trans x0
              have g1 : wr.cell? ⟨bx, 1, none⟩ = some (.int .i64 (y.2 : Int)) := (hB3.cell (p := ⟨_, _, none⟩) xz).trans x1
              have gz : bx < wr.heap.size := Nat.lt_of_lt_of_le xz hB3.size
              have hB4 := HBx.out.trans (hB3.mono HBx.out.size)
              by_cases hql : q < m
              · obtain ⟨c, hc⟩ := get_some fr q (by rw [HM.out]; omega)
                obtain ⟨bb2, off2, cap3, hv2, _, hz2, hcc⟩ := HF1.out.at hB4 hc
                rw [HM.out] at hv2
                cases hv2
                have u0 := hcc 0 _ rfl
                have u1 := hcc 1 _ rfl
                rw [Nat.add_zero] at u0
                have htw := HTw.out c (List.mem_of_getElem? hc)
                have r1 : (q : Int) < (m : Int) := by omega
                have HB5 := Lib.hid (hB3.alloc hB3.size (.cells #[.int .i64 (c.1 : Int), .int .i64 (c.2 : Int)] 34))
                by_cases hc2 : c.2 = y.2
                · have s1 : ((c.2 : Int) == (y.2 : Int)) = true := beq_iff_eq.2 (by omega)
                  have s1n : decide (c.2 = y.2) = true := decide_eq_true hc2
                  have s2 : ((c.1 : Int) == ((y.1 : Int) - (y.2 : Int))) = false := beq_eq_false_iff_ne.2 (by have := htw hc2; omega)
                  have s2n : ¬ (c.1 : Int) = ((y.1 : Int) - (y.2 : Int)) := by have := htw hc2; omega
                  have HC2 := Lib.hid hc2
                  clear htw hc hcc hB3 hB4 hc2
                  go_wp2
                  go_roundw
                  case rel => exact ⟨q + 1, by omega, by go_num, HB5.out⟩
                  case measure => simp [intOf]; omega
                · have s1 : ((c.2 : Int) == (y.2 : Int)) = false := beq_eq_false_iff_ne.2 (by omega)
                  have s1n : decide (c.2 = y.2) = false := decide_eq_false hc2
                  clear htw hc hcc hB3 hB4
                  go_wp2
                  go_roundw
                  case rel => exact ⟨q + 1, by omega, by go_num, HB5.out⟩
                  case measure => simp [intOf]; omega
              · obtain rfl : q = m := by omega
                have HB4 := Lib.hid hB4
                clear hB3 hB4
                go_wp2
                go_roundw
                case rel => exact ⟨k + 1, by omega, by go_num, HB4.out⟩
                case measure => simp [intOf]; omega
          · have hR1 : R ≠ 1 := by rw [← HRr.out, ← HDd.out]; exact hR
            have s3 : ((R : Int) == 1) = false := beq_eq_false_iff_ne.2 (by omega)
            have s3n : decide (R = 1) = false := decide_eq_false hR1
            clear hself
            go_wp2
            rw [HWx.out, Hbx.out]
            clear HWx Hbx
            go_quiet (with_reducible exact Calls.quiet_of_same (HPw.out _))
            go_wp2
            go_loopw [87] (fun i w4 => ∃ q : Nat, q ≤ m ∧ i = .int .i64 (q : Int) ∧ Below Wx.heap.size Wx w4) (fun i _ => m - (intOf i).toNat)
            case atStart => exact ⟨0, Nat.zero_le _, rfl, below_drewN (Below.refl _ _) _⟩
            case round =>
              obtain ⟨q, hq, rfl, hB3⟩ := hrel
              have g0 : wr.cell? ⟨bx, 0, none⟩ = some (.int .i64 (y.1 : Int)) := (hB3.cell (p := ⟨_, _, none⟩) xz).trans x0
              have g1 : wr.cell? ⟨bx, 1, none⟩ = some (.int .i64 (y.2 : Int)) := (hB3.cell (p := ⟨_, _, none⟩) xz).trans x1
              have gz : bx < wr.heap.size := Nat.lt_of_lt_of_le xz hB3.size
              have hB4 := HBx.out.trans (hB3.mono HBx.out.size)
              by_cases hql : q < m
              · obtain ⟨c, hc⟩ := get_some fr q (by rw [HM.out]; omega)
                obtain ⟨bb2, off2, cap3, hv2, _, hz2, hcc⟩ := HF1.out.at hB4 hc
                rw [HM.out] at hv2
                cases hv2
                have u0 := hcc 0 _ rfl
                have u1 := hcc 1 _ rfl
                rw [Nat.add_zero] at u0
                have htw := HTw.out c (List.mem_of_getElem? hc)
                have r1 : (q : Int) < (m : Int) := by omega
                have HB5 := Lib.hid (hB3.alloc hB3.size (.cells #[.int .i64 (c.1 : Int), .int .i64 (c.2 : Int)] 34))
                by_cases hc2 : c.2 = y.2
                · have s1 : ((c.2 : Int) == (y.2 : Int)) = true := beq_iff_eq.2 (by omega)
                  have s1n : decide (c.2 = y.2) = true := decide_eq_true hc2
                  have s2 : ((c.1 : Int) == ((y.1 : Int) + (y.2 : Int))) = false := beq_eq_false_iff_ne.2 (by have := htw hc2; omega)
                  have s2n : ¬ (c.1 : Int) = ((y.1 : Int) + (y.2 : Int)) := by have := htw hc2; omega
                  have HC2 := Lib.hid hc2
                  clear htw hc hcc hB3 hB4 hc2
                  go_wp2
                  go_roundw
                  case rel => exact ⟨q + 1, by omega, by go_num, HB5.out⟩
                  case measure => simp [intOf]; omega
                · have s1 : ((c.2 : Int) == (y.2 : Int)) = false := beq_eq_false_iff_ne.2 (by omega)
                  have s1n : decide (c.2 = y.2) = false := decide_eq_false hc2
                  clear htw hc hcc hB3 hB4
                  go_wp2
                  go_roundw
                  case rel => exact ⟨q + 1, by omega, by go_num, HB5.out⟩
                  case measure => simp [intOf]; omega
              · obtain rfl : q = m := by omega
                have HB4 := Lib.hid hB4
                clear hB3 hB4
                go_wp2
                go_roundw
                case rel => exact ⟨k + 1, by omega, by go_num, HB4.out⟩
                case measure => simp [intOf]; omega
      · have HB2 := Lib.hid (HB.out.trans (hB2.mono HB.out.size))
        clear hB2
        go_wp2
        go_ret
        exact ⟨by simp, HB2.out⟩
theorem buddyJoins_walk (W : World) (v0 v1 : Value) (g0 : ∃ x : Int, v0 = .int .i64 x ∧ i64ok x) (g1 : ∃ l : List (Int × Int), IsTup 2 encA W v1 l ∧ AsksOk l ∧ l.length ≤ 17592186044416) :
    Calls Try.prog 9 #[v0, v1] W fun e w' => e = .returned (.bool true) ∧ Below W.heap.size W w' := by
  obtain ⟨x, rfl, _⟩ := g0
  obtain ⟨l, hl, h64, _⟩ := g1
  exact buddyJoins_yes x v1 l W hl h64
end Go.Proofs.Ytmbcfbehchpfbaa
