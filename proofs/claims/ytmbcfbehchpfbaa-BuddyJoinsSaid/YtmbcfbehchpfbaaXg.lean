/- Buddies: take, walked. -/
import Derived.Test.YtmbcfbehchpfbaaXf
namespace Go.Proofs.Ytmbcfbehchpfbaa
open Go.RowKit Go.Maps

theorem need_lt {n k : Nat} (hn : n ≤ 128) (hk : k < 8) : k < needB n ↔ 2 ^ k < n := by
  unfold needB
  rcases lt8 hk with rfl | rfl | rfl | rfl | rfl | rfl | rfl | rfl <;> (repeat' split) <;> omega
theorem need_le7 (n : Nat) : needB n ≤ 7 := by unfold needB; (repeat' split) <;> omega
theorem levelB_of {lev need k : Nat} {fr : Fr} {p : Nat} (h1 : need ≤ k) (h2 : k ≤ lev) (h3 : minAt (fr k) (2 ^ lev) = some p) (h4 : ∀ j, need ≤ j → j < k → minAt (fr j) (2 ^ lev) = none) : levelB lev need fr = some k := by
  cases h : levelB lev need fr with
  | none => rw [levelB_none h k h1 h2] at h3; cases h3
  | some k2 =>
    obtain ⟨a1, a2, ⟨q, a3⟩, a4⟩ := levelB_some h
    rcases Nat.lt_trichotomy k k2 with h5 | h5 | h5
    · rw [a4 k h1 h5] at h3; cases h3
    · rw [h5]
    · rw [h4 k2 a2 h5] at a3; cases a3
theorem levelB_no {lev need : Nat} {fr : Fr} (h4 : ∀ j, need ≤ j → j < lev + 1 → minAt (fr j) (2 ^ lev) = none) : levelB lev need fr = none := by
  cases h : levelB lev need fr with
  | none => rfl
  | some k2 =>
    obtain ⟨a1, a2, ⟨q, a3⟩, a4⟩ := levelB_some h
    rw [h4 k2 a2 (by omega)] at a3; cases a3
theorem frV_empty {f : Nat → Bool} {N : Nat} (hN : N ≤ 1000) (hf : ∀ p, f p = true → p < N) : (∀ x, i64ok x → frV f x = none) ↔ minAt f N = none := by
  constructor
  · intro h
    cases hm : minAt f N with
    | none => rfl
    | some p =>
      obtain ⟨h1, h2, _⟩ := minAt_some hm
      have := h (p : Int) (by unfold i64ok; omega)
      rw [frV_nat, if_pos h2] at this; cases this
  · intro h x _
    have h2 := minAt_none h
    unfold frV
    split
    · rename_i hc
      have h3 := h2 _ (hf _ hc.2)
      rw [hc.2] at h3; cases h3
    · rfl
theorem split_start (fr : Fr) (k p : Nat) : setB fr k p false = splitB fr k k p := by
  funext j x
  unfold setB splitB
  by_cases h : j = k ∧ x = p
  · rw [if_pos h, if_pos h]
  · rw [if_neg h, if_neg h, if_neg (by omega)]
theorem split_step (fr : Fr) (j k p : Nat) (hj : j < k) : setB (splitB fr (j + 1) k p) j (p + 2 ^ j) true = splitB fr j k p := by
  funext i x
  unfold setB splitB
  by_cases h : i = j ∧ x = p + 2 ^ j
  · obtain ⟨rfl, rfl⟩ := h
    rw [if_pos ⟨rfl, rfl⟩, if_neg (by omega), if_pos ⟨Nat.le_refl _, hj, rfl⟩]
  · rw [if_neg h]
    by_cases h2 : i = k ∧ x = p
    · rw [if_pos h2, if_pos h2]
    · rw [if_neg h2, if_neg h2]
      by_cases h3 : j + 1 ≤ i ∧ i < k ∧ x = p + 2 ^ i
      · rw [if_pos h3, if_pos ⟨by omega, h3.2⟩]
      · rw [if_neg h3]
        rw [if_neg]
        intro h4
        by_cases h5 : i = j
        · subst h5; exact h ⟨rfl, h4.2.2⟩
        · exact h3 ⟨by omega, h4.2⟩
/-- 1 << k. -/
theorem wrap_pow {k : Nat} (h : k < 8) : IntKind.i64.wrap ((2 : Int) ^ k) = ((2 ^ k : Nat) : Int) := by
  rcases lt8 h with rfl | rfl | rfl | rfl | rfl | rfl | rfl | rfl <;> decide
theorem ofInt_i64 (a : Nat) (h : a < 1000) : (BitVec.ofInt 64 (a : Int)).toNat = a := by simp; omega
theorem wrap_i64 (a : Nat) (h : a < 1000) : IntKind.i64.wrap (a : Int) = (a : Int) := by simp [IntKind.wrap, IntKind.bits, IntKind.signed]; omega
theorem xorI {a b : Nat} (ha : a < 128) (hb : b ≤ 128) : bits .xor .i64 (a : Int) (b : Int) = ((a ^^^ b : Nat) : Int) := by
  have hx : a ^^^ b < 2 ^ 8 := Nat.xor_lt_two_pow (by omega) (by omega)
  show IntKind.i64.wrap ((BitVec.ofInt 64 (a : Int) ^^^ BitVec.ofInt 64 (b : Int)).toNat : Int) = _
  rw [BitVec.toNat_xor, ofInt_i64 a (by omega), ofInt_i64 b (by omega), wrap_i64 _ (by omega)]
theorem andI {a b : Nat} (ha : a < 128) (hb : b ≤ 128) : bits .and .i64 (a : Int) (b : Int) = ((a &&& b : Nat) : Int) := by
  have hx : a &&& b < 2 ^ 8 := Nat.and_lt_two_pow _ (by omega)
  show IntKind.i64.wrap ((BitVec.ofInt 64 (a : Int) &&& BitVec.ofInt 64 (b : Int)).toNat : Int) = _
  rw [BitVec.toNat_and, ofInt_i64 a (by omega), ofInt_i64 b (by omega), wrap_i64 _ (by omega)]
def TakeYSays (B : Nat) (w0 : World) (By bt lev : Nat) (bs : Nat → Nat) (C : Nat) (s : BSt) (L' : List Ent) (r : Option (Nat × BSt)) (e : Ending) (w' : World) : Prop :=
  match r with
  | none => e = .returned (.int .i64 (-1)) ∧ ∃ c, (∀ j, c j ≤ C) ∧ Mem B w0 w' (ownY By bt lev bs c s ++ L')
  | some (p, s') => e = .returned (.int .i64 (p : Int)) ∧ ∃ c, (∀ j, c j ≤ C + 8) ∧ Mem B w0 w' (ownY By bt lev bs c s' ++ L')
set_option maxRecDepth 100000 in
set_option maxHeartbeats 2000000 in
theorem take_any (B : Nat) (w0 w : World) (By bt lev : Nat) (hl : lev ≤ 7) (bs c : Nat → Nat) (C : Nat) (hc : ∀ j, c j ≤ C) (hC : C ≤ 50000) (s : BSt) (own : Nat → Int) (cc : Int) (hI : BInv lev s own cc) (n : Nat) (hn1 : 1 ≤ n) (hn2 : n ≤ 2 ^ lev) (L' : List Ent) (hM : Mem B w0 w (ownY By bt lev bs c s ++ L')) :
    Calls Try.prog 55 #[.pointer (some ⟨By, 0, none⟩), .int .i64 (n : Int)] w (TakeYSays B w0 By bt lev bs C s L' (takeB lev s n)) := by
  have hN := (pow_le7 hl).1
  have HI := Lib.hid hI
  have HM := Lib.hid hM
  have HC := Lib.hid hc
  obtain ⟨need, hne⟩ : ∃ need, needB n = need := ⟨_, rfl⟩
  have hn7 : need ≤ 7 := by rw [← hne]; exact need_le7 n
  have hnl : need ≤ lev := by
    rcases Nat.lt_or_ge lev need with h | h
    · have := (need_lt (n := n) (k := lev) (by omega) (by omega)).1 (by rw [hne]; exact h)
      omega
    · exact h
  have Hne := Lib.hid hne
  have cL : w.cell? ⟨By, 0, none⟩ = some (.int .i64 (lev : Int)) := by have := hM.cell 0 rfl 0; simpa [yardC] using this
  have zB : By < w.heap.size := (hM.box 0 rfl).2.1
  clear hI hM hc hne
  go_enter Try.func55, Try.ntmps55
  go_wp2
  go_loopw [5] (fun s5 wr => ∃ k : Nat, k ≤ need ∧ s5 = .int .i64 (k : Int) ∧ w = wr) (fun s5 _ => 8 - (intOf s5).toNat)
  case atStart => exact ⟨0, Nat.zero_le _, rfl, rfl⟩
  case round =>
    obtain ⟨k, hk, rfl, rfl⟩ := hrel
    have hw := wrap_pow (k := k) (by omega)
    obtain ⟨P, hP⟩ : ∃ P : Nat, 2 ^ k = P := ⟨_, rfl⟩
    rw [hP] at hw
    have hiff := need_lt (n := n) (k := k) (by omega) (by omega)
    rw [Hne.out, hP] at hiff
    have Hw := Lib.hid hP
    clear hP
    by_cases hlt : k < need
    · have q1 : decide ((P : Int) < (n : Int)) = true := decide_eq_true (by have := hiff.1 hlt; omega)
      have q1n : decide (P < n) = true := decide_eq_true (hiff.1 hlt)
      clear hiff
      go_wp2
      go_roundw
      case rel => exact ⟨k + 1, by omega, by go_num, trivial⟩
      case measure => simp [intOf]; omega
    · have q1 : decide ((P : Int) < (n : Int)) = false := decide_eq_false (by have := fun h => hlt (hiff.2 h); omega)
      have q1n : decide (P < n) = false := decide_eq_false (fun h => hlt (hiff.2 h))
      obtain rfl : k = need := by omega
      clear hiff
      go_wp2
      go_loopw [6] (fun s6 wr => ∃ i : Nat, k ≤ i ∧ i ≤ lev + 1 ∧ (∀ j, k ≤ j → j < i → minAt (s.fr j) (2 ^ lev) = none) ∧ s6 = .int .i64 (i : Int) ∧ w = wr) (fun s6 _ => 9 - (intOf s6).toNat)
      case atStart => exact ⟨k, Nat.le_refl _, by omega, (fun j h1 h2 => by omega), rfl, rfl⟩
      case round =>
        obtain ⟨i, hki, hil, hno, rfl, rfl⟩ := hrel
        by_cases hle : i ≤ lev
        · have q2 : decide ((i : Int) ≤ (lev : Int)) = true := decide_eq_true (by omega)
          have q2n : decide (i ≤ lev) = true := decide_eq_true hle
          have q3 : (0 : Int) ≤ (i : Int) := by omega
          have q4 : (i : Int) < 8 := by omega
          have q4n : i < 8 := by omega
          have hgm := HM.out.get (2 + i) (ownY_at By bt lev bs c s L' q4n)
          obtain ⟨d, hd0, hlen⟩ := gmap_len hgm 3
          have cK : w.cell? ⟨By, 1 + i, none⟩ = some (.map (some (bs i))) := by rw [HM.out.cell 0 rfl (1 + i)]; exact yardC_at lev bt bs q4n
          have hNp : ∀ p, s.fr i p = true → p < 2 ^ lev := fun p h => by
            have := HI.out.p.en i p h
            have := Nat.two_pow_pos i
            omega
          rw [frV_empty (N := 2 ^ lev) (by omega) hNp] at hd0
          have Hnp := Lib.hid hNp
          have Hno := Lib.hid hno
          clear hgm hNp hno
          by_cases hz : d = 0
          · subst hz
            have hm := hd0.1 rfl
            have Hm := Lib.hid hm
            clear hm hd0
            go_wp2
            go_roundw
            case rel => exact ⟨i + 1, by omega, by omega, (fun j h1 h2 => by
              by_cases h3 : j = i
              · rw [h3]; exact Hm.out
              · exact Hno.out j h1 (by omega)), by go_num, trivial⟩
            case measure => simp [intOf]; omega
          · have q5 : ((d : Int) == 0) = false := beq_eq_false_iff_ne.2 (by omega)
            have q5n : decide (d = 0) = false := decide_eq_false hz
            cases hmin : minAt (s.fr i) (2 ^ lev) with
            | none => exact absurd (hd0.2 hmin) hz
            | some p =>
              have hlv := levelB_of hki hle hmin Hno.out
              obtain ⟨hp1, hp2, _⟩ := minAt_some hmin
              have hal := HI.out.p.al i p hp2
              have hen := HI.out.p.en i p hp2
              have htk : takeB lev s n = some (p, ⟨splitB s.fr k i p, fun x => if x = (p : Int) then some k else s.tk x⟩) := by
                unfold takeB
                rw [Hne.out, hlv]
                simp only []
                rw [hmin]
              have q6 : decide ((i : Int) > (lev : Int)) = false := decide_eq_false (by omega)
              have q6n : decide (lev < i) = false := decide_eq_false (by omega)
              have hfc := first_any B w0 w (ownY By bt lev bs c s ++ L') (2 + i) (bs i) (c i) (s.fr i) (2 ^ lev) (by omega) HM.out (ownY_at By bt lev bs c s L' q4n) Hnp.out
              rw [hmin] at hfc
              have HFC := Lib.hid hfc
              have HTK := Lib.hid htk
              have HAL := Lib.hid hal
              have HEN := Lib.hid hen
              have Hp64 : Hid (i64ok (p : Int)) := Lib.hid (by unfold i64ok; omega)
              have ho : optI (some p) = (p : Int) := rfl
              clear hfc htk hal hen hmin hlv hp2 hd0
              go_wp2_with fail
              with_reducible refine HFC.out.mono ?_
              rintro e w2 ⟨rfl, hM2⟩
              have cK2 : w2.cell? ⟨By, 1 + i, none⟩ = some (.map (some (bs i))) := by rw [hM2.cell 0 rfl (1 + i)]; exact yardC_at lev bt bs q4n
              have zB2 : By < w2.heap.size := (hM2.box 0 rfl).2.1
              have HM2 := Lib.hid hM2
              clear hM2 HFC
              have hki2 := ownY_at By bt lev bs c s L' q4n
              have Hki2 := Lib.hid hki2
              clear hki2
              go_wp2_with (refine Mem.wp_delG (M := mapII) rfl (.tmp 51) (.tmp 52) rfl HM2.out (2 + i) Hki2.out rfl (p : Int) rfl Hp64.out ?_; intro w3 hM3 hs3)
              have hM4 : Mem B w0 w3 (ownY By bt lev bs (bump c i (c i)) ⟨splitB s.fr i i p, s.tk⟩ ++ L') := hM3.cast (by rw [own_del By bt lev bs c s L' q4n, split_start])
              have HM4 := Lib.hid hM4
              clear hM3 hM4 HM2 Hki2 hs3 HM
              go_frame
              go_loopw [6] (fun s6 wr => ∃ (j : Nat) (c2 : Nat → Nat), k ≤ j ∧ j ≤ i ∧ (∀ x, c2 x ≤ C + (i - j)) ∧ s6 = .int .i64 (j : Int) ∧ Mem B w0 wr (ownY By bt lev bs c2 ⟨splitB s.fr j i p, s.tk⟩ ++ L')) (fun s6 _ => (intOf s6).toNat)
              case atStart => exact ⟨i, _, hki, Nat.le_refl _, (fun x => by have := HC.out x; have := HC.out i; unfold bump; split <;> omega), rfl, HM4.out⟩
              case round =>
                clear HM4
                obtain ⟨j, c2, hkj, hji, hc2, rfl, hM5⟩ := hrel
                have HC2 := Lib.hid hc2
                have HM5 := Lib.hid hM5
                clear hc2
                by_cases hgt : k < j
                · obtain ⟨j1, hj1⟩ : ∃ j1, j = j1 + 1 := ⟨j - 1, by omega⟩
                  have q7 : decide ((j : Int) > (k : Int)) = true := decide_eq_true (by omega)
                  have q7n : decide (k < j) = true := decide_eq_true hgt
                  have q8 : IntKind.i64.wrap ((j : Int) - 1) = (j1 : Int) := by rw [show (j : Int) - 1 = (j1 : Int) by omega]; exact wrap_i64 _ (by omega)
                  have q9 : (0 : Int) ≤ (j1 : Int) := by omega
                  have q10 : (j1 : Int) < 8 := by omega
                  have q10n : j1 < 8 := by omega
                  have q11 : (0 : Int) ≤ (j : Int) - 1 := by omega
                  have q12 : (j : Int) - 1 < 8 := by omega
                  have hw := wrap_pow q10n
                  have hdn : p % 2 ^ (j1 + 1) = 0 := al_down (by omega) HAL.out
                  have h2j : p + 2 ^ j1 = p ^^^ 2 ^ j1 := by
                    have h3 := (twin_bits p (by omega) j1 q10n (al_down (by omega) HAL.out)).1
                    rw [h3]
                    unfold twinB
                    rw [← Nat.mod_mul_right_div_self, ← Nat.pow_succ, hdn, Nat.zero_div, if_pos rfl]
                  have hP128 := (pow_le7 (k := j1) (by omega)).1
                  have hx := xorI (a := p) (b := 2 ^ j1) (by omega) hP128
                  rw [← h2j] at hx
                  have hcj : c2 j1 ≤ 100000 := by have := HC2.out j1; omega
                  have hki3 := ownY_at By bt lev bs c2 ⟨splitB s.fr j i p, s.tk⟩ L' q10n
                  obtain ⟨w6, hrun, hM6, hs6⟩ := HM5.out.drew.run_putG (M := mapII) (2 + j1) hki3 hcj ((p + 2 ^ j1 : Nat) : Int) (.int .i64 1) (show i64ok _ by unfold i64ok; omega)
                  have hM7 : Mem B w0 w6 (ownY By bt lev bs (bump c2 j1 (c2 j1 + 1)) ⟨splitB s.fr j1 i p, s.tk⟩ ++ L') := hM6.cast (by rw [own_put By bt lev bs c2 ⟨splitB s.fr j i p, s.tk⟩ L' q10n, hj1, split_step _ _ _ _ (by omega)])
                  have HM7 := Lib.hid hM7
                  obtain ⟨P, hP⟩ : ∃ P : Nat, 2 ^ j1 = P := ⟨_, rfl⟩
                  rw [hP] at hw hx hrun
                  obtain ⟨T, hT⟩ : ∃ T : Nat, p + P = T := ⟨_, rfl⟩
                  rw [hT] at hx hrun
                  have r1 : (Instr.mapUpdate 71 (.map (some (bs j1))) (.int .i64 (T : Int)) (.int .i64 1)).run Try.prog wr.drew = .ok () w6 := hrun
                  have c1 : wr.cell? ⟨By, 1 + j1, none⟩ = some (.map (some (bs j1))) := by rw [hM5.cell 0 rfl (1 + j1)]; exact yardC_at lev bt bs q10n
                  have zB5 : By < wr.heap.size := (hM5.box 0 rfl).2.1
                  have Hj1 := Lib.hid hj1
                  clear hM5 hM6 hM7 hs6 hrun hki3 h2j hdn hP hT hP128 hj1
                  go_wp2
                  go_region_law (fail)
                  all_goals
                    go_wp2
                    go_roundw
                    case rel => exact ⟨j1, _, by have := Hj1.out; omega, by have := Hj1.out; omega, (fun x => by have := Hj1.out; have := HC2.out x; have := HC2.out j1; unfold bump; split <;> omega), by go_num, HM7.out⟩
                    case measure => have := Hj1.out; simp [intOf]; omega
                · obtain rfl : j = k := by omega
                  have q7 : decide ((j : Int) > (j : Int)) = false := decide_eq_false (by omega)
                  have cT : wr.cell? ⟨By, 9, none⟩ = some (.map (some bt)) := by have := hM5.cell 0 rfl 9; simpa [yardC] using this
                  have zB5 : By < wr.heap.size := (hM5.box 0 rfl).2.1
                  have hcl : c2 8 ≤ 100000 := by have := HC2.out 8; omega
                  clear hM5
                  go_wp2_with (at_mapUpdate; refine Mem.wp_putG (M := mapII) rfl _ _ _ rfl HM5.out 1 rfl hcl rfl (p : Int) (.int .i64 (j : Int)) rfl rfl Hp64.out ?_; intro w6 hM6 hs6)
                  go_ret
                  rw [HTK.out]
                  exact ⟨rfl, bump c2 8 (c2 8 + 1), (fun x => by have := HC2.out x; have := HC2.out 8; unfold bump; split <;> omega), hM6.cast (by rw [own_tput])⟩
        · have hi : i = lev + 1 := by omega
          have hlv := levelB_no (lev := lev) (need := k) (fr := s.fr) (fun j h1 h2 => hno j h1 (by omega))
          have htk : takeB lev s n = none := by
            unfold takeB
            rw [Hne.out, hlv]
          have HTK := Lib.hid htk
          have q2 : decide ((i : Int) ≤ (lev : Int)) = false := decide_eq_false (by omega)
          have q2n : decide (i ≤ lev) = false := decide_eq_false (by omega)
          have q6 : decide ((i : Int) > (lev : Int)) = true := decide_eq_true (by omega)
          have q6n : decide (lev < i) = true := decide_eq_true (by omega)
          clear htk hlv hno
          go_wp2
          go_ret
          rw [HTK.out]
          exact ⟨rfl, c, HC.out, HM.out⟩
end Go.Proofs.Ytmbcfbehchpfbaa
