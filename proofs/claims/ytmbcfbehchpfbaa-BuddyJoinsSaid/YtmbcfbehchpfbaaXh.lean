/- Buddies: give, walked. -/
import Derived.Test.YtmbcfbehchpfbaaXg
namespace Go.Proofs.Ytmbcfbehchpfbaa
open Go.RowKit Go.Maps

theorem joinB_end {lev f k p : Nat} {fr : Fr} (h : ¬ (0 < f ∧ k < lev ∧ fr k (p ^^^ 2 ^ k) = true)) : joinB lev f fr k p = setB fr k p true := by
  cases f with
  | zero => rfl
  | succ f =>
    unfold joinB
    rw [if_neg]
    intro h2
    exact h ⟨Nat.succ_pos _, h2⟩
theorem joinB_on {lev f k p : Nat} {fr : Fr} (h1 : k < lev) (h2 : fr k (p ^^^ 2 ^ k) = true) : joinB lev (f + 1) fr k p = joinB lev f (setB fr k (p ^^^ 2 ^ k) false) (k + 1) (p &&& (p ^^^ 2 ^ k)) := by
  show (if _ then _ else _) = _
  rw [if_pos ⟨h1, h2⟩]
def GiveYSays (B : Nat) (w0 : World) (By bt lev : Nat) (bs : Nat → Nat) (C : Nat) (s : BSt) (L' : List Ent) (r : Option BSt) (e : Ending) (w' : World) : Prop :=
  match r with
  | none => e = .returned (.bool false) ∧ ∃ c, (∀ j, c j ≤ C) ∧ Mem B w0 w' (ownY By bt lev bs c s ++ L')
  | some s' => e = .returned (.bool true) ∧ ∃ c, (∀ j, c j ≤ C + 1) ∧ Mem B w0 w' (ownY By bt lev bs c s' ++ L')
theorem tkY_look {B : Nat} {w0 w : World} {By bt lev : Nat} {bs c : Nat → Nat} {s : BSt} {L' : List Ent} (h : Mem B w0 w (ownY By bt lev bs c s ++ L')) {x : Int} (hx : i64ok x) :
    (Instr.lookup 71 (.map (some bt)) (.int .i64 x) true).run Try.prog w = .ok (.tuple #[((tkV s.tk x).getD (.int .i64 0)), .bool (tkV s.tk x).isSome]) w := (gmap_look (M := mapII) (h.get 1 rfl) (x := x) hx).2
theorem frY_look {B : Nat} {w0 w : World} {By bt lev : Nat} {bs c : Nat → Nat} {s : BSt} {L' : List Ent} (h : Mem B w0 w (ownY By bt lev bs c s ++ L')) {k x : Nat} (hk : k < 8) (hx : x < 1000) :
    (Instr.lookup 71 (.map (some (bs k))) (.int .i64 (x : Int)) false).run Try.prog w = .ok (.int .i64 (if s.fr k x = true then 1 else 0)) w := by
  have h1 := (gmap_look (M := mapII) (h.get (2 + k) (ownY_at By bt lev bs c s L' hk)) (x := (x : Int)) (show i64ok _ by unfold i64ok; omega)).1
  rw [frV_nat] at h1
  by_cases h2 : s.fr k x = true
  · rw [if_pos h2] at h1 ⊢; exact h1
  · rw [if_neg h2] at h1 ⊢; exact h1
set_option maxRecDepth 100000 in
set_option maxHeartbeats 2000000 in
theorem give_any (B : Nat) (w0 w : World) (By bt lev : Nat) (hl : lev ≤ 7) (bs c : Nat → Nat) (C : Nat) (hc : ∀ j, c j ≤ C) (hC : C ≤ 50000) (s : BSt) (own : Nat → Int) (cc : Int) (hI : BInv lev s own cc) (x : Int) (hx : i64ok x) (L' : List Ent) (hM : Mem B w0 w (ownY By bt lev bs c s ++ L')) :
    Calls Try.prog 56 #[.pointer (some ⟨By, 0, none⟩), .int .i64 x] w (GiveYSays B w0 By bt lev bs C s L' (giveB lev s x)) := by
  have hN := (pow_le7 hl).1
  have cT : w.cell? ⟨By, 9, none⟩ = some (.map (some bt)) := by have := hM.cell 0 rfl 9; simpa [yardC] using this
  have zB : By < w.heap.size := (hM.box 0 rfl).2.1
  have hlk := tkY_look hM hx
  have HM := Lib.hid hM
  have HC := Lib.hid hc
  cases htk : s.tk x with
  | none =>
    have e1 : tkV s.tk x = none := by unfold tkV; rw [htk]; rfl
    rw [e1] at hlk
    have hl2 : (Instr.lookup 71 (.map (some bt)) (.int .i64 x) true).run Try.prog w = .ok (.tuple #[.int .i64 0, .bool false]) w := hlk
    have hg : giveB lev s x = none := by unfold giveB; rw [htk]
    have HG := Lib.hid hg
    clear hM hc hI htk e1 hlk hg
    go_enter Try.func56, Try.ntmps56
    go_wp2
    go_ret
    rw [HG.out]
    exact ⟨rfl, c, HC.out, HM.out⟩
  | some k =>
    obtain ⟨p, rfl, hk1, hk2, hk3, _, _⟩ := hI.taken _ k htk
    have hp64 := Lib.hid hx
    have e1 : tkV s.tk (p : Int) = some (.int .i64 (k : Int)) := by unfold tkV; rw [htk]; rfl
    rw [e1] at hlk
    have hl2 : (Instr.lookup 71 (.map (some bt)) (.int .i64 (p : Int)) true).run Try.prog w = .ok (.tuple #[.int .i64 (k : Int), .bool true]) w := hlk
    have hg : giveB lev s (p : Int) = some ⟨joinB lev (lev - k) s.fr k p, fun y => if y = (p : Int) then none else s.tk y⟩ := by
      unfold giveB; rw [htk]; rfl
    obtain ⟨J, hJ⟩ : ∃ J, joinB lev (lev - k) s.fr k p = J := ⟨_, rfl⟩
    rw [hJ] at hg
    have HG := Lib.hid hg
    have HJ := Lib.hid hJ
    have h2k := (pow_le7 (k := k) (by omega)).2
    have hp128 : p < 128 := by omega
    have HK2 := Lib.hid hk2
    clear hM hc hI htk e1 hlk hg hJ hk2 hk3 h2k
    go_enter Try.func56, Try.ntmps56
    go_wp2_with (refine Mem.wp_delG (M := mapII) rfl (.tmp 22) (.tmp 23) rfl HM.out 1 rfl rfl (p : Int) rfl hp64.out ?_; intro w1 hM1 hs1)
    obtain ⟨tk', htk'⟩ : ∃ tk' : Int → Option Nat, (fun y => if y = (p : Int) then none else s.tk y) = tk' := ⟨_, rfl⟩
    have hM2 : Mem B w0 w1 (ownY By bt lev bs (bump c 8 (c 8)) ⟨s.fr, tk'⟩ ++ L') := hM1.cast (by rw [own_tdel, htk'])
    rw [htk'] at HG
    have HM2 := Lib.hid hM2
    clear hM1 hM2 HM hl2 cT zB hs1 htk'
    go_frame
    go_loopw [5, 1] (fun s5 s1 wr => ∃ (j q : Nat) (fr : Fr) (c2 : Nat → Nat), j ≤ lev ∧ q < 128 ∧ q % 2 ^ j = 0 ∧ joinB lev (lev - j) fr j q = J ∧ (∀ y, c2 y ≤ C) ∧ s5 = .int .i64 (j : Int) ∧ s1 = .int .i64 (q : Int) ∧ Mem B w0 wr (ownY By bt lev bs c2 ⟨fr, tk'⟩ ++ L')) (fun s5 _ _ => 8 - (intOf s5).toNat)
    case atStart => exact ⟨k, p, s.fr, _, hk1, hp128, HK2.out, HJ.out, (fun y => by have := HC.out y; have := HC.out 8; unfold bump; split <;> omega), rfl, rfl, HM2.out⟩
    case round =>
      clear HM2 HC HJ
      obtain ⟨j, q, fr, c2, hj, hq, hqa, hjo, hc2, rfl, rfl, hM3⟩ := hrel
      have HC2 := Lib.hid hc2
      have HM3 := Lib.hid hM3
      have j8 : j < 8 := by omega
      have q3 : (0 : Int) ≤ (j : Int) := by omega
      have q4 : (j : Int) < 8 := by omega
      have cL : wr.cell? ⟨By, 0, none⟩ = some (.int .i64 (lev : Int)) := by have := hM3.cell 0 rfl 0; simpa [yardC] using this
      have cK : wr.cell? ⟨By, 1 + j, none⟩ = some (.map (some (bs j))) := by rw [hM3.cell 0 rfl (1 + j)]; exact yardC_at lev bt bs j8
      have zB : By < wr.heap.size := (hM3.box 0 rfl).2.1
      have hki := ownY_at By bt lev bs c2 ⟨fr, tk'⟩ L' j8
      have Hki := Lib.hid hki
      have hcj : c2 j ≤ 100000 := by have := hc2 j; omega
      have Hq64 : Hid (i64ok (q : Int)) := Lib.hid (by unfold i64ok; omega)
      have Hjo := Lib.hid hjo
      have Hqa := Lib.hid hqa
      by_cases hlt : j < lev
      · have q1 : decide ((j : Int) < (lev : Int)) = true := decide_eq_true (by omega)
        have q1n : decide (j < lev) = true := decide_eq_true hlt
        have hP := (pow_le7 (k := j) (by omega)).1
        have hP64 : 2 ^ j < 2 ^ 7 := Nat.pow_lt_pow_right (by omega) (by omega)
        have hT128 : q ^^^ 2 ^ j < 2 ^ 7 := Nat.xor_lt_two_pow (by omega) hP64
        have hxo := xorI (a := q) (b := 2 ^ j) hq hP
        have han := andI (a := q) (b := q ^^^ 2 ^ j) hq (by omega)
        have hlo := frY_look hM3 (k := j) (x := q ^^^ 2 ^ j) j8 (by omega)
        have hw := wrap_pow j8
        have htb := (twin_bits q hq j j8 hqa).2
        by_cases htw : fr j (q ^^^ 2 ^ j) = true
        · rw [if_pos htw] at hlo
          have hjn := joinB_on (lev := lev) (f := lev - (j + 1)) (p := q) hlt htw
          rw [show lev - (j + 1) + 1 = lev - j by omega, hjo] at hjn
          have hq2 : (q &&& (q ^^^ 2 ^ j)) % 2 ^ (j + 1) = 0 := by rw [htb]; exact Nat.mul_mod_left _ _
          have hq3 : q &&& (q ^^^ 2 ^ j) < 128 := by
            rw [htb]
            exact Nat.lt_of_le_of_lt (Nat.div_mul_le_self _ _) hq
          obtain ⟨P, hP⟩ : ∃ P : Nat, 2 ^ j = P := ⟨_, rfl⟩
          rw [hP] at hw hxo han hlo hjn hq2 hq3 hT128
          obtain ⟨T, hT⟩ : ∃ T : Nat, q ^^^ P = T := ⟨_, rfl⟩
          rw [hT] at hxo han hlo hjn hq2 hq3 hT128
          obtain ⟨A, hA⟩ : ∃ A : Nat, q &&& T = A := ⟨_, rfl⟩
          rw [hA] at han hjn hq2 hq3
          have HT64 : Hid (i64ok (T : Int)) := Lib.hid (by unfold i64ok; omega)
          have Hjn := Lib.hid hjn
          have Hq2 := Lib.hid hq2
          clear hM3 hki hc2 hjn hq2 hjo htb htw hA hT hP hqa hP64
          go_wp2_with (refine Mem.wp_delG (M := mapII) rfl (.tmp 50) (.tmp 51) rfl HM3.out (2 + j) Hki.out rfl (T : Int) rfl HT64.out ?_; intro w4 hM4 hs4)
          have HM4 : Hid (Mem B w0 w4 (ownY By bt lev bs (bump c2 j (c2 j)) ⟨setB fr j T false, tk'⟩ ++ L')) := Lib.hid (hM4.cast (by rw [own_del By bt lev bs c2 ⟨fr, tk'⟩ L' j8]))
          go_roundw
          case rel => exact ⟨j + 1, A, _, _, by omega, hq3, Hq2.out, Hjn.out.symm, (fun y => by have := HC2.out y; have := HC2.out j; unfold bump; split <;> omega), by go_num, rfl, HM4.out⟩
          case measure => simp [intOf]; omega
        · rw [if_neg htw] at hlo
          have hend := joinB_end (lev := lev) (f := lev - j) (k := j) (p := q) (fr := fr) (fun h => htw h.2.2)
          obtain ⟨P, hP⟩ : ∃ P : Nat, 2 ^ j = P := ⟨_, rfl⟩
          rw [hP] at hw hxo hlo
          obtain ⟨T, hT⟩ : ∃ T : Nat, q ^^^ P = T := ⟨_, rfl⟩
          rw [hT] at hxo hlo
          have HE := Lib.hid (hend.symm.trans hjo)
          clear hM3 hki hc2 hjo htb htw hT hP hqa hP64 han hT128 hend
          go_wp2_with (at_mapUpdate; refine Mem.wp_putG (M := mapII) rfl _ _ _ rfl HM3.out (2 + j) Hki.out hcj rfl (q : Int) (.int .i64 1) rfl rfl Hq64.out ?_; intro w6 hM6 hs6)
          go_ret
          rw [HG.out]
          exact ⟨rfl, bump c2 j (c2 j + 1), (fun x => by have := HC2.out x; have := HC2.out j; unfold bump; split <;> omega), hM6.cast (by rw [own_put By bt lev bs c2 ⟨fr, tk'⟩ L' j8, HE.out])⟩
      · obtain rfl : j = lev := by omega
        have q1 : decide ((j : Int) < (j : Int)) = false := decide_eq_false (by omega)
        have hend := joinB_end (lev := j) (f := j - j) (k := j) (p := q) (fr := fr) (fun h => by have := h.1; omega)
        have HE := Lib.hid (hend.symm.trans hjo)
        clear hM3 hki hc2 hjo hqa hend
        go_wp2_with (at_mapUpdate; refine Mem.wp_putG (M := mapII) rfl _ _ _ rfl HM3.out (2 + j) Hki.out hcj rfl (q : Int) (.int .i64 1) rfl rfl Hq64.out ?_; intro w6 hM6 hs6)
        go_ret
        rw [HG.out]
        exact ⟨rfl, bump c2 j (c2 j + 1), (fun x => by have := HC2.out x; have := HC2.out j; unfold bump; split <;> omega), hM6.cast (by rw [own_put By bt j bs c2 ⟨fr, tk'⟩ L' j8, HE.out])⟩
end Go.Proofs.Ytmbcfbehchpfbaa
