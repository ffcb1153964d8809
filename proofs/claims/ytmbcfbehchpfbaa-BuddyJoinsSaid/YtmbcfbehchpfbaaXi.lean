/- Buddies: an ask, walked. -/
import Derived.Test.YtmbcfbehchpfbaaXh
namespace Go.Proofs.Ytmbcfbehchpfbaa
open Go.RowKit Go.Maps

def AskYSays (B : Nat) (w0 : World) (By bt lev : Nat) (bs : Nat → Nat) (C : Nat) (L' : List Ent) (r : BSt × Int × Nat) (e : Ending) (w' : World) : Prop :=
  e = .returned (.tuple #[.int .i64 (r.2.2 : Int), .int .i64 r.2.1]) ∧ ∃ c, (∀ j, c j ≤ C + 8) ∧ Mem B w0 w' (ownY By bt lev bs c r.1 ++ L')
set_option maxRecDepth 100000 in
set_option maxHeartbeats 2000000 in
theorem ask_any (B : Nat) (w0 w : World) (By bt lev : Nat) (hl : lev ≤ 7) (bs c : Nat → Nat) (C : Nat) (hc : ∀ j, c j ≤ C) (hC : C ≤ 50000) (s : BSt) (own : Nat → Int) (cc : Int) (hI : BInv lev s own cc) (a : Int × Int) (ha : i64ok a.1 ∧ i64ok a.2) (L' : List Ent) (hM : Mem B w0 w (ownY By bt lev bs c s ++ L')) :
    Calls Try.prog 36 #[.pointer (some ⟨By, 0, none⟩), .agg #[.int .i64 a.1, .int .i64 a.2]] w (AskYSays B w0 By bt lev bs C L' (stepB lev s a)) := by
  have hN := (pow_le7 hl).1
  have cL : w.cell? ⟨By, 0, none⟩ = some (.int .i64 (lev : Int)) := by have := hM.cell 0 rfl 0; simpa [yardC] using this
  have zB : By < w.heap.size := (hM.box 0 rfl).2.1
  have HM := Lib.hid (hM.alloc_ (.cells #[.int .i64 a.1, .int .i64 a.2] 36))
  have HMd := Lib.hid (hM.alloc_ (.cells #[.int .i64 a.1, .int .i64 a.2] 36)).drew
  have HC := Lib.hid (fun j => (Nat.le_trans (hc j) (Nat.le_add_right C 8) : c j ≤ C + 8))
  have HC0 := Lib.hid hc
  have HI := Lib.hid hI
  obtain ⟨k, n⟩ := a
  have hn64 := ha.2
  simp only [] at HM HMd hn64 ⊢
  clear hM hc hI ha
  by_cases hk1 : k = 1
  · subst hk1
    by_cases hr : n < 1 ∨ ((2 ^ lev : Nat) : Int) < n
    · have hst : stepB lev s (1, n) = (s, 3, 0) := by unfold stepB; rw [if_pos rfl, if_pos hr]
      rw [hst]
      have hw := wrap_pow (k := lev) (by omega)
      obtain ⟨P, hP⟩ : ∃ P : Nat, 2 ^ lev = P := ⟨_, rfl⟩
      rw [hP] at hw hr
      clear hst hP
      have q8 : (lev : Int) < 8 := by omega
      by_cases h1 : n < 1
      · have q1 : decide (n < 1) = true := decide_eq_true h1
        go_enter Try.func36, Try.ntmps36
        go_wp2
        go_quiet (fail)
        go_wp2
        refine bodyPost_ret (v := .tuple #[.int .i64 0, .int .i64 3]) (by simp [results, Try.results36, go_sem]) rfl ⟨rfl, c, HC.out, HM.out.drewN _⟩
      · have q1 : decide (n < 1) = false := decide_eq_false h1
        have q2 : decide (n > (P : Int)) = true := decide_eq_true (by omega)
        have q2n : decide ((P : Int) < n) = true := decide_eq_true (by omega)
        go_enter Try.func36, Try.ntmps36
        go_wp2
        go_quiet (fail)
        go_wp2
        refine bodyPost_ret (v := .tuple #[.int .i64 0, .int .i64 3]) (by simp [results, Try.results36, go_sem]) rfl ⟨rfl, c, HC.out, HM.out.drewN _⟩
    · obtain ⟨m, rfl⟩ : ∃ m : Nat, n = m := ⟨n.toNat, by omega⟩
      have hT := fun W h => take_any B w0 W By bt lev hl bs c C HC0.out hC s own cc HI.out m (by omega) (by omega) L' h
      have hst : stepB lev s (1, (m : Int)) = match takeB lev s m with | none => (s, 6, 0) | some (p, s') => (s', 0, p) := by
        unfold stepB; rw [if_pos rfl, if_neg hr]; rfl
      have hw := wrap_pow (k := lev) (by omega)
      have q1 : decide ((m : Int) < 1) = false := decide_eq_false (by omega)
      have q1n : decide (m < 1) = false := decide_eq_false (by omega)
      have q2 : decide ((m : Int) > ((2 ^ lev : Nat) : Int)) = false := decide_eq_false (by omega)
      have q2n : decide ((2 ^ lev : Nat) < m) = false := decide_eq_false (by omega)
      obtain ⟨P, hP⟩ : ∃ P : Nat, 2 ^ lev = P := ⟨_, rfl⟩
      rw [hP] at hw q2 q2n
      rw [hst]
      have q8 : (lev : Int) < 8 := by omega
      obtain ⟨r, hr2⟩ : ∃ r, takeB lev s m = r := ⟨_, rfl⟩
      rw [hr2] at hT ⊢
      have HT := Lib.hid hT
      clear hst hP hr hT hr2
      go_enter Try.func36, Try.ntmps36
      go_wp2
      go_quiet (fail)
      go_wp2_with fail
      with_reducible refine (HT.out _ (HM.out.drewN _)).mono ?_
      cases r with
      | none =>
        rintro e w3 ⟨rfl, c2, hc2, hM3⟩
        have HM3 := Lib.hid hM3
        have HC2 := Lib.hid hc2
        clear hM3 hc2
        go_wp2
        refine bodyPost_ret (v := .tuple #[.int .i64 0, .int .i64 6]) (by simp [results, Try.results36, go_sem]) rfl ⟨rfl, c2, (fun j => by have := HC2.out j; omega), HM3.out⟩
      | some r =>
        obtain ⟨p, s'⟩ := r
        rintro e w3 ⟨rfl, c2, hc2, hM3⟩
        have HM3 := Lib.hid hM3
        have HC2 := Lib.hid hc2
        have q5 : decide ((p : Int) ≥ 0) = true := decide_eq_true (by omega)
        clear hM3 hc2
        go_wp2
        refine bodyPost_ret (v := .tuple #[.int .i64 (p : Int), .int .i64 0]) (by simp [results, Try.results36, go_sem]) rfl ⟨rfl, c2, (fun j => by have := HC2.out j; omega), HM3.out⟩
  · by_cases hk2 : k = 2
    · subst hk2
      have hst : stepB lev s (2, n) = match giveB lev s n with | none => (s, 2, 0) | some s' => (s', 0, 0) := by
        unfold stepB; rw [if_neg (show ¬ (2 : Int) = 1 by decide), if_pos rfl]; rfl
      rw [hst]
      have HG := Lib.hid (give_any B w0 _ By bt lev hl bs c C HC0.out hC s own cc HI.out n hn64 L' HM.out)
      clear hst hk1
      cases hg : giveB lev s n with
      | none =>
        rw [hg] at HG
        go_enter Try.func36, Try.ntmps36
        go_wp2_with fail
        with_reducible refine HG.out.mono ?_
        rintro e w3 ⟨rfl, c2, hc2, hM3⟩
        have HM3 := Lib.hid hM3
        have HC2 := Lib.hid hc2
        clear hM3 hc2
        go_wp2
        refine bodyPost_ret (v := .tuple #[.int .i64 0, .int .i64 2]) (by simp [results, Try.results36, go_sem]) rfl ⟨rfl, c2, (fun j => by have := HC2.out j; omega), HM3.out⟩
      | some s' =>
        rw [hg] at HG
        go_enter Try.func36, Try.ntmps36
        go_wp2_with fail
        with_reducible refine HG.out.mono ?_
        rintro e w3 ⟨rfl, c2, hc2, hM3⟩
        have HM3 := Lib.hid hM3
        have HC2 := Lib.hid hc2
        clear hM3 hc2
        go_wp2
        refine bodyPost_ret (v := .tuple #[.int .i64 0, .int .i64 0]) (by simp [results, Try.results36, go_sem]) rfl ⟨rfl, c2, (fun j => by have := HC2.out j; omega), HM3.out⟩
    · have hst : stepB lev s (k, n) = (s, 5, 0) := by unfold stepB; rw [if_neg hk1, if_neg hk2]
      rw [hst]
      have q1 : (k == 1) = false := beq_eq_false_iff_ne.2 hk1
      have q2 : (k == 2) = false := beq_eq_false_iff_ne.2 hk2
      clear hst hk1 hk2
      go_enter Try.func36, Try.ntmps36
      go_wp2
      refine bodyPost_ret (v := .tuple #[.int .i64 0, .int .i64 5]) (by simp [results, Try.results36, go_sem]) rfl ⟨rfl, c, HC.out, HM.out⟩
end Go.Proofs.Ytmbcfbehchpfbaa
