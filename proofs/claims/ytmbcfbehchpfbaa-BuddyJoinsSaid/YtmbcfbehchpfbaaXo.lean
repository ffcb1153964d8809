/- twice, power: walked. -/
import Derived.Test.YtmbcfbehchpfbaaXb
import Derived.Test.YtmbcfbehchpfbaaUn
namespace Go.Proofs.Ytmbcfbehchpfbaa
open Go.RowKit

/-- The least power of two that is no less; 0: there is none of use. -/
def pwI (x : Int) : Nat := if x ≤ 1 then 1 else if x ≤ 2 then 2 else if x ≤ 4 then 4 else if x ≤ 8 then 8 else if x ≤ 16 then 16 else if x ≤ 32 then 32 else if x ≤ 64 then 64 else if x ≤ 128 then 128 else if x ≤ 256 then 256 else if x ≤ 512 then 512 else 0
theorem pwI_at {x : Int} {j : Nat} (hj : j ≤ 9) (h1 : j = 0 ∨ ((2 ^ (j - 1) : Nat) : Int) < x) (h2 : x ≤ ((2 ^ j : Nat) : Int)) : pwI x = 2 ^ j := by
  unfold pwI
  have h3 : j = 0 ∨ j = 1 ∨ j = 2 ∨ j = 3 ∨ j = 4 ∨ j = 5 ∨ j = 6 ∨ j = 7 ∨ j = 8 ∨ j = 9 := by omega
  rcases h3 with rfl | rfl | rfl | rfl | rfl | rfl | rfl | rfl | rfl | rfl <;> (simp at h1 h2; (repeat' split) <;> first | rfl | omega)
theorem pwI_zero {x : Int} (h : 512 < x) : pwI x = 0 := by
  unfold pwI; (repeat' split) <;> first | rfl | omega
theorem pow9 {j : Nat} (h : j ≤ 9) : 2 ^ j ≤ 512 ∧ 1 ≤ 2 ^ j := by
  have h3 : j = 0 ∨ j = 1 ∨ j = 2 ∨ j = 3 ∨ j = 4 ∨ j = 5 ∨ j = 6 ∨ j = 7 ∨ j = 8 ∨ j = 9 := by omega
  rcases h3 with rfl | rfl | rfl | rfl | rfl | rfl | rfl | rfl | rfl | rfl <;> decide
set_option maxRecDepth 100000 in
set_option maxHeartbeats 1000000 in
theorem twice_any (lev : Nat) (hl : lev ≤ 7) (w : World) : Calls Try.prog 20 #[.int .i64 (lev : Int)] w fun e w' => e = .returned (.int .i64 ((2 ^ lev : Nat) : Int)) ∧ w = w' := by
  go_enter Try.func20, Try.ntmps20
  go_wp2
  go_loopw [3, 4] (fun s1 s2 wr => ∃ k : Nat, k ≤ lev ∧ s1 = .int .i64 ((2 ^ k : Nat) : Int) ∧ s2 = .int .i64 (k : Int) ∧ w = wr) (fun _ s2 _ => lev - (intOf s2).toNat)
  case atStart => exact ⟨0, Nat.zero_le _, rfl, rfl, rfl⟩
  case round =>
    obtain ⟨k, hk, rfl, rfl, rfl⟩ := hrel
    have h9 := pow_le7 (k := k) (by omega)
    by_cases hlt : k < lev
    · have q1 : decide ((k : Int) < (lev : Int)) = true := decide_eq_true (by omega)
      have q1n : decide (k < lev) = true := decide_eq_true hlt
      have hs : 2 ^ (k + 1) = 2 ^ k + 2 ^ k := by rw [Nat.pow_succ]; omega
      obtain ⟨P, hP⟩ : ∃ P : Nat, 2 ^ k = P := ⟨_, rfl⟩
      rw [hP] at hs h9 ⊢
      have HS := Lib.hid hs
      clear hs hP
      go_wp2
      go_roundw
      case rel => exact ⟨k + 1, by omega, by rw [HS.out]; go_num, by go_num, trivial⟩
      case measure => simp [intOf]; omega
    · obtain rfl : k = lev := by omega
      have q1 : decide ((k : Int) < (k : Int)) = false := decide_eq_false (by omega)
      obtain ⟨P, hP⟩ : ∃ P : Nat, 2 ^ k = P := ⟨_, rfl⟩
      rw [hP]
      have HP := Lib.hid hP
      clear hP
      go_wp2
      go_ret
      exact ⟨by rw [HP.out]; rfl, rfl⟩
set_option maxRecDepth 100000 in
set_option maxHeartbeats 1000000 in
theorem power_any (x : Int) (w : World) : Calls Try.prog 21 #[.int .i64 x] w fun e w' => e = .returned (.int .i64 (pwI x : Int)) ∧ w = w' := by
  go_enter Try.func21, Try.ntmps21
  go_wp2
  go_loopw [3] (fun s1 wr => ∃ j : Nat, j ≤ 9 ∧ s1 = .int .i64 ((2 ^ j : Nat) : Int) ∧ (j = 0 ∨ ((2 ^ (j - 1) : Nat) : Int) < x) ∧ w = wr) (fun s1 _ => 1024 - (intOf s1).toNat)
  case atStart => exact ⟨0, by omega, rfl, .inl rfl, rfl⟩
  case round =>
    obtain ⟨j, hj, rfl, hlow, rfl⟩ := hrel
    have h9 := pow9 hj
    by_cases hlt : ((2 ^ j : Nat) : Int) < x
    · by_cases hle : 2 ^ j ≤ 256
      · have hj8 : j ≤ 8 := by
          rcases Nat.lt_or_ge j 9 with h | h
          · omega
          · obtain rfl : j = 9 := by omega
            exact absurd hle (by decide)
        have hs : 2 ^ (j + 1) = 2 ^ j + 2 ^ j := by rw [Nat.pow_succ]; omega
        have HL : Hid (j + 1 = 0 ∨ ((2 ^ (j + 1 - 1) : Nat) : Int) < x) := Lib.hid (.inr hlt)
        obtain ⟨P, hP⟩ : ∃ P : Nat, 2 ^ j = P := ⟨_, rfl⟩
        rw [hP] at hs h9 hlt hle ⊢
        have HS := Lib.hid hs
        have q1 : decide ((P : Int) < x) = true := decide_eq_true hlt
        have q2 : decide ((P : Int) ≤ 256) = true := decide_eq_true (by omega)
        have q2n : decide (P ≤ 256) = true := decide_eq_true hle
        clear hs hP hlow
        go_wp2
        go_roundw
        case rel => exact ⟨j + 1, by omega, by rw [HS.out]; go_num, HL.out, trivial⟩
        case measure => simp [intOf]; omega
      · have hj9 : j = 9 := by
          rcases Nat.lt_or_ge j 9 with h | h
          · have := Nat.pow_le_pow_right (show 0 < 2 by omega) (show j ≤ 8 by omega)
            omega
          · omega
        subst hj9
        have hp := pwI_zero (x := x) (by simpa using hlt)
        have HP := Lib.hid hp
        obtain ⟨P, hP⟩ : ∃ P : Nat, 2 ^ 9 = P := ⟨_, rfl⟩
        rw [hP] at hlt hle ⊢
        have q1 : decide ((P : Int) < x) = true := decide_eq_true hlt
        have q2 : decide ((P : Int) ≤ 256) = false := decide_eq_false (by omega)
        have q2n : decide (P ≤ 256) = false := decide_eq_false (by omega)
        clear hp hlow hP
        go_wp2
        go_ret
        exact ⟨by rw [HP.out]; rfl, rfl⟩
    · have hp := pwI_at hj hlow (by omega)
      obtain ⟨P, hP⟩ : ∃ P : Nat, 2 ^ j = P := ⟨_, rfl⟩
      rw [hP] at hlt hp ⊢
      have HP := Lib.hid hp
      have q1 : decide ((P : Int) < x) = false := decide_eq_false hlt
      clear hp hlow hP
      go_wp2
      go_ret
      exact ⟨by rw [HP.out]; rfl, rfl⟩
end Go.Proofs.Ytmbcfbehchpfbaa
