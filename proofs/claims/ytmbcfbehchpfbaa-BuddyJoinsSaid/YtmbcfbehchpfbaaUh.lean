/- Free words: choosers, which block is taken, where one is put in. -/
import Derived.Test.YtmbcfbehchpfbaaUf
import Derived.Test.YtmbcfbehchpfbaaUc
import Derived.BigQuiet
import Derived.Deep.QuietTactic
import Derived.StillTailTactics
import Derived.Deep.RegionHeld3
import Derived.IntWalk
namespace Go.Proofs.Ytmbcfbehchpfbaa
open Go.RowKit

def cmp3 (x y : Int) : Int := if x < y then -1 else if y < x then 1 else 0
theorem cmp3_lt (x y : Int) : cmp3 x y < 0 ↔ x < y := by unfold cmp3; split <;> (try split) <;> omega
theorem cmp3_eq (x y : Int) : cmp3 x y = 0 ↔ x = y := by unfold cmp3; split <;> (try split) <;> omega
theorem cmp3_ok (x y : Int) : i64ok (cmp3 x y) := by unfold cmp3 i64ok; split <;> (try split) <;> omega
set_option maxHeartbeats 400000 in
theorem compare_any (x y : Int) (w : World) : Calls Try.prog 46 #[.int .i64 x, .int .i64 y] w fun e w' => e = .returned (.int .i64 (cmp3 x y)) ∧ w = w' := by
  by_cases h1 : x < y
  · have e : cmp3 x y = -1 := by unfold cmp3; rw [if_pos h1]
    have E := Lib.hid e
    clear e
    go_enter Try.func46, Try.ntmps46
    go_wp2
    go_ret
    exact ⟨by rw [E.out]; rfl, rfl⟩
  · by_cases h2 : y < x
    · have e : cmp3 x y = 1 := by unfold cmp3; rw [if_neg h1, if_pos h2]
      have E := Lib.hid e
      clear e
      go_enter Try.func46, Try.ntmps46
      go_wp2
      go_ret
      exact ⟨by rw [E.out]; rfl, rfl⟩
    · have e : cmp3 x y = 0 := by unfold cmp3; rw [if_neg h1, if_neg h2]
      have E := Lib.hid e
      clear e
      have h3 : ¬ x > y := h2
      go_enter Try.func46, Try.ntmps46
      go_wp2
      go_ret
      exact ⟨by rw [E.out]; rfl, rfl⟩
def blk (b : Nat × Nat) : Value := .agg #[.int .i64 (b.1 : Int), .int .i64 (b.2 : Int)]
/-- A chooser: calls of it tell which of two blocks has less. -/
def HowOk (w : World) (v : Value) (rk : Nat × Nat → Int) : Prop :=
  ∃ f bxs, v = .func (.func f) #[] bxs ∧ (∀ args w, (callFunc f args).run Try.prog w = .ok (.enter f args) w) ∧
    ∀ wr, Below w.heap.size w wr → ∀ a b : Nat × Nat, Calls Try.prog f (#[blk a, blk b] ++ bxs) wr fun e w' => ∃ c : Int, e = .returned (.int .i64 c) ∧ (c < 0 ↔ rk a < rk b) ∧ Below wr.heap.size wr w'
theorem HowOk.later {w wr : World} {v : Value} {rk : Nat × Nat → Int} (h : HowOk w v rk) (hb : Below w.heap.size w wr) : HowOk wr v rk := by
  obtain ⟨f, bxs, h1, h2, h3⟩ := h
  exact ⟨f, bxs, h1, h2, fun wr2 hb2 => h3 wr2 (hb.trans (hb2.mono hb.size))⟩
set_option maxHeartbeats 400000 in
theorem how1_any (a b : Nat × Nat) (w : World) : Calls Try.prog 44 #[blk a, blk b] w fun e w' => e = .returned (.int .i64 0) ∧ Below w.heap.size w w' := by
  unfold blk
  go_enter Try.func44, Try.ntmps44
  go_wp2
  go_ret
  exact ⟨rfl, (by repeat (first | exact Below.refl _ _ | refine Below.setCell ?_ (by first | exact Nat.le_refl _ | (simp; done) | (simp; omega) | (simp at *; omega)) _ | refine Below.alloc ?_ (by first | exact Nat.le_refl _ | (simp; done) | (simp; omega) | (simp at *; omega)) _ | refine Below.drew ?_ | refine Below.trans ?_ (Below.mono (by assumption) (by first | exact Nat.le_refl _ | (simp; done) | (simp; omega) | (simp at *; omega)))))⟩
set_option maxHeartbeats 400000 in
theorem how2_any (a b : Nat × Nat) (w : World) : Calls Try.prog 45 #[blk a, blk b] w fun e w' => e = .returned (.int .i64 (cmp3 a.2 b.2)) ∧ Below w.heap.size w w' := by
  unfold blk
  go_enter Try.func45, Try.ntmps45
  go_wp2_with fail
  refine (compare_any _ _ _).mono ?_
  rintro e w' ⟨rfl, rfl⟩
  go_wp2
  go_ret
  exact ⟨rfl, (by repeat (first | exact Below.refl _ _ | refine Below.setCell ?_ (by first | exact Nat.le_refl _ | (simp; done) | (simp; omega) | (simp at *; omega)) _ | refine Below.alloc ?_ (by first | exact Nat.le_refl _ | (simp; done) | (simp; omega) | (simp at *; omega)) _ | refine Below.drew ?_ | refine Below.trans ?_ (Below.mono (by assumption) (by first | exact Nat.le_refl _ | (simp; done) | (simp; omega) | (simp at *; omega)))))⟩
set_option maxHeartbeats 400000 in
theorem how3_any (a b : Nat × Nat) (w : World) : Calls Try.prog 47 #[blk a, blk b] w fun e w' => e = .returned (.int .i64 (cmp3 b.2 a.2)) ∧ Below w.heap.size w w' := by
  unfold blk
  go_enter Try.func47, Try.ntmps47
  go_wp2_with fail
  refine (compare_any _ _ _).mono ?_
  rintro e w' ⟨rfl, rfl⟩
  go_wp2
  go_ret
  exact ⟨rfl, (by repeat (first | exact Below.refl _ _ | refine Below.setCell ?_ (by first | exact Nat.le_refl _ | (simp; done) | (simp; omega) | (simp at *; omega)) _ | refine Below.alloc ?_ (by first | exact Nat.le_refl _ | (simp; done) | (simp; omega) | (simp at *; omega)) _ | refine Below.drew ?_ | refine Below.trans ?_ (Below.mono (by assumption) (by first | exact Nat.le_refl _ | (simp; done) | (simp; omega) | (simp at *; omega)))))⟩
set_option maxHeartbeats 400000 in
theorem give1_any (a : Nat × Nat) (x : Int) (w : World) : Calls Try.prog 53 #[blk a, .int .i64 x] w fun e w' => e = .returned (.int .i64 (cmp3 a.1 x)) ∧ Below w.heap.size w w' := by
  unfold blk
  go_enter Try.func53, Try.ntmps53
  go_wp2_with fail
  refine (compare_any _ _ _).mono ?_
  rintro e w' ⟨rfl, rfl⟩
  go_wp2
  go_ret
  exact ⟨rfl, (by repeat (first | exact Below.refl _ _ | refine Below.setCell ?_ (by first | exact Nat.le_refl _ | (simp; done) | (simp; omega) | (simp at *; omega)) _ | refine Below.alloc ?_ (by first | exact Nat.le_refl _ | (simp; done) | (simp; omega) | (simp at *; omega)) _ | refine Below.drew ?_ | refine Below.trans ?_ (Below.mono (by assumption) (by first | exact Nat.le_refl _ | (simp; done) | (simp; omega) | (simp at *; omega)))))⟩
/-- 0: the block stands at or behind the last words. -/
def lateN (last : Nat) (b : Nat × Nat) : Int := if last ≤ b.1 then 0 else 1
set_option maxHeartbeats 400000 in
theorem late_any (b2 Bl last : Nat) (b : Nat × Nat) (w : World) (h1 : w.cell? ⟨b2, 0, none⟩ = some (.pointer (some ⟨Bl, 0, none⟩))) (h2 : w.cell? ⟨Bl, 2, none⟩ = some (.int .i64 (last : Int))) (z1 : b2 < w.heap.size) (z2 : Bl < w.heap.size) :
    Calls Try.prog 48 #[blk b, .pointer (some ⟨b2, 0, none⟩)] w fun e w' => e = .returned (.int .i64 (lateN last b)) ∧ Below w.heap.size w w' := by
  unfold blk
  obtain ⟨p, m⟩ := b
  simp only []
  by_cases h : last ≤ p
  · have e : lateN last (p, m) = 0 := by unfold lateN; rw [if_pos h]
    have E := Lib.hid e
    clear e
    have q : decide ((p : Int) ≥ (last : Int)) = true := decide_eq_true (by omega)
    go_enter Try.func48, Try.ntmps48
    go_wp2
    go_quiet (fail)
    go_wp2
    go_ret
    exact ⟨by rw [E.out]; rfl, below_drewN (by repeat (first | exact Below.refl _ _ | refine Below.setCell ?_ (by first | exact Nat.le_refl _ | (simp; done) | (simp; omega) | (simp at *; omega)) _ | refine Below.alloc ?_ (by first | exact Nat.le_refl _ | (simp; done) | (simp; omega) | (simp at *; omega)) _ | refine Below.drew ?_ | refine Below.trans ?_ (Below.mono (by assumption) (by first | exact Nat.le_refl _ | (simp; done) | (simp; omega) | (simp at *; omega))))) _⟩
  · have e : lateN last (p, m) = 1 := by unfold lateN; rw [if_neg h]
    have E := Lib.hid e
    clear e
    have q : decide ((p : Int) ≥ (last : Int)) = false := decide_eq_false (by omega)
    go_enter Try.func48, Try.ntmps48
    go_wp2
    go_quiet (fail)
    go_wp2
    go_ret
    exact ⟨by rw [E.out]; rfl, below_drewN (by repeat (first | exact Below.refl _ _ | refine Below.setCell ?_ (by first | exact Nat.le_refl _ | (simp; done) | (simp; omega) | (simp at *; omega)) _ | refine Below.alloc ?_ (by first | exact Nat.le_refl _ | (simp; done) | (simp; omega) | (simp at *; omega)) _ | refine Below.drew ?_ | refine Below.trans ?_ (Below.mono (by assumption) (by first | exact Nat.le_refl _ | (simp; done) | (simp; omega) | (simp at *; omega))))) _⟩
set_option maxHeartbeats 400000 in
theorem how5_any (b6 b2 Bl last : Nat) (a b : Nat × Nat) (w : World) (h0 : w.cell? ⟨b6, 0, none⟩ = some (.func (.func 48) #[] #[.pointer (some ⟨b2, 0, none⟩)])) (h1 : w.cell? ⟨b2, 0, none⟩ = some (.pointer (some ⟨Bl, 0, none⟩))) (h2 : w.cell? ⟨Bl, 2, none⟩ = some (.int .i64 (last : Int)))
    (z0 : b6 < w.heap.size) (z1 : b2 < w.heap.size) (z2 : Bl < w.heap.size) :
    Calls Try.prog 49 #[blk a, blk b, .pointer (some ⟨b6, 0, none⟩)] w fun e w' => e = .returned (.int .i64 (cmp3 (lateN last a) (lateN last b))) ∧ Below w.heap.size w w' := by
  have HB : ∀ X, Below w.heap.size w X → ∀ c, Calls Try.prog 48 #[blk c, .pointer (some ⟨b2, 0, none⟩)] X fun e w' => e = .returned (.int .i64 (lateN last c)) ∧ Below X.heap.size X w' := fun X hX c =>
    late_any b2 Bl last c X ((hX.cell (p := ⟨_, _, none⟩) z1).trans h1) ((hX.cell (p := ⟨_, _, none⟩) z2).trans h2) (Nat.lt_of_lt_of_le z1 hX.size) (Nat.lt_of_lt_of_le z2 hX.size)
  have HL := Lib.hid HB
  clear HB h1 h2 z1 z2
  have HLa : Hid (∀ X, Below w.heap.size w X → Calls Try.prog 48 #[blk a, .pointer (some ⟨b2, 0, none⟩)] X fun e w' => e = .returned (.int .i64 (lateN last a)) ∧ Below X.heap.size X w') := fun X h => HL.out X h a
  have HLb : Hid (∀ X, Below w.heap.size w X → Calls Try.prog 48 #[blk b, .pointer (some ⟨b2, 0, none⟩)] X fun e w' => e = .returned (.int .i64 (lateN last b)) ∧ Below X.heap.size X w') := fun X h => HL.out X h b
  clear HL
  unfold blk at *
  obtain ⟨ca, hca⟩ : ∃ ca, lateN last a = ca := ⟨_, rfl⟩
  obtain ⟨cb, hcb⟩ : ∃ cb, lateN last b = cb := ⟨_, rfl⟩
  rw [hca] at HLa ⊢
  rw [hcb] at HLb ⊢
  clear hca hcb
  go_enter Try.func49, Try.ntmps49
  go_wp2
  go_region_held3 (fun X => X.cell? ⟨b6, 0, none⟩ = some (.func (.func 48) #[] #[.pointer (some ⟨b2, 0, none⟩)]) ∧ X.cell? ⟨w.heap.size, 0, none⟩ = some (.int .i64 (a.1 : Int)) ∧ X.cell? ⟨w.heap.size, 1, none⟩ = some (.int .i64 (a.2 : Int)) ∧ X.cell? ⟨w.heap.size + 1, 0, none⟩ = some (.int .i64 (b.1 : Int)) ∧ X.cell? ⟨w.heap.size + 1, 1, none⟩ = some (.int .i64 (b.2 : Int)))
    (first | exact ⟨((show Below w.heap.size w _ from (by repeat (first | exact Below.refl _ _ | assumption | refine Below.setCell ?_ (by first | exact Nat.le_refl _ | (simp; done) | (simp; omega) | (simp at *; omega)) _ | refine Below.alloc ?_ (by first | exact Nat.le_refl _ | (simp; done) | (simp; omega) | (simp at *; omega)) _ | refine Below.drew ?_))).cell (p := ⟨_, _, none⟩) z0).trans h0, by simp, by simp, by simp, by simp⟩ | exact ⟨qw50, qw51, qw52, qw53, qw54⟩ | exact ⟨qw60, qw61, qw62, qw63, qw64⟩)
    (first
      | (go_simp
         with_reducible refine (HLa.out _ (by repeat (first | exact Below.refl _ _ | assumption | refine Below.setCell ?_ (by first | exact Nat.le_refl _ | (simp; done) | (simp; omega) | (simp at *; omega)) _ | refine Below.alloc ?_ (by first | exact Nat.le_refl _ | (simp; done) | (simp; omega) | (simp at *; omega)) _ | refine Below.drew ?_))).mono ?_
         rintro e w5 ⟨rfl, hbw5⟩
         have hBw5 : Below w.heap.size w w5 := by
           refine (show Below w.heap.size w _ → _ from fun h => h.trans (hbw5.mono h.size)) ?_
           exact (by repeat (first | exact Below.refl _ _ | assumption | refine Below.setCell ?_ (by first | exact Nat.le_refl _ | (simp; done) | (simp; omega) | (simp at *; omega)) _ | refine Below.alloc ?_ (by first | exact Nat.le_refl _ | (simp; done) | (simp; omega) | (simp at *; omega)) _ | refine Below.drew ?_))
         have qw50 : w5.cell? ⟨b6, 0, none⟩ = some (.func (.func 48) #[] #[.pointer (some ⟨b2, 0, none⟩)]) := by first | exact (hbw5.cell (p := ⟨_, _, none⟩) (by have := hbw6.size; simp at this ⊢; omega)).trans qw60 | (rw [hbw5.cell (p := ⟨_, _, none⟩) (by simp <;> omega)]; simp; done) | (rw [hbw5.cell (p := ⟨_, _, none⟩) (by simp <;> omega)]; exact ((show Below w.heap.size w _ from (by repeat (first | exact Below.refl _ _ | assumption | refine Below.setCell ?_ (by first | exact Nat.le_refl _ | (simp; done) | (simp; omega) | (simp at *; omega)) _ | refine Below.alloc ?_ (by first | exact Nat.le_refl _ | (simp; done) | (simp; omega) | (simp at *; omega)) _ | refine Below.drew ?_))).cell (p := ⟨_, _, none⟩) z0).trans h0)
         have qw51 : w5.cell? ⟨w.heap.size, 0, none⟩ = some (.int .i64 (a.1 : Int)) := by first | exact (hbw5.cell (p := ⟨_, _, none⟩) (by have := hbw6.size; simp at this ⊢; omega)).trans qw61 | (rw [hbw5.cell (p := ⟨_, _, none⟩) (by simp <;> omega)]; simp; done) | (rw [hbw5.cell (p := ⟨_, _, none⟩) (by simp <;> omega)]; exact ((show Below w.heap.size w _ from (by repeat (first | exact Below.refl _ _ | assumption | refine Below.setCell ?_ (by first | exact Nat.le_refl _ | (simp; done) | (simp; omega) | (simp at *; omega)) _ | refine Below.alloc ?_ (by first | exact Nat.le_refl _ | (simp; done) | (simp; omega) | (simp at *; omega)) _ | refine Below.drew ?_))).cell (p := ⟨_, _, none⟩) z0).trans h0)
         have qw52 : w5.cell? ⟨w.heap.size, 1, none⟩ = some (.int .i64 (a.2 : Int)) := by first | exact (hbw5.cell (p := ⟨_, _, none⟩) (by have := hbw6.size; simp at this ⊢; omega)).trans qw62 | (rw [hbw5.cell (p := ⟨_, _, none⟩) (by simp <;> omega)]; simp; done) | (rw [hbw5.cell (p := ⟨_, _, none⟩) (by simp <;> omega)]; exact ((show Below w.heap.size w _ from (by repeat (first | exact Below.refl _ _ | assumption | refine Below.setCell ?_ (by first | exact Nat.le_refl _ | (simp; done) | (simp; omega) | (simp at *; omega)) _ | refine Below.alloc ?_ (by first | exact Nat.le_refl _ | (simp; done) | (simp; omega) | (simp at *; omega)) _ | refine Below.drew ?_))).cell (p := ⟨_, _, none⟩) z0).trans h0)
         have qw53 : w5.cell? ⟨w.heap.size + 1, 0, none⟩ = some (.int .i64 (b.1 : Int)) := by first | exact (hbw5.cell (p := ⟨_, _, none⟩) (by have := hbw6.size; simp at this ⊢; omega)).trans qw63 | (rw [hbw5.cell (p := ⟨_, _, none⟩) (by simp <;> omega)]; simp; done) | (rw [hbw5.cell (p := ⟨_, _, none⟩) (by simp <;> omega)]; exact ((show Below w.heap.size w _ from (by repeat (first | exact Below.refl _ _ | assumption | refine Below.setCell ?_ (by first | exact Nat.le_refl _ | (simp; done) | (simp; omega) | (simp at *; omega)) _ | refine Below.alloc ?_ (by first | exact Nat.le_refl _ | (simp; done) | (simp; omega) | (simp at *; omega)) _ | refine Below.drew ?_))).cell (p := ⟨_, _, none⟩) z0).trans h0)
         have qw54 : w5.cell? ⟨w.heap.size + 1, 1, none⟩ = some (.int .i64 (b.2 : Int)) := by first | exact (hbw5.cell (p := ⟨_, _, none⟩) (by have := hbw6.size; simp at this ⊢; omega)).trans qw64 | (rw [hbw5.cell (p := ⟨_, _, none⟩) (by simp <;> omega)]; simp; done) | (rw [hbw5.cell (p := ⟨_, _, none⟩) (by simp <;> omega)]; exact ((show Below w.heap.size w _ from (by repeat (first | exact Below.refl _ _ | assumption | refine Below.setCell ?_ (by first | exact Nat.le_refl _ | (simp; done) | (simp; omega) | (simp at *; omega)) _ | refine Below.alloc ?_ (by first | exact Nat.le_refl _ | (simp; done) | (simp; omega) | (simp at *; omega)) _ | refine Below.drew ?_))).cell (p := ⟨_, _, none⟩) z0).trans h0))
      | (go_simp
         with_reducible refine (HLb.out _ (by repeat (first | exact Below.refl _ _ | assumption | refine Below.setCell ?_ (by first | exact Nat.le_refl _ | (simp; done) | (simp; omega) | (simp at *; omega)) _ | refine Below.alloc ?_ (by first | exact Nat.le_refl _ | (simp; done) | (simp; omega) | (simp at *; omega)) _ | refine Below.drew ?_))).mono ?_
         rintro e w6 ⟨rfl, hbw6⟩
         have hBw6 : Below w.heap.size w w6 := by
           refine (show Below w.heap.size w _ → _ from fun h => h.trans (hbw6.mono h.size)) ?_
           exact (by repeat (first | exact Below.refl _ _ | assumption | refine Below.setCell ?_ (by first | exact Nat.le_refl _ | (simp; done) | (simp; omega) | (simp at *; omega)) _ | refine Below.alloc ?_ (by first | exact Nat.le_refl _ | (simp; done) | (simp; omega) | (simp at *; omega)) _ | refine Below.drew ?_))
         have qw60 : w6.cell? ⟨b6, 0, none⟩ = some (.func (.func 48) #[] #[.pointer (some ⟨b2, 0, none⟩)]) := by first | exact (hbw6.cell (p := ⟨_, _, none⟩) (by have := hbw5.size; simp at this ⊢; omega)).trans qw50 | (rw [hbw6.cell (p := ⟨_, _, none⟩) (by simp <;> omega)]; simp; done) | (rw [hbw6.cell (p := ⟨_, _, none⟩) (by simp <;> omega)]; exact ((show Below w.heap.size w _ from (by repeat (first | exact Below.refl _ _ | assumption | refine Below.setCell ?_ (by first | exact Nat.le_refl _ | (simp; done) | (simp; omega) | (simp at *; omega)) _ | refine Below.alloc ?_ (by first | exact Nat.le_refl _ | (simp; done) | (simp; omega) | (simp at *; omega)) _ | refine Below.drew ?_))).cell (p := ⟨_, _, none⟩) z0).trans h0)
         have qw61 : w6.cell? ⟨w.heap.size, 0, none⟩ = some (.int .i64 (a.1 : Int)) := by first | exact (hbw6.cell (p := ⟨_, _, none⟩) (by have := hbw5.size; simp at this ⊢; omega)).trans qw51 | (rw [hbw6.cell (p := ⟨_, _, none⟩) (by simp <;> omega)]; simp; done) | (rw [hbw6.cell (p := ⟨_, _, none⟩) (by simp <;> omega)]; exact ((show Below w.heap.size w _ from (by repeat (first | exact Below.refl _ _ | assumption | refine Below.setCell ?_ (by first | exact Nat.le_refl _ | (simp; done) | (simp; omega) | (simp at *; omega)) _ | refine Below.alloc ?_ (by first | exact Nat.le_refl _ | (simp; done) | (simp; omega) | (simp at *; omega)) _ | refine Below.drew ?_))).cell (p := ⟨_, _, none⟩) z0).trans h0)
         have qw62 : w6.cell? ⟨w.heap.size, 1, none⟩ = some (.int .i64 (a.2 : Int)) := by first | exact (hbw6.cell (p := ⟨_, _, none⟩) (by have := hbw5.size; simp at this ⊢; omega)).trans qw52 | (rw [hbw6.cell (p := ⟨_, _, none⟩) (by simp <;> omega)]; simp; done) | (rw [hbw6.cell (p := ⟨_, _, none⟩) (by simp <;> omega)]; exact ((show Below w.heap.size w _ from (by repeat (first | exact Below.refl _ _ | assumption | refine Below.setCell ?_ (by first | exact Nat.le_refl _ | (simp; done) | (simp; omega) | (simp at *; omega)) _ | refine Below.alloc ?_ (by first | exact Nat.le_refl _ | (simp; done) | (simp; omega) | (simp at *; omega)) _ | refine Below.drew ?_))).cell (p := ⟨_, _, none⟩) z0).trans h0)
         have qw63 : w6.cell? ⟨w.heap.size + 1, 0, none⟩ = some (.int .i64 (b.1 : Int)) := by first | exact (hbw6.cell (p := ⟨_, _, none⟩) (by have := hbw5.size; simp at this ⊢; omega)).trans qw53 | (rw [hbw6.cell (p := ⟨_, _, none⟩) (by simp <;> omega)]; simp; done) | (rw [hbw6.cell (p := ⟨_, _, none⟩) (by simp <;> omega)]; exact ((show Below w.heap.size w _ from (by repeat (first | exact Below.refl _ _ | assumption | refine Below.setCell ?_ (by first | exact Nat.le_refl _ | (simp; done) | (simp; omega) | (simp at *; omega)) _ | refine Below.alloc ?_ (by first | exact Nat.le_refl _ | (simp; done) | (simp; omega) | (simp at *; omega)) _ | refine Below.drew ?_))).cell (p := ⟨_, _, none⟩) z0).trans h0)
         have qw64 : w6.cell? ⟨w.heap.size + 1, 1, none⟩ = some (.int .i64 (b.2 : Int)) := by first | exact (hbw6.cell (p := ⟨_, _, none⟩) (by have := hbw5.size; simp at this ⊢; omega)).trans qw54 | (rw [hbw6.cell (p := ⟨_, _, none⟩) (by simp <;> omega)]; simp; done) | (rw [hbw6.cell (p := ⟨_, _, none⟩) (by simp <;> omega)]; exact ((show Below w.heap.size w _ from (by repeat (first | exact Below.refl _ _ | assumption | refine Below.setCell ?_ (by first | exact Nat.le_refl _ | (simp; done) | (simp; omega) | (simp at *; omega)) _ | refine Below.alloc ?_ (by first | exact Nat.le_refl _ | (simp; done) | (simp; omega) | (simp at *; omega)) _ | refine Below.drew ?_))).cell (p := ⟨_, _, none⟩) z0).trans h0))
      | (go_simp
         with_reducible refine (compare_any _ _ _).mono ?_
         rintro e w7 ⟨rfl, rfl⟩))
  all_goals
    go_wp2
    go_ret
    exact ⟨rfl, by assumption⟩
end Go.Proofs.Ytmbcfbehchpfbaa
