/- The laws on words: called with any value, header or word they return true, and nothing that was there is changed. -/
import Derived.Test.YthpdgpeoadlhjaaWords
import Derived.Laws.StructEq
namespace Go.Proofs.Ythpdgpeoadlhjaa
open Go.RowKit

theorem headW_bounds (l a : Int) (m : Bool) (h0 : 0 ≤ l) (h1 : l ≤ 4) (h2 : 0 ≤ a) (h3 : a ≤ 7) : 0 ≤ headW l a m ∧ headW l a m < 18446744073709551616 := by
  unfold headW; split <;> omega
theorem headW_parts (l a : Int) (m : Bool) (h0 : 0 ≤ l) (h1 : l ≤ 4) (h2 : 0 ≤ a) (h3 : a ≤ 7) :
    headW l a m % 256 = l ∧ headW l a m / 512 % 8 = a ∧ (headW l a m / 256 % 2 == 1) = m := by
  unfold headW
  cases m
  · refine ⟨by simp; omega, by simp; omega, ?_⟩
    simp; omega
  · refine ⟨by simp; omega, by simp; omega, ?_⟩
    simp; omega
theorem headW_isHead (l a : Int) (m : Bool) (h0 : 0 ≤ l) (h1 : l ≤ 4) (h2 : 0 ≤ a) (h3 : a ≤ 7) : isHead (headW l a m) := by
  obtain ⟨p, q, r⟩ := headW_parts l a m h0 h1 h2 h3
  exact ⟨by rw [p]; exact h1, by rw [p, q, r]⟩
theorem headW_ne (l a : Int) (m : Bool) (h0 : 0 ≤ l) (h2 : 0 ≤ a) : (headW l a m == 0) = false := by
  unfold headW; simp; split <;> omega
theorem headW_xor (l a : Int) (m : Bool) (h0 : 0 ≤ l) (h1 : l ≤ 4) (h2 : 0 ≤ a) (h3 : a ≤ 7) :
    (bits BinOp.xor IntKind.u64 (headW l a m) (headW l a (!m)) == 256) = true := by
  have ha : a = 0 ∨ a = 1 ∨ a = 2 ∨ a = 3 ∨ a = 4 ∨ a = 5 ∨ a = 6 ∨ a = 7 := by omega
  have hl : l = 0 ∨ l = 1 ∨ l = 2 ∨ l = 3 ∨ l = 4 := by omega
  cases m <;> rcases ha with rfl | rfl | rfl | rfl | rfl | rfl | rfl | rfl <;> rcases hl with rfl | rfl | rfl | rfl | rfl <;> decide +kernel

set_option maxHeartbeats 400000 in
theorem headed_bad (l a : Int) (m : Bool) (w : World) (h : l < 0 ∨ 4 < l ∨ a < 0 ∨ 7 < a) :
    Calls Try.prog 3 #[.agg #[.int .i64 l, .bool m, .int .i64 a]] w fun e w' => e = .returned (.bool true) ∧ Below w.heap.size w w' := by
  rcases Int.lt_or_le l 0 with hl | hl
  · go_enter Try.func3, Try.ntmps3
    go_wp2_with fail
    refine (head_bad _ _ _ _ (by omega)).mono ?_
    rintro e w1 ⟨rfl, hb⟩
    obtain ⟨hc, hf⟩ := bcell hb
    go_wp2
    go_ret
    exact ⟨rfl, (by repeat (first | exact Below.refl _ _ | refine Below.setCell ?_ (by first | exact Nat.le_refl _ | (simp; done) | (simp; omega) | (simp at *; omega)) _ | refine Below.alloc ?_ (by first | exact Nat.le_refl _ | (simp; done) | (simp; omega) | (simp at *; omega)) _ | refine Below.drew ?_ | refine Below.trans ?_ (Below.mono (by assumption) (by first | exact Nat.le_refl _ | (simp; done) | (simp; omega) | (simp at *; omega)))))⟩
  · have h' : 4 < l ∨ a < 0 ∨ 7 < a := by omega
    clear h
    go_enter Try.func3, Try.ntmps3
    go_wp2_with fail
    refine (head_bad _ _ _ _ (by omega)).mono ?_
    rintro e w1 ⟨rfl, hb⟩
    obtain ⟨hc, hf⟩ := bcell hb
    go_wp2
    all_goals (go_ret; first | exact ⟨rfl, (by repeat (first | exact Below.refl _ _ | refine Below.setCell ?_ (by first | exact Nat.le_refl _ | (simp; done) | (simp; omega) | (simp at *; omega)) _ | refine Below.alloc ?_ (by first | exact Nat.le_refl _ | (simp; done) | (simp; omega) | (simp at *; omega)) _ | refine Below.drew ?_ | refine Below.trans ?_ (Below.mono (by assumption) (by first | exact Nat.le_refl _ | (simp; done) | (simp; omega) | (simp at *; omega)))))⟩ | (exfalso; omega) | exact ⟨congrArg (fun b => Ending.returned (.bool b)) (by simp; omega), (by repeat (first | exact Below.refl _ _ | refine Below.setCell ?_ (by first | exact Nat.le_refl _ | (simp; done) | (simp; omega) | (simp at *; omega)) _ | refine Below.alloc ?_ (by first | exact Nat.le_refl _ | (simp; done) | (simp; omega) | (simp at *; omega)) _ | refine Below.drew ?_ | refine Below.trans ?_ (Below.mono (by assumption) (by first | exact Nat.le_refl _ | (simp; done) | (simp; omega) | (simp at *; omega)))))⟩)
set_option maxHeartbeats 400000 in
theorem headed_ok (l a : Int) (m : Bool) (w : World) (h0 : 0 ≤ l) (h1 : l ≤ 4) (h2 : 0 ≤ a) (h3 : a ≤ 7) :
    Calls Try.prog 3 #[.agg #[.int .i64 l, .bool m, .int .i64 a]] w fun e w' => e = .returned (.bool true) ∧ Below w.heap.size w w' := by
  obtain ⟨b0, b1⟩ := headW_bounds l a m h0 h1 h2 h3
  have hp := headW_parts l a m h0 h1 h2 h3
  have Hp := Lib.hid hp
  have hi := headW_isHead l a m h0 h1 h2 h3
  have Hi := Lib.hid hi
  have hx := headW_xor l a m h0 h1 h2 h3
  clear hp hi
  go_enter Try.func3, Try.ntmps3
  go_wp2_with fail
  refine (head_ok _ _ _ _ (by omega) (by omega) (by omega) (by omega)).mono ?_
  rintro e w1 ⟨rfl, hb⟩
  obtain ⟨hc, hf⟩ := bcell hb
  go_wp2_with fail
  refine (unhead_yes _ _ b0 b1 Hi.out).mono ?_
  rw [Hp.out.1, Hp.out.2.1, Hp.out.2.2]
  rintro e w2 ⟨rfl, hb2⟩
  obtain ⟨hc2, hf2⟩ := bcell hb2
  have s1 : w.heap.size < w1.heap.size := by have := hb.size; simp at this; omega
  have s2 : w.heap.size < w2.heap.size := by have := hb2.size; omega
  have s2' : w1.heap.size ≤ w2.heap.size := hb2.size
  go_wp2_with fail
  refine (head_ok _ _ _ _ (by omega) (by omega) (by omega) (by omega)).mono ?_
  rintro e w3 ⟨rfl, hb3⟩
  obtain ⟨hc3, hf3⟩ := bcell hb3
  have s3 : w2.heap.size + 1 < w3.heap.size := by have := hb3.size; simp at this; omega
  have t3 : w2.heap.size < w3.heap.size := by omega
  have t4 : w.heap.size < w3.heap.size := by omega
  have q0 : w3.cell? ⟨w.heap.size, 0, none⟩ = some (.int .i64 l) := by rw [hc3 _ _ (by simp; omega)]; go_simp
  have q1 : w3.cell? ⟨w.heap.size, 1, none⟩ = some (.bool m) := by rw [hc3 _ _ (by simp; omega)]; go_simp
  have q2 : w3.cell? ⟨w.heap.size, 2, none⟩ = some (.int .i64 a) := by rw [hc3 _ _ (by simp; omega)]; go_simp
  go_wp2
  go_ret
  exact ⟨rfl, (by repeat (first | exact Below.refl _ _ | refine Below.setCell ?_ (by first | exact Nat.le_refl _ | (simp; done) | (simp; omega) | (simp at *; omega)) _ | refine Below.alloc ?_ (by first | exact Nat.le_refl _ | (simp; done) | (simp; omega) | (simp at *; omega)) _ | refine Below.drew ?_ | refine Below.trans ?_ (Below.mono (by assumption) (by first | exact Nat.le_refl _ | (simp; done) | (simp; omega) | (simp at *; omega)))))⟩
end Go.Proofs.Ythpdgpeoadlhjaa
