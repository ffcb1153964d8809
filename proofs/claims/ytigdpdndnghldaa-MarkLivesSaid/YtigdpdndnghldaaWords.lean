/- The functions of package words and of the laws on them, walked: what each call returns; none changes what was there. -/
import Derived.Test.YtigdpdndnghldaaRows
import Derived.WalkKit
import Derived.WalkSpells
import Derived.WalkLawsBesides
import Derived.Lib.Hide
namespace Go.Proofs.Ytigdpdndnghldaa
open Go.RowKit

theorem bcell {W w1 : World} (hb : Below W.heap.size W w1) : (∀ b o, b < W.heap.size → w1.cell? ⟨b, o, none⟩ = W.cell? ⟨b, o, none⟩) ∧ (∀ b o, b < W.heap.size → w1.frozen? ⟨b, o, none⟩ = W.frozen? ⟨b, o, none⟩) :=
  ⟨fun b o h => hb.cell (p := ⟨b, o, none⟩) h, fun b o h => hb.frozen (p := ⟨b, o, none⟩) h⟩

/-- A header's word. -/
def headW (l a : Int) (m : Bool) : Int := 11889503016258109440 + 512 * a + l + if m then 256 else 0

theorem head_bits (l a : Int) (h0 : 0 ≤ l) (h1 : l ≤ 4) (h2 : 0 ≤ a) (h3 : a ≤ 7) :
    bits BinOp.or IntKind.u64 (bits BinOp.or IntKind.u64 11889503016258109440 (a * 512)) l = headW l a false ∧
    bits BinOp.or IntKind.u64 (bits BinOp.or IntKind.u64 (bits BinOp.or IntKind.u64 11889503016258109440 (a * 512)) l) 256 = headW l a true := by
  have ha : a = 0 ∨ a = 1 ∨ a = 2 ∨ a = 3 ∨ a = 4 ∨ a = 5 ∨ a = 6 ∨ a = 7 := by omega
  have hl : l = 0 ∨ l = 1 ∨ l = 2 ∨ l = 3 ∨ l = 4 := by omega
  rcases ha with rfl | rfl | rfl | rfl | rfl | rfl | rfl | rfl <;> rcases hl with rfl | rfl | rfl | rfl | rfl <;> exact ⟨by decide +kernel, by decide +kernel⟩

set_option maxHeartbeats 400000 in
theorem head_bad (l a : Int) (m : Bool) (w : World) (h : l < 0 ∨ 4 < l ∨ a < 0 ∨ 7 < a) :
    Calls Try.prog 51 #[.agg #[.int .i64 l, .bool m, .int .i64 a]] w fun e w' => e = .returned (.tuple #[.int .u64 0, .int .i64 3]) ∧ Below w.heap.size w w' := by
  go_enter Try.func51, Try.ntmps51
  go_wp2
  all_goals (go_ret2; exact ⟨rfl, (Below.refl _ _).alloc (Nat.le_refl _) _⟩)

theorem ret_u64 {a b : Int} (v : Value) (h : a = b) : Ending.returned (.tuple #[.int .u64 a, v]) = .returned (.tuple #[.int .u64 b, v]) := by rw [h]

set_option maxHeartbeats 400000 in
theorem head_ok (l a : Int) (m : Bool) (w : World) (h0 : 0 ≤ l) (h1 : l ≤ 4) (h2 : 0 ≤ a) (h3 : a ≤ 7) :
    Calls Try.prog 51 #[.agg #[.int .i64 l, .bool m, .int .i64 a]] w fun e w' => e = .returned (.tuple #[.int .u64 (headW l a m), .int .i64 0]) ∧ Below w.heap.size w w' := by
  have hh := head_bits l a h0 h1 h2 h3
  cases m
  · have H := hh.1
    have HH := Lib.hid H
    clear hh H
    go_enter Try.func51, Try.ntmps51
    go_wp2
    go_ret2
    exact ⟨ret_u64 _ HH.out, (Below.refl _ _).alloc (Nat.le_refl _) _⟩
  · have H := hh.2
    have HH := Lib.hid H
    clear hh H
    go_enter Try.func51, Try.ntmps51
    go_wp2
    go_ret2
    exact ⟨ret_u64 _ HH.out, (Below.refl _ _).alloc (Nat.le_refl _) _⟩

theorem and255 (n : Int) (h : 0 ≤ n) (h' : n < 18446744073709551616) : bits BinOp.and IntKind.u64 n 255 = n % 256 :=
  bits_mask .u64 64 (by decide) (fun n a b => IntWalk.u64_in n (by omega)) 8 (by decide) n h h'
theorem and7 (n : Int) (h : 0 ≤ n) (h' : n < 18446744073709551616) : bits BinOp.and IntKind.u64 n 7 = n % 8 :=
  bits_mask .u64 64 (by decide) (fun n a b => IntWalk.u64_in n (by omega)) 3 (by decide) n h h'
theorem and1 (n : Int) (h : 0 ≤ n) (h' : n < 18446744073709551616) : bits BinOp.and IntKind.u64 n 1 = n % 2 :=
  bits_mask .u64 64 (by decide) (fun n a b => IntWalk.u64_in n (by omega)) 1 (by decide) n h h'

set_option maxHeartbeats 400000 in
theorem unhead_bad0 (n l a : Int) (m : Bool) (w : World) (_h : 0 ≤ n) (_h' : n < 18446744073709551616) (e1 : bits BinOp.and IntKind.u64 n 255 = l)
    (e2 : (bits BinOp.and IntKind.u64 (n / 256) 1 == 1) = m) (e3 : bits BinOp.and IntKind.u64 (n / 512) 7 = a)
    (l0 : 4 < l) (l1 : l ≤ 255) (a0 : 0 ≤ a) (a1 : a ≤ 7) :
    Calls Try.prog 62 #[.int .u64 n] w fun e w' => e = .returned (.tuple #[.agg #[.int .i64 0, .bool false, .int .i64 0], .int .i64 4]) ∧ Below w.heap.size w w' := by
  go_enter Try.func62, Try.ntmps62
  go_wp2_with fail
  refine (head_bad _ _ _ _ (by omega)).mono ?_
  rintro e w1 ⟨rfl, hb⟩
  obtain ⟨hc, hf⟩ := bcell hb
  have q0 : w1.cell? ⟨w.heap.size, 0, none⟩ = some (.int .i64 0) := by rw [hc _ _ (by first | exact Nat.le_refl _ | (simp; done) | (simp; omega) | (simp at *; omega))]; simp
  have q1 : w1.cell? ⟨w.heap.size, 1, none⟩ = some (.bool false) := by rw [hc _ _ (by first | exact Nat.le_refl _ | (simp; done) | (simp; omega) | (simp at *; omega))]; simp
  have q2 : w1.cell? ⟨w.heap.size, 2, none⟩ = some (.int .i64 0) := by rw [hc _ _ (by first | exact Nat.le_refl _ | (simp; done) | (simp; omega) | (simp at *; omega))]; simp
  go_wp2
  refine bodyPost_ret (v := .tuple #[.agg #[.int .i64 0, .bool false, .int .i64 0], .int .i64 4]) (by simp [results, Try.results62, go_sem, q0, q1, q2]) rfl ⟨rfl, ?_⟩
  exact (by repeat (first | exact Below.refl _ _ | refine Below.setCell ?_ (by first | exact Nat.le_refl _ | (simp; done) | (simp; omega) | (simp at *; omega)) _ | refine Below.alloc ?_ (by first | exact Nat.le_refl _ | (simp; done) | (simp; omega) | (simp at *; omega)) _ | refine Below.drew ?_ | refine Below.trans ?_ (Below.mono (by assumption) (by first | exact Nat.le_refl _ | (simp; done) | (simp; omega) | (simp at *; omega)))))

set_option maxHeartbeats 400000 in
theorem unhead_any0 (n l a : Int) (m : Bool) (w : World) (_h : 0 ≤ n) (_h' : n < 18446744073709551616) (e1 : bits BinOp.and IntKind.u64 n 255 = l)
    (e2 : (bits BinOp.and IntKind.u64 (n / 256) 1 == 1) = m) (e3 : bits BinOp.and IntKind.u64 (n / 512) 7 = a)
    (l0 : 0 ≤ l) (l1 : l ≤ 4) (a0 : 0 ≤ a) (a1 : a ≤ 7) :
    Calls Try.prog 62 #[.int .u64 n] w fun e w' => e = .returned (if headW l a m = n then .tuple #[.agg #[.int .i64 l, .bool m, .int .i64 a], .int .i64 0] else .tuple #[.agg #[.int .i64 0, .bool false, .int .i64 0], .int .i64 4]) ∧ Below w.heap.size w w' := by
  by_cases hn : headW l a m = n
  · have hnb : (headW l a m != n) = false := by simp [hn]
    rw [if_pos hn]
    clear hn
    go_enter Try.func62, Try.ntmps62
    go_wp2_with fail
    refine (head_ok _ _ _ _ (by omega) (by omega) (by omega) (by omega)).mono ?_
    rintro e w1 ⟨rfl, hb⟩
    obtain ⟨hc, hf⟩ := bcell hb
    have q0 : w1.cell? ⟨w.heap.size, 0, none⟩ = some (.int .i64 0) := by rw [hc _ _ (by first | exact Nat.le_refl _ | (simp; done) | (simp; omega) | (simp at *; omega))]; simp
    have q1 : w1.cell? ⟨w.heap.size, 1, none⟩ = some (.bool false) := by rw [hc _ _ (by first | exact Nat.le_refl _ | (simp; done) | (simp; omega) | (simp at *; omega))]; simp
    have q2 : w1.cell? ⟨w.heap.size, 2, none⟩ = some (.int .i64 0) := by rw [hc _ _ (by first | exact Nat.le_refl _ | (simp; done) | (simp; omega) | (simp at *; omega))]; simp
    go_wp2
    refine bodyPost_ret (v := .tuple #[.agg #[.int .i64 l, .bool m, .int .i64 a], .int .i64 0]) (by simp [results, Try.results62, go_sem, q0, q1, q2]) rfl ⟨rfl, ?_⟩
    exact (by repeat (first | exact Below.refl _ _ | refine Below.setCell ?_ (by first | exact Nat.le_refl _ | (simp; done) | (simp; omega) | (simp at *; omega)) _ | refine Below.alloc ?_ (by first | exact Nat.le_refl _ | (simp; done) | (simp; omega) | (simp at *; omega)) _ | refine Below.drew ?_ | refine Below.trans ?_ (Below.mono (by assumption) (by first | exact Nat.le_refl _ | (simp; done) | (simp; omega) | (simp at *; omega)))))
  · have hnb : (headW l a m != n) = true := by simp [hn]
    rw [if_neg hn]
    clear hn
    go_enter Try.func62, Try.ntmps62
    go_wp2_with fail
    refine (head_ok _ _ _ _ (by omega) (by omega) (by omega) (by omega)).mono ?_
    rintro e w1 ⟨rfl, hb⟩
    obtain ⟨hc, hf⟩ := bcell hb
    have q0 : w1.cell? ⟨w.heap.size, 0, none⟩ = some (.int .i64 0) := by rw [hc _ _ (by first | exact Nat.le_refl _ | (simp; done) | (simp; omega) | (simp at *; omega))]; simp
    have q1 : w1.cell? ⟨w.heap.size, 1, none⟩ = some (.bool false) := by rw [hc _ _ (by first | exact Nat.le_refl _ | (simp; done) | (simp; omega) | (simp at *; omega))]; simp
    have q2 : w1.cell? ⟨w.heap.size, 2, none⟩ = some (.int .i64 0) := by rw [hc _ _ (by first | exact Nat.le_refl _ | (simp; done) | (simp; omega) | (simp at *; omega))]; simp
    go_wp2
    refine bodyPost_ret (v := .tuple #[.agg #[.int .i64 0, .bool false, .int .i64 0], .int .i64 4]) (by simp [results, Try.results62, go_sem, q0, q1, q2]) rfl ⟨rfl, ?_⟩
    exact (by repeat (first | exact Below.refl _ _ | refine Below.setCell ?_ (by first | exact Nat.le_refl _ | (simp; done) | (simp; omega) | (simp at *; omega)) _ | refine Below.alloc ?_ (by first | exact Nat.le_refl _ | (simp; done) | (simp; omega) | (simp at *; omega)) _ | refine Below.drew ?_ | refine Below.trans ?_ (Below.mono (by assumption) (by first | exact Nat.le_refl _ | (simp; done) | (simp; omega) | (simp at *; omega)))))

/-- Is a word one of a header? -/
def isHead (n : Int) : Prop := n % 256 ≤ 4 ∧ headW (n % 256) (n / 512 % 8) (n / 256 % 2 == 1) = n

theorem unhead_yes (n : Int) (w : World) (h : 0 ≤ n) (h' : n < 18446744073709551616) (hh : isHead n) :
    Calls Try.prog 62 #[.int .u64 n] w fun e w' => e = .returned (.tuple #[.agg #[.int .i64 (n % 256), .bool (n / 256 % 2 == 1), .int .i64 (n / 512 % 8)], .int .i64 0]) ∧ Below w.heap.size w w' := by
  refine (unhead_any0 n (n % 256) (n / 512 % 8) (n / 256 % 2 == 1) w h h' (and255 n h h') (by rw [and1 _ (by omega) (by omega)]) (and7 _ (by omega) (by omega)) (by omega) hh.1 (by omega) (by omega)).mono ?_
  rintro e w' ⟨rfl, hb⟩
  exact ⟨by rw [if_pos hh.2], hb⟩

theorem unhead_no (n : Int) (w : World) (h : 0 ≤ n) (h' : n < 18446744073709551616) (hh : ¬ isHead n) :
    Calls Try.prog 62 #[.int .u64 n] w fun e w' => e = .returned (.tuple #[.agg #[.int .i64 0, .bool false, .int .i64 0], .int .i64 4]) ∧ Below w.heap.size w w' := by
  by_cases hl : n % 256 ≤ 4
  · refine (unhead_any0 n (n % 256) (n / 512 % 8) (n / 256 % 2 == 1) w h h' (and255 n h h') (by rw [and1 _ (by omega) (by omega)]) (and7 _ (by omega) (by omega)) (by omega) hl (by omega) (by omega)).mono ?_
    rintro e w' ⟨rfl, hb⟩
    exact ⟨by rw [if_neg (fun e => hh ⟨hl, e⟩)], hb⟩
  · exact unhead_bad0 n (n % 256) (n / 512 % 8) (n / 256 % 2 == 1) w h h' (and255 n h h') (by rw [and1 _ (by omega) (by omega)]) (and7 _ (by omega) (by omega)) (by omega) (by omega) (by omega) (by omega)

/-- A value's word, where there is one. -/
def packW (r : Bool) (n : Int) : Int := if r then 2 * n else (2 * n + 1) % 18446744073709551616
def canPack (r : Bool) (n : Int) : Prop := if r then 0 ≤ n ∧ n < 256 else -4611686018427387904 ≤ n ∧ n ≤ 4611686018427387903
theorem pack_bits (n : Int) : bits BinOp.or IntKind.u64 (IntKind.u64.wrap (IntKind.u64.wrap n * 2)) 1 = (2 * n + 1) % 18446744073709551616 := by
  rw [bits_join .u64 64 (by decide) (fun n a b => IntWalk.u64_in n (by omega)) 1 _ 1 (by rw [IntKind.wrap_u64]; omega) (by rw [IntKind.wrap_u64, IntKind.wrap_u64]; omega) (by rw [IntKind.wrap_u64]; omega) (by omega) (by omega) (by omega)]
  rw [IntKind.wrap_u64, IntKind.wrap_u64]; omega

set_option maxHeartbeats 400000 in
theorem pack_no (n : Int) (r : Bool) (w : World) (h : ¬ canPack r n) :
    Calls Try.prog 50 #[.agg #[.bool r, .int .i64 n]] w fun e w' => e = .returned (.tuple #[.int .u64 0, .int .i64 (if r then 2 else 3)]) ∧ Below w.heap.size w w' := by
  cases r
  · have h2 : n < -4611686018427387904 ∨ 4611686018427387903 < n := by simp [canPack] at h; omega
    clear h
    go_enter Try.func50, Try.ntmps50
    go_wp2
    all_goals (go_ret2; exact ⟨rfl, (by repeat (first | exact Below.refl _ _ | refine Below.setCell ?_ (by first | exact Nat.le_refl _ | (simp; done) | (simp; omega) | (simp at *; omega)) _ | refine Below.alloc ?_ (by first | exact Nat.le_refl _ | (simp; done) | (simp; omega) | (simp at *; omega)) _ | refine Below.drew ?_ | refine Below.trans ?_ (Below.mono (by assumption) (by first | exact Nat.le_refl _ | (simp; done) | (simp; omega) | (simp at *; omega)))))⟩)
  · have h2 : n < 0 ∨ 256 ≤ n := by simp [canPack] at h; omega
    clear h
    go_enter Try.func50, Try.ntmps50
    go_wp2
    all_goals (go_ret2; exact ⟨rfl, (by repeat (first | exact Below.refl _ _ | refine Below.setCell ?_ (by first | exact Nat.le_refl _ | (simp; done) | (simp; omega) | (simp at *; omega)) _ | refine Below.alloc ?_ (by first | exact Nat.le_refl _ | (simp; done) | (simp; omega) | (simp at *; omega)) _ | refine Below.drew ?_ | refine Below.trans ?_ (Below.mono (by assumption) (by first | exact Nat.le_refl _ | (simp; done) | (simp; omega) | (simp at *; omega)))))⟩)

set_option maxHeartbeats 400000 in
theorem pack_yes (n : Int) (r : Bool) (w : World) (h : canPack r n) :
    Calls Try.prog 50 #[.agg #[.bool r, .int .i64 n]] w fun e w' => e = .returned (.tuple #[.int .u64 (packW r n), .int .i64 0]) ∧ Below w.heap.size w w' := by
  cases r
  · have h2 : -4611686018427387904 ≤ n ∧ n ≤ 4611686018427387903 := by simpa [canPack] using h
    obtain ⟨h3, h4⟩ := h2
    clear h
    have HH := Lib.hid (pack_bits n)
    go_enter Try.func50, Try.ntmps50
    go_wp2
    go_ret2
    exact ⟨ret_u64 _ HH.out, (by repeat (first | exact Below.refl _ _ | refine Below.setCell ?_ (by first | exact Nat.le_refl _ | (simp; done) | (simp; omega) | (simp at *; omega)) _ | refine Below.alloc ?_ (by first | exact Nat.le_refl _ | (simp; done) | (simp; omega) | (simp at *; omega)) _ | refine Below.drew ?_ | refine Below.trans ?_ (Below.mono (by assumption) (by first | exact Nat.le_refl _ | (simp; done) | (simp; omega) | (simp at *; omega)))))⟩
  · have h2 : 0 ≤ n ∧ n < 256 := by simpa [canPack] using h
    obtain ⟨h3, h4⟩ := h2
    clear h
    go_enter Try.func50, Try.ntmps50
    go_wp2
    go_ret2
    exact ⟨ret_u64 _ (by simp [packW]; omega), (by repeat (first | exact Below.refl _ _ | refine Below.setCell ?_ (by first | exact Nat.le_refl _ | (simp; done) | (simp; omega) | (simp at *; omega)) _ | refine Below.alloc ?_ (by first | exact Nat.le_refl _ | (simp; done) | (simp; omega) | (simp at *; omega)) _ | refine Below.drew ?_ | refine Below.trans ?_ (Below.mono (by assumption) (by first | exact Nat.le_refl _ | (simp; done) | (simp; omega) | (simp at *; omega)))))⟩

/-- A word's value, where there is one. -/
def unpackN (n : Int) : Int := if n % 2 = 1 then wrap64 n / 2 else n / 2

set_option maxHeartbeats 400000 in
theorem unpack_int (n : Int) (w : World) (h : 0 ≤ n) (h' : n < 18446744073709551616) (hh : n % 2 = 1) :
    Calls Try.prog 45 #[.int .u64 n] w fun e w' => e = .returned (.tuple #[.agg #[.bool false, .int .i64 (wrap64 n / 2)], .int .i64 0]) ∧ Below w.heap.size w w' := by
  have h1 : (bits BinOp.and IntKind.u64 n 1 == 1) = true := by rw [and1 n h h']; simp [hh]
  clear hh
  go_enter Try.func45, Try.ntmps45
  go_wp2
  refine bodyPost_ret (v := .tuple #[.agg #[.bool false, .int .i64 (wrap64 n / 2)], .int .i64 0]) (by simp [results, Try.results45, go_sem]) rfl ⟨rfl, ?_⟩
  exact (by repeat (first | exact Below.refl _ _ | refine Below.setCell ?_ (by first | exact Nat.le_refl _ | (simp; done) | (simp; omega) | (simp at *; omega)) _ | refine Below.alloc ?_ (by first | exact Nat.le_refl _ | (simp; done) | (simp; omega) | (simp at *; omega)) _ | refine Below.drew ?_ | refine Below.trans ?_ (Below.mono (by assumption) (by first | exact Nat.le_refl _ | (simp; done) | (simp; omega) | (simp at *; omega)))))

set_option maxHeartbeats 400000 in
theorem unpack_ref (n : Int) (w : World) (h : 0 ≤ n) (h' : n < 512) (hh : n % 2 = 0) :
    Calls Try.prog 45 #[.int .u64 n] w fun e w' => e = .returned (.tuple #[.agg #[.bool true, .int .i64 (n / 2)], .int .i64 0]) ∧ Below w.heap.size w w' := by
  have h1 : (bits BinOp.and IntKind.u64 n 1 == 1) = false := by rw [and1 n h (by omega)]; simp [hh]
  clear hh
  go_enter Try.func45, Try.ntmps45
  go_wp2
  refine bodyPost_ret (v := .tuple #[.agg #[.bool true, .int .i64 (n / 2)], .int .i64 0]) (by simp [results, Try.results45, go_sem]) rfl ⟨rfl, ?_⟩
  exact (by repeat (first | exact Below.refl _ _ | refine Below.setCell ?_ (by first | exact Nat.le_refl _ | (simp; done) | (simp; omega) | (simp at *; omega)) _ | refine Below.alloc ?_ (by first | exact Nat.le_refl _ | (simp; done) | (simp; omega) | (simp at *; omega)) _ | refine Below.drew ?_ | refine Below.trans ?_ (Below.mono (by assumption) (by first | exact Nat.le_refl _ | (simp; done) | (simp; omega) | (simp at *; omega)))))

set_option maxHeartbeats 400000 in
theorem unpack_no (n : Int) (w : World) (h : 512 ≤ n) (h' : n < 18446744073709551616) (hh : n % 2 = 0) :
    Calls Try.prog 45 #[.int .u64 n] w fun e w' => e = .returned (.tuple #[.agg #[.bool false, .int .i64 0], .int .i64 2]) ∧ Below w.heap.size w w' := by
  have h1 : (bits BinOp.and IntKind.u64 n 1 == 1) = false := by rw [and1 n (by omega) (by omega)]; simp [hh]
  clear hh
  go_enter Try.func45, Try.ntmps45
  go_wp2
  refine bodyPost_ret (v := .tuple #[.agg #[.bool false, .int .i64 0], .int .i64 2]) (by simp [results, Try.results45, go_sem]) rfl ⟨rfl, ?_⟩
  exact (by repeat (first | exact Below.refl _ _ | refine Below.setCell ?_ (by first | exact Nat.le_refl _ | (simp; done) | (simp; omega) | (simp at *; omega)) _ | refine Below.alloc ?_ (by first | exact Nat.le_refl _ | (simp; done) | (simp; omega) | (simp at *; omega)) _ | refine Below.drew ?_ | refine Below.trans ?_ (Below.mono (by assumption) (by first | exact Nat.le_refl _ | (simp; done) | (simp; omega) | (simp at *; omega)))))
end Go.Proofs.Ytigdpdndnghldaa
