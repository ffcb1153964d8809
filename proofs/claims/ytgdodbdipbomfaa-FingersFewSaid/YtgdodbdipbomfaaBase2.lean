/- Texts Words Aa Aw Rk in one. -/
import Derived.Test.YtgdodbdipbomfaaRows
import Derived.WalkKit
import Derived.WalkSpells
import Derived.WalkLawsBesides
import Derived.Lib.Hide
import Derived.Test.YtgdodbdipbomfaaBase1
/- The functions of package words and of the laws on them, walked: what each call returns; none changes what was there. -/
namespace Go.Proofs.Ytgdodbdipbomfaa
open Go.RowKit

theorem bcell {W w1 : World} (hb : Below W.heap.size W w1) : (∀ b o, b < W.heap.size → w1.cell? ⟨b, o, none⟩ = W.cell? ⟨b, o, none⟩) ∧ (∀ b o, b < W.heap.size → w1.frozen? ⟨b, o, none⟩ = W.frozen? ⟨b, o, none⟩) :=
  ⟨fun b o h => hb.cell (p := ⟨b, o, none⟩) h, fun b o h => hb.frozen (p := ⟨b, o, none⟩) h⟩

/-- A header's word. -/
def headW (l a : Int) (m : Bool) : Int := 11889503016258109440 + 512 * a + l + if m then 256 else 0

theorem head_bits (l a : Int) (h0 : 0 ≤ l) (h1 : l ≤ 4) (h2 : 0 ≤ a) (h3 : a ≤ 7) :
    bits BinOp.or IntKind.u64 (bits BinOp.or IntKind.u64 11889503016258109440 (a * 512)) l = headW l a false ∧
    bits BinOp.or IntKind.u64 (bits BinOp.or IntKind.u64 (bits BinOp.or IntKind.u64 11889503016258109440 (a * 512)) l) 256 = headW l a true := by
  have ha : a = 0 ∨ a = 1 ∨ a = 2 ∨ a = 3 ∨ a = 4 ∨ a = 5 ∨ a = 6 ∨ a = 7 := by omega
  have hl : l = 0 ∨ l = 1 ∨ l = 2 ∨ l = 3 ∨ l = 4 := by omega
  rcases ha with rfl | rfl | rfl | rfl | rfl | rfl | rfl | rfl <;> rcases hl with rfl | rfl | rfl | rfl | rfl <;> exact ⟨by decide +kernel, by decide +kernel⟩

set_option maxHeartbeats 400000 in
theorem head_bad (l a : Int) (m : Bool) (w : World) (h : l < 0 ∨ 4 < l ∨ a < 0 ∨ 7 < a) :
    Calls Try.prog 58 #[.agg #[.int .i64 l, .bool m, .int .i64 a]] w fun e w' => e = .returned (.tuple #[.int .u64 0, .int .i64 3]) ∧ Below w.heap.size w w' := by
  go_enter Try.func58, Try.ntmps58
  go_wp2
  all_goals (go_ret2; exact ⟨rfl, (Below.refl _ _).alloc (Nat.le_refl _) _⟩)

theorem ret_u64 {a b : Int} (v : Value) (h : a = b) : Ending.returned (.tuple #[.int .u64 a, v]) = .returned (.tuple #[.int .u64 b, v]) := by rw [h]

set_option maxHeartbeats 400000 in
theorem head_ok (l a : Int) (m : Bool) (w : World) (h0 : 0 ≤ l) (h1 : l ≤ 4) (h2 : 0 ≤ a) (h3 : a ≤ 7) :
    Calls Try.prog 58 #[.agg #[.int .i64 l, .bool m, .int .i64 a]] w fun e w' => e = .returned (.tuple #[.int .u64 (headW l a m), .int .i64 0]) ∧ Below w.heap.size w w' := by
  have hh := head_bits l a h0 h1 h2 h3
  cases m
  · have H := hh.1
    have HH := Lib.hid H
    clear hh H
    go_enter Try.func58, Try.ntmps58
    go_wp2
    go_ret2
    exact ⟨ret_u64 _ HH.out, (Below.refl _ _).alloc (Nat.le_refl _) _⟩
  · have H := hh.2
    have HH := Lib.hid H
    clear hh H
    go_enter Try.func58, Try.ntmps58
    go_wp2
    go_ret2
    exact ⟨ret_u64 _ HH.out, (Below.refl _ _).alloc (Nat.le_refl _) _⟩

theorem and255 (n : Int) (h : 0 ≤ n) (h' : n < 18446744073709551616) : bits BinOp.and IntKind.u64 n 255 = n % 256 :=
  bits_mask .u64 64 (by decide) (fun n a b => IntWalk.u64_in n (by omega)) 8 (by decide) n h h'
theorem and7 (n : Int) (h : 0 ≤ n) (h' : n < 18446744073709551616) : bits BinOp.and IntKind.u64 n 7 = n % 8 :=
  bits_mask .u64 64 (by decide) (fun n a b => IntWalk.u64_in n (by omega)) 3 (by decide) n h h'
theorem and1 (n : Int) (h : 0 ≤ n) (h' : n < 18446744073709551616) : bits BinOp.and IntKind.u64 n 1 = n % 2 :=
  bits_mask .u64 64 (by decide) (fun n a b => IntWalk.u64_in n (by omega)) 1 (by decide) n h h'

set_option maxHeartbeats 400000 in
theorem unhead_bad0 (n l a : Int) (m : Bool) (w : World) (_h : 0 ≤ n) (_h' : n < 18446744073709551616) (e1 : bits BinOp.and IntKind.u64 n 255 = l)
    (e2 : (bits BinOp.and IntKind.u64 (n / 256) 1 == 1) = m) (e3 : bits BinOp.and IntKind.u64 (n / 512) 7 = a)
    (l0 : 4 < l) (l1 : l ≤ 255) (a0 : 0 ≤ a) (a1 : a ≤ 7) :
    Calls Try.prog 65 #[.int .u64 n] w fun e w' => e = .returned (.tuple #[.agg #[.int .i64 0, .bool false, .int .i64 0], .int .i64 4]) ∧ Below w.heap.size w w' := by
  go_enter Try.func65, Try.ntmps65
  go_wp2_with fail
  refine (head_bad _ _ _ _ (by omega)).mono ?_
  rintro e w1 ⟨rfl, hb⟩
  obtain ⟨hc, hf⟩ := bcell hb
  have q0 : w1.cell? ⟨w.heap.size, 0, none⟩ = some (.int .i64 0) := by rw [hc _ _ (by first | exact Nat.le_refl _ | (simp; done) | (simp; omega) | (simp at *; omega))]; simp
  have q1 : w1.cell? ⟨w.heap.size, 1, none⟩ = some (.bool false) := by rw [hc _ _ (by first | exact Nat.le_refl _ | (simp; done) | (simp; omega) | (simp at *; omega))]; simp
  have q2 : w1.cell? ⟨w.heap.size, 2, none⟩ = some (.int .i64 0) := by rw [hc _ _ (by first | exact Nat.le_refl _ | (simp; done) | (simp; omega) | (simp at *; omega))]; simp
  go_wp2
  refine bodyPost_ret (v := .tuple #[.agg #[.int .i64 0, .bool false, .int .i64 0], .int .i64 4]) (by simp [results, Try.results65, go_sem, q0, q1, q2]) rfl ⟨rfl, ?_⟩
  exact (by repeat (first | exact Below.refl _ _ | refine Below.setCell ?_ (by first | exact Nat.le_refl _ | (simp; done) | (simp; omega) | (simp at *; omega)) _ | refine Below.alloc ?_ (by first | exact Nat.le_refl _ | (simp; done) | (simp; omega) | (simp at *; omega)) _ | refine Below.drew ?_ | refine Below.trans ?_ (Below.mono (by assumption) (by first | exact Nat.le_refl _ | (simp; done) | (simp; omega) | (simp at *; omega)))))

set_option maxHeartbeats 400000 in
theorem unhead_any0 (n l a : Int) (m : Bool) (w : World) (_h : 0 ≤ n) (_h' : n < 18446744073709551616) (e1 : bits BinOp.and IntKind.u64 n 255 = l)
    (e2 : (bits BinOp.and IntKind.u64 (n / 256) 1 == 1) = m) (e3 : bits BinOp.and IntKind.u64 (n / 512) 7 = a)
    (l0 : 0 ≤ l) (l1 : l ≤ 4) (a0 : 0 ≤ a) (a1 : a ≤ 7) :
    Calls Try.prog 65 #[.int .u64 n] w fun e w' => e = .returned (if headW l a m = n then .tuple #[.agg #[.int .i64 l, .bool m, .int .i64 a], .int .i64 0] else .tuple #[.agg #[.int .i64 0, .bool false, .int .i64 0], .int .i64 4]) ∧ Below w.heap.size w w' := by
  by_cases hn : headW l a m = n
  · have hnb : (headW l a m != n) = false := by simp [hn]
    rw [if_pos hn]
    clear hn
    go_enter Try.func65, Try.ntmps65
    go_wp2_with fail
    refine (head_ok _ _ _ _ (by omega) (by omega) (by omega) (by omega)).mono ?_
    rintro e w1 ⟨rfl, hb⟩
    obtain ⟨hc, hf⟩ := bcell hb
    have q0 : w1.cell? ⟨w.heap.size, 0, none⟩ = some (.int .i64 0) := by rw [hc _ _ (by first | exact Nat.le_refl _ | (simp; done) | (simp; omega) | (simp at *; omega))]; simp
    have q1 : w1.cell? ⟨w.heap.size, 1, none⟩ = some (.bool false) := by rw [hc _ _ (by first | exact Nat.le_refl _ | (simp; done) | (simp; omega) | (simp at *; omega))]; simp
    have q2 : w1.cell? ⟨w.heap.size, 2, none⟩ = some (.int .i64 0) := by rw [hc _ _ (by first | exact Nat.le_refl _ | (simp; done) | (simp; omega) | (simp at *; omega))]; simp
    go_wp2
    refine bodyPost_ret (v := .tuple #[.agg #[.int .i64 l, .bool m, .int .i64 a], .int .i64 0]) (by simp [results, Try.results65, go_sem, q0, q1, q2]) rfl ⟨rfl, ?_⟩
    exact (by repeat (first | exact Below.refl _ _ | refine Below.setCell ?_ (by first | exact Nat.le_refl _ | (simp; done) | (simp; omega) | (simp at *; omega)) _ | refine Below.alloc ?_ (by first | exact Nat.le_refl _ | (simp; done) | (simp; omega) | (simp at *; omega)) _ | refine Below.drew ?_ | refine Below.trans ?_ (Below.mono (by assumption) (by first | exact Nat.le_refl _ | (simp; done) | (simp; omega) | (simp at *; omega)))))
  · have hnb : (headW l a m != n) = true := by simp [hn]
    rw [if_neg hn]
    clear hn
    go_enter Try.func65, Try.ntmps65
    go_wp2_with fail
    refine (head_ok _ _ _ _ (by omega) (by omega) (by omega) (by omega)).mono ?_
    rintro e w1 ⟨rfl, hb⟩
    obtain ⟨hc, hf⟩ := bcell hb
    have q0 : w1.cell? ⟨w.heap.size, 0, none⟩ = some (.int .i64 0) := by rw [hc _ _ (by first | exact Nat.le_refl _ | (simp; done) | (simp; omega) | (simp at *; omega))]; simp
    have q1 : w1.cell? ⟨w.heap.size, 1, none⟩ = some (.bool false) := by rw [hc _ _ (by first | exact Nat.le_refl _ | (simp; done) | (simp; omega) | (simp at *; omega))]; simp
    have q2 : w1.cell? ⟨w.heap.size, 2, none⟩ = some (.int .i64 0) := by rw [hc _ _ (by first | exact Nat.le_refl _ | (simp; done) | (simp; omega) | (simp at *; omega))]; simp
    go_wp2
    refine bodyPost_ret (v := .tuple #[.agg #[.int .i64 0, .bool false, .int .i64 0], .int .i64 4]) (by simp [results, Try.results65, go_sem, q0, q1, q2]) rfl ⟨rfl, ?_⟩
    exact (by repeat (first | exact Below.refl _ _ | refine Below.setCell ?_ (by first | exact Nat.le_refl _ | (simp; done) | (simp; omega) | (simp at *; omega)) _ | refine Below.alloc ?_ (by first | exact Nat.le_refl _ | (simp; done) | (simp; omega) | (simp at *; omega)) _ | refine Below.drew ?_ | refine Below.trans ?_ (Below.mono (by assumption) (by first | exact Nat.le_refl _ | (simp; done) | (simp; omega) | (simp at *; omega)))))

/-- Is a word one of a header? -/
def isHead (n : Int) : Prop := n % 256 ≤ 4 ∧ headW (n % 256) (n / 512 % 8) (n / 256 % 2 == 1) = n

theorem unhead_yes (n : Int) (w : World) (h : 0 ≤ n) (h' : n < 18446744073709551616) (hh : isHead n) :
    Calls Try.prog 65 #[.int .u64 n] w fun e w' => e = .returned (.tuple #[.agg #[.int .i64 (n % 256), .bool (n / 256 % 2 == 1), .int .i64 (n / 512 % 8)], .int .i64 0]) ∧ Below w.heap.size w w' := by
  refine (unhead_any0 n (n % 256) (n / 512 % 8) (n / 256 % 2 == 1) w h h' (and255 n h h') (by rw [and1 _ (by omega) (by omega)]) (and7 _ (by omega) (by omega)) (by omega) hh.1 (by omega) (by omega)).mono ?_
  rintro e w' ⟨rfl, hb⟩
  exact ⟨by rw [if_pos hh.2], hb⟩

theorem unhead_no (n : Int) (w : World) (h : 0 ≤ n) (h' : n < 18446744073709551616) (hh : ¬ isHead n) :
    Calls Try.prog 65 #[.int .u64 n] w fun e w' => e = .returned (.tuple #[.agg #[.int .i64 0, .bool false, .int .i64 0], .int .i64 4]) ∧ Below w.heap.size w w' := by
  by_cases hl : n % 256 ≤ 4
  · refine (unhead_any0 n (n % 256) (n / 512 % 8) (n / 256 % 2 == 1) w h h' (and255 n h h') (by rw [and1 _ (by omega) (by omega)]) (and7 _ (by omega) (by omega)) (by omega) hl (by omega) (by omega)).mono ?_
    rintro e w' ⟨rfl, hb⟩
    exact ⟨by rw [if_neg (fun e => hh ⟨hl, e⟩)], hb⟩
  · exact unhead_bad0 n (n % 256) (n / 512 % 8) (n / 256 % 2 == 1) w h h' (and255 n h h') (by rw [and1 _ (by omega) (by omega)]) (and7 _ (by omega) (by omega)) (by omega) (by omega) (by omega) (by omega)

/-- A value's word, where there is one. -/
def packW (r : Bool) (n : Int) : Int := if r then 2 * n else (2 * n + 1) % 18446744073709551616
def canPack (r : Bool) (n : Int) : Prop := if r then 0 ≤ n ∧ n < 256 else -4611686018427387904 ≤ n ∧ n ≤ 4611686018427387903
theorem pack_bits (n : Int) : bits BinOp.or IntKind.u64 (IntKind.u64.wrap (IntKind.u64.wrap n * 2)) 1 = (2 * n + 1) % 18446744073709551616 := by
  rw [bits_join .u64 64 (by decide) (fun n a b => IntWalk.u64_in n (by omega)) 1 _ 1 (by rw [IntKind.wrap_u64]; omega) (by rw [IntKind.wrap_u64, IntKind.wrap_u64]; omega) (by rw [IntKind.wrap_u64]; omega) (by omega) (by omega) (by omega)]
  rw [IntKind.wrap_u64, IntKind.wrap_u64]; omega

set_option maxHeartbeats 400000 in
theorem pack_no (n : Int) (r : Bool) (w : World) (h : ¬ canPack r n) :
    Calls Try.prog 57 #[.agg #[.bool r, .int .i64 n]] w fun e w' => e = .returned (.tuple #[.int .u64 0, .int .i64 (if r then 2 else 3)]) ∧ Below w.heap.size w w' := by
  cases r
  · have h2 : n < -4611686018427387904 ∨ 4611686018427387903 < n := by simp [canPack] at h; omega
    clear h
    go_enter Try.func57, Try.ntmps57
    go_wp2
    all_goals (go_ret2; exact ⟨rfl, (by repeat (first | exact Below.refl _ _ | refine Below.setCell ?_ (by first | exact Nat.le_refl _ | (simp; done) | (simp; omega) | (simp at *; omega)) _ | refine Below.alloc ?_ (by first | exact Nat.le_refl _ | (simp; done) | (simp; omega) | (simp at *; omega)) _ | refine Below.drew ?_ | refine Below.trans ?_ (Below.mono (by assumption) (by first | exact Nat.le_refl _ | (simp; done) | (simp; omega) | (simp at *; omega)))))⟩)
  · have h2 : n < 0 ∨ 256 ≤ n := by simp [canPack] at h; omega
    clear h
    go_enter Try.func57, Try.ntmps57
    go_wp2
    all_goals (go_ret2; exact ⟨rfl, (by repeat (first | exact Below.refl _ _ | refine Below.setCell ?_ (by first | exact Nat.le_refl _ | (simp; done) | (simp; omega) | (simp at *; omega)) _ | refine Below.alloc ?_ (by first | exact Nat.le_refl _ | (simp; done) | (simp; omega) | (simp at *; omega)) _ | refine Below.drew ?_ | refine Below.trans ?_ (Below.mono (by assumption) (by first | exact Nat.le_refl _ | (simp; done) | (simp; omega) | (simp at *; omega)))))⟩)

set_option maxHeartbeats 400000 in
theorem pack_yes (n : Int) (r : Bool) (w : World) (h : canPack r n) :
    Calls Try.prog 57 #[.agg #[.bool r, .int .i64 n]] w fun e w' => e = .returned (.tuple #[.int .u64 (packW r n), .int .i64 0]) ∧ Below w.heap.size w w' := by
  cases r
  · have h2 : -4611686018427387904 ≤ n ∧ n ≤ 4611686018427387903 := by simpa [canPack] using h
    obtain ⟨h3, h4⟩ := h2
    clear h
    have HH := Lib.hid (pack_bits n)
    go_enter Try.func57, Try.ntmps57
    go_wp2
    go_ret2
    exact ⟨ret_u64 _ HH.out, (by repeat (first | exact Below.refl _ _ | refine Below.setCell ?_ (by first | exact Nat.le_refl _ | (simp; done) | (simp; omega) | (simp at *; omega)) _ | refine Below.alloc ?_ (by first | exact Nat.le_refl _ | (simp; done) | (simp; omega) | (simp at *; omega)) _ | refine Below.drew ?_ | refine Below.trans ?_ (Below.mono (by assumption) (by first | exact Nat.le_refl _ | (simp; done) | (simp; omega) | (simp at *; omega)))))⟩
  · have h2 : 0 ≤ n ∧ n < 256 := by simpa [canPack] using h
    obtain ⟨h3, h4⟩ := h2
    clear h
    go_enter Try.func57, Try.ntmps57
    go_wp2
    go_ret2
    exact ⟨ret_u64 _ (by simp [packW]; omega), (by repeat (first | exact Below.refl _ _ | refine Below.setCell ?_ (by first | exact Nat.le_refl _ | (simp; done) | (simp; omega) | (simp at *; omega)) _ | refine Below.alloc ?_ (by first | exact Nat.le_refl _ | (simp; done) | (simp; omega) | (simp at *; omega)) _ | refine Below.drew ?_ | refine Below.trans ?_ (Below.mono (by assumption) (by first | exact Nat.le_refl _ | (simp; done) | (simp; omega) | (simp at *; omega)))))⟩

/-- A word's value, where there is one. -/
def unpackN (n : Int) : Int := if n % 2 = 1 then wrap64 n / 2 else n / 2

set_option maxHeartbeats 400000 in
theorem unpack_int (n : Int) (w : World) (h : 0 ≤ n) (h' : n < 18446744073709551616) (hh : n % 2 = 1) :
    Calls Try.prog 61 #[.int .u64 n] w fun e w' => e = .returned (.tuple #[.agg #[.bool false, .int .i64 (wrap64 n / 2)], .int .i64 0]) ∧ Below w.heap.size w w' := by
  have h1 : (bits BinOp.and IntKind.u64 n 1 == 1) = true := by rw [and1 n h h']; simp [hh]
  clear hh
  go_enter Try.func61, Try.ntmps61
  go_wp2
  refine bodyPost_ret (v := .tuple #[.agg #[.bool false, .int .i64 (wrap64 n / 2)], .int .i64 0]) (by simp [results, Try.results61, go_sem]) rfl ⟨rfl, ?_⟩
  exact (by repeat (first | exact Below.refl _ _ | refine Below.setCell ?_ (by first | exact Nat.le_refl _ | (simp; done) | (simp; omega) | (simp at *; omega)) _ | refine Below.alloc ?_ (by first | exact Nat.le_refl _ | (simp; done) | (simp; omega) | (simp at *; omega)) _ | refine Below.drew ?_ | refine Below.trans ?_ (Below.mono (by assumption) (by first | exact Nat.le_refl _ | (simp; done) | (simp; omega) | (simp at *; omega)))))

set_option maxHeartbeats 400000 in
theorem unpack_ref (n : Int) (w : World) (h : 0 ≤ n) (h' : n < 512) (hh : n % 2 = 0) :
    Calls Try.prog 61 #[.int .u64 n] w fun e w' => e = .returned (.tuple #[.agg #[.bool true, .int .i64 (n / 2)], .int .i64 0]) ∧ Below w.heap.size w w' := by
  have h1 : (bits BinOp.and IntKind.u64 n 1 == 1) = false := by rw [and1 n h (by omega)]; simp [hh]
  clear hh
  go_enter Try.func61, Try.ntmps61
  go_wp2
  refine bodyPost_ret (v := .tuple #[.agg #[.bool true, .int .i64 (n / 2)], .int .i64 0]) (by simp [results, Try.results61, go_sem]) rfl ⟨rfl, ?_⟩
  exact (by repeat (first | exact Below.refl _ _ | refine Below.setCell ?_ (by first | exact Nat.le_refl _ | (simp; done) | (simp; omega) | (simp at *; omega)) _ | refine Below.alloc ?_ (by first | exact Nat.le_refl _ | (simp; done) | (simp; omega) | (simp at *; omega)) _ | refine Below.drew ?_ | refine Below.trans ?_ (Below.mono (by assumption) (by first | exact Nat.le_refl _ | (simp; done) | (simp; omega) | (simp at *; omega)))))

set_option maxHeartbeats 400000 in
theorem unpack_no (n : Int) (w : World) (h : 512 ≤ n) (h' : n < 18446744073709551616) (hh : n % 2 = 0) :
    Calls Try.prog 61 #[.int .u64 n] w fun e w' => e = .returned (.tuple #[.agg #[.bool false, .int .i64 0], .int .i64 2]) ∧ Below w.heap.size w w' := by
  have h1 : (bits BinOp.and IntKind.u64 n 1 == 1) = false := by rw [and1 n (by omega) (by omega)]; simp [hh]
  clear hh
  go_enter Try.func61, Try.ntmps61
  go_wp2
  refine bodyPost_ret (v := .tuple #[.agg #[.bool false, .int .i64 0], .int .i64 2]) (by simp [results, Try.results61, go_sem]) rfl ⟨rfl, ?_⟩
  exact (by repeat (first | exact Below.refl _ _ | refine Below.setCell ?_ (by first | exact Nat.le_refl _ | (simp; done) | (simp; omega) | (simp at *; omega)) _ | refine Below.alloc ?_ (by first | exact Nat.le_refl _ | (simp; done) | (simp; omega) | (simp at *; omega)) _ | refine Below.drew ?_ | refine Below.trans ?_ (Below.mono (by assumption) (by first | exact Nat.le_refl _ | (simp; done) | (simp; omega) | (simp at *; omega)))))
end Go.Proofs.Ytgdodbdipbomfaa

/- Arenas as data: rows of words that are objects, one behind the other. -/
namespace Go.Proofs.Ytgdodbdipbomfaa

/-- An object in a row of words: its header's word, and its fields' words. -/
abbrev Ob := Int × List Int
def flat (os : List Ob) : List Int := os.flatMap fun o => o.1 :: o.2
def GoodO (o : Ob) : Prop := isHead o.1 ∧ (o.2.length : Int) = o.1 % 256
def Laid (ws : List Int) (os : List Ob) : Prop := ws = flat os ∧ ∀ o ∈ os, GoodO o
def place (os : List Ob) (k : Nat) : Nat := (flat (os.take k)).length
def starts (os : List Ob) : List Int := (List.range os.length).map fun k => (place os k : Int)
/-- A word of a value, or of a reference to an object. -/
def RefOk (os : List Ob) (x : Int) : Prop := x % 2 = 1 ∨ (x % 2 = 0 ∧ x < 512 ∧ x / 2 ∈ starts os)
def allW (rs : List Int) (os : List Ob) : List Int := rs ++ os.flatMap (·.2)
structure Sound (ws rs : List Int) (os : List Ob) : Prop where
  words : ws.length ≤ 256
  roots : rs.length ≤ 8
  laid : Laid ws os
  refs : ∀ x ∈ allW rs os, RefOk os x

theorem isHead_iff (n : Int) : isHead n ↔ n % 256 ≤ 4 ∧ n / 4096 = 2902710697328640 := by
  unfold isHead headW
  constructor
  · rintro ⟨h1, h2⟩
    refine ⟨h1, ?_⟩
    split at h2 <;> omega
  · rintro ⟨h1, h2⟩
    refine ⟨h1, ?_⟩
    split
    · rename_i h3; simp at h3; omega
    · rename_i h3; simp at h3; omega
theorem isHead_len {n : Int} (h : isHead n) : 0 ≤ n % 256 ∧ n % 256 ≤ 4 := ⟨by omega, h.1⟩

theorem flat_nil : flat [] = [] := rfl
theorem flat_cons (o : Ob) (os : List Ob) : flat (o :: os) = o.1 :: (o.2 ++ flat os) := rfl
theorem flat_append (os os' : List Ob) : flat (os ++ os') = flat os ++ flat os' := List.flatMap_append
theorem flat_one (o : Ob) : flat [o] = o.1 :: o.2 := by simp [flat]
theorem flat_split : ∀ (os1 os : List Ob) (rest : List Int), flat os1 ++ rest = flat os → (∀ o ∈ os1, GoodO o) → (∀ o ∈ os, GoodO o) → ∃ os2, os = os1 ++ os2 ∧ rest = flat os2
  | [], os, rest, h, _, _ => ⟨os, rfl, by simpa [flat] using h⟩
  | o1 :: os1, [], rest, h, _, _ => by simp [flat] at h
  | o1 :: os1, o :: os, rest, h, h1, h2 => by
    rw [flat_cons, flat_cons, List.cons_append] at h
    injection h with ha hb
    have g1 := (h1 o1 List.mem_cons_self).2
    have g2 := (h2 o List.mem_cons_self).2
    rw [ha] at g1
    have hl : o1.2.length = o.2.length := by omega
    rw [List.append_assoc] at hb
    obtain ⟨hc, hd⟩ := List.append_inj hb hl
    have ho : o1 = o := Prod.ext ha hc
    subst ho
    obtain ⟨os2, he, hf⟩ := flat_split os1 os rest hd (fun x hx => h1 x (List.mem_cons_of_mem _ hx)) (fun x hx => h2 x (List.mem_cons_of_mem _ hx))
    exact ⟨os2, by rw [he]; rfl, hf⟩
theorem Laid.unique {ws : List Int} {os os' : List Ob} (h : Laid ws os) (h' : Laid ws os') : os = os' := by
  obtain ⟨os2, he, hf⟩ := flat_split os os' [] (by rw [List.append_nil, ← h.1, h'.1]) h.2 h'.2
  cases os2 with
  | nil => rw [he, List.append_nil]
  | cons o os2 => rw [flat_cons] at hf; cases hf
/-- Where the row breaks off. -/
def Broken (ws : List Int) (os : List Ob) : Prop := ∃ n t, ws = flat os ++ n :: t ∧ (∀ o ∈ os, GoodO o) ∧ ¬ (isHead n ∧ n % 256 ≤ (t.length : Int))
theorem Broken.not {ws : List Int} {os : List Ob} (h : Broken ws os) : ∀ os', ¬ Laid ws os' := by
  intro os' h'
  obtain ⟨n, t, h1, h2, h3⟩ := h
  obtain ⟨os2, he, hf⟩ := flat_split os os' (n :: t) (by rw [← h1]; exact h'.1) h2 h'.2
  cases os2 with
  | nil => cases hf
  | cons o os2 =>
    rw [flat_cons] at hf
    injection hf with ha hb
    have hg := h'.2 o (by rw [he]; simp)
    refine h3 ⟨ha ▸ hg.1, ?_⟩
    rw [hb, List.length_append, ha]
    have := hg.2
    omega
/-- So far it is laid; there is more. -/
def Part (ws : List Int) (os : List Ob) (at_ : Nat) : Prop := ∃ rest, ws = flat os ++ rest ∧ (∀ o ∈ os, GoodO o) ∧ at_ = (flat os).length
theorem Part.start (ws : List Int) : Part ws [] 0 := ⟨ws, rfl, by simp, rfl⟩
theorem Part.le {ws : List Int} {os : List Ob} {k : Nat} (h : Part ws os k) : k ≤ ws.length := by
  obtain ⟨rest, h1, _, h3⟩ := h
  rw [h1, List.length_append]; omega
theorem Part.done {ws : List Int} {os : List Ob} (h : Part ws os ws.length) : Laid ws os := by
  obtain ⟨rest, h1, h2, h3⟩ := h
  refine ⟨?_, h2⟩
  have : rest.length = 0 := by rw [h1, List.length_append] at h3; omega
  rw [h1, List.eq_nil_of_length_eq_zero this, List.append_nil]
theorem Part.next {ws : List Int} {os : List Ob} {k : Nat} (h : Part ws os k) {n : Int} (hn : ws[k]? = some n) :
    (¬ (isHead n ∧ k + 1 + n % 256 ≤ (ws.length : Int)) ∧ Broken ws os) ∨
    ∃ fs, isHead n ∧ k + 1 + n % 256 ≤ (ws.length : Int) ∧ (fs.length : Int) = n % 256 ∧ Part ws (os ++ [(n, fs)]) (k + 1 + fs.length) ∧ ∀ j x, fs[j]? = some x → ws[k + 1 + j]? = some x := by
  obtain ⟨rest, h1, h2, h3⟩ := h
  cases rest with
  | nil =>
    rw [List.append_nil] at h1
    rw [h3, h1, List.getElem?_eq_none (Nat.le_refl _)] at hn; cases hn
  | cons n' t =>
    have : n' = n := by
      rw [h1, h3, List.getElem?_append_right (Nat.le_refl _), Nat.sub_self] at hn
      simpa using hn
    subst this
    have hl : ws.length = k + 1 + t.length := by rw [h1, List.length_append, List.length_cons]; omega
    by_cases hg : isHead n' ∧ n' % 256 ≤ (t.length : Int)
    · obtain ⟨g1, g2⟩ := hg
      have g0 := (isHead_len g1).1
      obtain ⟨m, hm⟩ : ∃ m : Nat, n' % 256 = m := ⟨(n' % 256).toNat, by omega⟩
      have hml : m ≤ t.length := by omega
      have hfl : (t.take m).length = m := by rw [List.length_take]; omega
      refine .inr ⟨t.take m, g1, by omega, by rw [hfl, hm], ⟨t.drop m, ?_, ?_, ?_⟩, ?_⟩
      · rw [flat_append, flat_one, h1, List.append_assoc, List.cons_append, List.take_append_drop]
      · intro o ho
        rcases List.mem_append.1 ho with h | h
        · exact h2 o h
        · simp at h; subst h; exact ⟨g1, by show ((t.take m).length : Int) = n' % 256; omega⟩
      · rw [flat_append, flat_one, List.length_append, List.length_cons]; simp only []; omega
      · intro j x hx
        have hj := (List.getElem?_eq_some_iff.1 hx).1
        rw [hfl] at hj
        rw [List.getElem?_take_of_lt hj] at hx
        rw [h1, h3, List.getElem?_append_right (by omega), show (flat os).length + 1 + j - (flat os).length = j + 1 by omega, List.getElem?_cons_succ]; exact hx
    · exact .inl ⟨fun h => hg ⟨h.1, by have := h.2; omega⟩, n', t, h1, h2, hg⟩

/-! ### Places -/
theorem place_zero (os : List Ob) : place os 0 = 0 := rfl
theorem place_succ {os : List Ob} {k : Nat} {o : Ob} (h : os[k]? = some o) : place os (k + 1) = place os k + 1 + o.2.length := by
  unfold place
  rw [take_succ_some _ _ _ h, flat_append, List.length_append, flat_one, List.length_cons]; omega
theorem place_all (os : List Ob) : place os os.length = (flat os).length := by unfold place; rw [List.take_length]
theorem place_mono {os : List Ob} {j k : Nat} (h : j ≤ k) : place os j ≤ place os k := by
  unfold place
  have : os.take k = os.take j ++ (os.take k).drop j := by
    rw [show os.take j = (os.take k).take j by rw [List.take_take]; congr 1; omega, List.take_append_drop]
  rw [this, flat_append, List.length_append]; omega
theorem place_lt {os : List Ob} {j k : Nat} (h : j < k) (hj : j < os.length) : place os j < place os k := by
  have h1 := place_succ (List.getElem?_eq_getElem hj)
  have h2 := place_mono (os := os) (show j + 1 ≤ k by omega)
  omega
theorem place_inj {os : List Ob} {j k : Nat} (hj : j < os.length) (hk : k < os.length) (h : place os j = place os k) : j = k := by
  rcases Nat.lt_trichotomy j k with h1 | h1 | h1
  · have := place_lt h1 hj; omega
  · exact h1
  · have := place_lt h1 hk; omega
theorem flat_part {os : List Ob} {k : Nat} {o : Ob} (h : os[k]? = some o) : flat os = flat (os.take k) ++ (o.1 :: (o.2 ++ flat (os.drop (k + 1)))) := by
  conv => lhs; rw [← List.take_append_drop (k + 1) os, take_succ_some _ _ _ h, flat_append, flat_append, flat_one]
  simp
theorem Laid.head {ws : List Int} {os : List Ob} (hL : Laid ws os) {k : Nat} {o : Ob} (h : os[k]? = some o) : ws[place os k]? = some o.1 := by
  unfold place; rw [hL.1, flat_part h, List.getElem?_append_right (Nat.le_refl _)]; simp
theorem Laid.field {ws : List Int} {os : List Ob} (hL : Laid ws os) {k : Nat} {o : Ob} (h : os[k]? = some o) {j : Nat} {x : Int} (hx : o.2[j]? = some x) : ws[place os k + 1 + j]? = some x := by
  rw [hL.1, flat_part h, List.getElem?_append_right (by unfold place; omega), show place os k + 1 + j - (flat (os.take k)).length = j + 1 by unfold place; omega, List.getElem?_cons_succ, List.getElem?_append_left (List.getElem?_eq_some_iff.1 hx).1]; exact hx
theorem Laid.fit {ws : List Int} {os : List Ob} (hL : Laid ws os) {k : Nat} {o : Ob} (h : os[k]? = some o) : place os k + 1 + o.2.length ≤ ws.length := by
  rw [← place_succ h, hL.1, ← place_all]
  exact place_mono (List.getElem?_eq_some_iff.1 h).1
theorem Laid.good {ws : List Int} {os : List Ob} (hL : Laid ws os) {k : Nat} {o : Ob} (h : os[k]? = some o) : isHead o.1 ∧ (o.2.length : Int) = o.1 % 256 ∧ o.2.length ≤ 4 := by
  have := hL.2 o (List.mem_of_getElem? h)
  have h1 := isHead_len this.1
  have h2 := this.2
  exact ⟨this.1, h2, by omega⟩
theorem Laid.count {ws : List Int} {os : List Ob} (hL : Laid ws os) : os.length ≤ ws.length := by
  rw [hL.1]
  clear hL
  induction os with
  | nil => simp
  | cons o os ih => rw [flat_cons, List.length_cons, List.length_cons, List.length_append]; omega
theorem starts_len (os : List Ob) : (starts os).length = os.length := by simp [starts]
theorem starts_get {os : List Ob} {k : Nat} (h : k < os.length) : (starts os)[k]? = some (place os k : Int) := by simp [starts, h]
theorem starts_mem {os : List Ob} {x : Int} : x ∈ starts os ↔ ∃ k, k < os.length ∧ x = place os k := by
  unfold starts
  rw [List.mem_map]
  constructor
  · rintro ⟨k, hk, rfl⟩; exact ⟨k, List.mem_range.1 hk, rfl⟩
  · rintro ⟨k, hk, rfl⟩; exact ⟨k, List.mem_range.2 hk, rfl⟩
theorem starts_snoc (os : List Ob) (o : Ob) : starts (os ++ [o]) = starts os ++ [((flat os).length : Int)] := by
  unfold starts
  rw [List.length_append, List.length_singleton, List.range_succ, List.map_append]
  congr 1
  · refine List.map_congr_left fun k hk => ?_
    have := List.mem_range.1 hk
    unfold place; rw [List.take_append_of_le_length (by omega)]
  · simp [place]
theorem starts_64 {ws : List Int} {os : List Ob} (hL : Laid ws os) (h : ws.length ≤ 1000000) : ∀ x ∈ starts os, i64ok x := by
  intro x hx
  obtain ⟨k, hk, rfl⟩ := starts_mem.1 hx
  have := place_mono (os := os) (Nat.le_of_lt hk)
  rw [place_all, ← hL.1] at this
  unfold i64ok; omega
end Go.Proofs.Ytgdodbdipbomfaa

/- Rows of words in memory: what lies anywhere (IsW0), and what the call owns (rowW). -/
namespace Go.Proofs.Ytgdodbdipbomfaa
open Go.RowKit
def w64 (n : Int) : Prop := 0 ≤ n ∧ n < 18446744073709551616
def IsW0 (w : World) (v : Value) (l : List Int) : Prop :=
  ∃ a cap, v = .slice a l.length cap ∧ l.length ≤ 9223372036854775807 ∧ ∀ k x, l[k]? = some x → ∃ b off, a = some ⟨b, off, none⟩ ∧ b < w.heap.size ∧
    w.cell? ⟨b, off + k, none⟩ = some (.int .u64 x) ∧ w64 x
theorem IsW0.later {w w' : World} {v : Value} {l : List Int} (h : IsW0 w v l) (hb : Below w.heap.size w w') : IsW0 w' v l := by
  obtain ⟨a, cap, rfl, hl, hc⟩ := h
  refine ⟨a, cap, rfl, hl, fun k x hx => ?_⟩
  obtain ⟨b, off, ha, h1, h2, h4⟩ := hc k x hx
  exact ⟨b, off, ha, Nat.lt_of_lt_of_le h1 hb.size, (hb.cell (p := ⟨_, _, none⟩) h1).trans h2, h4⟩
theorem IsW0.at {w wr : World} {v : Value} {l : List Int} (h : IsW0 w v l) (hb : Below w.heap.size w wr) {k : Nat} {x : Int} (hx : l[k]? = some x) :
    ∃ b off cap, v = .slice (some ⟨b, off, none⟩) l.length cap ∧ b < w.heap.size ∧ b < wr.heap.size ∧ wr.cell? ⟨b, off + k, none⟩ = some (.int .u64 x) ∧ w64 x := by
  obtain ⟨a, cap, rfl, hl, hc⟩ := h
  obtain ⟨b, off, ha, h1, h2, h4⟩ := hc k x hx
  exact ⟨b, off, cap, by rw [ha], h1, Nat.lt_of_lt_of_le h1 hb.size, (hb.cell (p := ⟨_, _, none⟩) h1).trans h2, h4⟩
theorem IsW0.slice {w : World} {v : Value} {l : List Int} (h : IsW0 w v l) : ∃ a cap, v = .slice a l.length cap ∧ l.length ≤ 9223372036854775807 := by
  obtain ⟨a, cap, rfl, hl, _⟩ := h; exact ⟨a, cap, rfl, hl⟩
theorem isW0_of_own {w : World} {B : Nat} {e : TypeId} {v : Value} {l : List Int} (h : w.ownsRow B e 1 v l.length (l.map (.int .u64))) (hl : l.length ≤ 1000000) (hn : ∀ x ∈ l, w64 x) : IsW0 w v l := by
  rcases h.2 with ⟨rfl, h0⟩ | ⟨g, cap, cur, rfl, _, hg, _⟩
  · have : l = [] := List.eq_nil_of_length_eq_zero h0
    subst this
    exact ⟨none, 0, rfl, by simp, by simp⟩
  · refine ⟨_, cap, rfl, by omega, fun k x hx => ?_⟩
    have hk : k < l.length := (List.getElem?_eq_some_iff.1 hx).1
    refine ⟨g, 0, rfl, (Array.getElem?_eq_some_iff.1 hg).1, ?_, hn x (List.mem_of_getElem? hx)⟩
    rw [Nat.zero_add, h.cellAt _ (by omega)]
    simp [hx]

/-- .. and there is room for what lies there. -/
def IsW (w : World) (v : Value) (l : List Int) : Prop := (∃ a c, v = .slice a l.length c ∧ l.length ≤ c) ∧ IsW0 w v l
theorem IsW.later {w w' : World} {v : Value} {l : List Int} (h : IsW w v l) (hb : Below w.heap.size w w') : IsW w' v l := ⟨h.1, h.2.later hb⟩
theorem IsW.at {w wr : World} {v : Value} {l : List Int} (h : IsW w v l) (hb : Below w.heap.size w wr) {k : Nat} {x : Int} (hx : l[k]? = some x) :
    ∃ b off cap, v = .slice (some ⟨b, off, none⟩) l.length cap ∧ b < w.heap.size ∧ b < wr.heap.size ∧ wr.cell? ⟨b, off + k, none⟩ = some (.int .u64 x) ∧ w64 x := h.2.at hb hx
theorem IsW.slice {w : World} {v : Value} {l : List Int} (h : IsW w v l) : ∃ a cap, v = .slice a l.length cap ∧ l.length ≤ 9223372036854775807 := h.2.slice
theorem IsW.cap {w : World} {a : Option Addr} {n c : Nat} {l : List Int} (h : IsW w (.slice a n c) l) : l.length ≤ c := by
  obtain ⟨⟨a', c', h1, h2⟩, _⟩ := h
  cases h1; exact h2
theorem isW_of_own {w : World} {B : Nat} {e : TypeId} {v : Value} {l : List Int} (h : w.ownsRow B e 1 v l.length (l.map (.int .u64))) (hl : l.length ≤ 1000000) (hn : ∀ x ∈ l, w64 x) : IsW w v l := by
  refine ⟨?_, isW0_of_own h hl hn⟩
  rcases h.2 with ⟨rfl, h0⟩ | ⟨g, cap, cur, rfl, _, _, hc, _⟩
  · exact ⟨none, 0, by rw [h0], by omega⟩
  · exact ⟨_, cap, rfl, hc⟩
/-- A part of it. -/
theorem IsW.part {w : World} {v : Value} {l : List Int} (h : IsW w v l) {b off n c : Nat} (hv : v = .slice (some ⟨b, off, none⟩) n c) (k : Nat) (fs : List Int) (hf : ∀ j x, fs[j]? = some x → l[k + j]? = some x) (hk : k + fs.length ≤ l.length) :
    IsW w (.slice (some ⟨b, off + k, none⟩) fs.length (c - k)) fs := by
  subst hv
  have hc := h.cap
  obtain ⟨a, cap, hv, hl⟩ := h.slice
  cases hv
  refine ⟨⟨_, _, rfl, by omega⟩, _, _, rfl, by omega, fun j x hx => ?_⟩
  obtain ⟨b', off', cap', hv, h1, _, h2, h3⟩ := h.at (Below.refl _ _) (hf j x hx)
  cases hv
  exact ⟨b, off + k, rfl, h1, by rw [← h2]; congr 2; omega, h3⟩
section
variable {P : Program} {B : Nat} {w0 w : World} {L : List Ent} {t e : TypeId} {z : Value}
def rowW (e : TypeId) (v : Value) (l : List Int) : Ent := erow e 1 v l.length (l.map (.int .u64))
theorem Mem.wp_appW (T : Elem P t e 1 8 z) {ops : Array Oper} {rest : List Oper} {o : Oper} {ac : Act} {Q : Exit → Act → World → Prop} (hgd : o.guard = none) (s x : Operand)
    (ho : o.op = .call { callee := .builtin .append, args := #[s, x], argTypes := #[t, t] }) (h : Mem B w0 w L) (k : Nat) {v : Value} {l : List Int} (hk : L[k]? = some (rowW e v l))
    (hs : ac.eval s = v) (c : Nat) (y : Int) (e2 : TypeId) (bl : Nat) (hx : ac.eval x = .slice (some ⟨bl, 0, none⟩) 1 c) (hbl : w.heap.size = bl) (hn : l.length ≤ 1000000)
    (hh : ∀ ad n' cap w', Hid (n' = l.length + 1) → Mem B w0 w' (L.set k (rowW e (.slice ad n' cap) (l ++ [y]))) → w.heap.size < w'.heap.size →
      (∀ b, b < w.heap.size → v.ownBlock ≠ some b → w'.heap[b]? = w.heap[b]?) → ad ≠ none → wpList P ops Q rest (ac.put o.dst (.slice ad n' cap)) w') :
    wpList P ops Q (o :: rest) ac (w.alloc (.cells #[.int .u64 y] e2)) := by
  refine Mem.wp_app1 T hgd s x ho h k hk hs c _ e2 bl hx hbl rfl rfl (by decide) hn ?_
  intro ad cap w' h1 h2 h3 h4
  refine hh ad _ cap w' (Lib.hid rfl) (h1.cast ?_) h2 h3 h4
  simp [rowW]
theorem Mem.run_appW (T : Elem P t e 1 8 z) (ty : TypeId) (h : Mem B w0 w L) (k : Nat) {v : Value} {l : List Int} (hk : L[k]? = some (rowW e v l)) (y : Int) (bl c : Nat)
    (hc : w.cell? ⟨bl, 0, none⟩ = some (.int .u64 y)) (hn : l.length ≤ 1000000) :
    ∃ ad n' cap w', (Builtin.append_ #[t, t] ty #[v, .slice (some ⟨bl, 0, none⟩) 1 c]).run P w = .ok (.slice ad n' cap) w' ∧ Hid (n' = l.length + 1) ∧ Mem B w0 w' (L.set k (rowW e (.slice ad n' cap) (l ++ [y]))) ∧
      w.heap.size ≤ w'.heap.size ∧ (∀ b, b < w.heap.size → v.ownBlock ≠ some b → w'.heap[b]? = w.heap[b]?) := by
  obtain ⟨v', w', h1, h2, h3, h4, _, ad, cap, rfl⟩ := h.run_append T ty k hk ⟨bl, 0, none⟩ 1 c [.int .u64 y] rfl (by
    intro j u hj
    cases j with
    | zero => simp at hj; subst hj; simpa [Addr.add] using hc
    | succ j => simp at hj) (by simp [Value.oneCell']) (by simp only [maxLen]; omega) (by omega)
  exact ⟨ad, _, cap, w', h1, Lib.hid rfl, h2.cast (by simp [rowW]), h3, h4⟩
theorem Mem.nilW (h : Mem B w0 w L) (e : TypeId) : Mem B w0 w (rowW e (.slice none 0 0) [] :: L) := h.nil e 1
theorem Mem.ownW (h : Mem B w0 w L) (k : Nat) {v : Value} {l : List Int} (hk : L[k]? = some (rowW e v l)) : w.ownsRow B e 1 v l.length (l.map (.int .u64)) := h.row k hk
theorem Mem.run_appWs (T : Elem P t e 1 8 z) (ty : TypeId) (h : Mem B w0 w L) (k : Nat) {v u : Value} {l m : List Int} (hk : L[k]? = some (rowW e v l)) (hu : IsW w u m) (hl : l.length + m.length ≤ 1000000) :
    ∃ v' w', (Builtin.append_ #[t, t] ty #[v, u]).run P w = .ok v' w' ∧ Mem B w0 w' (L.set k (rowW e v' (l ++ m))) ∧ w.heap.size ≤ w'.heap.size ∧
      (∀ b, b < w.heap.size → v.ownBlock ≠ some b → w'.heap[b]? = w.heap[b]?) ∧ ∃ ad cap, v' = .slice ad (l.length + m.length) cap := by
  obtain ⟨a, c, rfl, hm⟩ := hu.slice
  have hrow := h.row k hk
  by_cases h0 : m = []
  · subst h0
    cases a with
    | none =>
      obtain ⟨i, hi, hz, hsz, hby⟩ := T.info
      refine ⟨v, w, ?_, ?_, Nat.le_refl _, fun _ _ _ => rfl, ?_⟩
      · rcases hrow.2 with ⟨rfl, _⟩ | ⟨g, cap, cur, rfl, _, _, hnc, _⟩
        · simp [Builtin.append_, run_underlying T.under, sizeOf, typeInfo, hi, Builtin.lenOf, Builtin.firstCells]
        · simp [Builtin.append_, run_underlying T.under, sizeOf, typeInfo, hi, Builtin.lenOf, Builtin.firstCells, hnc, storeCells]
      · have hkl : k < L.length := by
          rcases Nat.lt_or_ge k L.length with h' | h'
          · exact h'
          · simp [List.getElem?_eq_none h'] at hk
        have hxe : L[k] = rowW e v l := by simpa [List.getElem?_eq_getElem hkl] using hk
        refine h.cast ?_
        rw [List.append_nil, ← hxe, List.set_getElem_self]
      · rcases hrow.2 with ⟨rfl, hn⟩ | ⟨g, cap, cur, rfl, _⟩
        · exact ⟨none, 0, by rw [hn]; rfl⟩
        · exact ⟨_, cap, rfl⟩
    | some a =>
      obtain ⟨v', w', h1, h2, h3, h4, _, ad, cap, rfl⟩ := h.run_append T ty k hk a 0 c [] rfl (by intro j u hj; cases hj) (by simp) (by simp only [maxLen]; simp at hl; omega) (by simp at hl; omega)
      exact ⟨_, w', h1, h2.cast (by simp [rowW]), h3, h4, ad, cap, rfl⟩
  · obtain ⟨x, hx⟩ := get_some m 0 (by cases m with | nil => exact absurd rfl h0 | cons => simp)
    obtain ⟨b, off, cap2, hv, _⟩ := hu.at (Below.refl _ _) hx
    cases hv
    obtain ⟨v', w', h1, h2, h3, h4, _, ad, cap, rfl⟩ := h.run_append T ty k hk ⟨b, off, none⟩ m.length c (m.map (.int .u64)) (by simp) (by
      intro j u hj
      rw [List.getElem?_map] at hj
      cases hy : m[j]? with
      | none => rw [hy] at hj; cases hj
      | some y =>
        rw [hy] at hj
        obtain ⟨b', off', cap3, hv, _, _, hc, _⟩ := hu.at (Below.refl _ _) hy
        cases hv
        cases hj
        by_cases hj0 : j = 0
        · subst hj0; simpa [Addr.add] using hc
        · simpa [Addr.add, hj0] using hc) (by intro u hu; obtain ⟨y, _, rfl⟩ := List.mem_map.1 hu; rfl) (by simp only [maxLen]; omega) (by omega)
    exact ⟨_, w', h1, h2.cast (by simp [rowW]), h3, h4, ad, cap, rfl⟩
/-- .. as a step of a region that draws its order. -/
theorem Mem.step_appWs (T : Elem P t e 1 8 z) {ops : Array Oper} {o : Oper} {ac : Act} {K : Act → World → Prop} {Q : Exit → Act → World → Prop} {E : Prop} (hgd : o.guard = none) (s x : Operand)
    (ho : o.op = .call { callee := .builtin .append, args := #[s, x], argTypes := #[t, t] }) (h : Mem B w0 w L) (k : Nat) {v u : Value} {l m : List Int} (hk : L[k]? = some (rowW e v l))
    (hs : ac.eval s = v) (hx : ac.eval x = u) (hu : IsW w u m) (hl : l.length + m.length ≤ 1000000)
    (hh : ∀ v' w', Mem B w0 w' (L.set k (rowW e v' (l ++ m))) → w.heap.size ≤ w'.heap.size → (∀ b, b < w.heap.size → v.ownBlock ≠ some b → w'.heap[b]? = w.heap[b]?) → K (ac.put o.dst v') w') :
    if Region.wanted o (yielded ops ac.tmps) = true then Oper.wp P o ac w K Q else E := by
  obtain ⟨v', w', hr, h2, h3, h4, _⟩ := h.run_appWs T o.type k hk hu hl
  exact step_append_eq' hgd s x t ho hs hx hr (hh v' w' h2 h3 h4)
theorem Mem.wp_appWs (T : Elem P t e 1 8 z) {ops : Array Oper} {rest : List Oper} {o : Oper} {ac : Act} {Q : Exit → Act → World → Prop} (hgd : o.guard = none) (s x : Operand)
    (ho : o.op = .call { callee := .builtin .append, args := #[s, x], argTypes := #[t, t] }) (h : Mem B w0 w L) (k : Nat) {v u : Value} {l m : List Int} (hk : L[k]? = some (rowW e v l))
    (hs : ac.eval s = v) (hx : ac.eval x = u) (hu : IsW w u m) (hl : l.length + m.length ≤ 1000000)
    (hh : ∀ v' w', Mem B w0 w' (L.set k (rowW e v' (l ++ m))) → w.heap.size ≤ w'.heap.size → (∀ b, b < w.heap.size → v.ownBlock ≠ some b → w'.heap[b]? = w.heap[b]?) → wpList P ops Q rest (ac.put o.dst v') w') :
    wpList P ops Q (o :: rest) ac w := by
  refine wpList_plain hgd fun K hK => ?_
  obtain ⟨v', w', hr, h2, h3, h4, _⟩ := h.run_appWs T o.type k hk hu hl
  unfold Oper.wp execOp
  simp only [ho, resolve, invoke, builtin, Sem.run_bind, Sem.run_pure, Result.andThen_ok, List.map_toArray, List.map_cons, List.map_nil, hs, hx, hr]
  exact hK _ _ (hh v' w' h2 h3 h4)
end
end Go.Proofs.Ytgdodbdipbomfaa

/- arena.Ref, walked; a row of words of the call's own, read and written. -/
namespace Go.Proofs.Ytgdodbdipbomfaa
open Go.RowKit Go.Shelf

set_option maxHeartbeats 400000 in
theorem aref_ref (n : Int) (w : World) (h : 0 ≤ n) (h' : n < 512) (hh : n % 2 = 0) :
    Calls Try.prog 40 #[.int .u64 n] w fun e w' => e = .returned (.tuple #[.int .i64 (n / 2), .bool true]) ∧ w' = w := by
  have h1 : (bits BinOp.and IntKind.u64 n 1 == 0) = true := by rw [and1 n h (by omega)]; simp [hh]
  clear hh
  go_enter Try.func40, Try.ntmps40
  go_wp2
  go_ret2
  exact ⟨rfl, rfl⟩
set_option maxHeartbeats 400000 in
theorem aref_int (n : Int) (w : World) (h : 0 ≤ n) (h' : n < 18446744073709551616) (hh : n % 2 = 1) :
    Calls Try.prog 40 #[.int .u64 n] w fun e w' => e = .returned (.tuple #[.int .i64 (n / 2), .bool false]) ∧ w' = w := by
  have h1 : (bits BinOp.and IntKind.u64 n 1 == 0) = false := by rw [and1 n h (by omega)]; simp [hh]
  clear hh
  go_enter Try.func40, Try.ntmps40
  go_wp2
  go_ret2
  exact ⟨rfl, rfl⟩
theorem own_row {B : Nat} {w : World} {e : TypeId} {sz n : Nat} {v : Value} {xs : List Value} (h : w.ownsRow B e sz v n xs) : ∃ a c, v = .slice a n c := by
  rcases h.2 with ⟨rfl, h0⟩ | ⟨g, cap, cur, rfl, _⟩
  · exact ⟨_, _, by rw [h0]⟩
  · exact ⟨_, _, rfl⟩
theorem Mem.wordsAt {B : Nat} {w0 w : World} {L : List Ent} (h : Mem B w0 w L) (k : Nat) {e : TypeId} {v : Value} {l : List Int} (hk : L[k]? = some (rowW e v l)) {j : Nat} {x : Int} (hj : l[j]? = some x) :
    ∃ g cap, v = .slice (some ⟨g, 0, none⟩) l.length cap ∧ g < w.heap.size ∧ w.cell? ⟨g, j, none⟩ = some (.int .u64 x) ∧ w.frozen? ⟨g, j, none⟩ = false := by
  have hr := h.ownW k hk
  have hjl := (List.getElem?_eq_some_iff.1 hj).1
  rcases hr.2 with ⟨_, h0⟩ | ⟨g, cap, cur, rfl, hB, hg, _⟩
  · omega
  · refine ⟨g, cap, rfl, (Array.getElem?_eq_some_iff.1 hg).1, ?_, hr.frozenAt j⟩
    rw [hr.cellAt j (by omega)]
    simp [hj]
theorem Mem.setW {B : Nat} {w0 w : World} {L : List Ent} (h : Mem B w0 w L) (k : Nat) {e : TypeId} {b m cap : Nat} {l : List Int} (hk : L[k]? = some (rowW e (.slice (some ⟨b, 0, none⟩) m cap) l)) (hm : l.length = m) (j : Nat) (x : Int) :
    Mem B w0 (w.setCell ⟨b, j, none⟩ (.int .u64 x)) (L.set k (rowW e (.slice (some ⟨b, 0, none⟩) m cap) (l.set j x))) := by
  subst hm
  exact (h.setRow k hk j (.int .u64 x)).cast (by simp [rowW, List.map_set])
end Go.Proofs.Ytgdodbdipbomfaa
