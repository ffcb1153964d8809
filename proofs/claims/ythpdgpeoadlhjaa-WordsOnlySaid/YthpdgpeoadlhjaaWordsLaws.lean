/- The laws on words: called with any value, header or word they return true, and nothing that was there is changed. -/
import Derived.Test.YthpdgpeoadlhjaaWords
import Derived.Laws.StructEq
namespace Go.Proofs.Ythpdgpeoadlhjaa
open Go.RowKit

theorem headW_bounds (l a : Int) (m : Bool) (h0 : 0 ≤ l) (h1 : l ≤ 4) (h2 : 0 ≤ a) (h3 : a ≤ 7) : 0 ≤ headW l a m ∧ headW l a m < 18446744073709551616 := by
  unfold headW; split <;> omega
theorem headW_parts (l a : Int) (m : Bool) (h0 : 0 ≤ l) (h1 : l ≤ 4) (h2 : 0 ≤ a) (h3 : a ≤ 7) :
    headW l a m % 256 = l ∧ headW l a m / 512 % 8 = a ∧ (headW l a m / 256 % 2 == 1) = m := by
  unfold headW
  cases m
  · refine ⟨by simp; omega, by simp; omega, ?_⟩
    simp; omega
  · refine ⟨by simp; omega, by simp; omega, ?_⟩
    simp; omega
theorem headW_isHead (l a : Int) (m : Bool) (h0 : 0 ≤ l) (h1 : l ≤ 4) (h2 : 0 ≤ a) (h3 : a ≤ 7) : isHead (headW l a m) := by
  obtain ⟨p, q, r⟩ := headW_parts l a m h0 h1 h2 h3
  exact ⟨by rw [p]; exact h1, by rw [p, q, r]⟩
theorem headW_ne (l a : Int) (m : Bool) (h0 : 0 ≤ l) (h2 : 0 ≤ a) : (headW l a m == 0) = false := by
  unfold headW; simp; split <;> omega
theorem headW_xor (l a : Int) (m : Bool) (h0 : 0 ≤ l) (h1 : l ≤ 4) (h2 : 0 ≤ a) (h3 : a ≤ 7) :
    (bits BinOp.xor IntKind.u64 (headW l a m) (headW l a (!m)) == 256) = true := by
  have ha : a = 0 ∨ a = 1 ∨ a = 2 ∨ a = 3 ∨ a = 4 ∨ a = 5 ∨ a = 6 ∨ a = 7 := by omega
  have hl : l = 0 ∨ l = 1 ∨ l = 2 ∨ l = 3 ∨ l = 4 := by omega
  cases m <;> rcases ha with rfl | rfl | rfl | rfl | rfl | rfl | rfl | rfl <;> rcases hl with rfl | rfl | rfl | rfl | rfl <;> decide +kernel

set_option maxHeartbeats 400000 in
theorem headed_bad (l a : Int) (m : Bool) (w : World) (h : l < 0 ∨ 4 < l ∨ a < 0 ∨ 7 < a) :
    Calls Try.prog 3 #[.agg #[.int .i64 l, .bool m, .int .i64 a]] w fun e w' => e = .returned (.bool true) ∧ Below w.heap.size w w' := by
  rcases Int.lt_or_le l 0 with hl | hl
  · go_enter Try.func3, Try.ntmps3
    go_wp2_with fail
    refine (head_bad _ _ _ _ (by omega)).mono ?_
    rintro e w1 ⟨rfl, hb⟩
    obtain ⟨hc, hf⟩ := bcell hb
    go_wp2
    go_ret
    exact ⟨rfl, (by repeat (first | exact Below.refl _ _ | refine Below.setCell ?_ (by first | exact Nat.le_refl _ | (simp; done) | (simp; omega) | (simp at *; omega)) _ | refine Below.alloc ?_ (by first | exact Nat.le_refl _ | (simp; done) | (simp; omega) | (simp at *; omega)) _ | refine Below.drew ?_ | refine Below.trans ?_ (Below.mono (by assumption) (by first | exact Nat.le_refl _ | (simp; done) | (simp; omega) | (simp at *; omega)))))⟩
  · have h' : 4 < l ∨ a < 0 ∨ 7 < a := by omega
    clear h
    go_enter Try.func3, Try.ntmps3
    go_wp2_with fail
    refine (head_bad _ _ _ _ (by omega)).mono ?_
    rintro e w1 ⟨rfl, hb⟩
    obtain ⟨hc, hf⟩ := bcell hb
    go_wp2
    all_goals (go_ret; first | exact ⟨rfl, (by repeat (first | exact Below.refl _ _ | refine Below.setCell ?_ (by first | exact Nat.le_refl _ | (simp; done) | (simp; omega) | (simp at *; omega)) _ | refine Below.alloc ?_ (by first | exact Nat.le_refl _ | (simp; done) | (simp; omega) | (simp at *; omega)) _ | refine Below.drew ?_ | refine Below.trans ?_ (Below.mono (by assumption) (by first | exact Nat.le_refl _ | (simp; done) | (simp; omega) | (simp at *; omega)))))⟩ | (exfalso; omega) | exact ⟨congrArg (fun b => Ending.returned (.bool b)) (by simp; omega), (by repeat (first | exact Below.refl _ _ | refine Below.setCell ?_ (by first | exact Nat.le_refl _ | (simp; done) | (simp; omega) | (simp at *; omega)) _ | refine Below.alloc ?_ (by first | exact Nat.le_refl _ | (simp; done) | (simp; omega) | (simp at *; omega)) _ | refine Below.drew ?_ | refine Below.trans ?_ (Below.mono (by assumption) (by first | exact Nat.le_refl _ | (simp; done) | (simp; omega) | (simp at *; omega)))))⟩)
set_option maxHeartbeats 400000 in
theorem headed_ok (l a : Int) (m : Bool) (w : World) (h0 : 0 ≤ l) (h1 : l ≤ 4) (h2 : 0 ≤ a) (h3 : a ≤ 7) :
    Calls Try.prog 3 #[.agg #[.int .i64 l, .bool m, .int .i64 a]] w fun e w' => e = .returned (.bool true) ∧ Below w.heap.size w w' := by
  obtain ⟨b0, b1⟩ := headW_bounds l a m h0 h1 h2 h3
  have hp := headW_parts l a m h0 h1 h2 h3
  have Hp := Lib.hid hp
  have hi := headW_isHead l a m h0 h1 h2 h3
  have Hi := Lib.hid hi
  have hx := headW_xor l a m h0 h1 h2 h3
  clear hp hi
  go_enter Try.func3, Try.ntmps3
  go_wp2_with fail
  refine (head_ok _ _ _ _ (by omega) (by omega) (by omega) (by omega)).mono ?_
  rintro e w1 ⟨rfl, hb⟩
  obtain ⟨hc, hf⟩ := bcell hb
  go_wp2_with fail
  refine (unhead_yes _ _ b0 b1 Hi.out).mono ?_
  rw [Hp.out.1, Hp.out.2.1, Hp.out.2.2]
  rintro e w2 ⟨rfl, hb2⟩
  obtain ⟨hc2, hf2⟩ := bcell hb2
  have s1 : w.heap.size < w1.heap.size := by have := hb.size; simp at this; omega
  have s2 : w.heap.size < w2.heap.size := by have := hb2.size; omega
  have s2' : w1.heap.size ≤ w2.heap.size := hb2.size
  go_wp2_with fail
  refine (head_ok _ _ _ _ (by omega) (by omega) (by omega) (by omega)).mono ?_
  rintro e w3 ⟨rfl, hb3⟩
  obtain ⟨hc3, hf3⟩ := bcell hb3
  have s3 : w2.heap.size + 1 < w3.heap.size := by have := hb3.size; simp at this; omega
  have t3 : w2.heap.size < w3.heap.size := by omega
  have t4 : w.heap.size < w3.heap.size := by omega
  have q0 : w3.cell? ⟨w.heap.size, 0, none⟩ = some (.int .i64 l) := by rw [hc3 _ _ (by simp; omega)]; go_simp
  have q1 : w3.cell? ⟨w.heap.size, 1, none⟩ = some (.bool m) := by rw [hc3 _ _ (by simp; omega)]; go_simp
  have q2 : w3.cell? ⟨w.heap.size, 2, none⟩ = some (.int .i64 a) := by rw [hc3 _ _ (by simp; omega)]; go_simp
  go_wp2
  go_ret
  exact ⟨rfl, (by repeat (first | exact Below.refl _ _ | refine Below.setCell ?_ (by first | exact Nat.le_refl _ | (simp; done) | (simp; omega) | (simp at *; omega)) _ | refine Below.alloc ?_ (by first | exact Nat.le_refl _ | (simp; done) | (simp; omega) | (simp at *; omega)) _ | refine Below.drew ?_ | refine Below.trans ?_ (Below.mono (by assumption) (by first | exact Nat.le_refl _ | (simp; done) | (simp; omega) | (simp at *; omega)))))⟩

theorem packW_bounds (r : Bool) (n : Int) (h : canPack r n) : 0 ≤ packW r n ∧ packW r n < 18446744073709551616 := by
  cases r <;> simp [packW, canPack] at * <;> omega
theorem packW_int (n : Int) (h : canPack false n) : packW false n % 2 = 1 ∧ wrap64 (packW false n) / 2 = n := by
  simp [packW, canPack] at *
  unfold wrap64
  omega
theorem packW_ref (n : Int) (h : canPack true n) : packW true n % 2 = 0 ∧ packW true n < 512 ∧ packW true n / 2 = n := by
  simp [packW, canPack] at *
  omega
theorem packW_inj (r s : Bool) (n k : Int) (h : canPack r n) (h' : canPack s k) : (packW r n == packW s k) = ((r == s) && (n == k)) := by
  rw [Bool.eq_iff_iff]
  cases r <;> cases s <;> simp [packW, canPack] at * <;> omega

/- What Unpack makes of a value's word. -/
set_option maxHeartbeats 400000 in
theorem unpack_pack (r : Bool) (n : Int) (w : World) (h : canPack r n) :
    Calls Try.prog 11 #[.int .u64 (packW r n)] w fun e w' => e = .returned (.tuple #[.agg #[.bool r, .int .i64 n], .int .i64 0]) ∧ Below w.heap.size w w' := by
  have b := packW_bounds r n h
  cases r
  · have c := packW_int n h
    refine (unpack_int _ w b.1 b.2 c.1).mono ?_
    rintro e w' ⟨rfl, hb⟩
    exact ⟨by rw [c.2], hb⟩
  · have c := packW_ref n h
    refine (unpack_ref _ w b.1 c.2.1 c.1).mono ?_
    rintro e w' ⟨rfl, hb⟩
    exact ⟨by rw [c.2.2], hb⟩

set_option maxHeartbeats 400000 in
theorem back_bad (r s : Bool) (n k : Int) (w : World) (h : ¬ canPack r n) :
    Calls Try.prog 4 #[.agg #[.bool r, .int .i64 n], .agg #[.bool s, .int .i64 k]] w fun e w' => e = .returned (.bool true) ∧ Below w.heap.size w w' := by
  have Hno := Lib.hid h
  have hr : r = true ∨ (r = false ∧ (n < -4611686018427387904 ∨ 4611686018427387903 < n)) := by
    cases r
    · simp [canPack] at h; right; exact ⟨rfl, by omega⟩
    · left; rfl
  clear h
  have hc2 : (canPack s k) ∨ ¬ canPack s k := Classical.em _
  have Hc2 := Lib.hid hc2
  clear hc2
  have pk : ∀ w, Calls Try.prog 10 #[.agg #[.bool s, .int .i64 k]] w fun e w' => (∃ a x : Int, e = .returned (.tuple #[.int .u64 a, .int .i64 x])) ∧ Below w.heap.size w w' := by
    intro w
    rcases Hc2.out with hc | hc
    · refine (pack_yes k s w hc).mono ?_
      rintro e w' ⟨rfl, hb⟩
      exact ⟨⟨_, _, rfl⟩, hb⟩
    · refine (pack_no k s w hc).mono ?_
      rintro e w' ⟨rfl, hb⟩
      exact ⟨⟨_, _, rfl⟩, hb⟩
  have Pk := Lib.hid pk
  clear pk
  rcases hr with rfl | ⟨rfl, h⟩
  · go_enter Try.func4, Try.ntmps4
    go_wp2_with fail
    refine (pack_no _ _ _ Hno.out).mono ?_
    rintro e w1 ⟨rfl, hb⟩
    obtain ⟨hc, hf⟩ := bcell hb
    have s1 : w.heap.size + 1 < w1.heap.size := by have := hb.size; simp at this; omega
    have s1' : w.heap.size < w1.heap.size := by omega
    go_wp2_with fail
    refine (Pk.out _).mono ?_
    rintro e w2 ⟨⟨a, x, rfl⟩, hb2⟩
    obtain ⟨hc2, hf2⟩ := bcell hb2
    go_wp2
    go_ret
    exact ⟨rfl, (by repeat (first | exact Below.refl _ _ | refine Below.setCell ?_ (by first | exact Nat.le_refl _ | (simp; done) | (simp; omega) | (simp at *; omega)) _ | refine Below.alloc ?_ (by first | exact Nat.le_refl _ | (simp; done) | (simp; omega) | (simp at *; omega)) _ | refine Below.drew ?_ | refine Below.trans ?_ (Below.mono (by assumption) (by first | exact Nat.le_refl _ | (simp; done) | (simp; omega) | (simp at *; omega)))))⟩
  · go_enter Try.func4, Try.ntmps4
    go_wp2_with fail
    refine (pack_no _ _ _ Hno.out).mono ?_
    rintro e w1 ⟨rfl, hb⟩
    obtain ⟨hc, hf⟩ := bcell hb
    have s1 : w.heap.size + 1 < w1.heap.size := by have := hb.size; simp at this; omega
    have s1' : w.heap.size < w1.heap.size := by omega
    go_wp2_with fail
    refine (Pk.out _).mono ?_
    rintro e w2 ⟨⟨a, x, rfl⟩, hb2⟩
    obtain ⟨hc2, hf2⟩ := bcell hb2
    rcases h with h | h
    all_goals
      go_wp2
      all_goals (go_ret; first | exact ⟨rfl, (by repeat (first | exact Below.refl _ _ | refine Below.setCell ?_ (by first | exact Nat.le_refl _ | (simp; done) | (simp; omega) | (simp at *; omega)) _ | refine Below.alloc ?_ (by first | exact Nat.le_refl _ | (simp; done) | (simp; omega) | (simp at *; omega)) _ | refine Below.drew ?_ | refine Below.trans ?_ (Below.mono (by assumption) (by first | exact Nat.le_refl _ | (simp; done) | (simp; omega) | (simp at *; omega)))))⟩ | exact ⟨congrArg (fun b => Ending.returned (.bool b)) (by simp; omega), (by repeat (first | exact Below.refl _ _ | refine Below.setCell ?_ (by first | exact Nat.le_refl _ | (simp; done) | (simp; omega) | (simp at *; omega)) _ | refine Below.alloc ?_ (by first | exact Nat.le_refl _ | (simp; done) | (simp; omega) | (simp at *; omega)) _ | refine Below.drew ?_ | refine Below.trans ?_ (Below.mono (by assumption) (by first | exact Nat.le_refl _ | (simp; done) | (simp; omega) | (simp at *; omega)))))⟩ | (exfalso; omega))

set_option maxHeartbeats 400000 in
theorem back_one (r s : Bool) (n k : Int) (w : World) (h : canPack r n) (h2 : ¬ canPack s k) :
    Calls Try.prog 4 #[.agg #[.bool r, .int .i64 n], .agg #[.bool s, .int .i64 k]] w fun e w' => e = .returned (.bool true) ∧ Below w.heap.size w w' := by
  have H := Lib.hid h
  have H2 := Lib.hid h2
  clear h h2
  cases s
  all_goals
    go_enter Try.func4, Try.ntmps4
    go_wp2_with fail
    refine (pack_yes _ _ _ H.out).mono ?_
    rintro e w1 ⟨rfl, hb⟩
    obtain ⟨hc, hf⟩ := bcell hb
    have s1 : w.heap.size + 1 < w1.heap.size := by have := hb.size; simp at this; omega
    have s1' : w.heap.size < w1.heap.size := by omega
    go_wp2_with fail
    refine (pack_no _ _ _ H2.out).mono ?_
    rintro e w2 ⟨rfl, hb2⟩
    obtain ⟨hc2, hf2⟩ := bcell hb2
    have s2 : w1.heap.size ≤ w2.heap.size := hb2.size
    have s2' : w.heap.size + 1 < w2.heap.size := by omega
    have s3' : w.heap.size < w2.heap.size := by omega
    go_wp2_with fail
    refine (unpack_pack _ _ _ H.out).mono ?_
    rintro e w3 ⟨rfl, hb3⟩
    obtain ⟨hc3, hf3⟩ := bcell hb3
    have s4 : w.heap.size + 1 < w3.heap.size := by have := hb3.size; omega
    have s4' : w.heap.size < w3.heap.size := by omega
    have q0 : w3.cell? ⟨w.heap.size, 0, none⟩ = some (.bool r) := by rw [hc3 _ _ (by first | exact Nat.le_refl _ | (simp; done) | (simp; omega) | (simp at *; omega))]; go_simp
    have q1 : w3.cell? ⟨w.heap.size, 1, none⟩ = some (.int .i64 n) := by rw [hc3 _ _ (by first | exact Nat.le_refl _ | (simp; done) | (simp; omega) | (simp at *; omega))]; go_simp
    go_wp2
    go_ret
    exact ⟨rfl, (by repeat (first | exact Below.refl _ _ | refine Below.setCell ?_ (by first | exact Nat.le_refl _ | (simp; done) | (simp; omega) | (simp at *; omega)) _ | refine Below.alloc ?_ (by first | exact Nat.le_refl _ | (simp; done) | (simp; omega) | (simp at *; omega)) _ | refine Below.drew ?_ | refine Below.trans ?_ (Below.mono (by assumption) (by first | exact Nat.le_refl _ | (simp; done) | (simp; omega) | (simp at *; omega)))))⟩

set_option maxHeartbeats 400000 in
theorem back_both (r s : Bool) (n k : Int) (w : World) (h : canPack r n) (h2 : canPack s k) :
    Calls Try.prog 4 #[.agg #[.bool r, .int .i64 n], .agg #[.bool s, .int .i64 k]] w fun e w' => e = .returned (.bool true) ∧ Below w.heap.size w w' := by
  have H := Lib.hid h
  have H2 := Lib.hid h2
  have hj := packW_inj r s n k h h2
  clear h h2
  go_enter Try.func4, Try.ntmps4
  go_wp2_with fail
  refine (pack_yes _ _ _ H.out).mono ?_
  rintro e w1 ⟨rfl, hb⟩
  obtain ⟨hc, hf⟩ := bcell hb
  have s1 : w.heap.size + 1 < w1.heap.size := by have := hb.size; simp at this; omega
  have s1' : w.heap.size < w1.heap.size := by omega
  go_wp2_with fail
  refine (pack_yes _ _ _ H2.out).mono ?_
  rintro e w2 ⟨rfl, hb2⟩
  obtain ⟨hc2, hf2⟩ := bcell hb2
  have s2 : w1.heap.size ≤ w2.heap.size := hb2.size
  have s2' : w.heap.size + 1 < w2.heap.size := by omega
  have s3' : w.heap.size < w2.heap.size := by omega
  go_wp2_with fail
  refine (unpack_pack _ _ _ H.out).mono ?_
  rintro e w3 ⟨rfl, hb3⟩
  obtain ⟨hc3, hf3⟩ := bcell hb3
  have s4 : w.heap.size + 1 < w3.heap.size := by have := hb3.size; omega
  have s4' : w.heap.size < w3.heap.size := by omega
  have q0 : w3.cell? ⟨w.heap.size, 0, none⟩ = some (.bool r) := by rw [hc3 _ _ (by first | exact Nat.le_refl _ | (simp; done) | (simp; omega) | (simp at *; omega))]; go_simp
  have q1 : w3.cell? ⟨w.heap.size, 1, none⟩ = some (.int .i64 n) := by rw [hc3 _ _ (by first | exact Nat.le_refl _ | (simp; done) | (simp; omega) | (simp at *; omega))]; go_simp
  have q2 : w3.cell? ⟨w.heap.size + 1, 0, none⟩ = some (.bool s) := by rw [hc3 _ _ (by first | exact Nat.le_refl _ | (simp; done) | (simp; omega) | (simp at *; omega))]; go_simp
  have q3 : w3.cell? ⟨w.heap.size + 1, 1, none⟩ = some (.int .i64 k) := by rw [hc3 _ _ (by first | exact Nat.le_refl _ | (simp; done) | (simp; omega) | (simp at *; omega))]; go_simp
  go_wp2
  all_goals (go_ret; first | exact ⟨rfl, (by repeat (first | exact Below.refl _ _ | refine Below.setCell ?_ (by first | exact Nat.le_refl _ | (simp; done) | (simp; omega) | (simp at *; omega)) _ | refine Below.alloc ?_ (by first | exact Nat.le_refl _ | (simp; done) | (simp; omega) | (simp at *; omega)) _ | refine Below.drew ?_ | refine Below.trans ?_ (Below.mono (by assumption) (by first | exact Nat.le_refl _ | (simp; done) | (simp; omega) | (simp at *; omega)))))⟩ | exact ⟨congrArg (fun b => Ending.returned (.bool b)) (by simp [*]), (by repeat (first | exact Below.refl _ _ | refine Below.setCell ?_ (by first | exact Nat.le_refl _ | (simp; done) | (simp; omega) | (simp at *; omega)) _ | refine Below.alloc ?_ (by first | exact Nat.le_refl _ | (simp; done) | (simp; omega) | (simp at *; omega)) _ | refine Below.drew ?_ | refine Below.trans ?_ (Below.mono (by assumption) (by first | exact Nat.le_refl _ | (simp; done) | (simp; omega) | (simp at *; omega)))))⟩)

/-- The word of what Unpack reads is that word again. -/
theorem packW_unpack_int (n : Int) (h : 0 ≤ n) (h' : n < 18446744073709551616) (hh : n % 2 = 1) : canPack false (wrap64 n / 2) ∧ packW false (wrap64 n / 2) = n := by
  simp [packW, canPack]
  unfold wrap64
  omega
theorem packW_unpack_ref (n : Int) (h : 0 ≤ n) (h' : n < 512) (hh : n % 2 = 0) : canPack true (n / 2) ∧ packW true (n / 2) = n := by
  simp [packW, canPack]
  omega

/-- What Unpack makes of any word: a value that has just this word; or none, of an even word. -/
def Unpacked (n : Int) (e : Ending) : Prop :=
  (∃ (r : Bool) (k : Int), e = .returned (.tuple #[.agg #[.bool r, .int .i64 k], .int .i64 0]) ∧ canPack r k ∧ packW r k = n) ∨
  (e = .returned (.tuple #[.agg #[.bool false, .int .i64 0], .int .i64 2]) ∧ n % 2 = 0)
theorem unpack_any (n : Int) (w : World) (h : 0 ≤ n) (h' : n < 18446744073709551616) :
    Calls Try.prog 11 #[.int .u64 n] w fun e w' => Unpacked n e ∧ Below w.heap.size w w' := by
  by_cases hh : n % 2 = 1
  · refine (unpack_int n w h h' hh).mono ?_
    rintro e w' ⟨rfl, hb⟩
    exact ⟨.inl ⟨_, _, rfl, packW_unpack_int n h h' hh⟩, hb⟩
  · by_cases hl : n < 512
    · refine (unpack_ref n w h hl (by omega)).mono ?_
      rintro e w' ⟨rfl, hb⟩
      exact ⟨.inl ⟨_, _, rfl, packW_unpack_ref n h hl (by omega)⟩, hb⟩
    · refine (unpack_no n w (by omega) h' (by omega)).mono ?_
      rintro e w' ⟨rfl, hb⟩
      exact ⟨.inr ⟨rfl, by omega⟩, hb⟩
def Unheaded (n : Int) (e : Ending) : Prop :=
  (∃ (l a : Int) (m : Bool), e = .returned (.tuple #[.agg #[.int .i64 l, .bool m, .int .i64 a], .int .i64 0]) ∧ 0 ≤ l ∧ l ≤ 4 ∧ 0 ≤ a ∧ a ≤ 7 ∧ headW l a m = n) ∨
  e = .returned (.tuple #[.agg #[.int .i64 0, .bool false, .int .i64 0], .int .i64 4])
theorem unhead_any (n : Int) (w : World) (h : 0 ≤ n) (h' : n < 18446744073709551616) :
    Calls Try.prog 9 #[.int .u64 n] w fun e w' => Unheaded n e ∧ Below w.heap.size w w' := by
  by_cases hh : isHead n
  · refine (unhead_yes n w h h' hh).mono ?_
    rintro e w' ⟨rfl, hb⟩
    exact ⟨.inl ⟨_, _, _, rfl, by omega, hh.1, by omega, by omega, hh.2⟩, hb⟩
  · refine (unhead_no n w h h' hh).mono ?_
    rintro e w' ⟨rfl, hb⟩
    exact ⟨.inr rfl, hb⟩

set_option maxHeartbeats 400000 in
theorem only_any (n : Int) (w : World) (h : 0 ≤ n) (h' : n < 18446744073709551616) :
    Calls Try.prog 5 #[.int .u64 n] w fun e w' => e = .returned (.bool true) ∧ Below w.heap.size w w' := by
  go_enter Try.func5, Try.ntmps5
  go_wp2_with fail
  refine (unpack_any n _ h h').mono ?_
  rintro e w1 ⟨he, hb⟩
  obtain ⟨hc, hf⟩ := bcell hb
  rcases he with ⟨r, k, rfl, c1, c2⟩ | ⟨rfl, c2⟩
  · have C1 := Lib.hid c1
    have C2 := Lib.hid c2
    clear c1 c2
    have s1 : w.heap.size ≤ w1.heap.size := hb.size
    go_wp2_with fail
    refine (unhead_any n _ h h').mono ?_
    rintro e w2 ⟨he, hb2⟩
    obtain ⟨hc2, hf2⟩ := bcell hb2
    have s2 : w1.heap.size < w2.heap.size := by have := hb2.size; simp at this; omega
    have q0 : w2.cell? ⟨w1.heap.size, 0, none⟩ = some (.bool r) := by rw [hc2 _ _ (by first | exact Nat.le_refl _ | (simp; done) | (simp; omega) | (simp at *; omega))]; go_simp
    have q1 : w2.cell? ⟨w1.heap.size, 1, none⟩ = some (.int .i64 k) := by rw [hc2 _ _ (by first | exact Nat.le_refl _ | (simp; done) | (simp; omega) | (simp at *; omega))]; go_simp
    rcases he with ⟨l, a, m, rfl, h0, h1, h2, h3, hn⟩ | rfl
    · have Hn := Lib.hid hn
      clear hn
      go_wp2_with fail
      refine (pack_yes _ _ _ C1.out).mono ?_
      rw [C2.out]
      rintro e w3 ⟨rfl, hb3⟩
      obtain ⟨hc3, hf3⟩ := bcell hb3
      have s3 : w2.heap.size < w3.heap.size := by have := hb3.size; simp at this; omega
      have u0 : w3.cell? ⟨w2.heap.size, 0, none⟩ = some (.int .i64 l) := by rw [hc3 _ _ (by first | exact Nat.le_refl _ | (simp; done) | (simp; omega) | (simp at *; omega))]; go_simp
      have u1 : w3.cell? ⟨w2.heap.size, 1, none⟩ = some (.bool m) := by rw [hc3 _ _ (by first | exact Nat.le_refl _ | (simp; done) | (simp; omega) | (simp at *; omega))]; go_simp
      have u2 : w3.cell? ⟨w2.heap.size, 2, none⟩ = some (.int .i64 a) := by rw [hc3 _ _ (by first | exact Nat.le_refl _ | (simp; done) | (simp; omega) | (simp at *; omega))]; go_simp
      go_wp2_with fail
      refine (head_ok _ _ _ _ h0 h1 h2 h3).mono ?_
      rw [Hn.out]
      rintro e w4 ⟨rfl, hb4⟩
      go_wp2
      all_goals (go_ret; first | exact ⟨rfl, (by repeat (first | exact Below.refl _ _ | refine Below.setCell ?_ (by first | exact Nat.le_refl _ | (simp; done) | (simp; omega) | (simp at *; omega)) _ | refine Below.alloc ?_ (by first | exact Nat.le_refl _ | (simp; done) | (simp; omega) | (simp at *; omega)) _ | refine Below.drew ?_ | refine Below.trans ?_ (Below.mono (by assumption) (by first | exact Nat.le_refl _ | (simp; done) | (simp; omega) | (simp at *; omega)))))⟩ | exact ⟨congrArg (fun b => Ending.returned (.bool b)) (by simp [*]), (by repeat (first | exact Below.refl _ _ | refine Below.setCell ?_ (by first | exact Nat.le_refl _ | (simp; done) | (simp; omega) | (simp at *; omega)) _ | refine Below.alloc ?_ (by first | exact Nat.le_refl _ | (simp; done) | (simp; omega) | (simp at *; omega)) _ | refine Below.drew ?_ | refine Below.trans ?_ (Below.mono (by assumption) (by first | exact Nat.le_refl _ | (simp; done) | (simp; omega) | (simp at *; omega)))))⟩)
    · go_wp2_with fail
      refine (pack_yes _ _ _ C1.out).mono ?_
      rw [C2.out]
      rintro e w3 ⟨rfl, hb3⟩
      obtain ⟨hc3, hf3⟩ := bcell hb3
      go_wp2
      all_goals (go_ret; first | exact ⟨rfl, (by repeat (first | exact Below.refl _ _ | refine Below.setCell ?_ (by first | exact Nat.le_refl _ | (simp; done) | (simp; omega) | (simp at *; omega)) _ | refine Below.alloc ?_ (by first | exact Nat.le_refl _ | (simp; done) | (simp; omega) | (simp at *; omega)) _ | refine Below.drew ?_ | refine Below.trans ?_ (Below.mono (by assumption) (by first | exact Nat.le_refl _ | (simp; done) | (simp; omega) | (simp at *; omega)))))⟩ | exact ⟨congrArg (fun b => Ending.returned (.bool b)) (by simp [*]), (by repeat (first | exact Below.refl _ _ | refine Below.setCell ?_ (by first | exact Nat.le_refl _ | (simp; done) | (simp; omega) | (simp at *; omega)) _ | refine Below.alloc ?_ (by first | exact Nat.le_refl _ | (simp; done) | (simp; omega) | (simp at *; omega)) _ | refine Below.drew ?_ | refine Below.trans ?_ (Below.mono (by assumption) (by first | exact Nat.le_refl _ | (simp; done) | (simp; omega) | (simp at *; omega)))))⟩)
  · have s1 : w.heap.size ≤ w1.heap.size := hb.size
    go_wp2_with fail
    refine (unhead_any n _ h h').mono ?_
    rintro e w2 ⟨he, hb2⟩
    obtain ⟨hc2, hf2⟩ := bcell hb2
    have s2 : w1.heap.size < w2.heap.size := by have := hb2.size; simp at this; omega
    rcases he with ⟨l, a, m, rfl, h0, h1, h2, h3, hn⟩ | rfl
    · have Hn := Lib.hid hn
      clear hn
      go_wp2_with fail
      refine (head_ok _ _ _ _ h0 h1 h2 h3).mono ?_
      rw [Hn.out]
      rintro e w4 ⟨rfl, hb4⟩
      go_wp2
      all_goals (go_ret; first | exact ⟨rfl, (by repeat (first | exact Below.refl _ _ | refine Below.setCell ?_ (by first | exact Nat.le_refl _ | (simp; done) | (simp; omega) | (simp at *; omega)) _ | refine Below.alloc ?_ (by first | exact Nat.le_refl _ | (simp; done) | (simp; omega) | (simp at *; omega)) _ | refine Below.drew ?_ | refine Below.trans ?_ (Below.mono (by assumption) (by first | exact Nat.le_refl _ | (simp; done) | (simp; omega) | (simp at *; omega)))))⟩ | exact ⟨congrArg (fun b => Ending.returned (.bool b)) (by simp [*]), (by repeat (first | exact Below.refl _ _ | refine Below.setCell ?_ (by first | exact Nat.le_refl _ | (simp; done) | (simp; omega) | (simp at *; omega)) _ | refine Below.alloc ?_ (by first | exact Nat.le_refl _ | (simp; done) | (simp; omega) | (simp at *; omega)) _ | refine Below.drew ?_ | refine Below.trans ?_ (Below.mono (by assumption) (by first | exact Nat.le_refl _ | (simp; done) | (simp; omega) | (simp at *; omega)))))⟩)
    · go_wp2
      all_goals (go_ret; first | exact ⟨rfl, (by repeat (first | exact Below.refl _ _ | refine Below.setCell ?_ (by first | exact Nat.le_refl _ | (simp; done) | (simp; omega) | (simp at *; omega)) _ | refine Below.alloc ?_ (by first | exact Nat.le_refl _ | (simp; done) | (simp; omega) | (simp at *; omega)) _ | refine Below.drew ?_ | refine Below.trans ?_ (Below.mono (by assumption) (by first | exact Nat.le_refl _ | (simp; done) | (simp; omega) | (simp at *; omega)))))⟩ | exact ⟨congrArg (fun b => Ending.returned (.bool b)) (by simp [*]), (by repeat (first | exact Below.refl _ _ | refine Below.setCell ?_ (by first | exact Nat.le_refl _ | (simp; done) | (simp; omega) | (simp at *; omega)) _ | refine Below.alloc ?_ (by first | exact Nat.le_refl _ | (simp; done) | (simp; omega) | (simp at *; omega)) _ | refine Below.drew ?_ | refine Below.trans ?_ (Below.mono (by assumption) (by first | exact Nat.le_refl _ | (simp; done) | (simp; omega) | (simp at *; omega)))))⟩)
end Go.Proofs.Ythpdgpeoadlhjaa
