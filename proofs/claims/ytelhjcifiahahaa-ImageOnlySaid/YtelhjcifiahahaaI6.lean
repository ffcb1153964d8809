/- Graphs as bytes: Get where the sum is off, walked. -/
import Derived.Test.YtelhjcifiahahaaI5
import Derived.Lib.EndianBits
namespace Go.Proofs.Ytelhjcifiahahaa
open Go.RowKit

theorem IsTup.take {α : Type} {sz : Nat} {enc : α → List Value} {w : World} {a : Option Addr} {m c : Nat} {l : List α} (h : IsTup sz enc w (.slice a m c) l) (n c2 : Nat) (hn : n ≤ l.length) : IsTup sz enc w (.slice a n c2) (l.take n) := by
  obtain ⟨a', cap, hv, hl, hc⟩ := h
  cases hv
  have e : (l.take n).length = n := by rw [List.length_take]; omega
  refine ⟨a, c2, by rw [e], by omega, fun k x hx => ?_⟩
  rw [List.getElem?_take] at hx
  split at hx
  · exact hc k x hx
  · cases hx
theorem or_lo {lo hi : Nat} (h1 : lo < 256) (h2 : hi < 256) : bits BinOp.or IntKind.i64 (lo : Int) ((hi : Int) * 256) = ((lo + 256 * hi : Nat) : Int) := by
  have := bits_join_low .i64 63 (by decide) (fun n a b => IntWalk.i64_in n (by omega)) 8 (lo : Int) ((hi : Int) * 256) (by omega) (by omega) (by omega) (by omega) (by omega) (by omega)
  rw [this]; omega
set_option maxRecDepth 100000 in
set_option maxHeartbeats 1000000 in
theorem get_off (l : List Nat) (w : World) (bl ol cl n lo hi : Nat) (hl : IsTup 1 encY w (.slice (some ⟨bl, ol, none⟩) (n + 2) cl) l) (hcl : n + 2 ≤ cl) (hb : ∀ x ∈ l, x < 256) (hn : l.length = n + 2) (h4 : n + 2 ≤ 4096) (h0 : l[n]? = some lo) (h1 : l[n + 1]? = some hi) (hs : a0 (l.take n) ≠ lo + 256 * hi) :
    Calls Try.prog 10 #[.slice (some ⟨bl, ol, none⟩) (n + 2) cl] w fun e w' => e = .returned (.tuple #[.agg #[.slice none 0 0, .slice none 0 0], .int .i64 9]) ∧ Below w.heap.size w w' := by
  obtain ⟨bl', ol', cl2, hv, _, z1, hc⟩ := hl.at (Below.refl _ _) h0
  rw [hn] at hv
  cases hv
  obtain ⟨bl', ol', cl3, hv, _, _, hc2⟩ := hl.at (Below.refl _ _) h1
  rw [hn] at hv
  cases hv
  have d0 := hc 0 _ rfl
  have d1 := hc2 0 _ rfl
  rw [Nat.add_zero, Nat.mul_one] at d0 d1
  have hI := hl.take n cl (by omega)
  have hbt : ∀ x ∈ l.take n, x < 256 := fun x hx => hb x (List.mem_of_mem_take hx)
  have hM := (Mem.start w).alloc #[.slice none 0 0, .slice none 0 0] 25
  obtain ⟨W, hW⟩ : ∃ W, w.alloc (.cells #[.slice none 0 0, .slice none 0 0] 25) = W := ⟨_, rfl⟩
  obtain ⟨bg, hbg⟩ : ∃ bg, w.heap.size = bg := ⟨_, rfl⟩
  have zW : bl < W.heap.size := by rw [← hW]; simp; omega
  have e0 : W.cell? ⟨bl, ol + n, none⟩ = some (.int .u8 lo) := by rw [← hW]; rw [World.cell?_alloc_lt _ _ ⟨_, _, none⟩ z1]; exact d0
  have e1 : W.cell? ⟨bl, ol + (n + 1), none⟩ = some (.int .u8 hi) := by rw [← hW]; rw [World.cell?_alloc_lt _ _ ⟨_, _, none⟩ z1]; exact d1
  have hS : Hid (∀ X, Below w.heap.size w X → Calls Try.prog 24 #[.slice (some ⟨bl, ol, none⟩) n cl] X fun e w' => e = .returned (.int .i64 (a0 (l.take n) : Int)) ∧ X = w') := Lib.hid fun X hX => sum_any _ _ X (hI.later hX) hbt
  rw [hW, hbg] at hM
  have HB := Lib.hid hM.below
  have f0 : W.frozen? ⟨bg, 0, none⟩ = false := hM.free 0 rfl 0
  have f1 : W.frozen? ⟨bg, 1, none⟩ = false := hM.free 0 rfl 1
  have b0 : W.cell? ⟨bg, 0, none⟩ = some (.slice none 0 0) := by have := hM.cell 0 rfl 0; simpa using this
  have b1 : W.cell? ⟨bg, 1, none⟩ = some (.slice none 0 0) := by have := hM.cell 0 rfl 1; simpa using this
  have zg : bg < W.heap.size := (hM.box 0 rfl).2.1
  have HM := Lib.hid hM
  have HW := Lib.hid hW
  have Hbg := Lib.hid hbg
  have hlo := hb lo (List.mem_of_getElem? h0)
  have hhi := hb hi (List.mem_of_getElem? h1)
  have n94 : n ≤ 4094 := by omega
  have hor := or_lo hlo hhi
  obtain ⟨S, hS'⟩ : ∃ S, a0 (l.take n) = S := ⟨_, rfl⟩
  rw [hS'] at hS hs
  have w1 : IntKind.i64.wrap (lo : Int) = (lo : Int) := by rw [IntKind.wrap_i64]; omega
  have w2 : IntKind.i64.wrap (hi : Int) = (hi : Int) := by rw [IntKind.wrap_i64]; omega
  have w3 : IntKind.i64.wrap ((hi : Int) * 256) = (hi : Int) * 256 := by rw [IntKind.wrap_i64]; omega
  have q1 : ((S : Int) != bits BinOp.or IntKind.i64 (IntKind.i64.wrap (lo : Int)) (IntKind.i64.wrap (IntKind.i64.wrap (hi : Int) * 256))) = true := by rw [w1, w2, w3, hor]; simp; omega
  clear w1 w2 w3
  clear hc hc2 hl hI hbt hM hW hbg d0 d1 h0 h1 hb hn h4 hS' hor hs
  obtain ⟨M, hM⟩ : ∃ M, n + 2 = M := ⟨_, rfl⟩
  rw [hM] at hcl ⊢
  have m1 : (M : Int) - 2 = (n : Int) := by omega
  have m2 : decide ((M : Int) > 4096) = false := decide_eq_false (by omega)
  have m3 : decide (4096 < M) = false := decide_eq_false (by omega)
  have n1 : (0 : Int) ≤ (n : Int) := by omega
  have n2 : (n : Int) < (M : Int) := by omega
  obtain ⟨N1, hN1⟩ : ∃ N1, n + 1 = N1 := ⟨_, rfl⟩
  rw [hN1] at e1
  have n3 : IntKind.i64.wrap ((n : Int) + 1) = (N1 : Int) := by rw [IntKind.wrap_i64]; omega
  have n3a : (N1 : Int) < (M : Int) := by omega
  have n3b : (0 : Int) ≤ (N1 : Int) := by omega
  have n4 : (n : Int) ≤ (cl : Int) := by omega
  have n5 : n ≤ cl := by omega
  have n6 : n < M := by omega
  have n7 : N1 < M := by omega
  have n8 : decide ((n : Int) < 0) = false := decide_eq_false (by omega)
  clear hM hN1
  go_enter Try.func10, Try.ntmps10
  go_upto_region 4 with (fail)
  rw [HW.out, Hbg.out]
  have e0d : W.drew.cell? ⟨bl, ol + n, none⟩ = some (.int .u8 lo) := e0
  have e1d : W.drew.cell? ⟨bl, ol + N1, none⟩ = some (.int .u8 hi) := e1
  go_region_held3 (fun X => X.cell? ⟨bl, ol + n, none⟩ = some (.int .u8 lo) ∧ X.cell? ⟨bl, ol + N1, none⟩ = some (.int .u8 hi))
    (first | exact ⟨e0d, e1d⟩)
    (first | (go_at_call 24; with_reducible refine (hS.out _ (by rw [Hbg.out]; exact HB.out.drew)).mono ?_; rintro e w2 ⟨rfl, rfl⟩))
  all_goals
    go_wp2
    have hF := ((HM.out.setBox 0 rfl 0 (.slice none 0 0)).setBox 0 rfl 1 (.slice none 0 0)).drew
    have r0 := hF.cell 0 rfl 0
    have r1 := hF.cell 0 rfl 1
    simp only [List.getElem?_toArray, List.setIfInBounds_toArray, List.set_cons_zero, List.set_cons_succ, List.getElem?_cons_zero, List.getElem?_cons_succ] at r0 r1
    refine bodyPost_ret (v := .tuple #[.agg #[.slice none 0 0, .slice none 0 0], .int .i64 9]) (by simp [results, Try.results10, go_sem, r0, r1]) rfl ⟨rfl, ?_⟩
    rw [Hbg.out]; exact hF.below
end Go.Proofs.Ytelhjcifiahahaa
