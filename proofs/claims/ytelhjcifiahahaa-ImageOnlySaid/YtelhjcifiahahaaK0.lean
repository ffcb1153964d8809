/- ImageOnly, walked. -/
import Derived.Test.YtelhjcifiahahaaJ9
namespace Go.Proofs.Ytelhjcifiahahaa
open Go.RowKit

set_option maxRecDepth 100000 in
set_option maxHeartbeats 1000000 in
theorem get_large (a : Option Addr) (m cl : Nat) (w : World) (h4 : 4096 < m) :
    Calls Try.prog 10 #[.slice a m cl] w fun e w' => e = .returned (.tuple #[.agg #[.slice none 0 0, .slice none 0 0], .int .i64 1]) ∧ Below w.heap.size w w' := by
  have hM := (Mem.start w).alloc #[.slice none 0 0, .slice none 0 0] 25
  obtain ⟨W, hW⟩ : ∃ W, w.alloc (.cells #[.slice none 0 0, .slice none 0 0] 25) = W := ⟨_, rfl⟩
  obtain ⟨bg, hbg⟩ : ∃ bg, w.heap.size = bg := ⟨_, rfl⟩
  rw [hW, hbg] at hM
  have f0 : W.frozen? ⟨bg, 0, none⟩ = false := hM.free 0 rfl 0
  have f1 : W.frozen? ⟨bg, 1, none⟩ = false := hM.free 0 rfl 1
  have b0 : W.cell? ⟨bg, 0, none⟩ = some (.slice none 0 0) := by have := hM.cell 0 rfl 0; simpa using this
  have b1 : W.cell? ⟨bg, 1, none⟩ = some (.slice none 0 0) := by have := hM.cell 0 rfl 1; simpa using this
  have zg : bg < W.heap.size := (hM.box 0 rfl).2.1
  have HM := Lib.hid hM
  have HW := Lib.hid hW
  have Hbg := Lib.hid hbg
  have q : decide ((m : Int) > 4096) = true := decide_eq_true (by omega)
  have q2 : decide (4096 < m) = true := decide_eq_true h4
  clear hM hW hbg h4
  go_enter Try.func10, Try.ntmps10
  go_upto_region 1 with (fail)
  rw [HW.out, Hbg.out]
  go_wp2
  have hF := ((HM.out.setBox 0 rfl 0 (.slice none 0 0)).setBox 0 rfl 1 (.slice none 0 0))
  have r0 := hF.cell 0 rfl 0
  have r1 := hF.cell 0 rfl 1
  simp only [List.getElem?_toArray, List.setIfInBounds_toArray, List.set_cons_zero, List.set_cons_succ, List.getElem?_cons_zero, List.getElem?_cons_succ] at r0 r1
  refine bodyPost_ret (v := .tuple #[.agg #[.slice none 0 0, .slice none 0 0], .int .i64 1]) (by simp [results, Try.results10, go_sem, r0, r1]) rfl ⟨rfl, ?_⟩
  rw [Hbg.out]; exact hF.below
set_option maxRecDepth 100000 in
set_option maxHeartbeats 1000000 in
theorem get_short (a : Option Addr) (m cl : Nat) (w : World) (h4 : m < 2) :
    Calls Try.prog 10 #[.slice a m cl] w fun e w' => e = .returned (.tuple #[.agg #[.slice none 0 0, .slice none 0 0], .int .i64 9]) ∧ Below w.heap.size w w' := by
  have hM := (Mem.start w).alloc #[.slice none 0 0, .slice none 0 0] 25
  obtain ⟨W, hW⟩ : ∃ W, w.alloc (.cells #[.slice none 0 0, .slice none 0 0] 25) = W := ⟨_, rfl⟩
  obtain ⟨bg, hbg⟩ : ∃ bg, w.heap.size = bg := ⟨_, rfl⟩
  rw [hW, hbg] at hM
  have HM := Lib.hid hM
  have HW := Lib.hid hW
  have Hbg := Lib.hid hbg
  have q : decide ((m : Int) > 4096) = false := decide_eq_false (by omega)
  have q2 : decide (4096 < m) = false := decide_eq_false (by omega)
  obtain ⟨d, hd⟩ : ∃ d : Int, (m : Int) - 2 = d := ⟨_, rfl⟩
  have hd0 : d < 0 := by omega
  have q3 : decide (d < 0) = true := decide_eq_true hd0
  clear hM hW hbg
  go_enter Try.func10, Try.ntmps10
  go_upto_region 4 with (fail)
  rw [HW.out, Hbg.out]
  go_quiet (fail)
  have hN : Mem bg w (W.drewN nq) _ := HM.out.drewN nq
  obtain ⟨X, hX⟩ : ∃ X, W.drewN nq = X := ⟨_, rfl⟩
  rw [hX] at hN ⊢
  have f0 : X.frozen? ⟨bg, 0, none⟩ = false := hN.free 0 rfl 0
  have f1 : X.frozen? ⟨bg, 1, none⟩ = false := hN.free 0 rfl 1
  have b0 : X.cell? ⟨bg, 0, none⟩ = some (.slice none 0 0) := by have := hN.cell 0 rfl 0; simpa using this
  have b1 : X.cell? ⟨bg, 1, none⟩ = some (.slice none 0 0) := by have := hN.cell 0 rfl 1; simpa using this
  have zg : bg < X.heap.size := (hN.box 0 rfl).2.1
  have HN := Lib.hid hN
  clear hN hX HM HW
  go_wp2
  have hF := ((HN.out.setBox 0 rfl 0 (.slice none 0 0)).setBox 0 rfl 1 (.slice none 0 0))
  have r0 := hF.cell 0 rfl 0
  have r1 := hF.cell 0 rfl 1
  simp only [List.getElem?_toArray, List.setIfInBounds_toArray, List.set_cons_zero, List.set_cons_succ, List.getElem?_cons_zero, List.getElem?_cons_succ] at r0 r1
  refine bodyPost_ret (v := .tuple #[.agg #[.slice none 0 0, .slice none 0 0], .int .i64 9]) (by simp [results, Try.results10, go_sem, r0, r1]) rfl ⟨rfl, ?_⟩
  rw [Hbg.out]; exact hF.below
def GetAll (w w' : World) (l : List Nat) (e : Ending) : Prop :=
  ∃ gv c, e = .returned (.tuple #[gv, .int .i64 c]) ∧ Below w.heap.size w w' ∧
    ((c ≠ 0 ∧ gv = .agg #[.slice none 0 0, .slice none 0 0]) ∨ (c = 0 ∧ ∃ g, IsGraph w' gv g ∧ Good g ∧ graphB g = l))
theorem get_all (a : Option Addr) (m cl : Nat) (l : List Nat) (w : World) (hl : IsTup 1 encY w (.slice a m cl) l) (hcl : m ≤ cl) (hb : ∀ x ∈ l, x < 256) (hm : l.length = m) :
    Calls Try.prog 10 #[.slice a m cl] w fun e w' => GetAll w w' l e := by
  by_cases h4 : 4096 < m
  · exact (get_large a m cl w h4).mono fun e w' ⟨he, hbl⟩ => ⟨_, 1, he, hbl, .inl ⟨by decide, rfl⟩⟩
  · by_cases h2 : m < 2
    · exact (get_short a m cl w h2).mono fun e w' ⟨he, hbl⟩ => ⟨_, 9, he, hbl, .inl ⟨by decide, rfl⟩⟩
    · obtain ⟨n, rfl⟩ : ∃ n, m = n + 2 := ⟨m - 2, by omega⟩
      obtain ⟨lo, h0⟩ := get_some l n (by omega)
      obtain ⟨hi, h1⟩ := get_some l (n + 1) (by omega)
      obtain ⟨bl, ol, cap, hv, _⟩ := hl.at (Below.refl _ _) h0
      rw [hm] at hv
      cases hv
      by_cases hs : a0 (l.take n) = lo + 256 * hi
      · refine (get_on l w bl ol cl n lo hi hl hcl hb hm (by omega) h0 h1 hs).mono fun e w' ⟨gv, c, he, hbl, hcase⟩ => ⟨gv, c, he, hbl, ?_⟩
        rcases hcase with ⟨hc, hz, _⟩ | ⟨hc, g, _, _, hg, hG, hgl⟩
        · exact .inl ⟨by omega, hz⟩
        · exact .inr ⟨hc, g, hg, hG, hgl⟩
      · exact (get_off l w bl ol cl n lo hi hl hcl hb hm (by omega) h0 h1 hs).mono fun e w' ⟨he, hbl⟩ => ⟨_, 9, he, hbl, .inl ⟨by decide, rfl⟩⟩
set_option maxRecDepth 100000 in
set_option maxHeartbeats 1000000 in
theorem bytes_same (a1 a2 : Option Addr) (m c1 c2 : Nat) (l : List Nat) (w : World) (hl : IsTup 1 encY w (.slice a1 m c1) l) (hk : IsTup 1 encY w (.slice a2 m c2) l) (hm : l.length = m) :
    Calls Try.prog 12 #[.slice a1 m c1, .slice a2 m c2] w fun e w' => e = .returned (.bool true) ∧ Below w.heap.size w w' := by
  have HL := Lib.hid hl
  have HK := Lib.hid hk
  have Hm := Lib.hid hm
  have hmm : m ≤ 9223372036854775807 := by
    obtain ⟨_, _, _, h⟩ := hl.slice
    omega
  clear hl hk hm
  go_enter Try.func12, Try.ntmps12
  go_wp2
  go_loopw [5] (fun i wr => ∃ k : Nat, k ≤ m ∧ i = .int .i64 (k : Int) ∧ Below w.heap.size w wr) (fun i _ => m - (intOf i).toNat)
  case atStart => exact ⟨0, Nat.zero_le _, rfl, Below.refl _ _⟩
  case round =>
    obtain ⟨k, hk, rfl, hB⟩ := hrel
    by_cases hlt : k < m
    · obtain ⟨x, hx⟩ := get_some l k (by rw [Hm.out]; exact hlt)
      obtain ⟨b1, o1, cp1, hv1, _, z1, hc1⟩ := HL.out.at hB hx
      cases hv1
      obtain ⟨b2, o2, cp2, hv2, _, z2, hc2⟩ := HK.out.at hB hx
      cases hv2
      have d1 := hc1 0 _ rfl
      have d2 := hc2 0 _ rfl
      rw [Nat.add_zero, Nat.mul_one] at d1 d2
      have i0 : (0 : Int) ≤ (k : Int) := by omega
      have i1 : (k : Int) < (l.length : Int) := by rw [Hm.out]; omega
      have e1 : ((x : Int) != (x : Int)) = false := by simp
      have HB := Lib.hid hB
      clear hc1 hc2 hx hB
      go_wp2
      go_quiet (fail)
      go_wp2
      go_roundw
      case rel => exact ⟨k + 1, by omega, by go_num, HB.out.trans ⟨rfl, rfl, rfl, Nat.le_refl _, fun _ _ => rfl⟩⟩
      case measure => simp [intOf]; omega
    · obtain rfl : k = m := by omega
      have HB := Lib.hid hB
      clear hB
      go_wp2
      go_ret
      exact ⟨rfl, HB.out⟩
end Go.Proofs.Ytelhjcifiahahaa
