/- Buddies: a new yard, walked. -/
import Derived.Test.YtmbcfbehchpfbaaXe
namespace Go.Proofs.Ytmbcfbehchpfbaa
open Go.RowKit Go.Maps

def noneB : BSt := ⟨fun _ _ => false, fun _ => none⟩
theorem start_is (lev : Nat) : (⟨setB noneB.fr lev 0 true, noneB.tk⟩ : BSt) = startB lev := by
  unfold startB setB noneB
  simp only [BSt.mk.injEq, and_true]
  funext j x
  by_cases h : j = lev ∧ x = 0
  · rw [if_pos h]; exact (decide_eq_true h).symm
  · rw [if_neg h]; exact (decide_eq_false h).symm
theorem raw_own (By bt lev : Nat) (l : List Nat) (h : l.length = 8) : ∃ bs : Nat → Nat, ∀ (B : Nat) (w0 w : World), Mem B w0 w (ownR By bt lev l) → Mem B w0 w (ownY By bt lev bs (fun _ => 0) noneB) := by
  match l, h with
  | [b0, b1, b2, b3, b4, b5, b6, b7], _ =>
    refine ⟨fun k => [b0, b1, b2, b3, b4, b5, b6, b7].getD k 0, fun B w0 w hM => hM.pick0 [8, 9, 7, 6, 5, 4, 3, 2, 1, 0] (by decide) ?_⟩
    unfold ownY frE
    have e : frV (fun _ => false) = fun _ => none := frV_no _ (fun _ => rfl)
    have e2 : tkV noneB.tk = fun _ => none := rfl
    simp only [noneB] at e2 ⊢
    rw [e, e2]
    rfl
def OpenSays (lev : Nat) (w : World) (e : Ending) (w' : World) : Prop :=
  ∃ By bt bs c, e = .returned (.pointer (some ⟨By, 0, none⟩)) ∧ (∀ j, c j ≤ 1) ∧ Mem w.heap.size w w' (ownY By bt lev bs c (startB lev))
set_option maxRecDepth 100000 in
set_option maxHeartbeats 2000000 in
theorem open_any (lev : Nat) (hl : lev ≤ 7) (w : World) : Calls Try.prog 35 #[.int .i64 (lev : Int)] w (OpenSays lev w) := by
  have hM1 := (Mem.start w).newMapAt mapII w.heap.size rfl
  have hM2 := hM1.allocAt (w.heap.size + 1) (by simp) (rawC lev w.heap.size []) 104
  have hM3 : Mem w.heap.size w _ (ownR (w.heap.size + 1) w.heap.size lev []) := hM2
  have HM3 := Lib.hid hM3
  clear hM1 hM2 hM3
  have hmm := @run_makeMap Try.prog
  have q8 : (lev : Int) < 8 := by omega
  have q8n : lev < 8 := by omega
  go_enter Try.func35, Try.ntmps35
  go_wp2
  go_loopw [9] (fun i wr => ∃ l : List Nat, l.length ≤ 8 ∧ i = .int .i64 (l.length : Int) ∧ Mem w.heap.size w wr (ownR (w.heap.size + 1) w.heap.size lev l)) (fun i _ => 8 - (intOf i).toNat)
  case atStart => exact ⟨[], by simp, rfl, HM3.out⟩
  case round =>
    clear HM3
    obtain ⟨l, hk, rfl, hM⟩ := hrel
    obtain ⟨k, hlk⟩ : ∃ k, l.length = k := ⟨_, rfl⟩
    have hix : (ownR (w.heap.size + 1) w.heap.size lev l)[k]? = some (ebox (w.heap.size + 1) (rawC lev w.heap.size l) 104) := by
      unfold ownR
      rw [List.getElem?_append_right (by simp [hlk])]
      simp [hlk]
    rw [hlk] at hk ⊢
    by_cases hlt : k < 8
    · have q1 : decide ((k : Int) < 8) = true := decide_eq_true (by omega)
      have q1n : decide (k < 8) = true := decide_eq_true (by omega)
      have q2 : (0 : Int) ≤ (k : Int) := by omega
      have q3 : (k : Int) < 8 := by omega
      have c0 := hM.cell k hix (1 + k)
      have f0 := hM.free k hix (1 + k)
      have z0 := (hM.box k hix).2.1
      obtain ⟨v0, hv0⟩ : ∃ v0, (rawC lev w.heap.size l)[1 + k]? = some v0 := by
        have : (rawC lev w.heap.size l).size = 10 := rawC_len _ _ _ (by omega)
        exact ⟨_, Array.getElem?_eq_getElem (by omega)⟩
      rw [hv0] at c0
      have hB := (hM.setBox k hix (1 + k) (.map (some wr.heap.size))).newMapAt mapII wr.heap.size (by simp)
      have hB2 : Mem w.heap.size w ((wr.setCell ⟨w.heap.size + 1, 1 + k, none⟩ (.map (some wr.heap.size))).alloc (.map #[] 0)) (ownR (w.heap.size + 1) w.heap.size lev (l ++ [wr.heap.size])) := hB.cast (by
        have hrp := rawC_put lev w.heap.size l (by omega) wr.heap.size
        rw [hlk] at hrp
        rw [hrp]
        unfold ownR
        rw [List.reverse_append, List.set_append_right _ _ (by simp [hlk])]
        simp [hlk])
      have HB2 := Lib.hid hB2
      have Hlk := Lib.hid hlk
      clear hM hB hB2 hix hv0 hlk
      go_wp2
      go_roundw
      case rel => exact ⟨_, by rw [List.length_append, Hlk.out]; simp; omega, by rw [List.length_append, Hlk.out]; go_num, HB2.out⟩
      case measure => simp [intOf]; omega
    · obtain rfl : k = 8 := by omega
      obtain ⟨bs, hbs⟩ := raw_own (w.heap.size + 1) w.heap.size lev l hlk
      have hM2 := hbs _ _ _ hM
      have c1 := hM2.cell 0 rfl (1 + lev)
      rw [yardC_at _ _ _ q8n] at c1
      have z1 := (hM2.box 0 rfl).2.1
      have hki := ownY_at (w.heap.size + 1) w.heap.size lev bs (fun _ => 0) noneB [] q8n
      rw [List.append_nil] at hki
      have HM2 := Lib.hid hM2
      have Hki := Lib.hid hki
      clear hM hM2 hki hbs hix
      go_wp2_with (at_mapUpdate; refine Mem.wp_putG (M := mapII) rfl _ _ _ rfl HM2.out (2 + lev) Hki.out (Nat.zero_le _) rfl 0 (.int .i64 1) rfl rfl (show i64ok 0 by unfold i64ok; omega) ?_; intro w5 hM5 hs5)
      have hM6 : Mem w.heap.size w w5 (ownY (w.heap.size + 1) w.heap.size lev bs (bump (fun _ => 0) lev (0 + 1)) (startB lev)) := hM5.cast (by
        have := own_put (w.heap.size + 1) w.heap.size lev bs (fun _ => 0) noneB [] q8n (0 + 1) 0
        rw [List.append_nil, List.append_nil, start_is] at this
        exact this)
      have HM6 := Lib.hid hM6
      go_ret
      exact ⟨_, _, bs, _, rfl, bump_le (C := 0) (fun _ => Nat.le_refl _) (Nat.le_refl _), HM6.out⟩
end Go.Proofs.Ytmbcfbehchpfbaa
