/- The beginnings of lists; codes; slices of asks. -/
import Derived.Test.YtmbcfbehchpfbaaUo
import Derived.Test.YtmbcfbehchpfbaaIn
namespace Go.Proofs.Ytmbcfbehchpfbaa
open Go.RowKit

theorem IsTup.take {α : Type} {sz : Nat} {enc : α → List Value} {w : World} {a : Option Addr} {m c : Nat} {l : List α} (h : IsTup sz enc w (.slice a m c) l) (n : Nat) (hn : n ≤ l.length) : IsTup sz enc w (.slice a n c) (l.take n) := by
  obtain ⟨a', c', e, hl, hc⟩ := h
  cases e
  refine ⟨a, c, by rw [List.length_take, Nat.min_eq_left hn], by rw [List.length_take]; omega, fun k x hx => ?_⟩
  rw [List.getElem?_take] at hx
  split at hx
  · exact hc k x hx
  · cases hx
theorem IsInts.take {w : World} {a : Option Addr} {m c : Nat} {l : List Int} (h : IsInts w (.slice a m c) l) (n : Nat) (hn : n ≤ l.length) : IsInts w (.slice a n c) (l.take n) := by
  obtain ⟨a', c', e, hl, hc⟩ := h
  cases e
  refine ⟨a, c, by rw [List.length_take, Nat.min_eq_left hn], by rw [List.length_take]; omega, fun k x hx => ?_⟩
  rw [List.getElem?_take] at hx
  split at hx
  · exact hc k x hx
  · cases hx
set_option maxRecDepth 100000 in
set_option maxHeartbeats 1000000 in
theorem codes_any (u v : Value) (l m : List Int) (w : World) (hl : IsInts w u l) (hm : IsInts w v m) (hp : l <+: m) :
    Calls Try.prog 17 #[u, v] w fun e w' => e = .returned (.bool true) ∧ Below w.heap.size w w' := by
  obtain ⟨a, cap, rfl, hl1⟩ := hl.slice
  obtain ⟨a', cap', rfl, hl2⟩ := hm.slice
  have Hl := Lib.hid hl
  have Hm := Lib.hid hm
  have hle := hp.length_le
  have HP := Lib.hid hp
  obtain ⟨N, hN⟩ : ∃ N, l.length = N := ⟨_, rfl⟩
  obtain ⟨M, hM⟩ : ∃ M, m.length = M := ⟨_, rfl⟩
  rw [hN] at hl1 hle ⊢
  rw [hM] at hl2 hle ⊢
  have HN := Lib.hid hN
  have HM := Lib.hid hM
  have q1 : ¬ N > M := by omega
  clear hl hm hp hN hM
  go_enter Try.func17, Try.ntmps17
  go_wp2
  go_loopw [5] (fun i wr => ∃ k : Nat, k ≤ N ∧ i = .int .i64 k ∧ Below w.heap.size w wr) (fun i _ => N - (intOf i).toNat)
  case atStart => exact ⟨0, Nat.zero_le _, rfl, Below.refl _ _⟩
  case round =>
    obtain ⟨k, hk, rfl, hB⟩ := hrel
    by_cases hlt : k < N
    · obtain ⟨x, hx⟩ := get_some l k (by rw [HN.out]; exact hlt)
      have hy : m[k]? = some x := by
        obtain ⟨t, rfl⟩ := HP.out
        rw [List.getElem?_append_left (by rw [HN.out]; exact hlt)]; exact hx
      obtain ⟨b, off, cap2, hv, hb, hn, c1, _⟩ := Hl.out.at hB hx
      rw [HN.out] at hv
      cases hv
      obtain ⟨b', off', cap2', hv', hb', hn', d1, _⟩ := Hm.out.at hB hy
      rw [HM.out] at hv'
      cases hv'
      have r1 : (k : Int) < (N : Int) := by omega
      have r2 : (k : Int) < (M : Int) := by omega
      have r3 : k < M := by omega
      have r4 : (0 : Int) ≤ (k : Int) := by omega
      have HB := Lib.hid hB
      clear hB hx hy
      go_wp2
      go_quiet (fail)
      go_wp2
      go_roundw
      case rel => exact ⟨k + 1, by omega, by go_num, below_drewN HB.out _⟩
      case measure => simp [intOf]; omega
    · have HB := Lib.hid hB
      clear hB
      go_wp2
      go_ret
      exact ⟨rfl, HB.out⟩
end Go.Proofs.Ytmbcfbehchpfbaa
