/- ragpickerref.Ints: are two lists of ints the same? -/
import Derived.Test.YtmmcjjklmcfegaaBase1
import Derived.Test.YtmmcjjklmcfegaaRows
import Derived.Deep.QuietTactic
import Derived.BigQuiet
namespace Go.Proofs.Ytmmcjjklmcfegaa
open Go.RowKit

theorem takeI_ne {l m : List Int} {k : Nat} {x y : Int} (hx : l[k]? = some x) (hy : m[k]? = some y) (h : ¬ x = y) : l ≠ m := by
  rintro rfl
  rw [hx] at hy; cases hy; exact h rfl
set_option maxRecDepth 100000 in
set_option maxHeartbeats 1000000 in
theorem refInts_any (u v : Value) (l m : List Int) (w : World) (hl : IsInts w u l) (hm : IsInts w v m) :
    Calls Try.prog 23 #[u, v] w fun e w' => e = .returned (.bool (decide (l = m))) ∧ Below w.heap.size w w' := by
  obtain ⟨a, cap, rfl, hl1⟩ := hl.slice
  obtain ⟨a', cap', rfl, hl2⟩ := hm.slice
  have Hl := Lib.hid hl
  have Hm := Lib.hid hm
  clear hl hm
  by_cases hlen : l.length = m.length
  · obtain ⟨N, hN⟩ : ∃ N, l.length = N := ⟨_, rfl⟩
    rw [hN] at hlen hl1 ⊢
    rw [← hlen]
    have HN := Lib.hid hN
    have HN2 := Lib.hid hlen
    clear hN hlen hl2
    go_enter Try.func23, Try.ntmps23
    go_wp2
    go_loopw [5] (fun i wr => ∃ k : Nat, k ≤ N ∧ i = .int .i64 k ∧ l.take k = m.take k ∧ Below w.heap.size w wr) (fun i _ => N - (intOf i).toNat)
    case atStart => exact ⟨0, Nat.zero_le _, rfl, rfl, Below.refl _ _⟩
    case round =>
      obtain ⟨k, hk, rfl, hT, hB⟩ := hrel
      have HT := Lib.hid hT
      clear hT
      by_cases hlt : k < N
      · obtain ⟨x, hx⟩ := get_some l k (by rw [HN.out]; exact hlt)
        obtain ⟨y, hy⟩ := get_some m k (by rw [← HN2.out]; exact hlt)
        obtain ⟨b, off, cap2, hv, hb, hn, c1, _⟩ := Hl.out.at hB hx
        cases hv
        obtain ⟨b', off', cap2', hv', hb', hn', d1, _⟩ := Hm.out.at hB hy
        cases hv'
        have HS := Lib.hid (take_succ_some _ _ _ hx)
        have HS2 := Lib.hid (take_succ_some _ _ _ hy)
        have hbd : ∀ n, Below w.heap.size w (wr.drewN n) := fun n => below_drewN hB n
        have Hbd := Lib.hid hbd
        clear hbd
        by_cases hxy : x = y
        · subst hxy
          clear hx hy
          go_wp2
          go_quiet (fail)
          go_wp2
          go_roundw
          case rel => exact ⟨k + 1, by omega, by go_num, by rw [HS.out, HS2.out, HT.out], Hbd.out _⟩
          case measure => simp [intOf]; omega
        · have Hne := Lib.hid (takeI_ne hx hy hxy)
          clear hx hy
          go_wp2
          go_quiet (fail)
          go_wp2
          go_ret
          exact ⟨by rw [decide_eq_false Hne.out]; rfl, Hbd.out _⟩
      · obtain rfl : k = N := by omega
        have he : l = m := by
          have h := HT.out
          rw [List.take_of_length_le (by rw [HN.out]; exact Nat.le_refl _), List.take_of_length_le (by rw [← HN2.out]; exact Nat.le_refl _)] at h
          exact h
        have HE := Lib.hid he
        clear he
        go_wp2
        go_ret
        exact ⟨by rw [decide_eq_true HE.out]; rfl, hB⟩
  · have Hne : Hid (l ≠ m) := Lib.hid (fun e => hlen (by rw [e]))
    have hz : ((l.length : Int) == (m.length : Int)) = false := by simp; omega
    have hz2 : ¬ (l.length : Int) = (m.length : Int) := by omega
    go_enter Try.func23, Try.ntmps23
    go_wp2
    go_ret
    exact ⟨by rw [decide_eq_false Hne.out]; rfl, Below.refl _ _⟩
end Go.Proofs.Ytmmcjjklmcfegaa
