/- ragpickerref.Words, walked. -/
import Derived.Test.YtgdodbdipbomfaaBe
namespace Go.Proofs.Ytgdodbdipbomfaa
open Go.RowKit Go.Shelf

set_option maxRecDepth 100000 in
set_option maxHeartbeats 1000000 in
/-- Words: are two rows of words one? -/
theorem words_any (u v : Value) (l m : List Int) (w : World) (hl : IsW w u l) (hm : IsW w v m) (hs : l.length ≤ 1000) :
    Calls Try.prog 32 #[u, v] w fun e w' => e = .returned (.bool (decide (l = m))) ∧ ∃ q, w' = w.drewN q := by
  have Hl := Lib.hid hl
  have Hm := Lib.hid hm
  obtain ⟨a, cap, rfl, hl0⟩ := hl.slice
  obtain ⟨a', cap', rfl, hm0⟩ := hm.slice
  clear hl hm
  by_cases hlen : l.length = m.length
  · obtain ⟨n, hn⟩ : ∃ n, l.length = n := ⟨_, rfl⟩
    have hn2 : m.length = n := by omega
    rw [hn] at hs
    rw [hn, hn2]
    have Hn := Lib.hid hn
    have Hn2 := Lib.hid hn2
    clear hlen hn hn2
    go_enter Try.func32, Try.ntmps32
    go_wp2
    go_loopw [5] (fun i wr => ∃ k : Nat, k ≤ n ∧ i = .int .i64 k ∧ l.take k = m.take k ∧ ∃ q, wr = w.drewN q) (fun i _ => n - (intOf i).toNat)
    case atStart => exact ⟨0, Nat.zero_le _, rfl, rfl, 0, rfl⟩
    case round =>
      obtain ⟨k, hk, rfl, hT, q, rfl⟩ := hrel
      by_cases hlt : k < n
      · obtain ⟨x, hx⟩ := get_some l k (by rw [Hn.out]; exact hlt)
        obtain ⟨y, hy⟩ := get_some m k (by rw [Hn2.out]; exact hlt)
        obtain ⟨b, off, cap2, hv, hb, _, c1, _⟩ := Hl.out.at (Below.refl _ _) hx
        rw [Hn.out] at hv
        cases hv
        obtain ⟨b', off', cap2', hv', hb', _, d1, _⟩ := Hm.out.at (Below.refl _ _) hy
        rw [Hn2.out] at hv'
        cases hv'
        have HS := Lib.hid (take_succ_some _ _ _ hx)
        have HS2 := Lib.hid (take_succ_some _ _ _ hy)
        have Hx := Lib.hid hx
        have Hy := Lib.hid hy
        have HT := Lib.hid hT
        clear hx hy hT
        by_cases hxy : x = y
        · subst hxy
          have e1 : (x != x) = false := by simp
          go_wp2
          go_quiet (fail)
          go_wp2
          go_roundw
          case rel => exact ⟨k + 1, by omega, by go_num, by rw [HS.out, HS2.out, HT.out], _, rfl⟩
          case measure => simp [intOf]; omega
        · have Hne : Hid (decide (l = m) = false) := Lib.hid (decide_eq_false (take_ne Hx.out Hy.out hxy))
          have e1 : (x != y) = true := by simpa using hxy
          clear hxy
          go_wp2
          go_quiet (fail)
          go_wp2
          go_ret
          exact ⟨by rw [Hne.out]; rfl, _, World.drewN_drewN _ _ _⟩
      · obtain rfl : k = n := by omega
        have HE : Hid (decide (l = m) = true) := Lib.hid (decide_eq_true (by rw [show l.take k = l by rw [← Hn.out, List.take_length], show m.take k = m by rw [← Hn2.out, List.take_length]] at hT; exact hT))
        clear hT
        go_wp2
        go_ret
        exact ⟨by rw [HE.out]; rfl, q, rfl⟩
  · have HN : Hid (decide (l = m) = false) := Lib.hid (decide_eq_false fun e => hlen (by rw [e]))
    have q1 : ((l.length : Int) != (m.length : Int)) = true := by simp; omega
    clear hlen
    go_enter Try.func32, Try.ntmps32
    go_wp2
    go_ret
    exact ⟨by rw [HN.out]; rfl, 0, rfl⟩
end Go.Proofs.Ytgdodbdipbomfaa
