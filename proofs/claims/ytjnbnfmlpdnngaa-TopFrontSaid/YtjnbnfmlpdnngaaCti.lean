/- slices.Contains at ints, walked. -/
import Derived.Test.YtjnbnfmlpdnngaaBase1
import Derived.Test.YtjnbnfmlpdnngaaRows
import Derived.StillTailTactics
namespace Go.Proofs.Ytjnbnfmlpdnngaa
open Go.RowKit Go.Shelf

set_option maxRecDepth 100000 in
set_option maxHeartbeats 1000000 in
theorem indexI_any (v : Value) (l : List Int) (x : Int) (w : World) (hl : IsInts w v l) :
    Calls Try.prog 84 #[v, .int .i64 x] w fun e w' => (∃ r : Int, e = .returned (.int .i64 r) ∧ (0 ≤ r ↔ x ∈ l)) ∧ w = w' := by
  have Hl := Lib.hid hl
  obtain ⟨a, cap, rfl, hm⟩ := hl.slice
  obtain ⟨n, hn⟩ : ∃ n, l.length = n := ⟨_, rfl⟩
  have Hn := Lib.hid hn
  rw [hn] at hm ⊢
  clear hl hn
  go_enter Try.func84, Try.ntmps84
  go_wp2_with fail
  go_loopw [8] (fun i wr => ∃ k : Nat, k ≤ n ∧ i = .int .i64 k ∧ x ∉ l.take k ∧ w = wr) (fun i _ => n - (intOf i).toNat)
  case atStart => exact ⟨0, Nat.zero_le _, rfl, by simp, rfl⟩
  case round =>
    obtain ⟨k, hk, rfl, hno, rfl⟩ := hrel
    by_cases hlt : k < n
    · obtain ⟨y, hy⟩ := get_some l k (by rw [Hn.out]; exact hlt)
      obtain ⟨b, off, cap2, hv, _, hb1, d0, _⟩ := Hl.out.at (Below.refl w.heap.size w) hy
      rw [Hn.out] at hv
      cases hv
      have e1 : (k : Int) < n := by omega
      have htk := take_succ_some _ _ _ hy
      by_cases hxy : x = y
      · subst hxy
        have Hm : Hid (x ∈ l) := Lib.hid (List.mem_of_getElem? hy)
        clear hy htk hno
        go_wp2_with fail
        go_ret
        exact ⟨⟨(k : Int), rfl, fun _ => Hm.out, fun _ => by omega⟩, rfl⟩
      · have hne : (x == y) = false := by simpa using hxy
        have Hno : Hid (x ∉ l.take (k + 1)) := Lib.hid (by
          rw [htk]
          intro h
          rcases List.mem_append.1 h with h | h
          · exact hno h
          · exact hxy (List.mem_singleton.1 h))
        clear hy htk hno
        go_wp2_with fail
        go_roundw
        case rel => exact ⟨k + 1, by omega, by go_num, Hno.out, trivial⟩
        case measure => simp [intOf]; omega
    · obtain rfl : k = n := by omega
      rw [List.take_of_length_le (by rw [Hn.out]; exact Nat.le_refl _)] at hno
      have Hno := Lib.hid hno
      clear hno
      go_wp2_with fail
      go_ret
      exact ⟨⟨-1, rfl, fun h => absurd h (by decide), fun h => absurd h Hno.out⟩, rfl⟩
set_option maxRecDepth 100000 in
set_option maxHeartbeats 1000000 in
theorem containsI_any (v : Value) (l : List Int) (x : Int) (w : World) (hl : IsInts w v l) :
    Calls Try.prog 71 #[v, .int .i64 x] w fun e w' => e = .returned (.bool (decide (x ∈ l))) ∧ w = w' := by
  have HI := Lib.hid (indexI_any v l x w hl)
  obtain ⟨a, cap, rfl, hm⟩ := hl.slice
  obtain ⟨bb, hbb⟩ : ∃ bb, decide (x ∈ l) = bb := ⟨_, rfl⟩
  have Hb := Lib.hid hbb
  clear hl
  rw [hbb]
  clear hbb
  go_enter Try.func71, Try.ntmps71
  go_wp2_with fail
  refine HI.out.mono ?_
  rintro e w1 ⟨⟨r, rfl, hr⟩, rfl⟩
  have hB := Hb.out
  by_cases h0 : 0 ≤ r
  · have : x ∈ l := hr.1 h0
    rw [decide_eq_true this] at hB
    subst hB
    clear hr this Hb HI
    go_wp2_with fail
    go_ret
    exact ⟨rfl, rfl⟩
  · have : x ∉ l := fun h => h0 (hr.2 h)
    rw [decide_eq_false this] at hB
    subst hB
    clear hr this Hb HI
    go_wp2_with fail
    go_ret
    exact ⟨by simp; omega, rfl⟩
end Go.Proofs.Ytjnbnfmlpdnngaa
