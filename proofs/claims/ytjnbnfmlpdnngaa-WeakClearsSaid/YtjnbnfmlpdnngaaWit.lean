/- within, walked. -/
import Derived.Test.YtjnbnfmlpdnngaaBase4
import Derived.Test.YtjnbnfmlpdnngaaBase1
import Derived.BigQuiet
namespace Go.Proofs.Ytjnbnfmlpdnngaa
open Go.RowKit Go.Shelf

set_option maxHeartbeats 400000 in
theorem within_yes (n : Nat) (v : Value) (l : List Int) (w : World) (hl : IsInts w v l) (h : ∀ x ∈ l, 0 ≤ x ∧ x < (n : Int)) :
    Calls Try.prog 27 #[.int .i64 n, v] w fun e w' => e = .returned (.bool true) ∧ w = w' := by
  obtain ⟨a, cap, rfl, hm⟩ := hl.slice
  have Hl := Lib.hid hl
  have H := Lib.hid h
  clear hl h
  go_enter Try.func27, Try.ntmps27
  go_wp2
  go_loop [9] (fun i => ∃ k : Nat, k ≤ l.length ∧ i = .int .i64 k) (fun i => l.length - (intOf i).toNat)
  case atStart => exact ⟨0, Nat.zero_le _, rfl⟩
  case round =>
    obtain ⟨k, hk, rfl⟩ := hrel
    by_cases hlt : k < l.length
    · obtain ⟨y, hx⟩ := get_some _ _ hlt
      obtain ⟨b, off, cap2, hv, hb, hn, c1, _⟩ := Hl.out.at (Below.refl _ _) hx
      cases hv
      obtain ⟨h0, h1⟩ := H.out y (List.mem_of_getElem? hx)
      have h2 : ¬ y < 0 := by omega
      have h3 : ¬ (n : Int) ≤ y := by omega
      clear hx h0 h1
      go_wp2
      go_round
      case rel => exact ⟨k + 1, by omega, by go_num⟩
      case measure => simp [intOf]; omega
    · obtain rfl : k = l.length := by omega
      go_wp2
      go_ret
      exact ⟨rfl, rfl⟩
end Go.Proofs.Ytjnbnfmlpdnngaa
