/- rising, walked. -/
import Derived.Test.YtmmcjjklmcfegaaBase1
import Derived.Test.YtmmcjjklmcfegaaRows
import Derived.BigQuiet
import Derived.Deep.QuietTactic
namespace Go.Proofs.Ytmmcjjklmcfegaa
open Go.RowKit Go.Shelf

def Rising (l : List Int) : Prop := ∀ (k : Nat) (x y : Int), l[k]? = some x → l[k + 1]? = some y → x < y
set_option maxRecDepth 100000 in
set_option maxHeartbeats 400000 in
theorem rising_yes (v : Value) (l : List Int) (w : World) (hl : IsInts w v l) (h : Rising l) :
    Calls Try.prog 25 #[v] w fun e w' => e = .returned (.bool true) ∧ Below w.heap.size w w' := by
  obtain ⟨a, cap, rfl, hm⟩ := hl.slice
  have Hl := Lib.hid hl
  have H := Lib.hid h
  clear hl h
  go_enter Try.func25, Try.ntmps25
  go_wp2
  go_loopw [3] (fun i wr => ∃ k : Nat, k ≤ l.length ∧ i = .int .i64 (k + 1) ∧ Below w.heap.size w wr) (fun i _ => l.length + 1 - (intOf i).toNat)
  case atStart => exact ⟨0, Nat.zero_le _, rfl, Below.refl _ _⟩
  case round =>
    obtain ⟨k, hk, rfl, hB⟩ := hrel
    by_cases hlt : k + 1 < l.length
    · obtain ⟨x, hx⟩ := get_some l k (by omega)
      obtain ⟨y, hy⟩ := get_some l (k + 1) hlt
      obtain ⟨b, off, cap2, hv, hb, hn, c1, _⟩ := Hl.out.at hB hx
      cases hv
      obtain ⟨b', off', cap2', hv', _, _, c2, _⟩ := Hl.out.at hB hy
      cases hv'
      have h0 := H.out k x y hx hy
      have h1 : ¬ y ≤ x := by omega
      have hz : (k : Int) + 1 < l.length := by omega
      have hz2 : k < l.length := by omega
      clear hx hy h0
      go_wp2
      go_quiet (fail)
      go_wp2
      go_roundw
      case rel => exact ⟨k + 1, by omega, by go_num, hB.trans ⟨rfl, rfl, rfl, Nat.le_refl _, fun _ _ => rfl⟩⟩
      case measure => simp [intOf]; omega
    · have hz : ¬ (k : Int) + 1 < l.length := by omega
      go_wp2
      go_ret
      exact ⟨rfl, hB⟩
end Go.Proofs.Ytmmcjjklmcfegaa
