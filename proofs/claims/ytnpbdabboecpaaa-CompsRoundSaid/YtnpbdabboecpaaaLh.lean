/- within, rising, closed, inside, walked. -/
import Derived.Test.YtnpbdabboecpaaaCm
import Derived.Test.YtnpbdabboecpaaaG2
import Derived.BigQuiet
namespace Go.Proofs.Ytnpbdabboecpaaa
open Go.RowKit Go.Shelf

theorem getD_get {l : List Int} {k : Nat} {x : Int} (h : l[k]? = some x) : l.getD k 0 = x := by rw [List.getD_eq_getElem?_getD, h]; rfl

set_option maxHeartbeats 400000 in
theorem within_yes (n : Nat) (v : Value) (l : List Int) (w : World) (hl : IsInts w v l) (h : ∀ x ∈ l, 0 ≤ x ∧ x < (n : Int)) :
    Calls Try.prog 22 #[.int .i64 n, v] w fun e w' => e = .returned (.bool true) ∧ w = w' := by
  obtain ⟨a, cap, rfl, hm⟩ := hl.slice
  have Hl := Lib.hid hl
  have H := Lib.hid h
  clear hl h
  go_enter Try.func22, Try.ntmps22
  go_wp2
  go_loop [9] (fun i => ∃ k : Nat, k ≤ l.length ∧ i = .int .i64 k) (fun i => l.length - (intOf i).toNat)
  case atStart => exact ⟨0, Nat.zero_le _, rfl⟩
  case round =>
    obtain ⟨k, hk, rfl⟩ := hrel
    by_cases hlt : k < l.length
    · obtain ⟨y, hx⟩ := get_some _ _ hlt
      obtain ⟨b, off, cap2, hv, hb, hn, c1, _⟩ := Hl.out.at (Below.refl _ _) hx
      cases hv
      obtain ⟨h0, h1⟩ := H.out y (List.mem_of_getElem? hx)
      have h2 : ¬ y < 0 := by omega
      have h3 : ¬ (n : Int) ≤ y := by omega
      clear hx h0 h1
      go_wp2
      go_round
      case rel => exact ⟨k + 1, by omega, by go_num⟩
      case measure => simp [intOf]; omega
    · obtain rfl : k = l.length := by omega
      go_wp2
      go_ret
      exact ⟨rfl, rfl⟩

def Rising (l : List Int) : Prop := ∀ (k : Nat) (x y : Int), l[k]? = some x → l[k + 1]? = some y → x < y
set_option maxRecDepth 100000 in
set_option maxHeartbeats 400000 in
theorem rising_yes (v : Value) (l : List Int) (w : World) (hl : IsInts w v l) (h : Rising l) :
    Calls Try.prog 18 #[v] w fun e w' => e = .returned (.bool true) ∧ Below w.heap.size w w' := by
  obtain ⟨a, cap, rfl, hm⟩ := hl.slice
  have Hl := Lib.hid hl
  have H := Lib.hid h
  clear hl h
  go_enter Try.func18, Try.ntmps18
  go_wp2
  go_loopw [3] (fun i wr => ∃ k : Nat, k ≤ l.length ∧ i = .int .i64 (k + 1) ∧ Below w.heap.size w wr) (fun i _ => l.length + 1 - (intOf i).toNat)
  case atStart => exact ⟨0, Nat.zero_le _, rfl, Below.refl _ _⟩
  case round =>
    obtain ⟨k, hk, rfl, hB⟩ := hrel
    by_cases hlt : k + 1 < l.length
    · obtain ⟨x, hx⟩ := get_some l k (by omega)
      obtain ⟨y, hy⟩ := get_some l (k + 1) hlt
      obtain ⟨b, off, cap2, hv, hb, hn, c1, _⟩ := Hl.out.at hB hx
      cases hv
      obtain ⟨b', off', cap2', hv', _, _, c2, _⟩ := Hl.out.at hB hy
      cases hv'
      have h0 := H.out k x y hx hy
      have h1 : ¬ y ≤ x := by omega
      have hz : (k : Int) + 1 < l.length := by omega
      have hz2 : k < l.length := by omega
      clear hx hy h0
      go_wp2
      go_quiet (fail)
      go_wp2
      go_roundw
      case rel => exact ⟨k + 1, by omega, by go_num, hB.trans ⟨rfl, rfl, rfl, Nat.le_refl _, fun _ _ => rfl⟩⟩
      case measure => simp [intOf]; omega
    · have hz : ¬ (k : Int) + 1 < l.length := by omega
      go_wp2
      go_ret
      exact ⟨rfl, hB⟩

def insideB (a b : List Int) : Bool := decide (∀ x ∈ a, x ∈ b)
set_option maxHeartbeats 400000 in
theorem inside_yes (u v : Value) (l m : List Int) (w : World) (hl : IsInts w u l) (hm : IsInts w v m) (h : ∀ x ∈ l, x ∈ m) :
    Calls Try.prog 20 #[u, v] w fun e w' => e = .returned (.bool true) ∧ w = w' := by
  obtain ⟨a, cap, rfl, hml⟩ := hl.slice
  obtain ⟨am, cm, rfl, hmm⟩ := hm.slice
  have Hl := Lib.hid hl
  have Hm := Lib.hid hm
  have H := Lib.hid h
  clear hl h hm
  go_enter Try.func20, Try.ntmps20
  go_wp2
  go_loop [9] (fun i => ∃ k : Nat, k ≤ l.length ∧ i = .int .i64 k) (fun i => l.length - (intOf i).toNat)
  case atStart => exact ⟨0, Nat.zero_le _, rfl⟩
  case round =>
    obtain ⟨k, hk, rfl⟩ := hrel
    by_cases hlt : k < l.length
    · obtain ⟨y, hx⟩ := get_some _ _ hlt
      obtain ⟨b, off, cap2, hv, hb, hn, c1, _⟩ := Hl.out.at (Below.refl _ _) hx
      cases hv
      have Hx := Lib.hid (List.mem_of_getElem? hx)
      clear hx
      go_wp2_with fail
      refine (has_yes _ m y _ Hm.out (H.out y Hx.out)).mono ?_
      rintro e w1 ⟨rfl, rfl⟩
      go_wp2
      go_round
      case rel => exact ⟨k + 1, by omega, by go_num⟩
      case measure => simp [intOf]; omega
    · obtain rfl : k = l.length := by omega
      go_wp2
      go_ret
      exact ⟨rfl, rfl⟩

end Go.Proofs.Ytnpbdabboecpaaa
