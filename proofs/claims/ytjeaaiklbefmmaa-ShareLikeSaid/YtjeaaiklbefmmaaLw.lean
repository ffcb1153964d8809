/- within refuses; ints that come in with their bounds. -/
import Derived.Test.YtjeaaiklbefmmaaLh
import Derived.Test.YtjeaaiklbefmmaaOpen
namespace Go.Proofs.Ytjeaaiklbefmmaa
open Go.RowKit Go.Shelf

set_option maxHeartbeats 400000 in
theorem within_off (n : Nat) (v : Value) (l : List Int) (w : World) (hl : IsInts w v l) (h : ∃ x ∈ l, x < 0 ∨ (n : Int) ≤ x) :
    Calls Try.prog 23 #[.int .i64 n, v] w fun e w' => e = .returned (.bool false) ∧ w = w' := by
  obtain ⟨a, cap, rfl, hm⟩ := hl.slice
  have Hl := Lib.hid hl
  have H := Lib.hid h
  clear hl h
  go_enter Try.func23, Try.ntmps23
  go_wp2
  go_loop [9] (fun i => ∃ k : Nat, k ≤ l.length ∧ i = .int .i64 k ∧ ∀ x ∈ l.take k, 0 ≤ x ∧ x < (n : Int)) (fun i => l.length - (intOf i).toNat)
  case atStart => exact ⟨0, Nat.zero_le _, rfl, by simp⟩
  case round =>
    obtain ⟨k, hk, rfl, hN⟩ := hrel
    by_cases hlt : k < l.length
    · obtain ⟨y, hx⟩ := get_some _ _ hlt
      obtain ⟨b, off, cap2, hv, hb, hn, c1, _⟩ := Hl.out.at (Below.refl _ _) hx
      cases hv
      have HS := Lib.hid (take_succ_some _ _ _ hx)
      have HN := Lib.hid hN
      clear hx hN
      by_cases h0 : y < 0
      · go_wp2
        go_ret
        exact ⟨rfl, rfl⟩
      · by_cases h1 : (n : Int) ≤ y
        · go_wp2
          go_ret
          exact ⟨rfl, rfl⟩
        · go_wp2
          go_round
          case rel => exact ⟨k + 1, by omega, by go_num, by rw [HS.out]; intro x hx; rcases List.mem_append.1 hx with h | h; exact HN.out x h; simp at h; subst h; omega⟩
          case measure => simp [intOf]; omega
    · obtain rfl : k = l.length := by omega
      rw [List.take_length] at hN
      obtain ⟨x, hx, hb⟩ := H.out
      have := hN x hx
      omega


def IsK (v : Value) : Prop := ∃ m : Int, v = .int .i64 m ∧ i64ok m
set_option maxRecDepth 100000 in
open Go.ChangeShapes Go.WideShapes Go.Joins in
theorem open_k {H : Type} {enc : TypeId × Value → H} {W : World} {base : Nat} {v : Value} {d : DataW H} {p : List MemPlace}
    (hv : Value.okWide Try.prog W .any base 3 v) (h : DataW.Trod enc Try.prog W 0 (fun _ => true) true 3 v d p) : IsK v := by
  obtain ⟨x, rfl, rfl, rfl, wx⟩ := open_int Try.underlying3 hv h
  have hb := bounds_i64 wx
  exact ⟨_, rfl, by omega, by omega⟩
end Go.Proofs.Ytjeaaiklbefmmaa
