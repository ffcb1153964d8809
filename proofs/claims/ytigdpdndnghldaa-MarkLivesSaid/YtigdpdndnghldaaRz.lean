/- ragpickerref.place, walked. -/
import Derived.Test.YtigdpdndnghldaaPk
namespace Go.Proofs.Ytigdpdndnghldaa
open Go.RowKit Go.Shelf

theorem drop_get {l : List Int} {k : Nat} {x : Int} (h : l[k]? = some x) : l.drop k = x :: l.drop (k + 1) := by
  obtain ⟨hk, rfl⟩ := List.getElem?_eq_some_iff.1 h
  exact List.drop_eq_getElem_cons hk

set_option maxHeartbeats 400000 in
theorem place_any (v : Value) (l : List Int) (y : Int) (w : World) (hl : IsInts w v l) :
    Calls Try.prog 84 #[v, .int .i64 y] w fun e w' => e = .returned (.int .i64 (plc l y 0)) ∧ w = w' := by
  obtain ⟨a, cap, rfl, hm⟩ := hl.slice
  have Hl := Lib.hid hl
  clear hl
  go_enter Try.func84, Try.ntmps84
  go_wp2
  go_loop [5] (fun i => ∃ k : Nat, k ≤ l.length ∧ i = .int .i64 k ∧ plc l y 0 = plc (l.drop k) y k) (fun i => l.length - (intOf i).toNat)
  case atStart => exact ⟨0, Nat.zero_le _, rfl, rfl⟩
  case round =>
    obtain ⟨k, hk, rfl, hN⟩ := hrel
    by_cases hlt : k < l.length
    · obtain ⟨x, hx⟩ := get_some _ _ hlt
      obtain ⟨b, off, cap2, hv, hb, hn, c1, _⟩ := Hl.out.at (Below.refl _ _) hx
      cases hv
      have h2 := hN
      rw [drop_get hx, plc] at h2
      clear hx hN
      by_cases hxy : x = y
      · rw [if_pos hxy] at h2
        subst hxy
        have H2 := Lib.hid h2
        clear h2
        go_wp2
        go_ret
        exact ⟨by rw [H2.out]; rfl, rfl⟩
      · rw [if_neg hxy] at h2
        have H2 := Lib.hid h2
        clear h2
        go_wp2
        go_round
        case rel => exact ⟨k + 1, by omega, by go_num, H2.out⟩
        case measure => simp [intOf]; omega
    · obtain rfl : k = l.length := by omega
      rw [List.drop_length, plc] at hN
      have HN := Lib.hid hN
      clear hN
      go_wp2
      go_ret
      exact ⟨by rw [HN.out]; rfl, rfl⟩
end Go.Proofs.Ytigdpdndnghldaa
