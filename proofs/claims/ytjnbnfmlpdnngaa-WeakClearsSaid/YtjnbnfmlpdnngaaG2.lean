/- Refers, walked. -/
import Derived.Test.YtjnbnfmlpdnngaaBase1
namespace Go.Proofs.Ytjnbnfmlpdnngaa
open Go.RowKit

theorem refers_in {l : List V} {k : Nat} {x : Int} {y : V} (hx : l[k]? = some y) (h : (y.ref && (y.n == x)) = true) : refersB l x = true := by
  obtain ⟨r, n⟩ := y
  simp at h
  obtain ⟨rfl, rfl⟩ := h
  simpa [refersB] using List.mem_of_getElem? hx
theorem refers_out {l : List V} {x : Int} (h : NotYet l l.length (fun y => y.ref && (y.n == x))) : refersB l x = false := by
  have := h.all
  simp [refersB]
  intro hm
  simpa using this _ hm

set_option maxHeartbeats 400000 in
theorem refers_any (v : Value) (l : List V) (x : Int) (w : World) (hl : IsVals w v l) :
    Calls Try.prog 64 #[v, .int .i64 x] w fun e w' => e = .returned (.bool (refersB l x)) ∧ Below w.heap.size w w' := by
  obtain ⟨a, cap, rfl, hm⟩ := hl.slice
  have Hl := Lib.hid hl
  clear hl
  go_enter Try.func64, Try.ntmps64
  go_wp2
  go_loopw [9] (fun i wr => ∃ k : Nat, k ≤ l.length ∧ i = .int .i64 k ∧ NotYet l k (fun y => y.ref && (y.n == x)) ∧ Below w.heap.size w wr) (fun i _ => l.length - (intOf i).toNat)
  case atStart => exact ⟨0, Nat.zero_le _, rfl, NotYet.zero _ _, Below.refl _ _⟩
  case round =>
    obtain ⟨k, hk, rfl, hN, hB⟩ := hrel
    by_cases hlt : k < l.length
    · obtain ⟨y, hx⟩ := get_some _ _ hlt
      obtain ⟨b, off, cap2, hv, hb, hn, c1, c2, _⟩ := Hl.out.at hB hx
      cases hv
      have HS := Lib.hid (take_succ_some _ _ _ hx)
      have Hx := Lib.hid hx
      clear hx
      obtain ⟨r, n⟩ := y
      have hBa := fun o => hB.alloc hB.size o
      cases r
      · go_wp2
        go_roundw
        case rel => exact ⟨k + 1, by omega, by go_num, hN.succ HS.out rfl, hBa _⟩
        case measure => simp [intOf]; omega
      · rcases hxy : (n == x) with _ | _
        · go_wp2
          go_roundw
          case rel => exact ⟨k + 1, by omega, by go_num, hN.succ HS.out (by simpa using hxy), hBa _⟩
          case measure => simp [intOf]; omega
        · have HR := Lib.hid (refers_in Hx.out (by simpa using hxy))
          go_wp2
          go_ret
          exact ⟨by rw [HR.out]; rfl, hBa _⟩
    · obtain rfl : k = l.length := by omega
      have HR := Lib.hid (refers_out hN)
      go_wp2
      go_ret
      exact ⟨by rw [HR.out]; rfl, hB⟩
end Go.Proofs.Ytjnbnfmlpdnngaa
