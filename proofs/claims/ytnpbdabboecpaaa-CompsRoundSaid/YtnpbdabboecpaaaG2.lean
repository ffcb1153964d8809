/- Has, Refers, Ints, within, rising, walked. -/
import Derived.Test.YtnpbdabboecpaaaG1
namespace Go.Proofs.Ytnpbdabboecpaaa
open Go.RowKit

def hasB (l : List Int) (x : Int) : Bool := decide (x ∈ l)
def refersB (l : List V) (i : Int) : Bool := decide ((⟨true, i⟩ : V) ∈ l)
def NotYet {α : Type} (l : List α) (k : Nat) (p : α → Bool) : Prop := ∀ y ∈ l.take k, p y = false
theorem NotYet.zero {α : Type} (l : List α) (p : α → Bool) : NotYet l 0 p := by intro y hy; simp at hy
theorem NotYet.succ {α : Type} {l : List α} {k : Nat} {p : α → Bool} {x : α} (h : NotYet l k p) (hs : l.take (k + 1) = l.take k ++ [x]) (hx : p x = false) : NotYet l (k + 1) p := by
  intro y hy; rw [hs] at hy; rcases List.mem_append.1 hy with h1 | h1
  · exact h y h1
  · simp at h1; subst h1; exact hx
theorem NotYet.all {α : Type} {l : List α} {p : α → Bool} (h : NotYet l l.length p) : ∀ y ∈ l, p y = false := by
  intro y hy; exact h y (by rwa [List.take_length])

theorem has_in {l : List Int} {k : Nat} {x y : Int} (hx : l[k]? = some y) (h : (x == y) = true) : hasB l x = true := by
  have : x = y := by simpa using h
  subst this
  simpa [hasB] using List.mem_of_getElem? hx
theorem has_out {l : List Int} {x : Int} (h : NotYet l l.length (fun y => x == y)) : hasB l x = false := by
  have := h.all
  simp [hasB]
  intro hm
  simpa using this x hm

set_option maxHeartbeats 400000 in
theorem has_any (v : Value) (l : List Int) (x : Int) (w : World) (hl : IsInts w v l) :
    Calls Try.prog 15 #[v, .int .i64 x] w fun e w' => e = .returned (.bool (hasB l x)) ∧ w = w' := by
  obtain ⟨a, cap, rfl, hm⟩ := hl.slice
  have Hl := Lib.hid hl
  clear hl
  go_enter Try.func15, Try.ntmps15
  go_wp2
  go_loop [9] (fun i => ∃ k : Nat, k ≤ l.length ∧ i = .int .i64 k ∧ NotYet l k (fun y => x == y)) (fun i => l.length - (intOf i).toNat)
  case atStart => exact ⟨0, Nat.zero_le _, rfl, NotYet.zero _ _⟩
  case round =>
    obtain ⟨k, hk, rfl, hN⟩ := hrel
    by_cases hlt : k < l.length
    · obtain ⟨y, hx⟩ := get_some _ _ hlt
      obtain ⟨b, off, cap2, hv, hb, hn, c1, _⟩ := Hl.out.at (Below.refl _ _) hx
      cases hv
      have HS := Lib.hid (take_succ_some _ _ _ hx)
      have Hx := Lib.hid hx
      clear hx
      rcases hxy : (x == y) with _ | _
      · go_wp2
        go_round
        case rel => exact ⟨k + 1, by omega, by go_num, hN.succ HS.out hxy⟩
        case measure => simp [intOf]; omega
      · have HR := Lib.hid (has_in Hx.out hxy)
        go_wp2
        go_ret
        exact ⟨by rw [HR.out]; rfl, rfl⟩
    · obtain rfl : k = l.length := by omega
      have HR := Lib.hid (has_out hN)
      go_wp2
      go_ret
      exact ⟨by rw [HR.out]; rfl, rfl⟩

theorem has_yes (v : Value) (l : List Int) (x : Int) (w : World) (hl : IsInts w v l) (h : x ∈ l) :
    Calls Try.prog 15 #[v, .int .i64 x] w fun e w' => e = .returned (.bool true) ∧ w = w' := by
  have := has_any v l x w hl
  rwa [show hasB l x = true by simp [hasB, h]] at this
theorem has_no (v : Value) (l : List Int) (x : Int) (w : World) (hl : IsInts w v l) (h : x ∉ l) :
    Calls Try.prog 15 #[v, .int .i64 x] w fun e w' => e = .returned (.bool false) ∧ w = w' := by
  have := has_any v l x w hl
  rwa [show hasB l x = false by simp [hasB, h]] at this

theorem refers_in {l : List V} {k : Nat} {x : Int} {y : V} (hx : l[k]? = some y) (h : (y.ref && (y.n == x)) = true) : refersB l x = true := by
  obtain ⟨r, n⟩ := y
  simp at h
  obtain ⟨rfl, rfl⟩ := h
  simpa [refersB] using List.mem_of_getElem? hx
theorem refers_out {l : List V} {x : Int} (h : NotYet l l.length (fun y => y.ref && (y.n == x))) : refersB l x = false := by
  have := h.all
  simp [refersB]
  intro hm
  simpa using this _ hm

set_option maxHeartbeats 400000 in
theorem refers_any (v : Value) (l : List V) (x : Int) (w : World) (hl : IsVals w v l) :
    Calls Try.prog 29 #[v, .int .i64 x] w fun e w' => e = .returned (.bool (refersB l x)) ∧ Below w.heap.size w w' := by
  obtain ⟨a, cap, rfl, hm⟩ := hl.slice
  have Hl := Lib.hid hl
  clear hl
  go_enter Try.func29, Try.ntmps29
  go_wp2
  go_loopw [9] (fun i wr => ∃ k : Nat, k ≤ l.length ∧ i = .int .i64 k ∧ NotYet l k (fun y => y.ref && (y.n == x)) ∧ Below w.heap.size w wr) (fun i _ => l.length - (intOf i).toNat)
  case atStart => exact ⟨0, Nat.zero_le _, rfl, NotYet.zero _ _, Below.refl _ _⟩
  case round =>
    obtain ⟨k, hk, rfl, hN, hB⟩ := hrel
    by_cases hlt : k < l.length
    · obtain ⟨y, hx⟩ := get_some _ _ hlt
      obtain ⟨b, off, cap2, hv, hb, hn, c1, c2, _⟩ := Hl.out.at hB hx
      cases hv
      have HS := Lib.hid (take_succ_some _ _ _ hx)
      have Hx := Lib.hid hx
      clear hx
      obtain ⟨r, n⟩ := y
      have hBa := fun o => hB.alloc hB.size o
      cases r
      · go_wp2
        go_roundw
        case rel => exact ⟨k + 1, by omega, by go_num, hN.succ HS.out rfl, hBa _⟩
        case measure => simp [intOf]; omega
      · rcases hxy : (n == x) with _ | _
        · go_wp2
          go_roundw
          case rel => exact ⟨k + 1, by omega, by go_num, hN.succ HS.out (by simpa using hxy), hBa _⟩
          case measure => simp [intOf]; omega
        · have HR := Lib.hid (refers_in Hx.out (by simpa using hxy))
          go_wp2
          go_ret
          exact ⟨by rw [HR.out]; rfl, hBa _⟩
    · obtain rfl : k = l.length := by omega
      have HR := Lib.hid (refers_out hN)
      go_wp2
      go_ret
      exact ⟨by rw [HR.out]; rfl, hB⟩
end Go.Proofs.Ytnpbdabboecpaaa
