/- Graphs out of bytes: bytes.Equal, Get, walked. -/
import Derived.Test.YtelhjcifiahahaaJ6
import Derived.Laws.BytesArg
import Derived.Lib.Bytes
namespace Go.Proofs.Ytelhjcifiahahaa
open Go.RowKit

def numsOfB (l : List Nat) : List Int := l.map fun b : Nat => (b : Int)
theorem bytes_conv {w : World} {a : Option Addr} {n c : Nat} {l : List Nat} (h : IsTup 1 encY w (.slice a n c) l) (h0 : 0 < l.length) : (convert 26 9 (.slice a n c)).run Try.prog w = .ok (.string (strOfNums (numsOfB l))) w := by
  obtain ⟨x, hx⟩ := get_some l 0 h0
  obtain ⟨b, off, cap, hv, _⟩ := h.at (Below.refl _ _) hx
  cases hv
  refine run_convert_bytes_arg (P := Try.prog) w 26 5 Try.underlying26 Try.underlying5 b off l.length c (numsOfB l) (by simp [numsOfB]) ?_ 9 Try.underlying9
  intro i hi
  obtain ⟨y, hy⟩ := get_some l i hi
  obtain ⟨b', off', cap', hv, _, _, hc⟩ := h.at (Below.refl _ _) hy
  cases hv
  have := hc 0 _ rfl
  rw [Nat.add_zero, Nat.mul_one] at this
  rw [this]
  simp [numsOfB, List.getD, hy]
theorem str_inj {l m : List Nat} (hl : ∀ x ∈ l, x < 256) (hm : ∀ x ∈ m, x < 256) (h : (strOfNums (numsOfB l)).toList = (strOfNums (numsOfB m)).toList) : l = m := by
  rw [Lib.strOfNums_toList, Lib.strOfNums_toList] at h
  have h1 := h
  simp only [Lib.bytesOf, numsOfB, List.map_map] at h1
  have key : ∀ l : List Nat, (∀ x ∈ l, x < 256) → (l.map ((fun n : Int => UInt8.ofNat n.toNat) ∘ fun b : Nat => (b : Int))).map UInt8.toNat = l := by
    intro l hl
    rw [List.map_map]
    conv => rhs; rw [← List.map_id l]
    apply List.map_congr_left
    intro x hx
    simp only [Function.comp, Int.toNat_natCast, UInt8.toNat_ofNat', id]
    have := hl x hx
    omega
  rw [← key l hl, ← key m hm, h1]
theorem str_eq {l m : List Nat} (hl : ∀ x ∈ l, x < 256) (hm : ∀ x ∈ m, x < 256) : ((strOfNums (numsOfB l)).toList == (strOfNums (numsOfB m)).toList) = decide (l = m) := by
  by_cases h : l = m
  · subst h; simp
  · rw [decide_eq_false h]
    exact beq_eq_false_iff_ne.2 fun h2 => h (str_inj hl hm h2)
set_option maxRecDepth 100000 in
set_option maxHeartbeats 1000000 in
theorem equal_any (a1 a2 : Option Addr) (n1 c1 n2 c2 : Nat) (l m : List Nat) (w : World) (hl : IsTup 1 encY w (.slice a1 n1 c1) l) (hm : IsTup 1 encY w (.slice a2 n2 c2) m) (h1 : 0 < l.length) (h2 : 0 < m.length) (b1 : ∀ x ∈ l, x < 256) (b2 : ∀ x ∈ m, x < 256) :
    Calls Try.prog 26 #[.slice a1 n1 c1, .slice a2 n2 c2] w fun e w' => e = .returned (.bool (decide (l = m))) ∧ w' = w := by
  have e1 := bytes_conv hl h1
  have e2 := bytes_conv hm h2
  have HS := Lib.hid (str_eq b1 b2)
  clear hl hm
  go_enter Try.func26, Try.ntmps26
  go_wp2
  rw [HS.out]
  go_ret
  exact ⟨rfl, rfl⟩
end Go.Proofs.Ytelhjcifiahahaa
