/- The least closed set from some objects; lists that rise. Plain. -/
import Derived.Test.YtnpbdabboecpaaaTz
import Derived.Test.YtnpbdabboecpaaaLh
namespace Go.Proofs.Ytnpbdabboecpaaa
open Go.RowKit Go.Shelf

def SaysQ (p : Prop) (w w' : World) (e : Ending) : Prop := ∃ t : Bool, e = .returned (.bool t) ∧ (t = true ↔ p) ∧ w = w'
/-- What is come to from some objects: the least closed set. -/
def TS (g : G) (fr : List Int) (i : Int) : Prop := ∀ S : Int → Prop, (∀ i, S i → ∀ j ∈ targets (fieldsAt g i), S j) → (∀ x ∈ fr, S x) → S i
theorem target_in {g : G} (hG : Good g) {i : Int} {j : Int} (h : j ∈ targets (fieldsAt g i)) : 0 ≤ j ∧ j < (g.objs.length : Int) := hG.target (fun x hx => fields_all g i x hx) h
theorem TS.rng {g : G} (hG : Good g) {fr : List Int} (hf : ∀ x ∈ fr, 0 ≤ x ∧ x < (g.objs.length : Int)) {i : Int} (h : TS g fr i) : 0 ≤ i ∧ i < (g.objs.length : Int) :=
  h (fun i => 0 ≤ i ∧ i < (g.objs.length : Int)) (fun _ _ _ hj => target_in hG hj) hf
theorem TS.mono {g : G} {a b : List Int} (h : ∀ x ∈ a, x ∈ b) {i : Int} (hi : TS g a i) : TS g b i := fun S hS hb => hi S hS fun x hx => hb x (h x hx)
theorem TS.of_mem {g : G} {b : List Int} {x : Int} (h : x ∈ b) : TS g b x := fun _ _ hS => hS x h
theorem rising_of {l : List Int} (h : l.Pairwise (· < ·)) : Rising l := by
  intro k x y hx hy
  obtain ⟨h1, rfl⟩ := List.getElem?_eq_some_iff.1 hx
  obtain ⟨h2, rfl⟩ := List.getElem?_eq_some_iff.1 hy
  exact List.pairwise_iff_getElem.1 h k (k + 1) h1 h2 (by omega)
theorem rising_le {l : List Int} {n : Nat} (h : l.Pairwise (· < ·)) (hr : ∀ x ∈ l, 0 ≤ x ∧ x < (n : Int)) : l.length ≤ n := by
  have h1 : ∀ (k : Nat) (hk : k < l.length), (k : Int) ≤ l[k] := by
    intro k
    induction k with
    | zero => intro hk; have := hr _ (List.getElem_mem hk); omega
    | succ k ih =>
      intro hk
      have h2 := ih (by omega)
      have h3 := List.pairwise_iff_getElem.1 h k (k + 1) (by omega) hk (by omega)
      omega
  rcases Nat.lt_or_ge n l.length with h2 | h2
  · have h3 := h1 n h2
    have h4 := hr _ (List.getElem_mem h2)
    omega
  · exact h2
theorem within_either (n : Nat) (v : Value) (l : List Int) (w : World) (hl : IsInts w v l) :
    Calls Try.prog 22 #[.int .i64 n, v] w fun e w' => SaysQ (∀ x ∈ l, 0 ≤ x ∧ x < (n : Int)) w w' e := by
  obtain ⟨a, cap, rfl, hm⟩ := hl.slice
  have Hl := Lib.hid hl
  clear hl
  go_enter Try.func22, Try.ntmps22
  go_wp2
  go_loop [9] (fun i => ∃ k : Nat, k ≤ l.length ∧ i = .int .i64 k ∧ ∀ x ∈ l.take k, 0 ≤ x ∧ x < (n : Int)) (fun i => l.length - (intOf i).toNat)
  case atStart => exact ⟨0, Nat.zero_le _, rfl, by simp⟩
  case round =>
    obtain ⟨k, hk, rfl, hN⟩ := hrel
    by_cases hlt : k < l.length
    · obtain ⟨y, hx⟩ := get_some _ _ hlt
      obtain ⟨b, off, cap2, hv, hb, hn, c1, _⟩ := Hl.out.at (Below.refl _ _) hx
      cases hv
      have HS := Lib.hid (take_succ_some _ _ _ hx)
      have HN := Lib.hid hN
      have Hx := Lib.hid (List.mem_of_getElem? hx)
      clear hx hN
      by_cases h0 : y < 0
      · have Hno : Hid (¬ ∀ x ∈ l, 0 ≤ x ∧ x < (n : Int)) := Lib.hid (fun h => by have := h y Hx.out; omega)
        go_wp2
        go_ret
        exact ⟨false, rfl, ⟨fun h => (by cases h), fun h => (Hno.out h).elim⟩, rfl⟩
      · by_cases h1 : (n : Int) ≤ y
        · have Hno : Hid (¬ ∀ x ∈ l, 0 ≤ x ∧ x < (n : Int)) := Lib.hid (fun h => by have := h y Hx.out; omega)
          go_wp2
          go_ret
          exact ⟨false, rfl, ⟨fun h => (by cases h), fun h => (Hno.out h).elim⟩, rfl⟩
        · go_wp2
          go_round
          case rel => exact ⟨k + 1, by omega, by go_num, by rw [HS.out]; intro x hx; rcases List.mem_append.1 hx with h | h; exact HN.out x h; simp at h; subst h; omega⟩
          case measure => simp [intOf]; omega
    · obtain rfl : k = l.length := by omega
      rw [List.take_length] at hN
      have HN := Lib.hid hN
      clear hN
      go_wp2
      go_ret
      exact ⟨true, rfl, ⟨fun _ => HN.out, fun _ => rfl⟩, rfl⟩
end Go.Proofs.Ytnpbdabboecpaaa
