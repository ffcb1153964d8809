/- Handles: what HandleStale keeps of them. Plain. -/
import Derived.Test.YthlllbpilcapiaaDoorVk
namespace Go.Proofs.YthlllbpilcapiaaDoor
open Go.RowKit

def encL (b : Bool) : List Value := [.bool b]
theorem encL_len (b : Bool) : (encL b).length = 1 := rfl
theorem set_L {l : List Bool} {i : Nat} : (l.flatMap encL).set i (.bool false) = (l.set i false).flatMap encL := by
  have e : ∀ l : List Bool, l.flatMap encL = l.map Value.bool := fun l => by
    induction l with
    | nil => rfl
    | cons x l ih => rw [List.flatMap_cons, ih]; rfl
  rw [e, e, List.map_set]
theorem elemI64 : Elem Tryd.prog 27 2 1 8 (.int .i64 0) := ⟨by kernel_rfl, info_parts (by kernel_rfl), rfl, by decide⟩
theorem elemBo : Elem Tryd.prog 28 4 1 1 (.bool false) := ⟨by kernel_rfl, info_parts (by kernel_rfl), rfl, by decide⟩
def KnL (K : List Known) (A1 A2 : List Int) (A3 : List Bool) (m : Nat) : Prop := A1 = K.map (·.1) ∧ A2 = K.map (·.2.1) ∧ A3 = K.map (·.2.2) ∧ K.length = m
theorem KnL.lens {K : List Known} {A1 A2 : List Int} {A3 : List Bool} {m : Nat} (h : KnL K A1 A2 A3 m) : A1.length = m ∧ A2.length = m ∧ A3.length = m := by
  obtain ⟨rfl, rfl, rfl, h⟩ := h; simp [h]
theorem KnL.app {K : List Known} {A1 A2 : List Int} {A3 : List Bool} {m : Nat} (h : KnL K A1 A2 A3 m) (g x : Int) : KnL (K ++ [(g, x, true)]) (A1 ++ [g]) (A2 ++ [x]) (A3 ++ [true]) (m + 1) := by
  obtain ⟨rfl, rfl, rfl, h⟩ := h; exact ⟨by simp, by simp, by simp, by simp [h]⟩
theorem KnL.at {K : List Known} {A1 A2 : List Int} {A3 : List Bool} {m : Nat} (h : KnL K A1 A2 A3 m) {i : Nat} {g : Int} (hi : A1[i]? = some g) : ∃ x b, K[i]? = some (g, x, b) ∧ A2[i]? = some x ∧ A3[i]? = some b := by
  obtain ⟨rfl, rfl, rfl, _⟩ := h
  rw [List.getElem?_map] at hi
  cases hk : K[i]? with
  | none => rw [hk] at hi; cases hi
  | some y =>
    rw [hk] at hi
    obtain ⟨a, x, b⟩ := y
    cases hi
    exact ⟨x, b, rfl, by simp [hk], by simp [hk]⟩
theorem KnL.miss {K : List Known} {A1 A2 : List Int} {A3 : List Bool} {m : Nat} (h : KnL K A1 A2 A3 m) {g : Int} (hn : ∀ i, i < m → ∀ x, A1[i]? = some x → x ≠ g) : ∀ z ∈ K, z.1 ≠ g := by
  obtain ⟨rfl, _, _, hl⟩ := h
  intro z hz
  obtain ⟨i, hi, rfl⟩ := List.mem_iff_getElem.1 hz
  exact hn i (by omega) _ (by rw [List.getElem?_map, List.getElem?_eq_getElem hi]; rfl)
theorem KnL.fresh {K : List Known} {A1 A2 : List Int} {A3 : List Bool} {m : Nat} (h : KnL K A1 A2 A3 m) {g : Int} (hn : ∀ z ∈ K, z.1 ≠ g) {i : Nat} {x : Int} (hx : A1[i]? = some x) : x ≠ g := by
  obtain ⟨y, b, h1, _⟩ := h.at hx
  exact hn _ (List.mem_of_getElem? h1)
theorem names_one {K : List Known} (hnd : (K.map (·.1)).Nodup) {i j : Nat} {x y : Known} (hx : K[i]? = some x) (hy : K[j]? = some y) (he : x.1 = y.1) : i = j := by
  have hi := (List.getElem?_eq_some_iff.1 hx).1
  exact (List.getElem?_inj (by simpa using hi : i < (K.map (·.1)).length) hnd).1 (by rw [List.getElem?_map, List.getElem?_map, hx, hy]; simp [he])
theorem live_iff {K : List Known} (hnd : (K.map (·.1)).Nodup) {i : Nat} {g x : Int} {b : Bool} (hi : K[i]? = some (g, x, b)) : (∃ z ∈ K, z.1 = g ∧ z.2.2 = true) ↔ b = true := by
  constructor
  · rintro ⟨z, hz, h1, h2⟩
    obtain ⟨j, hj⟩ := List.mem_iff_getElem?.1 hz
    obtain rfl := names_one hnd hi hj h1.symm
    rw [hi] at hj; cases hj; exact h2
  · intro hb; subst hb; exact ⟨_, List.mem_of_getElem? hi, rfl, rfl⟩
theorem KnL.dead {K : List Known} {A1 A2 : List Int} {A3 : List Bool} {m : Nat} (h : KnL K A1 A2 A3 m) (hnd : (K.map (·.1)).Nodup) {i : Nat} {g x : Int} {b : Bool} (hi : K[i]? = some (g, x, b)) : KnL (deadK K g) A1 A2 (A3.set i false) m := by
  obtain ⟨rfl, rfl, rfl, hl⟩ := h
  refine ⟨(deadK_names K g).symm, ?_, ?_, by rw [deadK, List.length_map, hl]⟩
  · unfold deadK
    rw [List.map_map]
    apply List.map_congr_left
    intro z _
    simp only [Function.comp]
    split <;> rfl
  · apply List.ext_getElem?
    intro j
    unfold deadK
    rw [List.getElem?_set, List.map_map, List.getElem?_map, List.getElem?_map, List.length_map]
    by_cases e : i = j
    · subst e
      have hlt := (List.getElem?_eq_some_iff.1 hi).1
      rw [if_pos rfl, if_pos hlt, hi]
      simp [Function.comp]
    · rw [if_neg e]
      cases hj : K[j]? with
      | none => rfl
      | some y =>
        have : y.1 ≠ g := fun h9 => e (names_one hnd hi hj h9.symm)
        simp [Function.comp, this]
theorem dead_miss {K : List Known} {g : Int} (hn : ∀ z ∈ K, z.1 ≠ g) : deadK K g = K := by
  unfold deadK
  conv => rhs; rw [← List.map_id K]
  apply List.map_congr_left
  intro x hx
  rw [if_neg (hn x hx)]; rfl
/-- The last of the first j that has a number; -1: none has. -/
def ScanK (A1 : List Int) (g : Int) (j : Nat) (q : Int) : Prop := (q = -1 ∧ ∀ i, i < j → ∀ x, A1[i]? = some x → x ≠ g) ∨ ∃ i : Nat, i < j ∧ q = (i : Int) ∧ A1[i]? = some g
theorem ScanK.hit {A1 : List Int} {g : Int} {j : Nat} (h : A1[j]? = some g) : ScanK A1 g (j + 1) (j : Int) := .inr ⟨j, Nat.lt_succ_self _, rfl, h⟩
theorem ScanK.next {A1 : List Int} {g x q : Int} {j : Nat} (h : ScanK A1 g j q) (hx : A1[j]? = some x) (hne : x ≠ g) : ScanK A1 g (j + 1) q := by
  rcases h with ⟨h1, h2⟩ | ⟨i, h1, h2, h3⟩
  · refine .inl ⟨h1, fun i hi y hy => ?_⟩
    rcases Nat.lt_or_ge i j with h4 | h4
    · exact h2 i h4 y hy
    · obtain rfl : i = j := by omega
      rw [hx] at hy; cases hy; exact hne
  · exact .inr ⟨i, by omega, h2, h3⟩
theorem own_shape {B : Nat} {w : World} {e : TypeId} {sz n : Nat} {v : Value} {xs : List Value} (h : w.ownsRow B e sz v n xs) : ∃ a c, v = .slice a n c ∧ (0 < n → ∃ g, a = some ⟨g, 0, none⟩) := by
  rcases h.2 with ⟨h1, h2⟩ | ⟨g, cap, cur, h1, _⟩
  · exact ⟨none, 0, by rw [h1, h2], fun h => by omega⟩
  · exact ⟨_, _, h1, fun _ => ⟨g, rfl⟩⟩
end Go.Proofs.YthlllbpilcapiaaDoor
