/- ArenaOnly, walked. -/
import Derived.Test.YtigdpdndnghldaaBi
namespace Go.Proofs.Ytigdpdndnghldaa
open Go.RowKit Go.Shelf

theorem at_split : ∀ (os : List Ob) (i : Nat), i < (flat os).length → ∃ (k : Nat) (o : Ob), os[k]? = some o ∧ (i = place os k ∨ ∃ j, j < o.2.length ∧ i = place os k + 1 + j)
  | [], i, h => by simp [flat] at h
  | o :: os, i, h => by
    rw [flat_cons, List.length_cons, List.length_append] at h
    by_cases h0 : i < 1 + o.2.length
    · refine ⟨0, o, rfl, ?_⟩
      rw [place_zero]
      rcases Nat.eq_zero_or_pos i with h1 | h1
      · exact .inl h1
      · exact .inr ⟨i - 1, by omega, by omega⟩
    · obtain ⟨k, o', ho, hc⟩ := at_split os (i - (1 + o.2.length)) (by omega)
      have hp : place (o :: os) (k + 1) = 1 + o.2.length + place os k := by
        unfold place
        rw [List.take_succ_cons, flat_cons, List.length_cons, List.length_append]; omega
      refine ⟨k + 1, o', by simpa using ho, ?_⟩
      rw [hp]
      rcases hc with hc | ⟨j, hj, hc⟩
      · exact .inl (by omega)
      · exact .inr ⟨j, hj, by omega⟩
def plainOs (os : List Ob) : List Ob := os.map fun o => (headW o.2.length 0 false, o.2)
theorem plain_place (os : List Ob) (k : Nat) : place (plainOs os) k = place os k := by
  have h : (plainOs os).map (fun o => o.2.length) = (os.map (·.2)).map List.length ∧ os.map (fun o => o.2.length) = ((os.map (·.2)) : List (List Int)).map List.length := by
    unfold plainOs
    rw [List.map_map, List.map_map]
    exact ⟨rfl, rfl⟩
  unfold place
  rw [flat_sum, flat_sum]
  unfold plainOs
  rw [← List.map_take, List.map_map]
  rfl
theorem plain_flat (os : List Ob) : (flat (plainOs os)).length = (flat os).length := by
  rw [← place_all, ← place_all, plain_place]
  unfold plainOs; rw [List.length_map]
theorem plain_same (os : List Ob) {i : Nat} (hi : i < (flat os).length) (hn : (i : Int) ∉ starts os) : (flat (plainOs os))[i]? = (flat os)[i]? := by
  obtain ⟨k, o, ho, hc⟩ := at_split os i hi
  have hk := (List.getElem?_eq_some_iff.1 ho).1
  rcases hc with rfl | ⟨j, hj, rfl⟩
  · exact absurd (starts_mem.2 ⟨k, hk, rfl⟩) hn
  · have hx := List.getElem?_eq_getElem hj
    have hp : (plainOs os)[k]? = some (headW o.2.length 0 false, o.2) := by unfold plainOs; rw [List.getElem?_map, ho]; rfl
    have key : ∀ (os : List Ob) (o : Ob), os[k]? = some o → o.2[j]? = some (o.2[j]?.getD 0) → (flat os)[place os k + 1 + j]? = o.2[j]? := by
      intro os o ho hx
      have hjl := (List.getElem?_eq_some_iff.1 hx).1
      rw [flat_part ho, List.getElem?_append_right (by unfold place; omega), show place os k + 1 + j - (flat (os.take k)).length = j + 1 by unfold place; omega, List.getElem?_cons_succ, List.getElem?_append_left hjl]
    rw [key os o ho (by rw [hx]; rfl)]
    have h2 := key (plainOs os) _ hp (by simp only; rw [hx]; rfl)
    rw [plain_place] at h2
    exact h2
end Go.Proofs.Ytigdpdndnghldaa
