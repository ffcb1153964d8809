/- Places in a list, as Renumber's map tells them. Plain. -/
import Derived.Test.YtjnbnfmlpdnngaaBase4
namespace Go.Proofs.Ytjnbnfmlpdnngaa

theorem at_get {l : List Int} (hn : l.Nodup) {i : Nat} {y : Int} (hi : l[i]? = some y) : ∀ k, i < k → k ≤ l.length → at_ l k y = i := by
  intro k
  induction k with
  | zero => intro h; omega
  | succ k ih =>
    intro h1 h2
    obtain ⟨z, hz⟩ := get_some l k (by omega)
    have e : l.getD k 0 = z := by rw [List.getD_eq_getElem?_getD, hz]; rfl
    unfold at_
    rw [e]
    by_cases hik : i = k
    · subst hik
      rw [hi] at hz; cases hz
      rw [if_pos rfl]
    · rw [if_neg ?_, ih (by omega) (by omega)]
      rintro rfl
      obtain ⟨hi1, hi2⟩ := List.getElem?_eq_some_iff.1 hi
      obtain ⟨hk1, hk2⟩ := List.getElem?_eq_some_iff.1 hz
      have := List.pairwise_iff_getElem.1 hn i k hi1 hk1 (by omega)
      exact this (by rw [hi2, hk2])
theorem at_place {l : List Int} (hn : l.Nodup) {i : Nat} {y : Int} (hi : l[i]? = some y) : at_ l l.length y = i := at_get hn hi _ (List.getElem?_eq_some_iff.1 hi).1 (Nat.le_refl _)
theorem at_inj {l : List Int} (hn : l.Nodup) {x y : Int} (hx : x ∈ l) (hy : y ∈ l) : at_ l l.length x = at_ l l.length y ↔ x = y := by
  obtain ⟨i, hi, rfl⟩ := List.getElem_of_mem hx
  obtain ⟨j, hj, rfl⟩ := List.getElem_of_mem hy
  rw [at_place hn (List.getElem?_eq_getElem hi), at_place hn (List.getElem?_eq_getElem hj)]
  constructor
  · intro h; have : i = j := by omega
    subst this; rfl
  · intro h
    have := (List.getElem_inj hn).1 h
    omega
theorem renum_fields {g : G} {l : List Int} {i : Nat} {x : Int} (hi : l[i]? = some x) : fieldsAt (renum g l) (i : Int) = (fieldsAt g x).map (turnV (at_ l l.length)) := by
  show (l.map _).getD (i : Int).toNat [] = _
  rw [Int.toNat_natCast, List.getD_eq_getElem?_getD, List.getElem?_map, hi]; rfl
end Go.Proofs.Ytjnbnfmlpdnngaa
