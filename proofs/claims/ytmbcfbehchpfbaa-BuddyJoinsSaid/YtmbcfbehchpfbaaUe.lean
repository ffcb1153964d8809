/- Elements of two cells cut out of, and put into, a slice of the call's own: plain facts on the cells. -/
import Derived.Test.YtmbcfbehchpfbaaUd
import Derived.Test.YtmbcfbehchpfbaaTu
import Derived.Test.YtmbcfbehchpfbaaUb
namespace Go.Proofs.Ytmbcfbehchpfbaa
open Go.RowKit

theorem getElem?_splice {α : Type} (L : List α) (o : Nat) (cs : List α) (h : o + cs.length ≤ L.length) (j : Nat) : (splice L o cs)[j]? = if j < o then L[j]? else if j < o + cs.length then cs[j - o]? else L[j]? := by
  unfold splice
  rw [List.getElem?_append, List.length_take, Nat.min_eq_left (by omega)]
  by_cases h1 : j < o
  · rw [if_pos h1, if_pos h1, List.getElem?_take, if_pos h1]
  · rw [if_neg h1, if_neg h1, List.getElem?_append]
    by_cases h2 : j < o + cs.length
    · rw [if_pos (by omega), if_pos h2]
    · rw [if_neg (by omega), if_neg h2, List.getElem?_drop]
      congr 1; omega
theorem splice_len {α : Type} (L : List α) (o : Nat) (cs : List α) (h : o + cs.length ≤ L.length) : (splice L o cs).length = L.length := length_splice L o cs h
theorem take_splice {α : Type} (L : List α) (o m : Nat) (cs : List α) (h : o + cs.length ≤ L.length) (hm : m ≤ o) : (splice L o cs).take m = L.take m := by
  apply List.ext_getElem?
  intro j
  rw [List.getElem?_take, List.getElem?_take]
  by_cases h1 : j < m
  · rw [if_pos h1, if_pos h1, getElem?_splice L o cs h, if_pos (by omega)]
  · rw [if_neg h1, if_neg h1]
theorem take_splice_end {α : Type} (L : List α) (o m : Nat) (cs : List α) (h : o + cs.length ≤ L.length) (hm : m = o + cs.length) : (splice L o cs).take m = L.take o ++ cs := by
  subst hm
  unfold splice
  rw [← List.append_assoc, List.take_append_of_le_length (by rw [List.length_append, List.length_take]; omega), List.take_of_length_le (by rw [List.length_append, List.length_take]; omega)]
theorem splice_up {α : Type} (C X D : List α) (p q n : Nat) (hq : q = p + X.length) (hn : n = q + D.length) (hC : n ≤ C.length) : (splice (splice C q D) p X).take n = C.take p ++ X ++ D := by
  subst hq hn
  have h1 : (splice C (p + X.length) D).length = C.length := splice_len _ _ _ hC
  apply List.ext_getElem?
  intro j
  rw [List.getElem?_take, List.append_assoc, List.getElem?_append, List.length_take, Nat.min_eq_left (by omega), List.getElem?_append]
  by_cases h2 : j < p + X.length + D.length
  · rw [if_pos h2, getElem?_splice _ _ _ (by omega), getElem?_splice _ _ _ (by omega)]
    by_cases h3 : j < p
    · rw [if_pos h3, if_pos h3, if_pos (by omega), List.getElem?_take, if_pos h3]
    · rw [if_neg h3, if_neg h3]
      by_cases h4 : j < p + X.length
      · rw [if_pos h4, if_pos (by omega)]
      · rw [if_neg h4, if_neg h4, if_pos h2, if_neg (by omega)]
        congr 1; omega
  · rw [if_neg h2, if_neg (by omega), if_neg (by omega), List.getElem?_eq_none (by omega)]
theorem splice_on {α : Type} (C X D : List α) (p q n : Nat) (hq : q = p + X.length) (hn : n = q + D.length) (hC : n ≤ C.length) : (splice (splice C p X) q D).take n = C.take p ++ X ++ D := by
  subst hq hn
  have h1 : (splice C p X).length = C.length := splice_len _ _ _ (by omega)
  rw [take_splice_end _ _ _ _ (by omega) rfl, take_splice_end _ _ _ _ (by omega) rfl]
section
variable {α : Type} {sz : Nat} {enc : α → List Value}
theorem take_tup (hz : ∀ x, (enc x).length = sz) : ∀ (l : List α) (i : Nat), (l.flatMap enc).take (i * sz) = (l.take i).flatMap enc
  | [], i => by simp
  | x :: l, 0 => by simp
  | x :: l, i + 1 => by
    rw [List.take_succ_cons, List.flatMap_cons, List.flatMap_cons, Nat.add_mul, Nat.one_mul, Nat.add_comm, ← hz x, List.take_length_add_append, hz, take_tup hz l i]
theorem drop_tup (hz : ∀ x, (enc x).length = sz) : ∀ (l : List α) (i : Nat), (l.flatMap enc).drop (i * sz) = (l.drop i).flatMap enc
  | [], i => by simp
  | x :: l, 0 => by simp
  | x :: l, i + 1 => by
    rw [List.drop_succ_cons, List.flatMap_cons, Nat.add_mul, Nat.one_mul, Nat.add_comm, ← hz x, List.drop_length_add_append, hz, drop_tup hz l i]
theorem insert_tup (l : List α) (i : Nat) (x : α) (h : i ≤ l.length) : (l.take i).flatMap enc ++ enc x ++ (l.drop i).flatMap enc = (l.insertIdx i x).flatMap enc := by
  have e : l.insertIdx i x = l.take i ++ x :: l.drop i := by
    have hl : (l.take i).length = i := by rw [List.length_take]; omega
    have := ins_split (l.take i) x (l.drop i)
    rw [hl, List.take_append_drop] at this
    exact this
  rw [e, List.flatMap_append, List.flatMap_cons, List.append_assoc]
theorem erase_tup (l : List α) (i : Nat) : (l.take i).flatMap enc ++ (l.drop (i + 1)).flatMap enc = (l.eraseIdx i).flatMap enc := by
  rw [← List.flatMap_append, List.eraseIdx_eq_take_drop_succ]
theorem one_tup (h1 : ∀ x, ∀ v ∈ enc x, v.oneCell' = true) (l : List α) : ∀ v ∈ l.flatMap enc, v.oneCell' = true := by
  intro v hv
  obtain ⟨x, _, hx⟩ := List.mem_flatMap.1 hv
  exact h1 x v hx
end
end Go.Proofs.Ytmbcfbehchpfbaa
