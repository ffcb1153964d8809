/- GraphWays: the plain law, and the walk. -/
import Derived.Test.YtdmgpiimacnapaaPv
namespace Go.Proofs.Ytdmgpiimacnapaa
open Go.RowKit Go.Shelf

theorem at_get {l : List Int} (hn : l.Nodup) {i : Nat} {y : Int} (hi : l[i]? = some y) : ∀ k, i < k → k ≤ l.length → at_ l k y = i := by
  intro k
  induction k with
  | zero => intro h; omega
  | succ k ih =>
    intro h1 h2
    obtain ⟨z, hz⟩ := get_some l k (by omega)
    have e : l.getD k 0 = z := by rw [List.getD_eq_getElem?_getD, hz]; rfl
    unfold at_
    rw [e]
    by_cases hik : i = k
    · subst hik
      rw [hi] at hz; cases hz
      rw [if_pos rfl]
    · rw [if_neg ?_, ih (by omega) (by omega)]
      rintro rfl
      obtain ⟨hi1, hi2⟩ := List.getElem?_eq_some_iff.1 hi
      obtain ⟨hk1, hk2⟩ := List.getElem?_eq_some_iff.1 hz
      have := List.pairwise_iff_getElem.1 hn i k hi1 hk1 (by omega)
      exact this (by rw [hi2, hk2])
theorem at_place {l : List Int} (hn : l.Nodup) {i : Nat} {y : Int} (hi : l[i]? = some y) : at_ l l.length y = i := at_get hn hi _ (List.getElem?_eq_some_iff.1 hi).1 (Nat.le_refl _)
theorem at_inj {l : List Int} (hn : l.Nodup) {x y : Int} (hx : x ∈ l) (hy : y ∈ l) : at_ l l.length x = at_ l l.length y ↔ x = y := by
  obtain ⟨i, hi, rfl⟩ := List.getElem_of_mem hx
  obtain ⟨j, hj, rfl⟩ := List.getElem_of_mem hy
  rw [at_place hn (List.getElem?_eq_getElem hi), at_place hn (List.getElem?_eq_getElem hj)]
  constructor
  · intro h; have : i = j := by omega
    subst this; rfl
  · intro h
    have := (List.getElem_inj hn).1 h
    omega
theorem renum_fields {g : G} {l : List Int} {i : Nat} {x : Int} (hi : l[i]? = some x) : fieldsAt (renum g l) (i : Int) = (fieldsAt g x).map (turnV (at_ l l.length)) := by
  show (l.map _).getD (i : Int).toNat [] = _
  rw [Int.toNat_natCast, List.getD_eq_getElem?_getD, List.getElem?_map, hi]; rfl
theorem ref_target {l : List V} {v : V} (hv : v ∈ l) (hr : v.ref = true) : v.n ∈ targets l := mem_targets hv hr

theorem getD_map {l : List V} {f : V → V} {j : Nat} (hj : j < l.length) : (l.map f).getD j default = f (l.getD j default) := by
  rw [List.getD_eq_getElem?_getD, List.getD_eq_getElem?_getD, List.getElem?_map, List.getElem?_eq_getElem hj]; rfl
theorem getD_mem {l : List V} {j : Nat} (hj : j < l.length) : l.getD j default ∈ l := by
  rw [List.getD_eq_getElem?_getD, List.getElem?_eq_getElem hj]; exact List.getElem_mem hj
theorem turnV_ref (p : Int → Int) (v : V) : (turnV p v).ref = v.ref := by
  unfold turnV; split
  · rename_i h; exact h.symm
  · rfl

theorem atWay_c {g : G} {l dist : List Int} (h : Far g l dist) : ∀ (way : List Int) (v : V), (v.ref = true → v.n ∈ l) →
    atWay (renum g l) (turnV (at_ l l.length) v) way = (atWay g v way).map (turnV (at_ l l.length)) ∧ ∀ u, atWay g v way = some u → u.ref = true → u.n ∈ l := by
  intro way
  induction way with
  | nil => intro v hv; exact ⟨rfl, fun u hu => by cases hu; exact hv⟩
  | cons x xs ih =>
    intro v hv
    by_cases hr : v.ref = true
    · have hm := hv hr
      obtain ⟨i, hi, he⟩ := List.getElem_of_mem hm
      have hget : l[i]? = some v.n := by rw [List.getElem?_eq_getElem hi, he]
      have hp := at_place h.inv.nodup hget
      have ht : turnV (at_ l l.length) v = ⟨true, (i : Int)⟩ := by unfold turnV; rw [if_pos hr, hp]
      have hrng := h.inv.rng v.n hm
      rw [ht]
      unfold atWay
      have hlen : (renum g l).objs.length = l.length := by simp [renum]
      simp only [hlen, renum_fields hget, List.length_map]
      by_cases hc : 0 ≤ x ∧ x < (fieldsAt g v.n).length
      · rw [if_pos ⟨trivial, by omega, by omega, hc.1, hc.2⟩, if_pos ⟨hr, by omega, by omega, hc.1, hc.2⟩]
        have hj : x.toNat < (fieldsAt g v.n).length := by omega
        rw [getD_map hj]
        exact ih _ (fun hr2 => (h.closed v.n hm _ (ref_target (getD_mem hj) hr2)).1)
      · rw [if_neg (fun hh => hc ⟨hh.2.2.2.1, hh.2.2.2.2⟩), if_neg (fun hh => hc ⟨hh.2.2.2.1, hh.2.2.2.2⟩)]
        exact ⟨rfl, fun u hu => by cases hu⟩
    · have ht : turnV (at_ l l.length) v = v := by unfold turnV; rw [if_neg hr]
      rw [ht]
      unfold atWay
      rw [if_neg (fun hh => hr hh.1), if_neg (fun hh => hr hh.1)]
      exact ⟨rfl, fun u hu => by cases hu⟩

theorem atG_c {g : G} {l dist : List Int} (h : Far g l dist) (root : Int) (way : List Int) :
    atG (renum g l) root way = (atG g root way).map (turnV (at_ l l.length)) ∧ ∀ u, atG g root way = some u → u.ref = true → u.n ∈ l := by
  unfold atG
  have hlen : (renum g l).roots.length = g.roots.length := by simp [renum]
  rw [hlen]
  split
  · rename_i hc
    have hj : root.toNat < g.roots.length := by omega
    have e : (renum g l).roots.getD root.toNat default = turnV (at_ l l.length) (g.roots.getD root.toNat default) := getD_map hj
    rw [e]
    exact atWay_c h way _ (fun hr => (h.root _ (ref_target (getD_mem hj) hr)).1)
  · exact ⟨rfl, fun u hu => by cases hu⟩

/-- What the two ends tell of one way. -/
structure Ends (g : G) (l : List Int) (A : Option V) (r s : Bool) (n n' : Int) : Prop where
  r_ : (atV A).ref = r
  n_ : (atV A).n = n
  s_ : A.isSome = s
  n' : (atV (A.map (turnV (at_ l l.length)))).n = n'
theorem Ends.num {g : G} {l : List Int} {A : Option V} {s : Bool} {n n' : Int} (h : Ends g l A false s n n') : n' = n := by
  obtain ⟨h1, h2, h3, h4⟩ := h
  cases A with
  | none => simp [atV] at h2 h4; omega
  | some v =>
    simp only [atV, Option.map_some, Option.getD_some] at h1 h2 h4
    unfold turnV at h4
    rw [if_neg (by simp [h1])] at h4
    omega
theorem Ends.ref {g : G} {l : List Int} {A : Option V} {s : Bool} {n n' : Int} (h : Ends g l A true s n n') (hm : ∀ u, A = some u → u.ref = true → u.n ∈ l) : n ∈ l ∧ n' = at_ l l.length n := by
  obtain ⟨h1, h2, h3, h4⟩ := h
  cases A with
  | none => simp [atV] at h1
  | some v =>
    simp only [atV, Option.map_some, Option.getD_some] at h1 h2 h4
    unfold turnV at h4
    rw [if_pos h1] at h4
    subst h2 h4
    exact ⟨hm v rfl h1, rfl⟩
theorem atV_map_ref (p : Int → Int) (A : Option V) : (atV (A.map (turnV p))).ref = (atV A).ref := by
  cases A with
  | none => rfl
  | some v => exact turnV_ref p v
end Go.Proofs.Ytdmgpiimacnapaa
