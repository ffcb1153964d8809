/- Components in an order in which each stands behind those it leads to. Plain. -/
import Derived.Test.YtnpbdabboecpaaaN1
namespace Go.Proofs.Ytnpbdabboecpaaa
namespace Tarj
section
variable {E : Int → Int → Prop} {n : Nat} {comp : Int → Int} {all : List (List Int)}
theorem nodup_inj {l : List Int} (h : l.Nodup) {p q : Nat} {x : Int} (hp : l[p]? = some x) (hq : l[q]? = some x) : p = q := by
  obtain ⟨h1, h2⟩ := List.getElem?_eq_some_iff.1 hp
  obtain ⟨h3, h4⟩ := List.getElem?_eq_some_iff.1 hq
  have hpw := List.pairwise_iff_getElem.1 h
  rcases Nat.lt_trichotomy p q with h5 | h5 | h5
  · exact (hpw p q h1 h3 h5 (by rw [h2, h4])).elim
  · exact h5
  · exact (hpw q p h3 h1 h5 (by rw [h2, h4])).elim
/-- One component refers to another one. -/
def CE (E : Int → Int → Prop) (comp : Int → Int) (c d : Int) : Prop := c ≠ d ∧ ∃ i j, E i j ∧ comp i = c ∧ comp j = d
theorem Res.ce_lt (h : Res E n comp all) {c d : Int} (hc : 0 ≤ c) (he : CE E comp c d) : 0 ≤ d ∧ d < c := by
  obtain ⟨hne, i, j, h1, rfl, rfl⟩ := he
  obtain ⟨h2, h3⟩ := h.done i j hc h1
  exact ⟨h2, by omega⟩
/-- What has been taken: none twice, each behind those it leads to. -/
structure Took (E : Int → Int → Prop) (comp : Int → Int) (K : Nat) (o : List Int) : Prop where
  nodup : o.Nodup
  rng : ∀ c ∈ o, 0 ≤ c ∧ c < K
  back : ∀ (p : Nat) (c : Int), o[p]? = some c → ∀ d, CE E comp c d → d ∈ o.take p
theorem Took.nil (K : Nat) : Took E comp K [] := ⟨by simp, by simp, by simp⟩
theorem Took.snoc {K : Nat} {o : List Int} (h : Took E comp K o) {c : Int} (h0 : 0 ≤ c ∧ c < K) (hn : c ∉ o) (hd : ∀ d, CE E comp c d → d ∈ o) : Took E comp K (o ++ [c]) := by
  refine ⟨?_, ?_, ?_⟩
  · rw [List.nodup_append]
    refine ⟨h.nodup, by simp, ?_⟩
    rintro a ha b hb rfl
    rw [List.mem_singleton.1 hb] at ha
    exact hn ha
  · intro x hx
    rcases List.mem_append.1 hx with hx | hx
    · exact h.rng x hx
    · rw [List.mem_singleton.1 hx]; exact h0
  · intro p x hx d hxd
    rcases Nat.lt_or_ge p o.length with hp | hp
    · rw [List.getElem?_append_left hp] at hx
      rw [List.take_append_of_le_length (by omega)]
      exact h.back p x hx d hxd
    · rw [List.getElem?_append_right hp] at hx
      have hp2 : p = o.length := by
        have := (List.getElem?_eq_some_iff.1 hx).1
        simp at this; omega
      subst hp2
      simp at hx
      subst hx
      rw [List.take_append_of_le_length (Nat.le_refl _), List.take_length]
      exact hd d hxd
theorem Took.len {K : Nat} {o : List Int} (h : Took E comp K o) : o.length ≤ K := by
  have := h.nodup.length_le_of_subset (l₂ := (List.range K).map fun k : Nat => (k : Int)) fun y hy => by
    have h4 := h.rng y hy
    exact List.mem_map.2 ⟨y.toNat, List.mem_range.2 (by omega), by omega⟩
  simpa using this
theorem Took.full {K : Nat} {o : List Int} (h : Took E comp K o) (hl : o.length = K) {c : Int} (h0 : 0 ≤ c) (h1 : c < K) : c ∈ o := by
  apply Classical.byContradiction
  intro hn
  have h2 : (c :: o).Nodup := List.nodup_cons.2 ⟨hn, h.nodup⟩
  have := h2.length_le_of_subset (l₂ := (List.range K).map fun k : Nat => (k : Int)) fun y hy => by
    rcases List.mem_cons.1 hy with rfl | hy
    · exact List.mem_map.2 ⟨y.toNat, List.mem_range.2 (by omega), by omega⟩
    · have h4 := h.rng y hy
      exact List.mem_map.2 ⟨y.toNat, List.mem_range.2 (by omega), by omega⟩
  simp at this
  omega
/-- While not all are taken, one leads to no other that is left: the first that is left. -/
theorem Res.next (h : Res E n comp all) {o : List Int} (hl : o.length < all.length) : ∃ c : Nat, c < all.length ∧ (c : Int) ∉ o ∧ ∀ d, CE E comp (c : Int) d → d ∈ o := by
  have key : ∀ m : Nat, m ≤ all.length → (∀ k : Nat, k < m → (k : Int) ∈ o) ∨ ∃ c : Nat, c < m ∧ (c : Int) ∉ o ∧ ∀ k : Nat, k < c → (k : Int) ∈ o := by
    intro m
    induction m with
    | zero => intro _; exact .inl (fun k hk => by omega)
    | succ m ih =>
      intro hm
      rcases ih (by omega) with h1 | ⟨c, h1, h2⟩
      · by_cases hmo : (m : Int) ∈ o
        · exact .inl (fun k hk => by
            by_cases e : k = m
            · subst e; exact hmo
            · exact h1 k (by omega))
        · exact .inr ⟨m, by omega, hmo, h1⟩
      · exact .inr ⟨c, by omega, h2⟩
  rcases key all.length (Nat.le_refl _) with h1 | ⟨c, h1, h2, h3⟩
  · exfalso
    have this : ((List.range all.length).map fun k : Nat => (k : Int)).Nodup := List.pairwise_map.2 ((List.nodup_range (n := all.length)).imp (fun h e => h (by omega)))
    have h4 := List.Nodup.length_le_of_subset (l₁ := (List.range all.length).map fun k : Nat => (k : Int)) (l₂ := o) this (by
      intro y hy
      obtain ⟨k, hk, rfl⟩ := List.mem_map.1 hy
      exact h1 k (List.mem_range.1 hk))
    simp at h4
    omega
  · refine ⟨c, h1, h2, fun d hd => ?_⟩
    have h4 := h.ce_lt (by omega) hd
    have h5 := h3 d.toNat (by omega)
    rwa [show ((d.toNat : Nat) : Int) = d by omega] at h5
/-- Edges go to what stands no later. -/
theorem Took.edge {K : Nat} {o : List Int} (h : Took E comp K o) {i j : Int} (he : E i j) {p q : Nat} (hp : o[p]? = some (comp i)) (hq : o[q]? = some (comp j)) : q ≤ p := by
  by_cases e : comp i = comp j
  · rw [← e] at hq
    have := nodup_inj h.nodup hp hq
    omega
  · have h1 := h.back p _ hp _ ⟨e, i, j, he, rfl, rfl⟩
    obtain ⟨r, hr⟩ := List.mem_iff_getElem?.1 h1
    rw [List.getElem?_take] at hr
    split at hr
    · have := nodup_inj h.nodup hr hq
      omega
    · cases hr
theorem Took.lead {K : Nat} {o : List Int} (h : Took E comp K o) (hl : o.length = K) (hr : Res E n comp all) (hK : all.length = K) {i j : Int} (hi : 0 ≤ comp i) (he : Lead E i j) {p q : Nat} (hp : o[p]? = some (comp i)) (hq : o[q]? = some (comp j)) : q ≤ p := by
  induction he generalizing p with
  | here =>
    have := nodup_inj h.nodup hp hq
    omega
  | @step a b c e _ ih =>
    have h1 := hr.done a b hi e
    obtain ⟨r, hr2⟩ := List.mem_iff_getElem?.1 (h.full hl h1.1 (by have := hr.ltl b; omega))
    have h2 := h.edge e hp hr2
    have h3 := ih h1.1 hr2 hq
    omega
end
end Tarj
end Go.Proofs.Ytnpbdabboecpaaa
