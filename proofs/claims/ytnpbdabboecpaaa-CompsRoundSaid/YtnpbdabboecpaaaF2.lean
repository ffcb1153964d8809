/- What Found tells is how far each is: plain. -/
import Derived.Test.YtnpbdabboecpaaaF0
namespace Go.Proofs.Ytnpbdabboecpaaa

def D (s : S) (j : Int) : Int := s.2.getD j.toNat 0

theorem take1_old {d : Int} {s : S} {j : Int} (h : 0 ≤ D s j) : take1 d s j = s := by unfold take1; rw [if_neg (by unfold D at h; omega)]
theorem take1_new {d : Int} {s : S} {j : Int} (h : D s j < 0) : take1 d s j = (s.1 ++ [j], s.2.set j.toNat d) := by unfold take1; rw [if_pos (show s.2.getD j.toNat 0 < 0 from h)]
theorem SInv.found {n : Nat} {s : S} (h : SInv n s) {j : Int} (hj : 0 ≤ j ∧ j < n) : 0 ≤ D s j ↔ j ∈ s.1 := by
  have := h.iff j.toNat (by omega)
  rwa [show ((j.toNat : Nat) : Int) = j by omega] at this
theorem D_set {n : Nat} {s : S} (h : SInv n s) {j : Int} (hj : 0 ≤ j ∧ j < n) (d y : Int) (l : List Int) (hy : 0 ≤ y) : D (l, s.2.set j.toNat d) y = if y = j then d else D s y := by
  unfold D
  simp only []
  rw [getD_set (by rw [h.len]; omega)]
  by_cases e : y = j
  · subst e; simp
  · rw [if_neg (by omega), if_neg e]

/-- Within the visit of x, the k-th found: pre are done. -/
structure BV (g : G) (k : Nat) (x : Int) (pre : List Int) (s : S) : Prop where
  v : VInv g.objs.length k x s
  root : ∀ j ∈ targets g.roots, j ∈ s.1 ∧ D s j = 0
  par : ∀ y ∈ s.1, (y ∈ targets g.roots ∧ D s y = 0) ∨ ∃ p ∈ s.1, y ∈ targets (fieldsAt g p) ∧ D s y = D s p + 1
  closed : ∀ (a : Nat) (p : Int), a < k → s.1[a]? = some p → ∀ j ∈ targets (fieldsAt g p), j ∈ s.1 ∧ D s j ≤ D s p + 1
  sorted : ∀ (a b : Nat) (p q : Int), a ≤ b → s.1[a]? = some p → s.1[b]? = some q → D s p ≤ D s q
  near : ∀ y ∈ s.1, D s y ≤ D s x + 1
  done : ∀ j ∈ pre, j ∈ s.1 ∧ D s j ≤ D s x + 1

theorem BV.step {g : G} {k : Nat} {x : Int} {pre : List Int} {s : S} (h : BV g k x pre s) {j : Int} (hj : 0 ≤ j ∧ j < (g.objs.length : Int)) (hjt : j ∈ targets (fieldsAt g x)) :
    BV g k x (pre ++ [j]) (take1 (distAt s k + 1) s j) := by
  have hd := h.v.dist
  have hv := h.v.step hj
  have hx := List.mem_of_getElem? h.v.at_
  have hDx : distAt s k = D s x := hd.2.2
  rw [hDx] at hv ⊢
  have hfj := h.v.inv.found hj
  have hpos : ∀ y ∈ s.1, 0 ≤ y := fun y hy => (h.v.inv.rng y hy).1
  by_cases h0 : 0 ≤ D s j
  · rw [take1_old h0] at hv ⊢
    have hjm := hfj.1 h0
    refine ⟨hv, h.root, h.par, h.closed, h.sorted, h.near, ?_⟩
    intro y hy
    rcases List.mem_append.1 hy with hy | hy
    · exact h.done y hy
    · simp at hy; subst hy; exact ⟨hjm, h.near _ hjm⟩
  · have hjn : j ∉ s.1 := fun hm => h0 (hfj.2 hm)
    rw [take1_new (by omega)] at hv ⊢
    have e := fun y hy => D_set h.v.inv hj (D s x + 1) y (s.1 ++ [j]) hy
    have eo : ∀ y ∈ s.1, D (s.1 ++ [j], s.2.set j.toNat (D s x + 1)) y = D s y := by
      intro y hy; rw [e y (hpos y hy), if_neg (by rintro rfl; exact hjn hy)]
    have ej : D (s.1 ++ [j], s.2.set j.toNat (D s x + 1)) j = D s x + 1 := by rw [e j hj.1, if_pos rfl]
    have mo : ∀ y ∈ s.1, y ∈ s.1 ++ [j] := fun y hy => List.mem_append_left _ hy
    refine ⟨hv, ?_, ?_, ?_, ?_, ?_, ?_⟩
    · intro y hy
      obtain ⟨h1, h2⟩ := h.root y hy
      exact ⟨mo y h1, by rw [eo y h1]; exact h2⟩
    · intro y hy
      rcases List.mem_append.1 hy with hy | hy
      · rw [eo y hy]
        rcases h.par y hy with h1 | ⟨p, hp, h1, h2⟩
        · exact .inl h1
        · exact .inr ⟨p, mo p hp, h1, by rw [eo p hp]; exact h2⟩
      · simp at hy; subst hy
        exact .inr ⟨x, mo x hx, hjt, by rw [ej, eo x hx]⟩
    · intro a p ha hp y hy
      have hal : a < s.1.length := by have := (List.getElem?_eq_some_iff.1 h.v.at_).1; omega
      rw [List.getElem?_append_left hal] at hp
      obtain ⟨h1, h2⟩ := h.closed a p ha hp y hy
      exact ⟨mo y h1, by rw [eo y h1, eo p (List.mem_of_getElem? hp)]; exact h2⟩
    · intro a b p q hab hp hq
      rcases Nat.lt_or_ge b s.1.length with hb | hb
      · rw [List.getElem?_append_left hb] at hq
        rw [List.getElem?_append_left (by omega)] at hp
        rw [eo p (List.mem_of_getElem? hp), eo q (List.mem_of_getElem? hq)]
        exact h.sorted a b p q hab hp hq
      · rw [List.getElem?_append_right hb] at hq
        have hqj : q = j := by have := List.mem_of_getElem? hq; simpa using this
        rw [hqj, ej]
        rcases Nat.lt_or_ge a s.1.length with ha | ha
        · rw [List.getElem?_append_left ha] at hp
          rw [eo p (List.mem_of_getElem? hp)]
          exact h.near p (List.mem_of_getElem? hp)
        · rw [List.getElem?_append_right ha] at hp
          have hpj : p = j := by have := List.mem_of_getElem? hp; simpa using this
          rw [hpj, ej]; omega
    · intro y hy
      rw [eo x hx]
      rcases List.mem_append.1 hy with hy | hy
      · rw [eo y hy]; exact h.near y hy
      · simp at hy; subst hy; rw [ej]; omega
    · intro y hy
      rw [eo x hx]
      rcases List.mem_append.1 hy with hy | hy
      · obtain ⟨h1, h2⟩ := h.done y hy
        exact ⟨mo y h1, by rw [eo y h1]; exact h2⟩
      · simp at hy; subst hy
        exact ⟨by simp, by rw [ej]; omega⟩

theorem BV.steps {g : G} {k : Nat} {x : Int} (hg : ∀ j ∈ targets (fieldsAt g x), 0 ≤ j ∧ j < (g.objs.length : Int)) : ∀ (more pre : List Int) (s : S), BV g k x pre s → (∀ j ∈ more, j ∈ targets (fieldsAt g x)) → BV g k x (pre ++ more) (visitTo s k more) := by
  intro more
  induction more with
  | nil => intro pre s h _; rw [List.append_nil]; exact h
  | cons a more ih =>
    intro pre s h hm
    have := ih (pre ++ [a]) _ (h.step (hg a (hm a (by simp))) (hm a (by simp))) (fun j hj => hm j (by simp [hj]))
    rw [List.append_assoc] at this
    exact this

/-- With k of the found visited. -/
structure BInv (g : G) (k : Nat) (s : S) : Prop where
  inv : SInv g.objs.length s
  root : ∀ j ∈ targets g.roots, j ∈ s.1 ∧ D s j = 0
  par : ∀ y ∈ s.1, (y ∈ targets g.roots ∧ D s y = 0) ∨ ∃ p ∈ s.1, y ∈ targets (fieldsAt g p) ∧ D s y = D s p + 1
  closed : ∀ (a : Nat) (p : Int), a < k → s.1[a]? = some p → ∀ j ∈ targets (fieldsAt g p), j ∈ s.1 ∧ D s j ≤ D s p + 1
  sorted : ∀ (a b : Nat) (p q : Int), a ≤ b → s.1[a]? = some p → s.1[b]? = some q → D s p ≤ D s q
  near : ∀ x, s.1[k]? = some x → ∀ y ∈ s.1, D s y ≤ D s x + 1

structure B0 (g : G) (pre : List Int) (s : S) : Prop where
  inv : SInv g.objs.length s
  zero : ∀ y ∈ s.1, y ∈ targets g.roots ∧ D s y = 0
  done : ∀ j ∈ pre, j ∈ s.1
theorem B0.step {g : G} (hg : Good g) {pre : List Int} {s : S} (h : B0 g pre s) {a : Int} (hat : a ∈ targets g.roots) : B0 g (pre ++ [a]) (take1 0 s a) := by
  have ha := hg.target (roots_all g) hat
  have hi := take1_inv h.inv ha (d := 0) ⟨by omega, by omega⟩
  have hfa := h.inv.found ha
  by_cases h0 : 0 ≤ D s a
  · rw [take1_old h0]
    refine ⟨h.inv, h.zero, ?_⟩
    intro j hj
    rcases List.mem_append.1 hj with hj | hj
    · exact h.done j hj
    · simp at hj; subst hj; exact hfa.1 h0
  · have han : a ∉ s.1 := fun hm => h0 (hfa.2 hm)
    rw [take1_new (by omega)] at hi ⊢
    have e := fun y hy => D_set h.inv ha 0 y (s.1 ++ [a]) hy
    refine ⟨hi, ?_, ?_⟩
    · intro y hy
      rcases List.mem_append.1 hy with hy2 | hy
      · rw [e y (h.inv.rng y hy2).1, if_neg (by intro e; rw [e] at hy2; exact han hy2)]; exact h.zero y hy2
      · simp at hy; subst hy; exact ⟨hat, by rw [e y ha.1, if_pos rfl]⟩
    · intro j hj
      rcases List.mem_append.1 hj with hj | hj
      · exact List.mem_append_left _ (h.done j hj)
      · simp at hj; subst hj; simp
theorem B0.steps {g : G} (hg : Good g) : ∀ (more pre : List Int) (s : S), B0 g pre s → (∀ j ∈ more, j ∈ targets g.roots) → B0 g (pre ++ more) (more.foldl (take1 0) s) := by
  intro more
  induction more with
  | nil => intro pre s h _; rw [List.append_nil]; exact h
  | cons a more ih =>
    intro pre s h hm
    have := ih (pre ++ [a]) _ (h.step hg (hm a (by simp))) (fun j hj => hm j (by simp [hj]))
    rw [List.append_assoc] at this
    exact this
theorem found0_all {g : G} (hg : Good g) : B0 g (targets g.roots) (found0 g.objs.length (targets g.roots)) := by
  have := B0.steps hg (targets g.roots) [] ([], List.replicate g.objs.length (-1)) ⟨sinv_start _, by simp, by simp⟩ (fun _ h => h)
  rw [List.nil_append] at this
  exact this

theorem foundAt_binv {g : G} (hg : Good g) : ∀ k, (∀ j, j < k → j < (foundAt g j).1.length) → BInv g k (foundAt g k)
  | 0, _ => by
    obtain ⟨h1, h2, h3⟩ := found0_all hg
    refine ⟨h1, fun j hj => ⟨h3 j hj, (h2 j (h3 j hj)).2⟩, fun y hy => .inl (h2 y hy), fun a p ha => by omega, ?_, ?_⟩
    · intro a b p q _ hp hq
      rw [show foundAt g 0 = found0 g.objs.length (targets g.roots) from rfl] at *
      rw [(h2 p (List.mem_of_getElem? hp)).2, (h2 q (List.mem_of_getElem? hq)).2]; omega
    · intro x hx y hy
      rw [show foundAt g 0 = found0 g.objs.length (targets g.roots) from rfl] at *
      rw [(h2 y hy).2, (h2 x (List.mem_of_getElem? hx)).2]; omega
  | k + 1, h => by
    have ih := foundAt_binv hg k (fun j hj => h j (by omega))
    obtain ⟨x, hx⟩ := get_some _ _ (h k (by omega))
    have ht : ∀ j ∈ targets (fieldsAt g x), 0 ≤ j ∧ j < (g.objs.length : Int) := fun j hj => hg.target (fields_all g x) hj
    have hb0 : BV g k x [] (foundAt g k) := ⟨⟨ih.inv, hx⟩, ih.root, ih.par, ih.closed, ih.sorted, ih.near x hx, by simp⟩
    have hb := BV.steps ht (targets (fieldsAt g x)) [] _ hb0 (fun _ h => h)
    have e : visitTo (foundAt g k) k (targets (fieldsAt g x)) = foundAt g (k + 1) := by
      show _ = visit g (foundAt g k) k
      unfold visit
      rw [show (foundAt g k).1.getD k 0 = x by rw [List.getD_eq_getElem?_getD, hx]; rfl]
    rw [e, List.nil_append] at hb
    refine ⟨hb.v.inv, hb.root, hb.par, ?_, hb.sorted, ?_⟩
    · intro a p ha hp
      rcases Nat.lt_or_ge a k with h1 | h1
      · exact hb.closed a p h1 hp
      · obtain rfl : a = k := by omega
        have := hb.v.at_
        rw [hp] at this; cases this
        exact hb.done
    · intro x2 hx2 y hy
      have h1 := hb.near y hy
      have h2 := hb.sorted k (k + 1) x x2 (by omega) hb.v.at_ hx2
      omega

/-- How far each is, and who is found. -/
structure Far (g : G) (l dist : List Int) : Prop where
  inv : SInv g.objs.length (l, dist)
  root : ∀ j ∈ targets g.roots, j ∈ l ∧ D (l, dist) j = 0
  par : ∀ y ∈ l, (y ∈ targets g.roots ∧ D (l, dist) y = 0) ∨ ∃ p ∈ l, y ∈ targets (fieldsAt g p) ∧ D (l, dist) y = D (l, dist) p + 1
  closed : ∀ p ∈ l, ∀ j ∈ targets (fieldsAt g p), j ∈ l ∧ D (l, dist) j ≤ D (l, dist) p + 1
  sorted : ∀ (a b : Nat) (p q : Int), a ≤ b → l[a]? = some p → l[b]? = some q → D (l, dist) p ≤ D (l, dist) q
theorem FoundS.far {g : G} (hg : Good g) {l dist : List Int} (h : FoundS g l dist) : Far g l dist := by
  obtain ⟨k, h1, rfl, h3⟩ := h
  have := foundAt_binv hg _ h3
  rw [h1] at this
  refine ⟨this.inv, this.root, this.par, ?_, this.sorted⟩
  intro p hp
  obtain ⟨a, ha, rfl⟩ := List.getElem_of_mem hp
  exact this.closed a _ ha (List.getElem?_eq_getElem ha)
end Go.Proofs.Ytnpbdabboecpaaa
