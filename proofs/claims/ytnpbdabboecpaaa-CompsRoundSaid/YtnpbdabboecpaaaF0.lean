/- What graph.Found computes, as a function on data; its invariant. Plain. -/
import Derived.Test.YtnpbdabboecpaaaPk
namespace Go.Proofs.Ytnpbdabboecpaaa

/-- Found so far, in order; how far each is (-1: not found). -/
abbrev S := List Int × List Int
def take1 (d : Int) (s : S) (i : Int) : S := if s.2.getD i.toNat 0 < 0 then (s.1 ++ [i], s.2.set i.toNat d) else s
def distAt (s : S) (k : Nat) : Int := s.2.getD (s.1.getD k 0).toNat 0
def visitTo (s : S) (k : Nat) (pre : List Int) : S := pre.foldl (fun t j => take1 (distAt t k + 1) t j) s
def visit (g : G) (s : S) (k : Nat) : S := visitTo s k (targets (fieldsAt g (s.1.getD k 0)))
def found0 (n : Nat) (pre : List Int) : S := pre.foldl (take1 0) ([], List.replicate n (-1))
def foundAt (g : G) : Nat → S
  | 0 => found0 g.objs.length (targets g.roots)
  | k + 1 => visit g (foundAt g k) k

structure SInv (n : Nat) (s : S) : Prop where
  len : s.2.length = n
  nodup : s.1.Nodup
  rng : ∀ x ∈ s.1, 0 ≤ x ∧ x < n
  iff : ∀ i, i < n → (0 ≤ s.2.getD i 0 ↔ (i : Int) ∈ s.1)
  low : ∀ x ∈ s.2, -1 ≤ x
  le : ∀ (j : Nat) (x : Int), s.1[j]? = some x → s.2.getD x.toNat 0 ≤ (j : Int)

theorem sinv_start (n : Nat) : SInv n (([], List.replicate n (-1)) : S) := by
  refine ⟨by simp, by simp, by simp, ?_, ?_, by simp⟩
  · intro i hi; simp [hi]
  · intro x hx; have := (List.mem_replicate.1 hx).2; omega

theorem getD_set {l : List Int} {i j : Nat} {v d : Int} (hi : i < l.length) : (l.set i v).getD j d = if i = j then v else l.getD j d := by
  simp only [List.getD_eq_getElem?_getD, List.getElem?_set]
  by_cases h : i = j
  · subst h; simp [hi]
  · simp [h]

theorem take1_inv {n : Nat} {s : S} {x d : Int} (h : SInv n s) (hx : 0 ≤ x ∧ x < n) (hd : 0 ≤ d ∧ d ≤ s.1.length) : SInv n (take1 d s x) := by
  unfold take1
  split
  · rename_i hlt
    have hxn : x.toNat < n := by omega
    have hx2 : ((x.toNat : Nat) : Int) = x := by omega
    have hni : x ∉ s.1 := by
      intro hm
      have := (h.iff x.toNat hxn).2 (by rw [hx2]; exact hm)
      omega
    refine ⟨by simpa using h.len, ?_, ?_, ?_, ?_, ?_⟩
    · rw [List.nodup_append]
      refine ⟨h.nodup, by simp, ?_⟩
      intro a ha b hb
      simp at hb; subst hb
      rintro rfl; exact hni ha
    · intro y hy
      rcases List.mem_append.1 hy with h1 | h1
      · exact h.rng y h1
      · simp at h1; subst h1; exact hx
    · intro i hi
      rw [getD_set (by rw [h.len]; exact hxn)]
      split
      · rename_i he
        subst he
        simp only [hx2]
        constructor
        · intro _; simp
        · intro _; exact hd.1
      · rename_i he
        rw [h.iff i hi, List.mem_append]
        constructor
        · exact .inl
        · rintro (h1 | h1)
          · exact h1
          · simp at h1; omega
    · intro y hy
      rcases List.mem_or_eq_of_mem_set hy with h1 | h1
      · exact h.low y h1
      · omega
    · intro j y hy
      rw [getD_set (by rw [h.len]; exact hxn)]
      rcases Nat.lt_or_ge j s.1.length with hj | hj
      · rw [List.getElem?_append_left hj] at hy
        split
        · rename_i he
          have hm := List.mem_of_getElem? hy
          have hr := h.rng y hm
          have : y = x := by omega
          subst this
          exact (hni hm).elim
        · exact h.le j y hy
      · rw [List.getElem?_append_right hj] at hy
        have hj0 : j = s.1.length := by
          rcases Nat.eq_zero_or_pos (j - s.1.length) with h0 | h0
          · omega
          · rw [List.getElem?_eq_none (by simp; omega)] at hy; cases hy
        subst hj0
        simp at hy; subst hy
        simp; exact hd.2
  · exact h

theorem take1_len (d : Int) (s : S) (x : Int) : s.1.length ≤ (take1 d s x).1.length := by unfold take1; split <;> simp
theorem take1_get {d : Int} {s : S} {x : Int} {k : Nat} {y : Int} (h : s.1[k]? = some y) : (take1 d s x).1[k]? = some y := by
  unfold take1; split
  · rw [List.getElem?_append_left (List.getElem?_eq_some_iff.1 h).1]; exact h
  · exact h

theorem nodup_len : ∀ (n : Nat) (l : List Nat), l.Nodup → (∀ x ∈ l, x < n) → l.length ≤ n := by
  intro n
  induction n with
  | zero => intro l _ h; cases l with
    | nil => simp
    | cons a l => have := h a (by simp); omega
  | succ n ih =>
    intro l hn h
    have h1 := ih (l.erase n) (hn.erase n) (fun x hx => by
      have h2 := h x (List.mem_of_mem_erase hx)
      have h3 : x ≠ n := by rintro rfl; exact (List.Nodup.not_mem_erase hn) hx
      omega)
    by_cases hm : n ∈ l
    · have := List.length_erase_of_mem hm
      omega
    · have := List.erase_of_not_mem hm
      rw [this] at h1; omega

theorem SInv.length_le {n : Nat} {s : S} (h : SInv n s) : s.1.length ≤ n := by
  have := nodup_len n (s.1.map Int.toNat) (by
    unfold List.Nodup
    rw [List.pairwise_map]
    refine List.Pairwise.imp_of_mem ?_ h.nodup
    intro x y hx hy hne he
    have := h.rng x hx; have := h.rng y hy; exact hne (by omega)) (by
    intro x hx
    obtain ⟨y, hy, rfl⟩ := List.mem_map.1 hx
    have := h.rng y hy; omega)
  simpa using this

theorem found0_inv (n : Nat) (pre : List Int) (h : ∀ x ∈ pre, 0 ≤ x ∧ x < (n : Int)) : SInv n (found0 n pre) := by
  unfold found0
  have key : ∀ (pre : List Int) (s : S), SInv n s → (∀ x ∈ pre, 0 ≤ x ∧ x < (n : Int)) → SInv n (pre.foldl (take1 0) s) := by
    intro pre
    induction pre with
    | nil => intro s hs _; exact hs
    | cons a pre ih => intro s hs hp; exact ih _ (take1_inv hs (hp a (by simp)) ⟨by omega, by omega⟩) (fun x hx => hp x (by simp [hx]))
  exact key pre _ (sinv_start n) h

/-- Within a visit of the object at k. -/
structure VInv (n k : Nat) (x : Int) (s : S) : Prop where
  inv : SInv n s
  at_ : s.1[k]? = some x
theorem VInv.dist {n k : Nat} {x : Int} {s : S} (h : VInv n k x s) : 0 ≤ distAt s k ∧ distAt s k ≤ k ∧ distAt s k = s.2.getD x.toNat 0 := by
  have hx := h.inv.rng x (List.mem_of_getElem? h.at_)
  have e : s.1.getD k 0 = x := by rw [List.getD_eq_getElem?_getD, h.at_]; rfl
  unfold distAt
  rw [e]
  refine ⟨(h.inv.iff x.toNat (by omega)).2 ?_, h.inv.le k x h.at_, rfl⟩
  have : ((x.toNat : Nat) : Int) = x := by omega
  rw [this]; exact List.mem_of_getElem? h.at_
theorem VInv.step {n k : Nat} {x : Int} {s : S} (h : VInv n k x s) {j : Int} (hj : 0 ≤ j ∧ j < (n : Int)) : VInv n k x (take1 (distAt s k + 1) s j) := by
  have hk : k < s.1.length := (List.getElem?_eq_some_iff.1 h.at_).1
  have hd := h.dist
  exact ⟨take1_inv h.inv hj ⟨by omega, by omega⟩, take1_get h.at_⟩
theorem visitTo_inv {n k : Nat} {x : Int} : ∀ (pre : List Int) (s : S), VInv n k x s → (∀ j ∈ pre, 0 ≤ j ∧ j < (n : Int)) → VInv n k x (visitTo s k pre) := by
  intro pre
  induction pre with
  | nil => intro s hs _; exact hs
  | cons a pre ih => intro s hs hp; exact ih _ (hs.step (hp a (by simp))) (fun x hx => hp x (by simp [hx]))
theorem visitTo_snoc (s : S) (k : Nat) (pre : List Int) (j : Int) : visitTo s k (pre ++ [j]) = take1 (distAt (visitTo s k pre) k + 1) (visitTo s k pre) j := by simp [visitTo]
theorem found0_snoc (n : Nat) (pre : List Int) (j : Int) : found0 n (pre ++ [j]) = take1 0 (found0 n pre) j := by simp [found0]

/-- References of a good graph are to its objects. -/
theorem Good.target {g : G} (hg : Good g) {l : List V} (hl : ∀ x ∈ l, x ∈ allV g) {i : Int} (hi : i ∈ targets l) : 0 ≤ i ∧ i < (g.objs.length : Int) := by
  obtain ⟨v, hv, rfl⟩ := List.mem_map.1 hi
  obtain ⟨h1, h2⟩ := List.mem_filter.1 hv
  have := hg.vals v (hl v h1)
  unfold badC at this
  rw [if_pos (by simpa using h2)] at this
  split at this
  · cases this
  · omega
theorem roots_all (g : G) : ∀ x ∈ g.roots, x ∈ allV g := fun _ hx => List.mem_append_left _ hx
theorem fields_all (g : G) (i : Int) : ∀ x ∈ fieldsAt g i, x ∈ allV g := by
  intro x hx
  unfold fieldsAt at hx
  rw [List.getD_eq_getElem?_getD] at hx
  cases h : g.objs[i.toNat]? with
  | none => rw [h] at hx; simp at hx
  | some o => rw [h] at hx; exact List.mem_append_right _ (List.mem_flatten.2 ⟨o, List.mem_of_getElem? h, hx⟩)

theorem foundAt_inv {g : G} (hg : Good g) : ∀ k, (∀ j, j < k → j < (foundAt g j).1.length) → SInv g.objs.length (foundAt g k)
  | 0, _ => found0_inv _ _ fun _ hx => hg.target (roots_all g) hx
  | k + 1, h => by
    have ih := foundAt_inv hg k (fun j hj => h j (by omega))
    have hk := h k (by omega)
    obtain ⟨x, hx⟩ := get_some _ _ hk
    exact (visitTo_inv (x := x) _ _ ⟨ih, hx⟩ fun j hj => hg.target (fields_all g _) hj).inv

/-- What Found tells. -/
def FoundS (g : G) (l dist : List Int) : Prop := ∃ k, foundAt g k = (l, dist) ∧ k = l.length ∧ (∀ j, j < k → j < (foundAt g j).1.length)
end Go.Proofs.Ytnpbdabboecpaaa
