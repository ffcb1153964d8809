/- Components in order: what stands at each place, and which place each object has. Plain. -/
import Derived.Test.YtnpbdabboecpaaaO5
import Derived.Test.YtnpbdabboecpaaaFo
import Derived.Test.YtnpbdabboecpaaaLh
namespace Go.Proofs.Ytnpbdabboecpaaa
open Go.RowKit Go.Shelf Tarj

/-- Lists that part the numbers below n. -/
structure Parts (n : Nat) (cs : List (List Int)) : Prop where
  ne : ∀ c ∈ cs, c ≠ []
  rise : ∀ c ∈ cs, c.Pairwise (· < ·)
  rng : ∀ c ∈ cs, ∀ x ∈ c, 0 ≤ x ∧ x < n
  one : ∀ (p q : Nat) (c d : List Int) (x : Int), cs[p]? = some c → cs[q]? = some d → x ∈ c → x ∈ d → p = q
  all : ∀ i : Nat, i < n → ∃ (p : Nat) (c : List Int), cs[p]? = some c ∧ (i : Int) ∈ c
theorem Parts.flat {n : Nat} {cs : List (List Int)} (h : Parts n cs) : cs.flatten.Nodup := by
  show List.Pairwise _ _
  rw [List.pairwise_flatten]
  refine ⟨fun c hc => (h.rise c hc).imp (fun h => by omega), ?_⟩
  rw [List.pairwise_iff_getElem]
  intro p q hp hq hlt x hx y hy e
  subst e
  have := h.one p q _ _ x (List.getElem?_eq_getElem hp) (List.getElem?_eq_getElem hq) hx hy
  omega
theorem Parts.flat_len {n : Nat} {cs : List (List Int)} (h : Parts n cs) : cs.flatten.length = n := by
  have hn : ((List.range n).map fun k : Nat => (k : Int)).Nodup := List.pairwise_map.2 ((List.nodup_range (n := n)).imp (fun h e => h (by omega)))
  have h1 := h.flat.length_le_of_subset (l₂ := (List.range n).map fun k : Nat => (k : Int)) (fun x hx => by
    obtain ⟨c, hc, hx⟩ := List.mem_flatten.1 hx
    have := h.rng c hc x hx
    exact List.mem_map.2 ⟨x.toNat, List.mem_range.2 (by omega), by omega⟩)
  have h2 := hn.length_le_of_subset (l₂ := cs.flatten) (fun x hx => by
    obtain ⟨i, hi, rfl⟩ := List.mem_map.1 hx
    obtain ⟨p, c, hc, hi⟩ := h.all i (List.mem_range.1 hi)
    exact List.mem_flatten.2 ⟨c, List.mem_of_getElem? hc, hi⟩)
  rw [List.length_map, List.length_range] at h1 h2
  omega
theorem Parts.len {n : Nat} {cs : List (List Int)} (h : Parts n cs) : cs.length ≤ n := by
  have key : ∀ l : List (List Int), (∀ c ∈ l, c ≠ []) → l.length ≤ l.flatten.length := by
    intro l
    induction l with
    | nil => intro _; simp
    | cons c l ih =>
      intro hne
      have h1 := ih (fun d hd => hne d (List.mem_cons_of_mem _ hd))
      have h2 : 0 < c.length := List.length_pos_iff.2 (hne c (List.mem_cons_self ..))
      rw [List.flatten_cons, List.length_append, List.length_cons]; omega
  have := key cs h.ne
  rw [h.flat_len] at this
  exact this
theorem Parts.clen {n : Nat} {cs : List (List Int)} (h : Parts n cs) {c : List Int} (hc : c ∈ cs) : c.length ≤ n := by
  have := List.Nodup.length_le_of_subset (l₁ := c) (l₂ := (List.range n).map fun k : Nat => (k : Int)) ((h.rise c hc).imp (fun h => by omega)) (fun x hx => by
    have := h.rng c hc x hx
    exact List.mem_map.2 ⟨x.toNat, List.mem_range.2 (by omega), by omega⟩)
  simpa using this
/-- The marks when k lists, and of the next one cur, have been gone through. -/
structure Marks (n : Nat) (cs : List (List Int)) (k : Nat) (cur : List Int) (f : List Int) : Prop where
  len : f.length = n
  old : ∀ (p : Nat) (c : List Int) (i : Nat), p < k → cs[p]? = some c → (i : Int) ∈ c → f[i]? = some ((p : Int) + 1)
  now : ∀ i : Nat, (i : Int) ∈ cur → f[i]? = some ((k : Int) + 1)
theorem Marks.start (n : Nat) (cs : List (List Int)) : Marks n cs 0 [] (List.replicate n 0) := ⟨by simp, by intros; omega, by simp⟩
theorem Marks.mark {n : Nat} {cs : List (List Int)} {k : Nat} {c f : List Int} (hP : Parts n cs) (hc : cs[k]? = some c) {q : Nat} (h : Marks n cs k (c.take q) f) {i : Nat} (hi : c[q]? = some (i : Int)) : Marks n cs k (c.take (q + 1)) (f.set i ((k : Int) + 1)) := by
  have him := List.mem_of_getElem? hi
  have hr := hP.rng c (List.mem_of_getElem? hc) _ him
  refine ⟨by rw [List.length_set]; exact h.len, ?_, ?_⟩
  · intro p d j hp hd hj
    have hne : i ≠ j := by
      rintro rfl
      have := hP.one p k d c _ hd hc hj him
      omega
    rw [List.getElem?_set_ne hne]
    exact h.old p d j hp hd hj
  · intro j hj
    by_cases e : i = j
    · subst e
      rw [List.getElem?_set_self (by have := h.len; omega)]
    · rw [List.getElem?_set_ne e]
      rw [take_succ_some _ _ _ hi] at hj
      rcases List.mem_append.1 hj with hj | hj
      · exact h.now j hj
      · exact absurd (List.mem_singleton.1 hj) (by omega)
theorem Marks.next {n : Nat} {cs : List (List Int)} {k : Nat} {c f : List Int} (hc : cs[k]? = some c) (h : Marks n cs k c f) : Marks n cs (k + 1) [] f := by
  refine ⟨h.len, ?_, by simp⟩
  intro p d i hp hd hi
  by_cases e : p = k
  · subst e
    rw [hc] at hd; cases hd
    exact h.now i hi
  · exact h.old p d i (by omega) hd hi

/-- What Comps's order tells of two objects' places. -/
structure Told (g : G) (cs : List (List Int)) : Prop where
  same : ∀ (p q : Nat) (c d : List Int) (i j : Int), cs[p]? = some c → cs[q]? = some d → i ∈ c → j ∈ d → (p = q ↔ i = j ∨ ((∃ k, EG' g i k ∧ Lead (EG' g) k j) ∧ ∃ k, EG' g j k ∧ Lead (EG' g) k i))
  back : ∀ (p q : Nat) (c d : List Int) (i j : Int), cs[p]? = some c → cs[q]? = some d → i ∈ c → j ∈ d → (∃ k, EG' g i k ∧ Lead (EG' g) k j) → q ≤ p
theorem lead_split {E : Int → Int → Prop} {i j : Int} : Lead E i j ↔ i = j ∨ ∃ k, E i k ∧ Lead E k j := by
  constructor
  · intro h
    cases h with
    | here => exact .inl rfl
    | step e hl => exact .inr ⟨_, e, hl⟩
  · rintro (rfl | ⟨k, e, hl⟩)
    · exact .here _
    · exact .step e hl
section
variable {g : G} {comp : Int → Int} {all : List (List Int)} {K : Nat} {o : List Nat}
theorem cs_at (hT : Took (EG' g) comp all.length (o.map fun c : Nat => (c : Int))) {p : Nat} {c : List Int} (hc : (o.map fun k : Nat => all.getD k [])[p]? = some c) :
    ∃ k : Nat, o[p]? = some k ∧ all[k]? = some c ∧ (o.map fun c : Nat => (c : Int))[p]? = some (k : Int) := by
  rw [List.getElem?_map] at hc
  obtain ⟨k, hk, rfl⟩ := Option.map_eq_some_iff.1 hc
  have hkr := hT.rng (k : Int) (List.mem_map.2 ⟨k, List.mem_of_getElem? hk, rfl⟩)
  have hlt : k < all.length := by omega
  exact ⟨k, hk, by rw [List.getD_eq_getElem?_getD, List.getElem?_eq_getElem hlt]; rfl, by rw [List.getElem?_map, hk]; rfl⟩
theorem parts_of (hR : Res (EG' g) g.objs.length comp all) (hT : Took (EG' g) comp all.length (o.map fun c : Nat => (c : Int))) (ho : o.length = all.length) : Parts g.objs.length (o.map fun k : Nat => all.getD k []) := by
  refine ⟨?_, ?_, ?_, ?_, ?_⟩
  · intro c hc
    obtain ⟨p, hp⟩ := List.getElem?_of_mem hc
    obtain ⟨k, _, h2, _⟩ := cs_at hT hp
    exact (hR.cls k c h2).1
  · intro c hc
    obtain ⟨p, hp⟩ := List.getElem?_of_mem hc
    obtain ⟨k, _, h2, _⟩ := cs_at hT hp
    exact (hR.cls k c h2).2.1
  · intro c hc x hx
    obtain ⟨p, hp⟩ := List.getElem?_of_mem hc
    obtain ⟨k, _, h2, _⟩ := cs_at hT hp
    have := ((hR.cls k c h2).2.2 x).1 hx
    exact hR.out x (by omega)
  · intro p q c d x hp hq hxc hxd
    obtain ⟨k, _, h2, h3⟩ := cs_at hT hp
    obtain ⟨m, _, h5, h6⟩ := cs_at hT hq
    have h7 := ((hR.cls k c h2).2.2 x).1 hxc
    have h8 := ((hR.cls m d h5).2.2 x).1 hxd
    obtain rfl : k = m := by omega
    exact nodup_inj hT.nodup h3 h6
  · intro i hi
    have h1 := hR.rng (i : Int) (by omega) (by omega)
    have h2 := hR.ltl (i : Int)
    have h3 := hT.full (by simpa using ho) h1 h2
    obtain ⟨k, hk, hke⟩ := List.mem_map.1 h3
    obtain ⟨p, hp⟩ := List.getElem?_of_mem hk
    have hlt : k < all.length := by omega
    refine ⟨p, all[k], by rw [List.getElem?_map, hp]; simp [List.getD_eq_getElem?_getD, List.getElem?_eq_getElem hlt], ?_⟩
    exact ((hR.cls k _ (List.getElem?_eq_getElem hlt)).2.2 _).2 hke.symm
theorem told_of (hR : Res (EG' g) g.objs.length comp all) (hT : Took (EG' g) comp all.length (o.map fun c : Nat => (c : Int))) (ho : o.length = all.length) : Told g (o.map fun k : Nat => all.getD k []) := by
  have hol : (o.map fun c : Nat => (c : Int)).length = all.length := by simpa using ho
  refine ⟨?_, ?_⟩
  · intro p q c d i j hp hq hi hj
    obtain ⟨k, _, h2, h3⟩ := cs_at hT hp
    obtain ⟨m, _, h5, h6⟩ := cs_at hT hq
    have h7 := ((hR.cls k c h2).2.2 i).1 hi
    have h8 := ((hR.cls m d h5).2.2 j).1 hj
    have hmut := hR.mutual (x := i) (y := j) (by omega) (by omega)
    have hpq : p = q ↔ comp i = comp j := by
      constructor
      · rintro rfl
        rw [h3] at h6; cases h6; omega
      · intro e
        obtain rfl : k = m := by omega
        exact nodup_inj hT.nodup h3 h6
    rw [hpq, hmut, lead_split, lead_split (i := j)]
    constructor
    · rintro ⟨h | h, h9 | h9⟩
      · exact .inl h
      · exact .inl h
      · exact .inl h9.symm
      · exact .inr ⟨h, h9⟩
    · rintro (rfl | ⟨h, h9⟩)
      · exact ⟨.inl rfl, .inl rfl⟩
      · exact ⟨.inr h, .inr h9⟩
  · intro p q c d i j hp hq hi hj hl
    obtain ⟨k, _, h2, h3⟩ := cs_at hT hp
    obtain ⟨m, _, h5, h6⟩ := cs_at hT hq
    have h7 := ((hR.cls k c h2).2.2 i).1 hi
    have h8 := ((hR.cls m d h5).2.2 j).1 hj
    exact hT.lead hol hR rfl (by omega) (lead_split.2 (.inr hl)) (by rw [h7]; exact h3) (by rw [h8]; exact h6)
end
end Go.Proofs.Ytnpbdabboecpaaa
