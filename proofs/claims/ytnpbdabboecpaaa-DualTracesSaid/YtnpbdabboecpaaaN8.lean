/- Who counts and who traces: what the least and the greatest numbers are above 0 at. Plain. -/
import Derived.Test.YtnpbdabboecpaaaN1
import Derived.Test.YtnpbdabboecpaaaDu
import Derived.Test.YtnpbdabboecpaaaD0
namespace Go.Proofs.Ytnpbdabboecpaaa
namespace Tarj
theorem Res.top {E : Int → Int → Prop} {n : Nat} {comp : Int → Int} {all : List (List Int)} (h : Res E n comp all) (S : Int → Prop) : ∀ (m : Nat) (x : Int), S x → (all.length - comp x).toNat ≤ m → ∃ y, S y ∧ ∀ z, S z → comp z ≤ comp y := by
  intro m
  induction m with
  | zero =>
    intro x _ hm
    have := h.ltl x
    omega
  | succ m ih =>
    intro x hx hm
    by_cases hmax : ∀ z, S z → comp z ≤ comp x
    · exact ⟨x, hx, hmax⟩
    · obtain ⟨z, hz⟩ := Classical.not_forall.1 hmax
      have hz1 : S z := Classical.byContradiction fun h => hz fun h2 => (h h2).elim
      have hz2 : comp x < comp z := by
        rcases Int.lt_or_le (comp x) (comp z) with h2 | h2
        · exact h2
        · exact (hz fun _ => h2).elim
      have := h.ltl z
      exact ih z hz1 (by omega)
end Tarj
open Tarj

def EG' (g : G) (x y : Int) : Prop := 0 ≤ x ∧ y ∈ targets (fieldsAt g x)
/-- What is held: what can be come to, what goes round, and what that leads to. -/
def Held (g : G) (x : Int) : Prop := Rch g x ∨ ∃ r, Rnd (EG' g) r ∧ (x = r ∨ ∃ j, EG' g r j ∧ Lead (EG' g) j x)
theorem edge_in {g : G} (hG : Good g) {x y : Int} (h : EG' g x y) : (0 ≤ x ∧ x < g.objs.length) ∧ 0 ≤ y ∧ y < g.objs.length := by
  obtain ⟨h0, h1⟩ := h
  refine ⟨⟨h0, ?_⟩, hG.target (fields_all g x) h1⟩
  rcases Int.lt_or_le x g.objs.length with h2 | h2
  · exact h2
  · exfalso
    have : fieldsAt g x = [] := by
      unfold fieldsAt
      rw [List.getD_eq_getElem?_getD, List.getElem?_eq_none (by omega)]; rfl
    rw [this] at h1; simp [targets] at h1
theorem rch_edge {g : G} (hG : Good g) {x : Int} : Rch g x ↔ x ∈ targets g.roots ∨ ∃ i, Rch g i ∧ EG' g i x := by
  constructor
  · intro h
    cases h with
    | root h1 h2 _ => exact .inl (mem_targets_iff.2 ⟨_, h1, h2, rfl⟩)
    | @step i y h0 h1 h2 _ =>
      refine .inr ⟨i, h0, ?_, mem_targets_iff.2 ⟨_, h1, h2, rfl⟩⟩
      cases h0 with
      | root h3 h4 _ => exact (hG.target (roots_all g) (mem_targets_iff.2 ⟨_, h3, h4, rfl⟩)).1
      | @step k z _ h3 h4 _ => exact (hG.target (fields_all g k) (mem_targets_iff.2 ⟨_, h3, h4, rfl⟩)).1
  · rintro (h | ⟨i, h1, _, h2⟩)
    · obtain ⟨v, hv, hr, rfl⟩ := mem_targets_iff.1 h
      exact .root hv hr (fun h => h)
    · obtain ⟨v, hv, hr, rfl⟩ := mem_targets_iff.1 h2
      exact .step h1 hv hr (fun h => h)
theorem rch_rng {g : G} (hG : Good g) {x : Int} (h : Rch g x) : 0 ≤ x ∧ x < g.objs.length := by
  rcases (rch_edge hG).1 h with h1 | ⟨i, _, h2⟩
  · exact hG.target (roots_all g) h1
  · exact (edge_in hG h2).2
theorem lead_last {E : Int → Int → Prop} {j x : Int} (h : Lead E j x) : j = x ∨ ∃ i, Lead E j i ∧ E i x := by
  induction h with
  | here => exact .inl rfl
  | @step a b c e _ ih =>
    rcases ih with rfl | ⟨i, h1, h2⟩
    · exact .inr ⟨a, .here a, e⟩
    · exact .inr ⟨i, .step e h1, h2⟩
theorem held_edge {g : G} (hG : Good g) {x : Int} : Held g x ↔ x ∈ targets g.roots ∨ ∃ i, Held g i ∧ EG' g i x := by
  constructor
  · rintro (h | ⟨r, hr, rfl | ⟨j, h1, h2⟩⟩)
    · rcases (rch_edge hG).1 h with h1 | ⟨i, h2, h3⟩
      · exact .inl h1
      · exact .inr ⟨i, .inl h2, h3⟩
    · obtain ⟨j, h1, h2⟩ := hr
      rcases lead_last h2 with rfl | ⟨i, h3, h4⟩
      · exact .inr ⟨j, .inr ⟨j, ⟨j, h1, h2⟩, .inl rfl⟩, h1⟩
      · exact .inr ⟨i, .inr ⟨x, ⟨j, h1, h2⟩, .inr ⟨j, h1, h3⟩⟩, h4⟩
    · rcases lead_last h2 with rfl | ⟨i, h3, h4⟩
      · exact .inr ⟨r, .inr ⟨r, hr, .inl rfl⟩, h1⟩
      · exact .inr ⟨i, .inr ⟨r, hr, .inr ⟨j, h1, h3⟩⟩, h4⟩
  · rintro (h | ⟨i, h | ⟨r, hr, rfl | ⟨j, h1, h2⟩⟩, h3⟩)
    · exact .inl ((rch_edge hG).2 (.inl h))
    · exact .inl ((rch_edge hG).2 (.inr ⟨i, h, h3⟩))
    · exact .inr ⟨i, hr, .inr ⟨x, h3, .here x⟩⟩
    · exact .inr ⟨r, hr, .inr ⟨j, h1, h2.trans (.one h3)⟩⟩

theorem cntAt_some {g : G} (hG : Good g) (c : List Int) (j : Nat) : ∀ k : Nat, k ≤ g.objs.length → (0 < (cntAt g c k).getD j 0 ↔ (j : Int) ∈ targets g.roots ∨ ∃ i : Nat, i < k ∧ 0 < c.getD i 0 ∧ (j : Int) ∈ targets (fieldsAt g i)) := by
  intro k
  induction k with
  | zero =>
    intro _
    show 0 < (cnt0 g).getD j 0 ↔ _
    rw [cnt0_get hG]
    have : 0 < (targets g.roots).count (j : Int) ↔ (j : Int) ∈ targets g.roots := List.count_pos_iff
    constructor
    · intro h; exact .inl (this.1 (by omega))
    · rintro (h | ⟨i, hi, _⟩)
      · have := this.2 h; omega
      · omega
  | succ k ih =>
    intro hk
    have ih := ih (by omega)
    have hb := (cntAt_bound hG c k j).1
    rw [cntAt_get hG]
    have hc : 0 < (targets (fieldsAt g k)).count (j : Int) ↔ (j : Int) ∈ targets (fieldsAt g k) := List.count_pos_iff
    constructor
    · intro h
      by_cases h1 : 0 < (cntAt g c k).getD j 0
      · rcases ih.1 h1 with h2 | ⟨i, h2, h3⟩
        · exact .inl h2
        · exact .inr ⟨i, by omega, h3⟩
      · split at h
        · rename_i h2
          exact .inr ⟨k, by omega, h2, hc.1 (by omega)⟩
        · omega
    · intro h
      have h0 : (j : Int) ∈ targets g.roots ∨ (∃ i : Nat, i < k ∧ 0 < c.getD i 0 ∧ (j : Int) ∈ targets (fieldsAt g i)) ∨ (0 < c.getD k 0 ∧ (j : Int) ∈ targets (fieldsAt g k)) := by
        rcases h with h | ⟨i, h1, h2⟩
        · exact .inl h
        · by_cases e : i = k
          · subst e; exact .inr (.inr h2)
          · exact .inr (.inl ⟨i, by omega, h2⟩)
      rcases h0 with h0 | h0 | ⟨h1, h2⟩
      · have := ih.2 (.inl h0); split <;> omega
      · have := ih.2 (.inr h0); split <;> omega
      · rw [if_pos h1]; have := hc.2 h2; omega
theorem counted_some {g : G} (hG : Good g) (c : List Int) (j : Nat) : 0 < (counted g c).getD j 0 ↔ (j : Int) ∈ targets g.roots ∨ ∃ i : Nat, 0 < c.getD i 0 ∧ EG' g i j := by
  unfold counted
  rw [cntAt_some hG c j _ (Nat.le_refl _)]
  constructor
  · rintro (h | ⟨i, h1, h2, h3⟩)
    · exact .inl h
    · exact .inr ⟨i, h2, by omega, h3⟩
  · rintro (h | ⟨i, h2, h3⟩)
    · exact .inl h
    · have := (edge_in hG h3).1
      exact .inr ⟨i, by omega, h2, h3.2⟩
open Classical in
noncomputable def indic (n : Nat) (H : Int → Prop) : List Int := (List.range n).map fun i : Nat => if H (i : Int) then 1 else 0
theorem indic_get (n : Nat) (H : Int → Prop) (i : Nat) : 0 < (indic n H).getD i 0 ↔ i < n ∧ H (i : Int) := by
  unfold indic
  rw [List.getD_eq_getElem?_getD, List.getElem?_map]
  rcases Nat.lt_or_ge i n with h | h
  · rw [List.getElem?_range h]
    simp only [Option.map_some, Option.getD_some]
    split
    · rename_i h2; exact ⟨fun _ => ⟨h, h2⟩, fun _ => by omega⟩
    · rename_i h2; exact ⟨fun h3 => by omega, fun h3 => (h2 h3.2).elim⟩
  · rw [List.getElem?_eq_none (by simpa using h)]
    simp; omega
/-- A set that holds just what roots, or itself, refer to is where a solution is above 0. -/
theorem sol_of {g : G} (hG : Good g) (H : Int → Prop) (hH : ∀ x, H x ↔ x ∈ targets g.roots ∨ ∃ i, H i ∧ EG' g i x) : ∃ c, Sol g c ∧ ∀ i : Nat, 0 < c.getD i 0 ↔ H (i : Int) := by
  have hin : ∀ x, H x → 0 ≤ x ∧ x < g.objs.length := fun x hx => by
    rcases (hH x).1 hx with h | ⟨i, _, h⟩
    · exact hG.target (roots_all g) h
    · exact (edge_in hG h).2
  have key : ∀ j : Nat, 0 < (counted g (indic g.objs.length H)).getD j 0 ↔ H (j : Int) := fun j => by
    rw [counted_some hG _, hH (j : Int)]
    constructor
    · rintro (h | ⟨i, h1, h2⟩)
      · exact .inl h
      · exact .inr ⟨i, ((indic_get _ _ _).1 h1).2, h2⟩
    · rintro (h | ⟨i, h1, h2⟩)
      · exact .inl h
      · have h3 := hin i h1
        obtain ⟨k, rfl⟩ : ∃ k : Nat, i = (k : Int) := ⟨i.toNat, by omega⟩
        exact .inr ⟨k, (indic_get _ _ _).2 ⟨by omega, h1⟩, h2⟩
  refine ⟨counted g (indic g.objs.length H), ?_, key⟩
  refine counted_pos hG (fun i hi => ?_) (fun i hi => ?_)
  · have h := (key i).1 hi
    exact (indic_get _ _ _).2 ⟨by have := hin _ h; omega, h⟩
  · exact (key i).2 ((indic_get _ _ _).1 hi).2
theorem sol_closed {g : G} (hG : Good g) {l : List Int} (hs : Sol g l) (j : Nat) : 0 < l.getD j 0 ↔ (j : Int) ∈ targets g.roots ∨ ∃ i : Nat, 0 < l.getD i 0 ∧ EG' g i j := by
  have := counted_some hG l j
  unfold Sol at hs
  rwa [hs] at this
theorem least_rch {g : G} (hG : Good g) {l : List Int} (hs : Sol g l) (hp : ∀ c, Sol g c → Pos l c) (j : Nat) : 0 < l.getD j 0 ↔ Rch g (j : Int) := by
  constructor
  · intro h
    obtain ⟨c, h1, h2⟩ := sol_of hG (fun x => Rch g x) (fun x => rch_edge hG)
    exact (h2 j).1 (hp c h1 j h)
  · intro h
    obtain ⟨x, hx⟩ : ∃ x : Int, x = (j : Int) := ⟨_, rfl⟩
    rw [← hx] at h
    have : ∀ x, Rch g x → ∀ j : Nat, x = (j : Int) → 0 < l.getD j 0 := by
      intro x hx
      induction hx with
      | root h1 h2 _ =>
        intro j e
        exact (sol_closed hG hs j).2 (.inl (by rw [← e]; exact mem_targets_iff.2 ⟨_, h1, h2, rfl⟩))
      | @step i y h0 h1 h2 _ ih =>
        intro j e
        have h3 := rch_rng hG h0
        obtain ⟨k, rfl⟩ : ∃ k : Nat, i = (k : Int) := ⟨i.toNat, by omega⟩
        exact (sol_closed hG hs j).2 (.inr ⟨k, ih k rfl, by omega, by rw [← e]; exact mem_targets_iff.2 ⟨_, h1, h2, rfl⟩⟩)
    exact this x h j hx
theorem greatest_held {g : G} (hG : Good g) {l : List Int} (hs : Sol g l) (hp : ∀ c, Sol g c → Pos c l) {comp : Int → Int} {all : List (List Int)} (hr : Res (EG' g) g.objs.length comp all) (j : Nat) : 0 < l.getD j 0 ↔ Held g (j : Int) := by
  constructor
  · intro h
    apply Classical.byContradiction
    intro hno
    obtain ⟨y, ⟨k, rfl, hk, hnk⟩, hmax⟩ := hr.top (fun x => ∃ k : Nat, x = (k : Int) ∧ 0 < l.getD k 0 ∧ ¬ Held g x) _ (j : Int) ⟨j, rfl, h, hno⟩ (Nat.le_refl _)
    rcases (sol_closed hG hs k).1 hk with h1 | ⟨i, h1, h2⟩
    · exact hnk (.inl ((rch_edge hG).2 (.inl h1)))
    · have hni : ¬ Held g (i : Int) := fun h3 => hnk ((held_edge hG).2 (.inr ⟨i, h3, h2⟩))
      have h4 := hmax (i : Int) ⟨i, rfl, h1, hni⟩
      have hin := edge_in hG h2
      have h5 := hr.rng (i : Int) hin.1.1 hin.1.2
      have h6 := hr.done _ _ h5 h2
      have h7 := hr.same (k : Int) (i : Int) h6.1 (by omega)
      exact hni (.inr ⟨i, ⟨k, h2, h7⟩, .inl rfl⟩)
  · intro h
    obtain ⟨c, h1, h2⟩ := sol_of hG (Held g) (fun x => held_edge hG)
    exact hp c h1 j ((h2 j).2 h)
end Go.Proofs.Ytnpbdabboecpaaa
