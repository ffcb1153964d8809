/- What goes round and what is led to, with the components. Plain. -/
import Derived.Test.YtnpbdabboecpaaaN1
import Derived.Test.YtnpbdabboecpaaaD0
import Derived.Test.YtnpbdabboecpaaaF0
namespace Go.Proofs.Ytnpbdabboecpaaa
namespace Tarj
theorem Res.top {E : Int → Int → Prop} {n : Nat} {comp : Int → Int} {all : List (List Int)} (h : Res E n comp all) (S : Int → Prop) : ∀ (m : Nat) (x : Int), S x → (all.length - comp x).toNat ≤ m → ∃ y, S y ∧ ∀ z, S z → comp z ≤ comp y := by
  intro m
  induction m with
  | zero =>
    intro x _ hm
    have := h.ltl x
    omega
  | succ m ih =>
    intro x hx hm
    by_cases hmax : ∀ z, S z → comp z ≤ comp x
    · exact ⟨x, hx, hmax⟩
    · obtain ⟨z, hz⟩ := Classical.not_forall.1 hmax
      have hz1 : S z := Classical.byContradiction fun h => hz fun h2 => (h h2).elim
      have hz2 : comp x < comp z := by
        rcases Int.lt_or_le (comp x) (comp z) with h2 | h2
        · exact h2
        · exact (hz fun _ => h2).elim
      have := h.ltl z
      exact ih z hz1 (by omega)
end Tarj
open Tarj

def EG' (g : G) (x y : Int) : Prop := 0 ≤ x ∧ y ∈ targets (fieldsAt g x)
/-- What is held: what can be come to, what goes round, and what that leads to. -/
def Held (g : G) (x : Int) : Prop := Rch g x ∨ ∃ r, Rnd (EG' g) r ∧ (x = r ∨ ∃ j, EG' g r j ∧ Lead (EG' g) j x)
theorem edge_in {g : G} (hG : Good g) {x y : Int} (h : EG' g x y) : (0 ≤ x ∧ x < g.objs.length) ∧ 0 ≤ y ∧ y < g.objs.length := by
  obtain ⟨h0, h1⟩ := h
  refine ⟨⟨h0, ?_⟩, hG.target (fields_all g x) h1⟩
  rcases Int.lt_or_le x g.objs.length with h2 | h2
  · exact h2
  · exfalso
    have : fieldsAt g x = [] := by
      unfold fieldsAt
      rw [List.getD_eq_getElem?_getD, List.getElem?_eq_none (by omega)]; rfl
    rw [this] at h1; simp [targets] at h1
theorem rch_edge {g : G} (hG : Good g) {x : Int} : Rch g x ↔ x ∈ targets g.roots ∨ ∃ i, Rch g i ∧ EG' g i x := by
  constructor
  · intro h
    cases h with
    | root h1 h2 _ => exact .inl (mem_targets_iff.2 ⟨_, h1, h2, rfl⟩)
    | @step i y h0 h1 h2 _ =>
      refine .inr ⟨i, h0, ?_, mem_targets_iff.2 ⟨_, h1, h2, rfl⟩⟩
      cases h0 with
      | root h3 h4 _ => exact (hG.target (roots_all g) (mem_targets_iff.2 ⟨_, h3, h4, rfl⟩)).1
      | @step k z _ h3 h4 _ => exact (hG.target (fields_all g k) (mem_targets_iff.2 ⟨_, h3, h4, rfl⟩)).1
  · rintro (h | ⟨i, h1, _, h2⟩)
    · obtain ⟨v, hv, hr, rfl⟩ := mem_targets_iff.1 h
      exact .root hv hr (fun h => h)
    · obtain ⟨v, hv, hr, rfl⟩ := mem_targets_iff.1 h2
      exact .step h1 hv hr (fun h => h)
theorem rch_rng {g : G} (hG : Good g) {x : Int} (h : Rch g x) : 0 ≤ x ∧ x < g.objs.length := by
  rcases (rch_edge hG).1 h with h1 | ⟨i, _, h2⟩
  · exact hG.target (roots_all g) h1
  · exact (edge_in hG h2).2
theorem lead_last {E : Int → Int → Prop} {j x : Int} (h : Lead E j x) : j = x ∨ ∃ i, Lead E j i ∧ E i x := by
  induction h with
  | here => exact .inl rfl
  | @step a b c e _ ih =>
    rcases ih with rfl | ⟨i, h1, h2⟩
    · exact .inr ⟨a, .here a, e⟩
    · exact .inr ⟨i, .step e h1, h2⟩
theorem held_edge {g : G} (hG : Good g) {x : Int} : Held g x ↔ x ∈ targets g.roots ∨ ∃ i, Held g i ∧ EG' g i x := by
  constructor
  · rintro (h | ⟨r, hr, rfl | ⟨j, h1, h2⟩⟩)
    · rcases (rch_edge hG).1 h with h1 | ⟨i, h2, h3⟩
      · exact .inl h1
      · exact .inr ⟨i, .inl h2, h3⟩
    · obtain ⟨j, h1, h2⟩ := hr
      rcases lead_last h2 with rfl | ⟨i, h3, h4⟩
      · exact .inr ⟨j, .inr ⟨j, ⟨j, h1, h2⟩, .inl rfl⟩, h1⟩
      · exact .inr ⟨i, .inr ⟨x, ⟨j, h1, h2⟩, .inr ⟨j, h1, h3⟩⟩, h4⟩
    · rcases lead_last h2 with rfl | ⟨i, h3, h4⟩
      · exact .inr ⟨r, .inr ⟨r, hr, .inl rfl⟩, h1⟩
      · exact .inr ⟨i, .inr ⟨r, hr, .inr ⟨j, h1, h3⟩⟩, h4⟩
  · rintro (h | ⟨i, h | ⟨r, hr, rfl | ⟨j, h1, h2⟩⟩, h3⟩)
    · exact .inl ((rch_edge hG).2 (.inl h))
    · exact .inl ((rch_edge hG).2 (.inr ⟨i, h, h3⟩))
    · exact .inr ⟨i, hr, .inr ⟨x, h3, .here x⟩⟩
    · exact .inr ⟨r, hr, .inr ⟨j, h1, h2.trans (.one h3)⟩⟩

end Go.Proofs.Ytnpbdabboecpaaa
