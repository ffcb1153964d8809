/- Shared small facts: lists that rise, least sets, what a range over a function keeps, marks at a return. -/
import Derived.Test.YtnpbdabboecpaaaTy
import Derived.Test.YtnpbdabboecpaaaSo
import Derived.Test.YtnpbdabboecpaaaF1
import Derived.Test.YtnpbdabboecpaaaCl
import Derived.Test.YtnpbdabboecpaaaFd
namespace Go.Proofs.Ytnpbdabboecpaaa
open Go.RowKit Go.Shelf

attribute [local go_sem] Oper.semAt_some

theorem rise_ext : ∀ (l m : List Int), l.Pairwise (· < ·) → m.Pairwise (· < ·) → (∀ x, x ∈ l ↔ x ∈ m) → l = m
  | [], [], _, _, _ => rfl
  | [], b :: m, _, _, h => absurd ((h b).2 List.mem_cons_self) (by simp)
  | a :: l, [], _, _, h => absurd ((h a).1 List.mem_cons_self) (by simp)
  | a :: l, b :: m, hl, hm, h => by
    obtain ⟨hl1, hl2⟩ := List.pairwise_cons.1 hl
    obtain ⟨hm1, hm2⟩ := List.pairwise_cons.1 hm
    have e : a = b := by
      rcases List.mem_cons.1 ((h a).1 List.mem_cons_self) with h1 | h1
      · exact h1
      · rcases List.mem_cons.1 ((h b).2 List.mem_cons_self) with h2 | h2
        · exact h2.symm
        · have := hl1 b h2; have := hm1 a h1; omega
    subst e
    rw [rise_ext l m hl2 hm2 fun x => ⟨fun hx => ?_, fun hx => ?_⟩]
    · rcases List.mem_cons.1 ((h x).1 (List.mem_cons_of_mem _ hx)) with h1 | h1
      · have := hl1 x hx; omega
      · exact h1
    · rcases List.mem_cons.1 ((h x).2 (List.mem_cons_of_mem _ hx)) with h1 | h1
      · have := hm1 x hx; omega
      · exact h1
theorem sorted_lt {l : List Int} (h : l.Nodup) : (sorted l).Pairwise (· < ·) := by
  have h1 : (sorted l).Pairwise (· ≤ ·) := by
    have := List.pairwise_mergeSort (le := fun x y : Int => decide (x ≤ y)) (by intro a b c h1 h2; simp at *; omega) (by intro a b; simp; omega) l
    exact this.imp (by intro a b h; simpa using h)
  have h2 : (sorted l).Nodup := (List.mergeSort_perm l _).symm.nodup h
  exact List.Pairwise.imp₂ (fun a b (h1 : a ≤ b) (h2 : a ≠ b) => by omega) h1 h2
theorem of_targets {l : List V} {j : Int} (h : j ∈ targets l) : (⟨true, j⟩ : V) ∈ l := by
  unfold targets at h
  obtain ⟨⟨r, n⟩, hx, rfl⟩ := List.mem_map.1 h
  obtain ⟨h1, h2⟩ := List.mem_filter.1 hx
  obtain rfl : r = true := h2
  exact h1
theorem Far.leastS {g : G} {l dist : List Int} (h : Far g l dist) (S : Int → Prop) (hr : ∀ j ∈ targets g.roots, S j) (hc : ∀ i, S i → ∀ j ∈ targets (fieldsAt g i), S j) : ∀ y ∈ l, S y := by
  have key : ∀ (n : Nat) (y : Int), y ∈ l → D (l, dist) y = n → S y := by
    intro n
    induction n with
    | zero =>
      intro y hy hd
      rcases h.par y hy with ⟨h1, _⟩ | ⟨p, hp, _, h2⟩
      · exact hr y h1
      · have := (h.inv.found (h.inv.rng p hp)).2 hp
        omega
    | succ n ih =>
      intro y hy hd
      rcases h.par y hy with ⟨h1, _⟩ | ⟨p, hp, h1, h2⟩
      · exact hr y h1
      · exact hc p (ih p hp (by omega)) y h1
  intro y hy
  have := (h.inv.found (h.inv.rng y hy)).2 hy
  exact key (D (l, dist) y).toNat y hy (by omega)
theorem refersB_iff {l : List V} {i : Int} : refersB l i = true ↔ (⟨true, i⟩ : V) ∈ l := by simp [refersB]
end Go.Proofs.Ytnpbdabboecpaaa
