/- What Found finds is what can be come to. Plain. -/
import Derived.Test.YtnpbdabboecpaaaF2
import Derived.Test.YtnpbdabboecpaaaD0
namespace Go.Proofs.Ytnpbdabboecpaaa

theorem hasB_iff {l : List Int} {x : Int} : hasB l x = true ↔ x ∈ l := by simp [hasB]

theorem far_rch {g : G} {l dist : List Int} (h : Far g l dist) (y : Int) : Rch g y → y ∈ l := by
  intro hr
  induction hr with
  | root h1 h2 _ => exact (h.root _ (mem_targets_iff.2 ⟨_, h1, h2, rfl⟩)).1
  | step _ h1 h2 _ ih => exact (h.closed _ ih _ (mem_targets_iff.2 ⟨_, h1, h2, rfl⟩)).1
theorem Far.rch {g : G} {l dist : List Int} (h : Far g l dist) : ∀ (m : Nat) (y : Int), y ∈ l → (D (l, dist) y).toNat = m → Rch g y := by
  intro m
  induction m with
  | zero =>
    intro y hy hm
    have hlow : ∀ p ∈ l, 0 ≤ D (l, dist) p := fun p hp => by
      have h1 := h.inv.rng p hp
      have h2 := (h.inv.iff p.toNat (by omega)).2 (by rw [show ((p.toNat : Nat) : Int) = p by omega]; exact hp)
      exact h2
    rcases h.par y hy with ⟨h1, _⟩ | ⟨p, hp, _, h3⟩
    · obtain ⟨x, hx, hr, rfl⟩ := mem_targets_iff.1 h1
      exact .root hx hr (fun h => h)
    · have := hlow p hp; omega
  | succ m ih =>
    intro y hy hm
    have hlow : ∀ p ∈ l, 0 ≤ D (l, dist) p := fun p hp => by
      have h1 := h.inv.rng p hp
      have h2 := (h.inv.iff p.toNat (by omega)).2 (by rw [show ((p.toNat : Nat) : Int) = p by omega]; exact hp)
      exact h2
    rcases h.par y hy with ⟨h1, h4⟩ | ⟨p, hp, h2, h3⟩
    · omega
    · have := hlow p hp
      have h5 := ih p hp (by omega)
      obtain ⟨x, hx, hr, rfl⟩ := mem_targets_iff.1 h2
      exact .step h5 hx hr (fun h => h)
theorem Far.iff {g : G} {l dist : List Int} (h : Far g l dist) (y : Int) : y ∈ l ↔ Rch g y := ⟨fun hy => h.rch _ y hy rfl, far_rch h y⟩
end Go.Proofs.Ytnpbdabboecpaaa
