/- What the plain reading reaches is what is found. -/
import Derived.Test.YtdmgpiimacnapaaTz
import Derived.Test.YtdmgpiimacnapaaDr
namespace Go.Proofs.Ytdmgpiimacnapaa
open Go.RowKit Go.Shelf

theorem refersB_target {l : List V} {j : Int} (h : refersB l j = true) : j ∈ targets l := mem_targets (x := ⟨true, j⟩) (refersB_iff.1 h) rfl
theorem target_refers {l : List V} {j : Int} (h : j ∈ targets l) : refersB l j = true := refersB_iff.2 (of_targets h)
theorem ReachR.far {g : G} (hG : Good g) {lr l dist : List Int} (hR : ReachR g lr) (hF : Far g l dist) : sorted l = lr := by
  refine rise_ext _ _ (sorted_lt hF.inv.nodup) hR.rising fun x => ?_
  rw [mem_sorted]
  constructor
  · intro hx
    have h0 := hF.inv.rng x hx
    have key := hF.leastS (fun y => y ∈ lr ∧ 0 ≤ y) ?_ ?_ x hx
    · exact key.1
    · intro j hj
      have hj2 := hG.target (fun x hx => roots_all g x hx) hj
      obtain ⟨k, rfl⟩ : ∃ k : Nat, j = (k : Int) := ⟨j.toNat, by omega⟩
      exact ⟨hR.closed.1 k (by omega) (target_refers hj), by omega⟩
    · rintro i ⟨hi, hi0⟩ j hj
      have hj2 := hG.target (fun x hx => fields_all g i x hx) hj
      have hi2 := hR.rng i hi
      obtain ⟨k, rfl⟩ : ∃ k : Nat, j = (k : Int) := ⟨j.toNat, by omega⟩
      obtain ⟨a, rfl⟩ : ∃ a : Nat, i = (a : Int) := ⟨i.toNat, by omega⟩
      exact ⟨hR.closed.2 a k (by omega) (by omega) hi (target_refers hj), by omega⟩
  · intro hx
    have h0 := hR.rng x hx
    have := hR.sound x hx (fun y => (y : Int) ∈ l) ⟨fun j _ hj => (hF.root _ (refersB_target hj)).1, fun i j _ _ hi hr => (hF.closed i hi _ (refersB_target hr)).1⟩
    rwa [show ((x.toNat : Nat) : Int) = x by omega] at this
end Go.Proofs.Ytdmgpiimacnapaa
