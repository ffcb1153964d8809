/- Counts for the cut; what is kept rises. Plain. -/
import Derived.Test.YtnpbdabboecpaaaL1
namespace Go.Proofs.Ytnpbdabboecpaaa

theorem parted_len {k a l : List Int} (hk : k.Nodup) (ha : a.Nodup) (hl : l.Nodup) (h : ∀ x, x ∈ k ↔ x ∈ l ∧ x ∉ a) (h2 : ∀ x ∈ a, x ∈ l) : k.length + a.length = l.length := by
  have hn : (k ++ a).Nodup := by
    rw [List.nodup_append]
    refine ⟨hk, ha, ?_⟩
    rintro x hx y hy rfl
    exact ((h x).1 hx).2 hy
  have h3 := hn.length_le_of_subset (l₂ := l) fun x hx => by
    rcases List.mem_append.1 hx with hx | hx
    · exact ((h x).1 hx).1
    · exact h2 x hx
  have h4 := hl.length_le_of_subset (l₂ := k ++ a) fun x hx => by
    by_cases hxa : x ∈ a
    · exact List.mem_append_right _ hxa
    · exact List.mem_append_left _ ((h x).2 ⟨hx, hxa⟩)
  rw [List.length_append] at h3 h4
  omega
theorem Dom.ret_rising (up : List Int) (v : Int) (n : Nat) : (Dom.ret up v n).Pairwise (· < ·) := by
  unfold Dom.ret
  refine List.Pairwise.filter _ ?_
  rw [List.pairwise_map]
  exact List.pairwise_lt_range.imp (fun h => by omega)
theorem Dom.ret_nodup (up : List Int) (v : Int) (n : Nat) : (Dom.ret up v n).Nodup := (Dom.ret_rising up v n).imp (fun h => by omega)
end Go.Proofs.Ytnpbdabboecpaaa
