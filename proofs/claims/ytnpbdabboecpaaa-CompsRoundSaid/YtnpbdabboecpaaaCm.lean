/- Behind a call that hands back what it owns; bounds of distances. Plain. -/
import Derived.Test.YtnpbdabboecpaaaFm
import Derived.Test.YtnpbdabboecpaaaF2
namespace Go.Proofs.Ytnpbdabboecpaaa
open Go.RowKit Go.Shelf

theorem dist_bound {g : G} {l dist : List Int} (h : Far g l dist) : ∀ x ∈ dist, -1 ≤ x ∧ x ≤ (l.length : Int) := by
  intro x hx
  refine ⟨h.inv.low x hx, ?_⟩
  obtain ⟨i, hi, rfl⟩ := List.getElem_of_mem hx
  have hn := h.inv.len
  by_cases h0 : 0 ≤ dist[i]
  · have h1 : (i : Int) ∈ l := (h.inv.iff i (by simpa using (show i < g.objs.length by simp only at hn; omega))).1 (by
      show 0 ≤ dist.getD i 0
      rw [List.getD_eq_getElem?_getD, List.getElem?_eq_getElem hi]; exact h0)
    obtain ⟨j, hj, he⟩ := List.getElem_of_mem h1
    have h2 := h.inv.le j (i : Int) (by show l[j]? = some (i : Int); rw [List.getElem?_eq_getElem hj, he])
    have h3 : dist.getD i 0 = dist[i] := by rw [List.getD_eq_getElem?_getD, List.getElem?_eq_getElem hi]; rfl
    simp only [Int.toNat_natCast] at h2
    rw [h3] at h2
    omega
  · omega
theorem isInts_dist {g : G} (hG : Good g) {l dist : List Int} (h : Far g l dist) {w : World} {B : Nat} {w0 : World} {L : List Ent} (k : Nat) {v : Value} (hM : Mem B w0 w L) (hk : L[k]? = some (rowI 3 v dist)) : IsInts w v dist := by
  have hn := h.inv.len
  have hll := h.inv.length_le
  have := hG.objs
  simp only at hn hll
  refine isInts_of_own (hM.ownI k hk) (by omega) ?_
  intro x hx
  have := dist_bound h x hx
  exact ⟨by omega, by omega⟩
end Go.Proofs.Ytnpbdabboecpaaa
