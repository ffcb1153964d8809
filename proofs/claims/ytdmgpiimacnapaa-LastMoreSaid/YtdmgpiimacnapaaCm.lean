/- Behind a call that hands back what it owns; bounds of distances. Plain. -/
import Derived.Test.YtdmgpiimacnapaaFm
import Derived.Test.YtdmgpiimacnapaaF2
namespace Go.Proofs.Ytdmgpiimacnapaa
open Go.RowKit Go.Shelf

theorem Mem.callMem {B : Nat} {w0 w w' : World} {L L' : List Ent} (h : Mem B w0 w L) (hM : Mem w.heap.size w w' L') : Mem B w0 w' (L' ++ L) := by
  have h2 := h.call hM.below
  refine ⟨h2.below, h2.base, ?_, List.pairwise_append.2 ⟨hM.apart, h2.apart, ?_⟩⟩
  · intro x hx
    rcases List.mem_append.1 hx with hx | hx
    · have h3 := hM.ok x hx
      exact ⟨fun b hb => ⟨Nat.le_trans h.base (h3.1 b hb).1, (h3.1 b hb).2⟩, h3.2⟩
    · exact h2.ok x hx
  · intro x hx y hy b hb hb'
    have h3 := (hM.lt hx b hb).1
    have h4 := (h.lt hy b hb').2
    omega

theorem dist_bound {g : G} {l dist : List Int} (h : Far g l dist) : ∀ x ∈ dist, -1 ≤ x ∧ x ≤ (l.length : Int) := by
  intro x hx
  refine ⟨h.inv.low x hx, ?_⟩
  obtain ⟨i, hi, rfl⟩ := List.getElem_of_mem hx
  have hn := h.inv.len
  by_cases h0 : 0 ≤ dist[i]
  · have h1 : (i : Int) ∈ l := (h.inv.iff i (by simpa using (show i < g.objs.length by simp only at hn; omega))).1 (by
      show 0 ≤ dist.getD i 0
      rw [List.getD_eq_getElem?_getD, List.getElem?_eq_getElem hi]; exact h0)
    obtain ⟨j, hj, he⟩ := List.getElem_of_mem h1
    have h2 := h.inv.le j (i : Int) (by show l[j]? = some (i : Int); rw [List.getElem?_eq_getElem hj, he])
    have h3 : dist.getD i 0 = dist[i] := by rw [List.getD_eq_getElem?_getD, List.getElem?_eq_getElem hi]; rfl
    simp only [Int.toNat_natCast] at h2
    rw [h3] at h2
    omega
  · omega
theorem isInts_dist {g : G} (hG : Good g) {l dist : List Int} (h : Far g l dist) {w : World} {B : Nat} {w0 : World} {L : List Ent} (k : Nat) {v : Value} (hM : Mem B w0 w L) (hk : L[k]? = some (rowI 3 v dist)) : IsInts w v dist := by
  have hn := h.inv.len
  have hll := h.inv.length_le
  have := hG.objs
  simp only at hn hll
  refine isInts_of_own (hM.ownI k hk) (by omega) ?_
  intro x hx
  have := dist_bound h x hx
  exact ⟨by omega, by omega⟩
end Go.Proofs.Ytdmgpiimacnapaa
