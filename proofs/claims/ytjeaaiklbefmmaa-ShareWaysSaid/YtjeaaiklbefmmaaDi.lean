/- graph.Dist, walked. -/
import Derived.Test.YtjeaaiklbefmmaaFm
import Derived.Test.YtjeaaiklbefmmaaF2
namespace Go.Proofs.Ytjeaaiklbefmmaa
open Go.RowKit Go.Shelf

theorem Mem.callMem {B : Nat} {w0 w w' : World} {L L' : List Ent} (h : Mem B w0 w L) (hM : Mem w.heap.size w w' L') : Mem B w0 w' (L' ++ L) := by
  have h2 := h.call hM.below
  refine ⟨h2.below, h2.base, ?_, List.pairwise_append.2 ⟨hM.apart, h2.apart, ?_⟩⟩
  · intro x hx
    rcases List.mem_append.1 hx with hx | hx
    · have h3 := hM.ok x hx
      exact ⟨fun b hb => ⟨Nat.le_trans h.base (h3.1 b hb).1, (h3.1 b hb).2⟩, h3.2⟩
    · exact h2.ok x hx
  · intro x hx y hy b hb hb'
    have h3 := (hM.lt hx b hb).1
    have h4 := (h.lt hy b hb').2
    omega

set_option maxHeartbeats 400000 in
theorem dist_any (g : G) (hG : Good g) (v : Value) (w : World) (hg : IsGraph w v g) :
    Calls Try.prog 17 #[v] w fun e w' => ∃ vd l dist, e = .returned (.tuple #[vd, .int .i64 0]) ∧ FoundS g l dist ∧ Mem w.heap.size w w' [rowI 3 vd dist] := by
  have hg0 := hg
  obtain ⟨vo, vr, rfl, ho, hr⟩ := hg
  obtain ⟨ao, co, rfl, hlo⟩ := ho.slice
  obtain ⟨ar, cr, rfl, hlr⟩ := hr.slice
  have Hg := Lib.hid hg0
  clear ho hr hg0
  have hM0 := (Mem.start w).alloc #[.slice ao g.objs.length co, .slice ar g.roots.length cr] 25
  go_enter Try.func17, Try.ntmps17
  go_wp2_with fail
  refine (gcheck_yes _ g _ (Hg.out.later hM0.below) hG).mono ?_
  rintro e w1 ⟨rfl, hb⟩
  have hM1 := hM0.call hb
  have p0 : w1.cell? ⟨w.heap.size, 0, none⟩ = some (.slice ao g.objs.length co) := by have := hM1.cell 0 rfl 0; simpa using this
  have p1 : w1.cell? ⟨w.heap.size, 1, none⟩ = some (.slice ar g.roots.length cr) := by have := hM1.cell 0 rfl 1; simpa using this
  go_wp2_with fail
  refine (found_any g hG _ w1 (Hg.out.later hM1.below)).mono ?_
  rintro e w2 ⟨vl, vd, l, dist, rfl, hF, hM2⟩
  have hM3 := hM1.callMem hM2
  have HF := Lib.hid hF
  have HM3 := Lib.hid hM3
  clear hF hM3 hM2
  go_wp2
  refine bodyPost_ret (v := .tuple #[vd, .int .i64 0]) (by simp [results, Try.results17, go_sem]) rfl ⟨vd, l, dist, rfl, HF.out, HM3.out.pick0 [1] (by decide) rfl⟩

theorem dist_bound {g : G} {l dist : List Int} (h : Far g l dist) : ∀ x ∈ dist, -1 ≤ x ∧ x ≤ (l.length : Int) := by
  intro x hx
  refine ⟨h.inv.low x hx, ?_⟩
  obtain ⟨i, hi, rfl⟩ := List.getElem_of_mem hx
  have hn := h.inv.len
  by_cases h0 : 0 ≤ dist[i]
  · have h1 : (i : Int) ∈ l := (h.inv.iff i (by simpa using (show i < g.objs.length by simp only at hn; omega))).1 (by
      show 0 ≤ dist.getD i 0
      rw [List.getD_eq_getElem?_getD, List.getElem?_eq_getElem hi]; exact h0)
    obtain ⟨j, hj, he⟩ := List.getElem_of_mem h1
    have h2 := h.inv.le j (i : Int) (by show l[j]? = some (i : Int); rw [List.getElem?_eq_getElem hj, he])
    have h3 : dist.getD i 0 = dist[i] := by rw [List.getD_eq_getElem?_getD, List.getElem?_eq_getElem hi]; rfl
    simp only [Int.toNat_natCast] at h2
    rw [h3] at h2
    omega
  · omega
theorem isInts_dist {g : G} (hG : Good g) {l dist : List Int} (h : Far g l dist) {w : World} {B : Nat} {w0 : World} {L : List Ent} (k : Nat) {v : Value} (hM : Mem B w0 w L) (hk : L[k]? = some (rowI 3 v dist)) : IsInts w v dist := by
  have hn := h.inv.len
  have hll := h.inv.length_le
  have := hG.objs
  simp only at hn hll
  refine isInts_of_own (hM.ownI k hk) (by omega) ?_
  intro x hx
  have := dist_bound h x hx
  exact ⟨by omega, by omega⟩
end Go.Proofs.Ytjeaaiklbefmmaa
