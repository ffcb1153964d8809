/- graph.Canon, walked. -/
import Derived.Test.YtjeaaiklbefmmaaRm
namespace Go.Proofs.Ytjeaaiklbefmmaa
open Go.RowKit Go.Shelf

theorem isInts_found {g : G} (hG : Good g) {l dist : List Int} (h : FoundS g l dist) {w : World} {B : Nat} {w0 : World} {L : List Ent} (k : Nat) {v : Value} (hM : Mem B w0 w L) (hk : L[k]? = some (rowI 3 v l)) : IsInts w v l := by
  have hf := h.far hG
  have hll := hf.inv.length_le
  have hn := hG.objs
  simp only at hll
  refine isInts_of_own (hM.ownI k hk) (by omega) ?_
  intro x hx
  have := hf.inv.rng x hx
  exact ⟨by omega, by omega⟩

/-- What Canon makes of a good graph. -/
def CanonS (g c : G) : Prop := ∃ l dist, FoundS g l dist ∧ c = renum g l
set_option maxHeartbeats 400000 in
theorem canon_any (g : G) (hG : Good g) (v : Value) (w : World) (hg : IsGraph w v g) :
    Calls Try.prog 22 #[v] w fun e w' => ∃ v' c, e = .returned (.tuple #[v', .int .i64 0]) ∧ CanonS g c ∧ Graft w.heap.size w' v' c ∧ Below w.heap.size w w' := by
  have hg0 := hg
  obtain ⟨vo, vr, rfl, ho, hr⟩ := hg
  obtain ⟨ao, co, rfl, hlo⟩ := ho.slice
  obtain ⟨ar, cr, rfl, hlr⟩ := hr.slice
  have Hg := Lib.hid hg0
  clear ho hr hg0
  have hM0 := ((Mem.start w).alloc #[.slice ao g.objs.length co, .slice ar g.roots.length cr] 25).allocAt (w.heap.size + 1) (by simp) #[.slice none 0 0, .slice none 0 0] 25
  go_enter Try.func22, Try.ntmps22
  go_wp2_with fail
  refine (gcheck_yes _ g _ (Hg.out.later hM0.below) hG).mono ?_
  rintro e w1 ⟨rfl, hb⟩
  have hM1 := hM0.call hb
  have p0 : w1.cell? ⟨w.heap.size, 0, none⟩ = some (.slice ao g.objs.length co) := by have := hM1.cell 1 rfl 0; simpa using this
  have p1 : w1.cell? ⟨w.heap.size, 1, none⟩ = some (.slice ar g.roots.length cr) := by have := hM1.cell 1 rfl 1; simpa using this
  go_wp2_with fail
  refine (found_any g hG _ w1 (Hg.out.later hM1.below)).mono ?_
  rintro e w2 ⟨vl, vd, l, dist, rfl, hF, hM2⟩
  have hM3 := hM1.callMem hM2
  have hI := isInts_found hG hF 0 hM3 rfl
  have hfar := hF.far hG
  have hll : l.length ≤ g.objs.length := hfar.inv.length_le
  have hn := hG.objs
  have HF := Lib.hid hF
  have Hfar := Lib.hid hfar
  have HM3 := Lib.hid hM3
  have HI := Lib.hid hI
  have q0 : w2.cell? ⟨w.heap.size, 0, none⟩ = some (.slice ao g.objs.length co) := by have := hM3.cell 3 rfl 0; simpa using this
  have q1 : w2.cell? ⟨w.heap.size, 1, none⟩ = some (.slice ar g.roots.length cr) := by have := hM3.cell 3 rfl 1; simpa using this
  clear hF hM3 hM2 hfar hI
  go_wp2_with fail
  refine (renumber_any g hG _ _ l w2 (Hg.out.later HM3.out.below) HI.out (by omega) Hfar.out.inv.rng).mono ?_
  rintro e w3 ⟨v', rfl, hgr, hb3⟩
  have hg3 := hgr.here
  obtain ⟨c, hc⟩ : ∃ c, c = renum g l := ⟨_, rfl⟩
  rw [← hc] at hg3 hgr
  have HGr := Lib.hid hgr
  have Hc := Lib.hid hc
  clear hc hgr
  have hM4 := HM3.out.call hb3
  obtain ⟨vo3, vr3, rfl, ho3, hr3⟩ := hg3
  obtain ⟨ao3, co3, rfl, _⟩ := ho3.slice
  obtain ⟨ar3, cr3, rfl, _⟩ := hr3.slice
  have s2 : w3.cell? ⟨w.heap.size + 1, 0, none⟩ = some (.slice none 0 0) := by have := hM4.cell 2 rfl 0; simpa using this
  have s3 : w3.cell? ⟨w.heap.size + 1, 1, none⟩ = some (.slice none 0 0) := by have := hM4.cell 2 rfl 1; simpa using this
  have s4 : w3.frozen? ⟨w.heap.size + 1, 0, none⟩ = false := hM4.free 2 rfl 0
  have s5 : w3.frozen? ⟨w.heap.size + 1, 1, none⟩ = false := hM4.free 2 rfl 1
  have hM6 := (hM4.setBox 2 rfl 0 (.slice ao3 c.objs.length co3)).setBox 2 rfl 1 (.slice ar3 c.roots.length cr3)
  have HM6 := Lib.hid hM6
  clear hM4 hM6
  go_wp2
  obtain ⟨W6, hW6⟩ : ∃ W6, W6 = (w3.setCell ⟨w.heap.size + 1, 0, none⟩ (.slice ao3 c.objs.length co3)).setCell ⟨w.heap.size + 1, 1, none⟩ (.slice ar3 c.roots.length cr3) := ⟨_, rfl⟩
  have hM7 := HM6.out
  have hsz : w.heap.size + 1 < W6.heap.size := by rw [hW6]; exact (HM6.out.box 2 rfl).2.1
  rw [← hW6] at hM7 ⊢
  have r0 : W6.cell? ⟨w.heap.size + 1, 0, none⟩ = some (.slice ao3 c.objs.length co3) := by have := hM7.cell 2 rfl 0; simpa using this
  have r1 : W6.cell? ⟨w.heap.size + 1, 1, none⟩ = some (.slice ar3 c.roots.length cr3) := by have := hM7.cell 2 rfl 1; simpa using this
  refine bodyPost_ret (v := .tuple #[.agg #[.slice ao3 c.objs.length co3, .slice ar3 c.roots.length cr3], .int .i64 0]) (by simp [results, Try.results22, go_sem, r0, r1]) rfl ⟨_, c, rfl, ⟨l, dist, HF.out, Hc.out⟩, ?_, hM7.below⟩
  have hsz2 : w.heap.size + 1 < w2.heap.size := (HM3.out.box 2 rfl).2.1
  refine HGr.out.step (by omega) (by rw [hW6]; simp) ?_
  intro b h1 h2
  rw [hW6, heap_setCell_other _ _ _ _ (by simp only; omega), heap_setCell_other _ _ _ _ (by simp only; omega)]
end Go.Proofs.Ytjeaaiklbefmmaa
