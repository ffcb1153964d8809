/- ragpickerref.Canon and the law file's left, walked. -/
import Derived.Test.YtgdodbdipbomfaaSa
import Derived.Test.YtgdodbdipbomfaaSr
import Derived.Test.YtgdodbdipbomfaaRq
import Derived.Test.YtgdodbdipbomfaaBz
import Derived.Test.YtgdodbdipbomfaaBu
import Derived.Test.YtgdodbdipbomfaaBt
import Derived.Test.YtgdodbdipbomfaaSy
import Derived.Deep.QuietTactic
import Derived.Deep.RegionHeld3
namespace Go.Proofs.Ytgdodbdipbomfaa
open Go.RowKit Go.Shelf

set_option maxRecDepth 100000 in
set_option maxHeartbeats 2000000 in
theorem canonF_any (g : G) (hG : Fits g) (F : List Int) (hF : OrdS g F) (v : Value) (w : World) (hg : IsGraph w v g) :
    Calls Try.prog 35 #[v] w fun e w' => ∃ v', e = .returned v' ∧ Graft w.heap.size w' v' (renumP g F (fun y => plc F y 0)) ∧ Below w.heap.size w w' := by
  obtain ⟨ao, co, ar, cr, rfl⟩ := hg.shape'
  have hM0 := ((Mem.start w).alloc #[.slice ao g.objs.length co, .slice ar g.roots.length cr] 36).allocAt (w.heap.size + 1) (by simp) #[.slice none 0 0, .slice none 0 0] 36
  obtain ⟨W, hW⟩ : ∃ W, (w.alloc (.cells #[.slice ao g.objs.length co, .slice ar g.roots.length cr] 36)).alloc (.cells #[.slice none 0 0, .slice none 0 0] 36) = W := ⟨_, rfl⟩
  rw [hW] at hM0
  have hMd := hM0.drew
  have hgd := hg.later hMd.below
  have hO := order_any g hG F hF _ _ hgd
  have c0 : W.drew.cell? ⟨w.heap.size, 0, none⟩ = some (.slice ao g.objs.length co) := by have := hMd.cell 1 rfl 0; simpa using this
  have c1 : W.drew.cell? ⟨w.heap.size, 1, none⟩ = some (.slice ar g.roots.length cr) := by have := hMd.cell 1 rfl 1; simpa using this
  obtain ⟨c, hc⟩ : ∃ c, renumP g F (fun y => plc F y 0) = c := ⟨_, rfl⟩
  have hFf := tks_fits hG hF (List.prefix_refl F)
  have HQ : Hid (∀ X u, Below W.drew.heap.size W.drew X → IsInts X u F → Calls Try.prog 67 #[.agg #[.slice ao g.objs.length co, .slice ar g.roots.length cr], u] X fun e w' => ∃ v', e = .returned v' ∧ Graft X.heap.size w' v' c ∧ Below X.heap.size X w') := Lib.hid (fun X u hX hu => by
    have := renumF_any g hG _ u F X (hgd.later hX) hu hFf.1 (hF.rng hG.rng)
    rwa [hc] at this)
  have Hc := Lib.hid hc
  have HO := Lib.hid hO
  have HF64 := Lib.hid hFf
  have HMd := Lib.hid hMd
  have HW := Lib.hid hW
  clear hM0 hgd hO hc hF hG hg hFf hMd hW
  go_enter Try.func35, Try.ntmps35
  go_wp2
  rw [HW.out]
  go_region_held3 (fun X => X.cell? ⟨w.heap.size, 0, none⟩ = some (.slice ao g.objs.length co) ∧ X.cell? ⟨w.heap.size, 1, none⟩ = some (.slice ar g.roots.length cr))
    (first | exact ⟨c0, c1⟩ | exact ⟨d0, d1⟩ | exact ⟨e0, e1⟩ | exact ⟨f0, f1⟩)
    (first
      | (go_at_call 68
         refine HO.out.mono ?_
         rintro e w3 ⟨r, rfl, hM3⟩
         have hI3 := isInts_of_own (hM3.ownI 0 rfl) (by have := HF64.out.1; omega) HF64.out.2
         have hB3 := hM3.below
         have hM4 := HMd.out.call hB3
         have d0 : w3.cell? ⟨w.heap.size, 0, none⟩ = some (.slice ao g.objs.length co) := by have := hM4.cell 1 rfl 0; simpa using this
         have d1 : w3.cell? ⟨w.heap.size, 1, none⟩ = some (.slice ar g.roots.length cr) := by have := hM4.cell 1 rfl 1; simpa using this
         clear hM3)
      | (go_at_call 67
         refine (HQ.out _ _ hB3 hI3).mono ?_
         rintro e w5 ⟨v', rfl, hgr, hb5⟩
         have hM6 := hM4.call hb5
         have hS3 : w.heap.size + 2 ≤ w3.heap.size := by have := (hM4.box 0 rfl).2.1; omega
         obtain ⟨ao3, co3, ar3, cr3, rfl⟩ := hgr.here.shape'
         have e0 : w5.cell? ⟨w.heap.size, 0, none⟩ = some (.slice ao g.objs.length co) := by have := hM6.cell 1 rfl 0; simpa using this
         have e1 : w5.cell? ⟨w.heap.size, 1, none⟩ = some (.slice ar g.roots.length cr) := by have := hM6.cell 1 rfl 1; simpa using this
         have s2 : w5.cell? ⟨w.heap.size + 1, 0, none⟩ = some (.slice none 0 0) := by have := hM6.cell 0 rfl 0; simpa using this
         have s3 : w5.cell? ⟨w.heap.size + 1, 1, none⟩ = some (.slice none 0 0) := by have := hM6.cell 0 rfl 1; simpa using this
         have s4 : w5.frozen? ⟨w.heap.size + 1, 0, none⟩ = false := hM6.free 0 rfl 0
         have s5 : w5.frozen? ⟨w.heap.size + 1, 1, none⟩ = false := hM6.free 0 rfl 1
         have s6 : w.heap.size + 1 < w5.heap.size := (hM6.box 0 rfl).2.1
         have hM7 := (hM6.setBox 0 rfl 0 (.slice ao3 c.objs.length co3)).setBox 0 rfl 1 (.slice ar3 c.roots.length cr3)
         have f0 : ((w5.setCell ⟨w.heap.size + 1, 0, none⟩ (.slice ao3 c.objs.length co3)).setCell ⟨w.heap.size + 1, 1, none⟩ (.slice ar3 c.roots.length cr3)).cell? ⟨w.heap.size, 0, none⟩ = some (.slice ao g.objs.length co) := by have := hM7.cell 1 rfl 0; simpa using this
         have f1 : ((w5.setCell ⟨w.heap.size + 1, 0, none⟩ (.slice ao3 c.objs.length co3)).setCell ⟨w.heap.size + 1, 1, none⟩ (.slice ar3 c.roots.length cr3)).cell? ⟨w.heap.size, 1, none⟩ = some (.slice ar g.roots.length cr) := by have := hM7.cell 1 rfl 1; simpa using this))
  go_wp2
  obtain ⟨W6, hW6⟩ : ∃ W6, W6 = (w5.setCell ⟨w.heap.size + 1, 0, none⟩ (.slice ao3 c.objs.length co3)).setCell ⟨w.heap.size + 1, 1, none⟩ (.slice ar3 c.roots.length cr3) := ⟨_, rfl⟩
  have hsz : w.heap.size + 1 < W6.heap.size := by rw [hW6]; exact (hM7.box 0 rfl).2.1
  rw [← hW6] at hM7 ⊢
  have r0 : W6.cell? ⟨w.heap.size + 1, 0, none⟩ = some (.slice ao3 c.objs.length co3) := by have := hM7.cell 0 rfl 0; simpa using this
  have r1 : W6.cell? ⟨w.heap.size + 1, 1, none⟩ = some (.slice ar3 c.roots.length cr3) := by have := hM7.cell 0 rfl 1; simpa using this
  refine bodyPost_ret (v := .agg #[.slice ao3 c.objs.length co3, .slice ar3 c.roots.length cr3]) (by simp [results, Try.results35, go_sem, r0, r1]) rfl ⟨_, rfl, ?_, hM7.below⟩
  rw [Hc.out]
  refine hgr.step (by omega) (by rw [hW6]; simp) ?_
  intro b h1 h2
  rw [hW6, heap_setCell_other _ _ _ _ (by simp only; omega), heap_setCell_other _ _ _ _ (by simp only; omega)]
end Go.Proofs.Ytgdodbdipbomfaa
