/- mark.Mark where it refuses, walked. -/
import Derived.Test.YtigdpdndnghldaaNb
namespace Go.Proofs.Ytigdpdndnghldaa
open Go.RowKit Go.Shelf

set_option maxRecDepth 100000 in
set_option maxHeartbeats 2000000 in
theorem mark_no (vw vr : Value) (ws rs : List Int) (r : Int) (w : World) (hw : IsW w vw ws) (hr : IsW w vr rs) (hbad : (∀ os, ¬ Sound ws rs os) ∨ r < 1 ∨ 64 < r) :
    Calls Try.prog 27 #[.agg #[vw, vr], .int .i64 r] w fun e w' => ∃ c, e = .returned (.tuple #[.agg #[.slice none 0 0, .slice none 0 0], .int .i64 c]) ∧ c ≠ 0 ∧ Below w.heap.size w w' := by
  have Hw := Lib.hid hw
  have Hr := Lib.hid hr
  obtain ⟨aw, cw, rfl, hmw⟩ := hw.slice
  obtain ⟨ar, cr, rfl, hmr⟩ := hr.slice
  have hM0 := (((Mem.start w).alloc #[.slice aw ws.length cw, .slice ar rs.length cr] 24).allocAt (w.heap.size + 1) (by simp) #[.slice none 0 0, .slice none 0 0] 24)
  have HC := Lib.hid (acheck_any _ _ ws rs _ (hw.later hM0.below) (hr.later hM0.below))
  have HM0 := Lib.hid hM0
  have Hbad := Lib.hid hbad
  clear hw hr hM0 hmw hmr hbad
  go_enter Try.func27, Try.ntmps27
  go_wp2_with fail
  refine HC.out.mono ?_
  rintro e w2 ⟨c, rfl, hb, hcase⟩
  have hM2 := HM0.out.call hb
  have r0 : w2.cell? ⟨w.heap.size + 1, 0, none⟩ = some (.slice none 0 0) := by have := hM2.cell 0 rfl 0; simpa using this
  have r1 : w2.cell? ⟨w.heap.size + 1, 1, none⟩ = some (.slice none 0 0) := by have := hM2.cell 0 rfl 1; simpa using this
  have r2 : w2.frozen? ⟨w.heap.size + 1, 0, none⟩ = false := hM2.free 0 rfl 0
  have r3 : w2.frozen? ⟨w.heap.size + 1, 1, none⟩ = false := hM2.free 0 rfl 1
  have rz : w.heap.size + 1 < w2.heap.size := (hM2.box 0 rfl).2.1
  have HM7 := Lib.hid ((hM2.setBox 0 rfl 0 (.slice none 0 0)).setBox 0 rfl 1 (.slice none 0 0))
  clear hb hM2 HM0 HC
  rcases hcase with ⟨rfl, os, hS⟩ | ⟨hc, _⟩
  · have hrr : r < 1 ∨ 64 < r := Hbad.out.resolve_left (fun h => h os hS)
    clear hS
    rcases hrr with h1 | h1
    · have e1 : decide (r < 1) = true := decide_eq_true h1
      go_wp2
      obtain ⟨W9, hW9⟩ : ∃ W9, W9 = (w2.setCell ⟨w.heap.size + 1, 0, none⟩ (.slice none 0 0)).setCell ⟨w.heap.size + 1, 1, none⟩ (.slice none 0 0) := ⟨_, rfl⟩
      have hM8 := HM7.out
      rw [← hW9] at hM8 ⊢
      have s0 : W9.cell? ⟨w.heap.size + 1, 0, none⟩ = some (.slice none 0 0) := by have := hM8.cell 0 rfl 0; simpa using this
      have s1 : W9.cell? ⟨w.heap.size + 1, 1, none⟩ = some (.slice none 0 0) := by have := hM8.cell 0 rfl 1; simpa using this
      exact bodyPost_ret (v := .tuple #[.agg #[.slice none 0 0, .slice none 0 0], .int .i64 3]) (by simp [results, Try.results27, go_sem, s0, s1]) rfl ⟨_, rfl, by decide, hM8.below⟩
    · have e1 : decide (r < 1) = false := decide_eq_false (by omega)
      have e2 : decide (r > 64) = true := decide_eq_true h1
      go_wp2
      obtain ⟨W9, hW9⟩ : ∃ W9, W9 = (w2.setCell ⟨w.heap.size + 1, 0, none⟩ (.slice none 0 0)).setCell ⟨w.heap.size + 1, 1, none⟩ (.slice none 0 0) := ⟨_, rfl⟩
      have hM8 := HM7.out
      rw [← hW9] at hM8 ⊢
      have s0 : W9.cell? ⟨w.heap.size + 1, 0, none⟩ = some (.slice none 0 0) := by have := hM8.cell 0 rfl 0; simpa using this
      have s1 : W9.cell? ⟨w.heap.size + 1, 1, none⟩ = some (.slice none 0 0) := by have := hM8.cell 0 rfl 1; simpa using this
      exact bodyPost_ret (v := .tuple #[.agg #[.slice none 0 0, .slice none 0 0], .int .i64 3]) (by simp [results, Try.results27, go_sem, s0, s1]) rfl ⟨_, rfl, by decide, hM8.below⟩
  · go_wp2
    obtain ⟨W9, hW9⟩ : ∃ W9, W9 = (w2.setCell ⟨w.heap.size + 1, 0, none⟩ (.slice none 0 0)).setCell ⟨w.heap.size + 1, 1, none⟩ (.slice none 0 0) := ⟨_, rfl⟩
    have hM8 := HM7.out
    rw [← hW9] at hM8 ⊢
    have s0 : W9.cell? ⟨w.heap.size + 1, 0, none⟩ = some (.slice none 0 0) := by have := hM8.cell 0 rfl 0; simpa using this
    have s1 : W9.cell? ⟨w.heap.size + 1, 1, none⟩ = some (.slice none 0 0) := by have := hM8.cell 0 rfl 1; simpa using this
    exact bodyPost_ret (v := .tuple #[.agg #[.slice none 0 0, .slice none 0 0], .int .i64 c]) (by simp [results, Try.results27, go_sem, s0, s1]) rfl ⟨_, rfl, hc, hM8.below⟩
end Go.Proofs.Ytigdpdndnghldaa
