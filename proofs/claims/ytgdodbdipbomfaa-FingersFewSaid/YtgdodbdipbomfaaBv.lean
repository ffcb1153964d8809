/- The law file's headAt, walked. -/
import Derived.Test.YtgdodbdipbomfaaAc
namespace Go.Proofs.Ytgdodbdipbomfaa
open Go.RowKit

set_option maxRecDepth 100000 in
set_option maxHeartbeats 1000000 in
theorem headAt_yes (vw vr : Value) (ws rs : List Int) (k : Nat) (n : Int) (w : World) (hw : IsW w vw ws) (hr : IsW w vr rs) (hn : ws[k]? = some n) (hh : isHead n) :
    Calls Try.prog 26 #[.agg #[vw, vr], .int .i64 k] w fun e w' => e = .returned (.tuple #[.agg #[.int .i64 (n % 256), .bool (n / 256 % 2 == 1), .int .i64 (n / 512 % 8)], .bool true]) ∧ Below w.heap.size w w' := by
  obtain ⟨ar, cr, rfl, _⟩ := hr.slice
  have Hw := Lib.hid hw
  have Hn := Lib.hid hn
  obtain ⟨aw, cw, rfl, _⟩ := hw.slice
  have hkl := (List.getElem?_eq_some_iff.1 hn).1
  have hM0 := ((Mem.start w).alloc #[.slice aw ws.length cw, .slice ar rs.length cr] 24).allocAt (w.heap.size + 1) (by simp) #[.int .i64 0, .bool false, .int .i64 0] 50
  obtain ⟨b, off, cap', hv, hb, _, d0, h64⟩ := hw.at (Below.refl _ _) hn
  cases hv
  have hU := rUnhead_yes n ((w.alloc (.cells #[.slice (some ⟨b, off, none⟩) ws.length cw, .slice ar rs.length cr] 24)).alloc (.cells #[.int .i64 0, .bool false, .int .i64 0] 50)) h64 hh
  unfold headV at hU
  obtain ⟨x, hx⟩ : ∃ x, n % 256 = x := ⟨_, rfl⟩
  obtain ⟨y, hy⟩ : ∃ y, (n / 256 % 2 == 1) = y := ⟨_, rfl⟩
  obtain ⟨z, hz⟩ : ∃ z, n / 512 % 8 = z := ⟨_, rfl⟩
  rw [hx, hy, hz] at hU ⊢
  have HU := Lib.hid hU
  have HM0 := Lib.hid hM0
  have q0 : decide ((k : Int) < 0) = false := decide_eq_false (by omega)
  have q1 : decide ((k : Int) ≥ (ws.length : Int)) = false := decide_eq_false (by omega)
  have q2 : (k : Int) < ws.length := by omega
  clear hw hr hn hh hU hM0 hx hy hz h64
  go_enter Try.func26, Try.ntmps26
  go_wp2_with fail
  refine HU.out.mono ?_
  rintro e w3 ⟨rfl, hb3⟩
  have hM3 := HM0.out.call hb3
  have c0 : w3.cell? ⟨w.heap.size + 1, 0, none⟩ = some (.int .i64 0) := by have := (HM0.out.call hb3).cell 0 rfl 0; simpa using this
  have c1 : w3.cell? ⟨w.heap.size + 1, 1, none⟩ = some (.bool false) := by have := (HM0.out.call hb3).cell 0 rfl 1; simpa using this
  have c2 : w3.cell? ⟨w.heap.size + 1, 2, none⟩ = some (.int .i64 0) := by have := (HM0.out.call hb3).cell 0 rfl 2; simpa using this
  have f0 : w3.frozen? ⟨w.heap.size + 1, 0, none⟩ = false := (HM0.out.call hb3).free 0 rfl 0
  have f1 : w3.frozen? ⟨w.heap.size + 1, 1, none⟩ = false := (HM0.out.call hb3).free 0 rfl 1
  have f2 : w3.frozen? ⟨w.heap.size + 1, 2, none⟩ = false := (HM0.out.call hb3).free 0 rfl 2
  have z0 : w.heap.size + 1 < w3.heap.size := ((HM0.out.call hb3).box 0 rfl).2.1
  have hM4 := (((hM3.setBox 0 rfl 0 (.int .i64 x)).setBox 0 rfl 1 (.bool y)).setBox 0 rfl 2 (.int .i64 z)).alloc #[.int .i64 x, .bool y, .int .i64 z] 50
  have HM4 := Lib.hid hM4
  clear hb3 hM3 hM4 HU HM0
  go_wp2
  obtain ⟨W6, hW6⟩ : ∃ W6, W6 = (((w3.setCell ⟨w.heap.size + 1, 0, none⟩ (.int .i64 x)).setCell ⟨w.heap.size + 1, 1, none⟩ (.bool y)).setCell ⟨w.heap.size + 1, 2, none⟩ (.int .i64 z)).alloc (.cells #[.int .i64 x, .bool y, .int .i64 z] 50) := ⟨_, rfl⟩
  have hM7 := HM4.out
  rw [← hW6] at hM7 ⊢
  have r0 : W6.cell? ⟨w.heap.size + 1, 0, none⟩ = some (.int .i64 x) := by have := hM7.cell 1 rfl 0; simpa using this
  have r1 : W6.cell? ⟨w.heap.size + 1, 1, none⟩ = some (.bool y) := by have := hM7.cell 1 rfl 1; simpa using this
  have r2 : W6.cell? ⟨w.heap.size + 1, 2, none⟩ = some (.int .i64 z) := by have := hM7.cell 1 rfl 2; simpa using this
  refine bodyPost_ret (v := .tuple #[.agg #[.int .i64 x, .bool y, .int .i64 z], .bool true]) (by simp [results, Try.results26, go_sem, r0, r1, r2]) rfl ⟨rfl, hM7.below⟩
end Go.Proofs.Ytgdodbdipbomfaa
