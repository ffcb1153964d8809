/- heap.Machine.Do, walked over any memory: tell, put, get, new. -/
import Derived.Test.YtmmcjjklmcfegaaM3
import Derived.Deep.RegionHeld3
import Derived.Deep.DeepCutAuto
namespace Go.Proofs.Ytmmcjjklmcfegaa
open Go.RowKit Go.Shelf
section
variable {X : Type} (Is : Os → X → List Ent → Prop)
set_option maxRecDepth 100000 in
set_option maxHeartbeats 2000000 in
theorem do_tell_num (bx : Nat) (regs : List V) (mv : Value) (t : Int) (q : Nat) (a n : Int) (ht : i64ok t) (hf : i64ok (q : Int)) (hq : q < 8) (y : Int) (hv : regs[q]? = some ⟨false, y⟩) (hw0 : wrongC ⟨7, t, q, a, n⟩ = 0) (B : Nat) (w0 w : World) (L T : List Ent)
    (hM : HoldsM B w0 bx regs mv L T w) :
    Calls Try.prog 39 #[.pointer (some ⟨bx, 0, none⟩), .agg #[.int .i64 7, .int .i64 t, .int .i64 q, .int .i64 a, .int .i64 n]] w fun e w' => e = .returned (.agg #[.int .i64 0, .bool false, .int .i64 y]) ∧ HoldsM B w0 bx regs mv L T w' := by
  have hMa := (hM.alloc #[.int .i64 7, .int .i64 t, .int .i64 q, .int .i64 a, .int .i64 n] 58).tuck
  have hMb := (hMa.alloc #[.int .i64 0, .bool false, .int .i64 0] 89).tuck
  have hbx : bx < w.heap.size := (hM.box 0 rfl).2.1
  have hWr := wrong_any 7 t q a n ht hf ((w.alloc (.cells #[.int .i64 7, .int .i64 t, .int .i64 q, .int .i64 a, .int .i64 n] 58)).alloc (.cells #[.int .i64 0, .bool false, .int .i64 0] 89))
  rw [hw0] at hWr
  have HWr := Lib.hid hWr
  simp only [World.size_alloc] at hMb
  have HMb := Lib.hid hMb
  clear hMa hMb hM hWr
  go_enter Try.func39, Try.ntmps39
  go_wp2_with fail
  refine HWr.out.mono ?_
  rintro e w1 ⟨rfl, hb1⟩
  have hM1 := HMb.out.call hb1
  have hMd := hM1.perm (L' := ebox w.heap.size #[.int .i64 7, .int .i64 t, .int .i64 q, .int .i64 a, .int .i64 n] 58 :: ebox (w.heap.size + 1) #[.int .i64 0, .bool false, .int .i64 0] 89 :: mbox bx regs mv :: (L ++ T)) perm_do
  have d0 : w1.cell? ⟨w.heap.size, 0, none⟩ = some (.int .i64 7) := (by have := hMd.cell 0 rfl 0; simpa using this)
  have d1 : w1.cell? ⟨w.heap.size, 1, none⟩ = some (.int .i64 t) := (by have := hMd.cell 0 rfl 1; simpa using this)
  have d2 : w1.cell? ⟨w.heap.size, 2, none⟩ = some (.int .i64 q) := (by have := hMd.cell 0 rfl 2; simpa using this)
  have d3 : w1.cell? ⟨w.heap.size, 3, none⟩ = some (.int .i64 a) := (by have := hMd.cell 0 rfl 3; simpa using this)
  have d4 : w1.cell? ⟨w.heap.size, 4, none⟩ = some (.int .i64 n) := (by have := hMd.cell 0 rfl 4; simpa using this)
  have dsz : w.heap.size < w1.heap.size := (hMd.box 0 rfl).2.1
  have hM1' : HoldsM B w0 bx regs mv L (ebox (w.heap.size + 1) #[.int .i64 0, .bool false, .int .i64 0] 89 :: ebox w.heap.size #[.int .i64 7, .int .i64 t, .int .i64 q, .int .i64 a, .int .i64 n] 58 :: T) w1 := hM1
  obtain ⟨r0, r1, _, rb⟩ := hMd.regAt 2 rfl hv
  have e1 : (q : Int) < 8 := by omega
  have HM1 := Lib.hid hM1'
  have HS : Hid (∀ W', Below w1.heap.size w1 W' → W'.cell? ⟨w.heap.size, 2, none⟩ = some (.int .i64 q) ∧ W'.cell? ⟨bx, q * 2, none⟩ = some (.bool false) ∧ W'.cell? ⟨bx, q * 2 + 1, none⟩ = some (.int .i64 y)) := Lib.hid (fun W' hb => ⟨(hb.cell (p := ⟨_, _, none⟩) dsz).trans d2, (hb.cell (p := ⟨_, _, none⟩) rb).trans r0, (hb.cell (p := ⟨_, _, none⟩) rb).trans r1⟩)
  clear hMd hM1 hM1' hv
  go_wp2_with fail
  go_cut [12] (fun s12 W' => ∃ b, s12 = .pointer (some ⟨b, 0, none⟩) ∧ HoldsM B w0 bx regs mv L (ebox b #[.bool false, .int .i64 y] 80 :: ebox (w.heap.size + 1) #[.int .i64 0, .bool false, .int .i64 0] 89 :: ebox w.heap.size #[.int .i64 7, .int .i64 t, .int .i64 q, .int .i64 a, .int .i64 n] 58 :: T) W')
  case first =>
    go_region_held3 (fun X => X.cell? ⟨w.heap.size, 2, none⟩ = some (.int .i64 q) ∧ X.cell? ⟨bx, q * 2, none⟩ = some (.bool false) ∧ X.cell? ⟨bx, q * 2 + 1, none⟩ = some (.int .i64 y))
      (exact HS.out _ (by repeat (first | exact Below.refl _ _ | assumption | refine Below.setCell ?_ (by first | exact Nat.le_refl _ | (simp; done) | (simp; omega) | (simp at *; omega)) _ | refine Below.alloc ?_ (by first | exact Nat.le_refl _ | (simp; done) | (simp; omega) | (simp at *; omega)) _ | refine Below.drew ?_)))
      (fail)
    all_goals
      go_wp2_with fail
      go_meet
      exact ⟨_, rfl, (HM1.out.alloc #[.bool false, .int .i64 y] 80).tuck.drew⟩
  case rest =>
    obtain ⟨b, rfl, hM2⟩ := hcut
    have hMv := hM2.untuck
    have v0 := hMv.cell 0 rfl 0
    have v1 := hMv.cell 0 rfl 1
    have hM3 := hMv.drop (List.sublist_cons_self _ _)
    have hMe := hM3.perm (L' := ebox w.heap.size #[.int .i64 7, .int .i64 t, .int .i64 q, .int .i64 a, .int .i64 n] 58 :: ebox (w.heap.size + 1) #[.int .i64 0, .bool false, .int .i64 0] 89 :: mbox bx regs mv :: (L ++ T)) perm_do
    have o0 := hMe.cell 1 rfl 0
    have o1 := hMe.cell 1 rfl 1
    have o2 := hMe.cell 1 rfl 2
    have of0 := hMe.free 1 rfl 0
    have of1 := hMe.free 1 rfl 1
    have of2 := hMe.free 1 rfl 2
    have osz := (hMe.box 1 rfl).2.1
    clear hM2 hMv hM3
    have hMf := ((hMe.setBox 1 rfl 0 (.int .i64 0)).setBox 1 rfl 1 (.bool false)).setBox 1 rfl 2 (.int .i64 y)
    go_wp2
    obtain ⟨W9, hW9⟩ : ∃ W9, W9 = ((wc.setCell ⟨w.heap.size + 1, 0, none⟩ (.int .i64 0)).setCell ⟨w.heap.size + 1, 1, none⟩ (.bool false)).setCell ⟨w.heap.size + 1, 2, none⟩ (.int .i64 y) := ⟨_, rfl⟩
    rw [← hW9] at hMf ⊢
    have c0 : W9.cell? ⟨w.heap.size + 1, 0, none⟩ = some (.int .i64 0) := (by have := hMf.cell 1 rfl 0; simpa using this)
    have c1 : W9.cell? ⟨w.heap.size + 1, 1, none⟩ = some (.bool false) := (by have := hMf.cell 1 rfl 1; simpa using this)
    have c2 : W9.cell? ⟨w.heap.size + 1, 2, none⟩ = some (.int .i64 y) := (by have := hMf.cell 1 rfl 2; simpa using this)
    refine bodyPost_ret (v := .agg #[.int .i64 0, .bool false, .int .i64 y]) (by simp [results, Try.results39, go_sem, c0, c1, c2]) rfl ⟨rfl, ?_⟩
    exact (hMf.drop (List.sublist_cons_self _ _)).drop (List.sublist_cons_self _ _)
set_option maxRecDepth 100000 in
set_option maxHeartbeats 2000000 in
theorem do_tell_ref (bx : Nat) (regs : List V) (mv : Value) (t : Int) (q : Nat) (a n : Int) (ht : i64ok t) (hf : i64ok (q : Int)) (hq : q < 8) (y : Int) (hv : regs[q]? = some ⟨true, y⟩) (hw0 : wrongC ⟨7, t, q, a, n⟩ = 0) (B : Nat) (w0 w : World) (L T : List Ent)
    (h8 : regs.length = 8) (hM : HoldsM B w0 bx regs mv L T w) (z : Nat)
    (hlen : MethAt mv "Len" (HoldsM B w0 bx regs mv L) #[.int .i64 y] fun _ w e w' => e = .returned (.int .i64 (z : Int)) ∧ w' = w) :
    Calls Try.prog 39 #[.pointer (some ⟨bx, 0, none⟩), .agg #[.int .i64 7, .int .i64 t, .int .i64 q, .int .i64 a, .int .i64 n]] w fun e w' => e = .returned (.agg #[.int .i64 0, .bool true, .int .i64 (z : Int)]) ∧ HoldsM B w0 bx regs mv L T w' := by
  have hMa := (hM.alloc #[.int .i64 7, .int .i64 t, .int .i64 q, .int .i64 a, .int .i64 n] 58).tuck
  have hMb := (hMa.alloc #[.int .i64 0, .bool false, .int .i64 0] 89).tuck
  have hbx : bx < w.heap.size := (hM.box 0 rfl).2.1
  have hWr := wrong_any 7 t q a n ht hf ((w.alloc (.cells #[.int .i64 7, .int .i64 t, .int .i64 q, .int .i64 a, .int .i64 n] 58)).alloc (.cells #[.int .i64 0, .bool false, .int .i64 0] 89))
  rw [hw0] at hWr
  have HWr := Lib.hid hWr
  simp only [World.size_alloc] at hMb
  have HMb := Lib.hid hMb
  clear hMa hMb hM hWr
  go_enter Try.func39, Try.ntmps39
  go_wp2_with fail
  refine HWr.out.mono ?_
  rintro e w1 ⟨rfl, hb1⟩
  have hM1 := HMb.out.call hb1
  have hMd := hM1.perm (L' := ebox w.heap.size #[.int .i64 7, .int .i64 t, .int .i64 q, .int .i64 a, .int .i64 n] 58 :: ebox (w.heap.size + 1) #[.int .i64 0, .bool false, .int .i64 0] 89 :: mbox bx regs mv :: (L ++ T)) perm_do
  have d0 : w1.cell? ⟨w.heap.size, 0, none⟩ = some (.int .i64 7) := (by have := hMd.cell 0 rfl 0; simpa using this)
  have d1 : w1.cell? ⟨w.heap.size, 1, none⟩ = some (.int .i64 t) := (by have := hMd.cell 0 rfl 1; simpa using this)
  have d2 : w1.cell? ⟨w.heap.size, 2, none⟩ = some (.int .i64 q) := (by have := hMd.cell 0 rfl 2; simpa using this)
  have d3 : w1.cell? ⟨w.heap.size, 3, none⟩ = some (.int .i64 a) := (by have := hMd.cell 0 rfl 3; simpa using this)
  have d4 : w1.cell? ⟨w.heap.size, 4, none⟩ = some (.int .i64 n) := (by have := hMd.cell 0 rfl 4; simpa using this)
  have dsz : w.heap.size < w1.heap.size := (hMd.box 0 rfl).2.1
  have hM1' : HoldsM B w0 bx regs mv L (ebox (w.heap.size + 1) #[.int .i64 0, .bool false, .int .i64 0] 89 :: ebox w.heap.size #[.int .i64 7, .int .i64 t, .int .i64 q, .int .i64 a, .int .i64 n] 58 :: T) w1 := hM1
  obtain ⟨r0, r1, _, rb⟩ := hMd.regAt 2 rfl hv
  have e1 : (q : Int) < 8 := by omega
  have HM1 := Lib.hid hM1'
  have HS : Hid (∀ W', Below w1.heap.size w1 W' → W'.cell? ⟨w.heap.size, 2, none⟩ = some (.int .i64 q) ∧ W'.cell? ⟨bx, q * 2, none⟩ = some (.bool true) ∧ W'.cell? ⟨bx, q * 2 + 1, none⟩ = some (.int .i64 y)) := Lib.hid (fun W' hb => ⟨(hb.cell (p := ⟨_, _, none⟩) dsz).trans d2, (hb.cell (p := ⟨_, _, none⟩) rb).trans r0, (hb.cell (p := ⟨_, _, none⟩) rb).trans r1⟩)
  clear hMd hM1 hM1' hv
  go_wp2_with fail
  go_cut [12] (fun s12 W' => ∃ b, s12 = .pointer (some ⟨b, 0, none⟩) ∧ HoldsM B w0 bx regs mv L (ebox b #[.bool true, .int .i64 y] 80 :: ebox (w.heap.size + 1) #[.int .i64 0, .bool false, .int .i64 0] 89 :: ebox w.heap.size #[.int .i64 7, .int .i64 t, .int .i64 q, .int .i64 a, .int .i64 n] 58 :: T) W')
  case first =>
    go_region_held3 (fun X => X.cell? ⟨w.heap.size, 2, none⟩ = some (.int .i64 q) ∧ X.cell? ⟨bx, q * 2, none⟩ = some (.bool true) ∧ X.cell? ⟨bx, q * 2 + 1, none⟩ = some (.int .i64 y))
      (exact HS.out _ (by repeat (first | exact Below.refl _ _ | assumption | refine Below.setCell ?_ (by first | exact Nat.le_refl _ | (simp; done) | (simp; omega) | (simp at *; omega)) _ | refine Below.alloc ?_ (by first | exact Nat.le_refl _ | (simp; done) | (simp; omega) | (simp at *; omega)) _ | refine Below.drew ?_)))
      (fail)
    all_goals
      go_wp2_with fail
      go_meet
      exact ⟨_, rfl, (HM1.out.alloc #[.bool true, .int .i64 y] 80).tuck.drew⟩
  case rest =>
    obtain ⟨b, rfl, hM2⟩ := hcut
    have m0 := hM2.memAt 0 rfl h8
    have hMv := hM2.untuck
    have v0 := hMv.cell 0 rfl 0
    have v1 := hMv.cell 0 rfl 1
    have f1 := hMv.free 0 rfl 1
    have bsz := (hMv.box 0 rfl).2.1
    have bxs := (hM2.box 0 rfl).2.1
    obtain ⟨ty, mp, rv, f, hmv, hent, hall⟩ := hlen
    rw [hmv] at m0
    obtain ⟨hm, hc⟩ := hall _ _ hM2.drew
    have Hc := Lib.hid hc
    have HMv := Lib.hid hMv
    clear hall hc hM2 hMv hmv
    go_wp2_with fail
    go_still_tail 6, (by kernel_rfl)
    go_wp2_with fail
    refine Hc.out.mono ?_
    rintro e w2 ⟨rfl, rfl⟩
    have hM4 := ((HMv.out.drew.setBox 0 rfl 1 (.int .i64 (z : Int))).cast (L' := ebox b #[.bool true, .int .i64 (z : Int)] 80 :: mbox bx regs mv :: (L ++ ebox (w.heap.size + 1) #[.int .i64 0, .bool false, .int .i64 0] 89 :: ebox w.heap.size #[.int .i64 7, .int .i64 t, .int .i64 q, .int .i64 a, .int .i64 n] 58 :: T)) (by simp))
    go_upto_region 33 with (fail)
    obtain ⟨w2, hw2⟩ : ∃ w2, wc.drew.setCell ⟨b, 1, none⟩ (.int .i64 (z : Int)) = w2 := ⟨_, rfl⟩
    have hw3 : (wc.setCell ⟨b, 1, none⟩ (.int .i64 (z : Int))).drew = w2 := by rw [← hw2]; rfl
    rw [hw2] at hM4
    rw [hw3]
    have v0 := hM4.cell 0 rfl 0
    have v1 := hM4.cell 0 rfl 1
    have bsz := (hM4.box 0 rfl).2.1
    have hM3 := hM4.drop (List.sublist_cons_self _ _)
    have hMe := hM3.perm (L' := ebox w.heap.size #[.int .i64 7, .int .i64 t, .int .i64 q, .int .i64 a, .int .i64 n] 58 :: ebox (w.heap.size + 1) #[.int .i64 0, .bool false, .int .i64 0] 89 :: mbox bx regs mv :: (L ++ T)) perm_do
    have o0 := hMe.cell 1 rfl 0
    have o1 := hMe.cell 1 rfl 1
    have o2 := hMe.cell 1 rfl 2
    have of0 := hMe.free 1 rfl 0
    have of1 := hMe.free 1 rfl 1
    have of2 := hMe.free 1 rfl 2
    have osz := (hMe.box 1 rfl).2.1
    clear hM4 hM3 HMv Hc hm hw2 hw3
    have hMf := ((hMe.setBox 1 rfl 0 (.int .i64 0)).setBox 1 rfl 1 (.bool true)).setBox 1 rfl 2 (.int .i64 z)
    go_wp2
    obtain ⟨W9, hW9⟩ : ∃ W9, W9 = ((w2.setCell ⟨w.heap.size + 1, 0, none⟩ (.int .i64 0)).setCell ⟨w.heap.size + 1, 1, none⟩ (.bool true)).setCell ⟨w.heap.size + 1, 2, none⟩ (.int .i64 z) := ⟨_, rfl⟩
    rw [← hW9] at hMf ⊢
    have c0 : W9.cell? ⟨w.heap.size + 1, 0, none⟩ = some (.int .i64 0) := (by have := hMf.cell 1 rfl 0; simpa using this)
    have c1 : W9.cell? ⟨w.heap.size + 1, 1, none⟩ = some (.bool true) := (by have := hMf.cell 1 rfl 1; simpa using this)
    have c2 : W9.cell? ⟨w.heap.size + 1, 2, none⟩ = some (.int .i64 z) := (by have := hMf.cell 1 rfl 2; simpa using this)
    refine bodyPost_ret (v := .agg #[.int .i64 0, .bool true, .int .i64 z]) (by simp [results, Try.results39, go_sem, c0, c1, c2]) rfl ⟨rfl, ?_⟩
    exact (hMf.drop (List.sublist_cons_self _ _)).drop (List.sublist_cons_self _ _)
end
end Go.Proofs.Ytmmcjjklmcfegaa
