/- heap.Machine.Do, walked over any memory: what is refused; a number; a move. -/
import Derived.Test.YtmmcjjklmcfegaaM2
namespace Go.Proofs.Ytmmcjjklmcfegaa
open Go.RowKit Go.Shelf

theorem perm_do {x y z : Ent} {A T : List Ent} : (y :: x :: z :: (A ++ T)).Perm (z :: (A ++ x :: y :: T)) := by
  have h1 : (z :: (A ++ x :: y :: T)).Perm (z :: x :: y :: (A ++ T)) := List.Perm.cons _ (List.perm_middle.trans (List.Perm.cons _ List.perm_middle))
  refine List.Perm.trans ?_ h1.symm
  exact (List.Perm.swap _ _ _).trans (((List.Perm.swap _ _ _).cons _).trans (List.Perm.swap _ _ _) |>.trans (((List.Perm.refl _).cons _).cons _))
section
variable {X : Type} (Is : Os → X → List Ent → Prop)
set_option maxRecDepth 100000 in
set_option maxHeartbeats 2000000 in
theorem do_int (bx : Nat) (regs : List V) (mv : Value) (os' : Os) (x' : X) (r : Nat) (f a n : Int) (ht : i64ok (r : Int)) (hf : i64ok f) (hr : r < 8) (hw0 : wrongC ⟨2, r, f, a, n⟩ = 0) (B : Nat) (w0 w : World) (L T : List Ent) (h8 : regs.length = 8)
    (hM : HoldsM B w0 bx regs mv L T w)
    (hold : MethAt mv "Hold" (HoldsM B w0 bx regs mv L) #[.int .i64 r, .agg #[.bool false, .int .i64 n]] fun T _ e w' => e = .returned (.tuple #[]) ∧ ∃ L', Is os' x' L' ∧ HoldsM B w0 bx regs mv L' T w') :
    Calls Try.prog 39 #[.pointer (some ⟨bx, 0, none⟩), .agg #[.int .i64 2, .int .i64 r, .int .i64 f, .int .i64 a, .int .i64 n]] w fun e w' => e = .returned (.agg #[.int .i64 0, .bool false, .int .i64 0]) ∧ ∃ L', Is os' x' L' ∧ HoldsM B w0 bx (regs.set r ⟨false, n⟩) mv L' T w' := by
  have hMa := (hM.alloc #[.int .i64 2, .int .i64 r, .int .i64 f, .int .i64 a, .int .i64 n] 58).tuck
  have hMb := (hMa.alloc #[.int .i64 0, .bool false, .int .i64 0] 89).tuck
  have hbx : bx < w.heap.size := (hM.box 0 rfl).2.1
  have hWr := wrong_any 2 r f a n ht hf ((w.alloc (.cells #[.int .i64 2, .int .i64 r, .int .i64 f, .int .i64 a, .int .i64 n] 58)).alloc (.cells #[.int .i64 0, .bool false, .int .i64 0] 89))
  rw [hw0] at hWr
  have HWr := Lib.hid hWr
  simp only [World.size_alloc] at hMb
  have HMb := Lib.hid hMb
  clear hMa hMb hM hWr
  go_enter Try.func39, Try.ntmps39
  go_wp2_with fail
  refine HWr.out.mono ?_
  rintro e w1 ⟨rfl, hb1⟩
  have hM1 := HMb.out.call hb1
  have hMd := hM1.perm (L' := ebox w.heap.size #[.int .i64 2, .int .i64 r, .int .i64 f, .int .i64 a, .int .i64 n] 58 :: ebox (w.heap.size + 1) #[.int .i64 0, .bool false, .int .i64 0] 89 :: mbox bx regs mv :: (L ++ T)) perm_do
  have d0 : w1.cell? ⟨w.heap.size, 0, none⟩ = some (.int .i64 2) := (by have := hMd.cell 0 rfl 0; simpa using this)
  have d1 : w1.cell? ⟨w.heap.size, 1, none⟩ = some (.int .i64 r) := (by have := hMd.cell 0 rfl 1; simpa using this)
  have d2 : w1.cell? ⟨w.heap.size, 2, none⟩ = some (.int .i64 f) := (by have := hMd.cell 0 rfl 2; simpa using this)
  have d3 : w1.cell? ⟨w.heap.size, 3, none⟩ = some (.int .i64 a) := (by have := hMd.cell 0 rfl 3; simpa using this)
  have d4 : w1.cell? ⟨w.heap.size, 4, none⟩ = some (.int .i64 n) := (by have := hMd.cell 0 rfl 4; simpa using this)
  have dsz : w.heap.size < w1.heap.size := (hMd.box 0 rfl).2.1
  have hM1' : HoldsM B w0 bx regs mv L (ebox (w.heap.size + 1) #[.int .i64 0, .bool false, .int .i64 0] 89 :: ebox w.heap.size #[.int .i64 2, .int .i64 r, .int .i64 f, .int .i64 a, .int .i64 n] 58 :: T) w1 := hM1
  have HS := Lib.hid (set_any bx regs mv r ⟨false, n⟩ B w0 w1 L _ (fun L' => Is os' x' L') h8 hr hM1' hold)
  clear hMd hM1 hM1' hold
  go_wp2_with fail
  refine HS.out.mono ?_
  rintro e w2 ⟨rfl, L', hIs, hM2⟩
  have hMe := hM2.perm (L' := ebox w.heap.size #[.int .i64 2, .int .i64 r, .int .i64 f, .int .i64 a, .int .i64 n] 58 :: ebox (w.heap.size + 1) #[.int .i64 0, .bool false, .int .i64 0] 89 :: mbox bx (regs.set r ⟨false, n⟩) mv :: (L' ++ T)) perm_do
  have o0 := hMe.cell 1 rfl 0
  have o1 := hMe.cell 1 rfl 1
  have o2 := hMe.cell 1 rfl 2
  have of0 := hMe.free 1 rfl 0
  have of1 := hMe.free 1 rfl 1
  have of2 := hMe.free 1 rfl 2
  have osz := (hMe.box 1 rfl).2.1
  have HIs := Lib.hid hIs
  clear hM2 hIs HS
  have hMf := ((hMe.setBox 1 rfl 0 (.int .i64 0)).setBox 1 rfl 1 (.bool false)).setBox 1 rfl 2 (.int .i64 0)
  go_wp2
  obtain ⟨W9, hW9⟩ : ∃ W9, W9 = ((w2.setCell ⟨w.heap.size + 1, 0, none⟩ (.int .i64 0)).setCell ⟨w.heap.size + 1, 1, none⟩ (.bool false)).setCell ⟨w.heap.size + 1, 2, none⟩ (.int .i64 0) := ⟨_, rfl⟩
  rw [← hW9] at hMf ⊢
  have c0 : W9.cell? ⟨w.heap.size + 1, 0, none⟩ = some (.int .i64 0) := (by have := hMf.cell 1 rfl 0; simpa using this)
  have c1 : W9.cell? ⟨w.heap.size + 1, 1, none⟩ = some (.bool false) := (by have := hMf.cell 1 rfl 1; simpa using this)
  have c2 : W9.cell? ⟨w.heap.size + 1, 2, none⟩ = some (.int .i64 0) := (by have := hMf.cell 1 rfl 2; simpa using this)
  refine bodyPost_ret (v := .agg #[.int .i64 0, .bool false, .int .i64 0]) (by simp [results, Try.results39, go_sem, c0, c1, c2]) rfl ⟨rfl, ?_⟩
  exact ⟨L', HIs.out, (hMf.drop (List.sublist_cons_self _ _)).drop (List.sublist_cons_self _ _)⟩
set_option maxRecDepth 100000 in
set_option maxHeartbeats 2000000 in
theorem do_move (bx : Nat) (regs : List V) (mv : Value) (os' : Os) (x' : X) (r q : Nat) (a n : Int) (ht : i64ok (r : Int)) (hf : i64ok (q : Int)) (hr : r < 8) (hq : q < 8) (v : V) (hv : regs[q]? = some v) (hw0 : wrongC ⟨3, r, q, a, n⟩ = 0) (B : Nat) (w0 w : World) (L T : List Ent) (h8 : regs.length = 8)
    (hM : HoldsM B w0 bx regs mv L T w)
    (hold : MethAt mv "Hold" (HoldsM B w0 bx regs mv L) #[.int .i64 r, .agg #[.bool v.ref, .int .i64 v.n]] fun T _ e w' => e = .returned (.tuple #[]) ∧ ∃ L', Is os' x' L' ∧ HoldsM B w0 bx regs mv L' T w') :
    Calls Try.prog 39 #[.pointer (some ⟨bx, 0, none⟩), .agg #[.int .i64 3, .int .i64 r, .int .i64 q, .int .i64 a, .int .i64 n]] w fun e w' => e = .returned (.agg #[.int .i64 0, .bool false, .int .i64 0]) ∧ ∃ L', Is os' x' L' ∧ HoldsM B w0 bx (regs.set r v) mv L' T w' := by
  have hMa := (hM.alloc #[.int .i64 3, .int .i64 r, .int .i64 q, .int .i64 a, .int .i64 n] 58).tuck
  have hMb := (hMa.alloc #[.int .i64 0, .bool false, .int .i64 0] 89).tuck
  have hbx : bx < w.heap.size := (hM.box 0 rfl).2.1
  have hWr := wrong_any 3 r q a n ht hf ((w.alloc (.cells #[.int .i64 3, .int .i64 r, .int .i64 q, .int .i64 a, .int .i64 n] 58)).alloc (.cells #[.int .i64 0, .bool false, .int .i64 0] 89))
  rw [hw0] at hWr
  have HWr := Lib.hid hWr
  simp only [World.size_alloc] at hMb
  have HMb := Lib.hid hMb
  clear hMa hMb hM hWr
  go_enter Try.func39, Try.ntmps39
  go_wp2_with fail
  refine HWr.out.mono ?_
  rintro e w1 ⟨rfl, hb1⟩
  have hM1 := HMb.out.call hb1
  have hMd := hM1.perm (L' := ebox w.heap.size #[.int .i64 3, .int .i64 r, .int .i64 q, .int .i64 a, .int .i64 n] 58 :: ebox (w.heap.size + 1) #[.int .i64 0, .bool false, .int .i64 0] 89 :: mbox bx regs mv :: (L ++ T)) perm_do
  have d0 : w1.cell? ⟨w.heap.size, 0, none⟩ = some (.int .i64 3) := (by have := hMd.cell 0 rfl 0; simpa using this)
  have d1 : w1.cell? ⟨w.heap.size, 1, none⟩ = some (.int .i64 r) := (by have := hMd.cell 0 rfl 1; simpa using this)
  have d2 : w1.cell? ⟨w.heap.size, 2, none⟩ = some (.int .i64 q) := (by have := hMd.cell 0 rfl 2; simpa using this)
  have d3 : w1.cell? ⟨w.heap.size, 3, none⟩ = some (.int .i64 a) := (by have := hMd.cell 0 rfl 3; simpa using this)
  have d4 : w1.cell? ⟨w.heap.size, 4, none⟩ = some (.int .i64 n) := (by have := hMd.cell 0 rfl 4; simpa using this)
  have dsz : w.heap.size < w1.heap.size := (hMd.box 0 rfl).2.1
  have hM1' : HoldsM B w0 bx regs mv L (ebox (w.heap.size + 1) #[.int .i64 0, .bool false, .int .i64 0] 89 :: ebox w.heap.size #[.int .i64 3, .int .i64 r, .int .i64 q, .int .i64 a, .int .i64 n] 58 :: T) w1 := hM1
  have HS := Lib.hid (set_any bx regs mv r v B w0 w1.drew L _ (fun L' => Is os' x' L') h8 hr hM1'.drew hold)
  obtain ⟨r0, r1, _, rb⟩ := hMd.regAt 2 rfl hv
  have e1 : (q : Int) < 8 := by omega
  clear hMd hM1 hM1' hold hv
  go_wp2_with fail
  go_still_tail 10, (by kernel_rfl)
  go_wp2_with fail
  refine HS.out.mono ?_
  rintro e w2 ⟨rfl, L', hIs, hM2⟩
  have hMe := hM2.perm (L' := ebox w.heap.size #[.int .i64 3, .int .i64 r, .int .i64 q, .int .i64 a, .int .i64 n] 58 :: ebox (w.heap.size + 1) #[.int .i64 0, .bool false, .int .i64 0] 89 :: mbox bx (regs.set r v) mv :: (L' ++ T)) perm_do
  have o0 := hMe.cell 1 rfl 0
  have o1 := hMe.cell 1 rfl 1
  have o2 := hMe.cell 1 rfl 2
  have of0 := hMe.free 1 rfl 0
  have of1 := hMe.free 1 rfl 1
  have of2 := hMe.free 1 rfl 2
  have osz := (hMe.box 1 rfl).2.1
  have HIs := Lib.hid hIs
  clear hM2 hIs HS
  have hMf := ((hMe.setBox 1 rfl 0 (.int .i64 0)).setBox 1 rfl 1 (.bool false)).setBox 1 rfl 2 (.int .i64 0)
  go_wp2
  obtain ⟨W9, hW9⟩ : ∃ W9, W9 = ((w2.setCell ⟨w.heap.size + 1, 0, none⟩ (.int .i64 0)).setCell ⟨w.heap.size + 1, 1, none⟩ (.bool false)).setCell ⟨w.heap.size + 1, 2, none⟩ (.int .i64 0) := ⟨_, rfl⟩
  rw [← hW9] at hMf ⊢
  have c0 : W9.cell? ⟨w.heap.size + 1, 0, none⟩ = some (.int .i64 0) := (by have := hMf.cell 1 rfl 0; simpa using this)
  have c1 : W9.cell? ⟨w.heap.size + 1, 1, none⟩ = some (.bool false) := (by have := hMf.cell 1 rfl 1; simpa using this)
  have c2 : W9.cell? ⟨w.heap.size + 1, 2, none⟩ = some (.int .i64 0) := (by have := hMf.cell 1 rfl 2; simpa using this)
  refine bodyPost_ret (v := .agg #[.int .i64 0, .bool false, .int .i64 0]) (by simp [results, Try.results39, go_sem, c0, c1, c2]) rfl ⟨rfl, ?_⟩
  exact ⟨L', HIs.out, (hMf.drop (List.sublist_cons_self _ _)).drop (List.sublist_cons_self _ _)⟩
set_option maxRecDepth 100000 in
set_option maxHeartbeats 2000000 in
theorem do_wrong (bx : Nat) (regs : List V) (mv : Value) (k t f a n c : Int) (ht : i64ok t) (hf : i64ok f) (hc : c ≠ 0) (hw0 : wrongC ⟨k, t, f, a, n⟩ = c) (B : Nat) (w0 w : World) (L T : List Ent)
    (hM : HoldsM B w0 bx regs mv L T w) :
    Calls Try.prog 39 #[.pointer (some ⟨bx, 0, none⟩), .agg #[.int .i64 k, .int .i64 t, .int .i64 f, .int .i64 a, .int .i64 n]] w fun e w' => e = .returned (.agg #[.int .i64 c, .bool false, .int .i64 0]) ∧ HoldsM B w0 bx regs mv L T w' := by
  have hMa := (hM.alloc #[.int .i64 k, .int .i64 t, .int .i64 f, .int .i64 a, .int .i64 n] 58).tuck
  have hMb := (hMa.alloc #[.int .i64 0, .bool false, .int .i64 0] 89).tuck
  have hbx : bx < w.heap.size := (hM.box 0 rfl).2.1
  have hWr := wrong_any k t f a n ht hf ((w.alloc (.cells #[.int .i64 k, .int .i64 t, .int .i64 f, .int .i64 a, .int .i64 n] 58)).alloc (.cells #[.int .i64 0, .bool false, .int .i64 0] 89))
  rw [hw0] at hWr
  have HWr := Lib.hid hWr
  simp only [World.size_alloc] at hMb
  have HMb := Lib.hid hMb
  clear hMa hMb hM hWr
  go_enter Try.func39, Try.ntmps39
  go_wp2_with fail
  refine HWr.out.mono ?_
  rintro e w1 ⟨rfl, hb1⟩
  have hM1 := HMb.out.call hb1
  have hMd := hM1.perm (L' := ebox w.heap.size #[.int .i64 k, .int .i64 t, .int .i64 f, .int .i64 a, .int .i64 n] 58 :: ebox (w.heap.size + 1) #[.int .i64 0, .bool false, .int .i64 0] 89 :: mbox bx regs mv :: (L ++ T)) perm_do
  have d0 : w1.cell? ⟨w.heap.size, 0, none⟩ = some (.int .i64 k) := (by have := hMd.cell 0 rfl 0; simpa using this)
  have d1 : w1.cell? ⟨w.heap.size, 1, none⟩ = some (.int .i64 t) := (by have := hMd.cell 0 rfl 1; simpa using this)
  have d2 : w1.cell? ⟨w.heap.size, 2, none⟩ = some (.int .i64 f) := (by have := hMd.cell 0 rfl 2; simpa using this)
  have d3 : w1.cell? ⟨w.heap.size, 3, none⟩ = some (.int .i64 a) := (by have := hMd.cell 0 rfl 3; simpa using this)
  have d4 : w1.cell? ⟨w.heap.size, 4, none⟩ = some (.int .i64 n) := (by have := hMd.cell 0 rfl 4; simpa using this)
  have dsz : w.heap.size < w1.heap.size := (hMd.box 0 rfl).2.1
  have hM1' : HoldsM B w0 bx regs mv L (ebox (w.heap.size + 1) #[.int .i64 0, .bool false, .int .i64 0] 89 :: ebox w.heap.size #[.int .i64 k, .int .i64 t, .int .i64 f, .int .i64 a, .int .i64 n] 58 :: T) w1 := hM1
  have hMe := hM1'.perm (L' := ebox w.heap.size #[.int .i64 k, .int .i64 t, .int .i64 f, .int .i64 a, .int .i64 n] 58 :: ebox (w.heap.size + 1) #[.int .i64 0, .bool false, .int .i64 0] 89 :: mbox bx regs mv :: (L ++ T)) perm_do
  have o0 := hMe.cell 1 rfl 0
  have o1 := hMe.cell 1 rfl 1
  have o2 := hMe.cell 1 rfl 2
  have of0 := hMe.free 1 rfl 0
  have of1 := hMe.free 1 rfl 1
  have of2 := hMe.free 1 rfl 2
  have osz := (hMe.box 1 rfl).2.1
  clear hMd hM1 hM1'
  have hc2 : (c == 0) = false := by simpa using hc
  have hc3 : (c != 0) = true := by simpa using hc
  have hMf := ((hMe.setBox 1 rfl 0 (.int .i64 c)).setBox 1 rfl 1 (.bool false)).setBox 1 rfl 2 (.int .i64 0)
  go_wp2
  obtain ⟨W9, hW9⟩ : ∃ W9, W9 = ((w1.setCell ⟨w.heap.size + 1, 0, none⟩ (.int .i64 c)).setCell ⟨w.heap.size + 1, 1, none⟩ (.bool false)).setCell ⟨w.heap.size + 1, 2, none⟩ (.int .i64 0) := ⟨_, rfl⟩
  rw [← hW9] at hMf ⊢
  have c0 : W9.cell? ⟨w.heap.size + 1, 0, none⟩ = some (.int .i64 c) := (by have := hMf.cell 1 rfl 0; simpa using this)
  have c1 : W9.cell? ⟨w.heap.size + 1, 1, none⟩ = some (.bool false) := (by have := hMf.cell 1 rfl 1; simpa using this)
  have c2 : W9.cell? ⟨w.heap.size + 1, 2, none⟩ = some (.int .i64 0) := (by have := hMf.cell 1 rfl 2; simpa using this)
  refine bodyPost_ret (v := .agg #[.int .i64 c, .bool false, .int .i64 0]) (by simp [results, Try.results39, go_sem, c0, c1, c2]) rfl ⟨rfl, ?_⟩
  exact (hMf.drop (List.sublist_cons_self _ _)).drop (List.sublist_cons_self _ _)
set_option maxRecDepth 100000 in
set_option maxHeartbeats 2000000 in
theorem do_same (bx : Nat) (regs : List V) (mv : Value) (r q : Nat) (a n : Int) (ht : i64ok (r : Int)) (hf : i64ok (q : Int)) (hr : r < 8) (hq : q < 8) (u v : V) (hu : regs[r]? = some u) (hv : regs[q]? = some v) (hw0 : wrongC ⟨6, r, q, a, n⟩ = 0) (B : Nat) (w0 w : World) (L T : List Ent)
    (hM : HoldsM B w0 bx regs mv L T w) :
    Calls Try.prog 39 #[.pointer (some ⟨bx, 0, none⟩), .agg #[.int .i64 6, .int .i64 r, .int .i64 q, .int .i64 a, .int .i64 n]] w fun e w' => e = .returned (.agg #[.int .i64 0, .bool false, .int .i64 (if u = v then 1 else 0)]) ∧ HoldsM B w0 bx regs mv L T w' := by
  obtain ⟨c, hc⟩ : ∃ c : Int, (if u = v then 1 else 0) = c := ⟨_, rfl⟩
  rw [hc]
  have hMa := (hM.alloc #[.int .i64 6, .int .i64 r, .int .i64 q, .int .i64 a, .int .i64 n] 58).tuck
  have hMb := (hMa.alloc #[.int .i64 0, .bool false, .int .i64 0] 89).tuck
  have hbx : bx < w.heap.size := (hM.box 0 rfl).2.1
  have hWr := wrong_any 6 r q a n ht hf ((w.alloc (.cells #[.int .i64 6, .int .i64 r, .int .i64 q, .int .i64 a, .int .i64 n] 58)).alloc (.cells #[.int .i64 0, .bool false, .int .i64 0] 89))
  rw [hw0] at hWr
  have HWr := Lib.hid hWr
  simp only [World.size_alloc] at hMb
  have HMb := Lib.hid hMb
  clear hMa hMb hM hWr
  go_enter Try.func39, Try.ntmps39
  go_wp2_with fail
  refine HWr.out.mono ?_
  rintro e w1 ⟨rfl, hb1⟩
  have hM1 := HMb.out.call hb1
  have hMd := hM1.perm (L' := ebox w.heap.size #[.int .i64 6, .int .i64 r, .int .i64 q, .int .i64 a, .int .i64 n] 58 :: ebox (w.heap.size + 1) #[.int .i64 0, .bool false, .int .i64 0] 89 :: mbox bx regs mv :: (L ++ T)) perm_do
  have d0 : w1.cell? ⟨w.heap.size, 0, none⟩ = some (.int .i64 6) := (by have := hMd.cell 0 rfl 0; simpa using this)
  have d1 : w1.cell? ⟨w.heap.size, 1, none⟩ = some (.int .i64 r) := (by have := hMd.cell 0 rfl 1; simpa using this)
  have d2 : w1.cell? ⟨w.heap.size, 2, none⟩ = some (.int .i64 q) := (by have := hMd.cell 0 rfl 2; simpa using this)
  have d3 : w1.cell? ⟨w.heap.size, 3, none⟩ = some (.int .i64 a) := (by have := hMd.cell 0 rfl 3; simpa using this)
  have d4 : w1.cell? ⟨w.heap.size, 4, none⟩ = some (.int .i64 n) := (by have := hMd.cell 0 rfl 4; simpa using this)
  have dsz : w.heap.size < w1.heap.size := (hMd.box 0 rfl).2.1
  have hM1' : HoldsM B w0 bx regs mv L (ebox (w.heap.size + 1) #[.int .i64 0, .bool false, .int .i64 0] 89 :: ebox w.heap.size #[.int .i64 6, .int .i64 r, .int .i64 q, .int .i64 a, .int .i64 n] 58 :: T) w1 := hM1
  obtain ⟨r0, r1, _, rb⟩ := hMd.regAt 2 rfl hu
  obtain ⟨r2, r3, _, _⟩ := hMd.regAt 2 rfl hv
  have e1 : (q : Int) < 8 := by omega
  have e2 : (r : Int) < 8 := by omega
  have HM1 := Lib.hid hM1'
  clear hMd hM1 hM1' hu hv
  obtain ⟨ur, un⟩ := u
  obtain ⟨vr, vn⟩ := v
  by_cases he : ur = vr ∧ un = vn
  · obtain ⟨rfl, rfl⟩ := he
    obtain rfl : c = 1 := by simpa using hc.symm
    clear hc
    go_wp2_with fail
    go_quiet (fail)
    rename_i nq
    have hM2 := HM1.out.drewN nq
    obtain ⟨w2, hw2⟩ : ∃ w2, w1.drewN nq = w2 := ⟨_, rfl⟩
    rw [hw2] at hM2 ⊢
    have hMe := hM2.perm (L' := ebox w.heap.size #[.int .i64 6, .int .i64 r, .int .i64 q, .int .i64 a, .int .i64 n] 58 :: ebox (w.heap.size + 1) #[.int .i64 0, .bool false, .int .i64 0] 89 :: mbox bx regs mv :: (L ++ T)) perm_do
    have o0 := hMe.cell 1 rfl 0
    have o1 := hMe.cell 1 rfl 1
    have o2 := hMe.cell 1 rfl 2
    have of0 := hMe.free 1 rfl 0
    have of1 := hMe.free 1 rfl 1
    have of2 := hMe.free 1 rfl 2
    have osz := (hMe.box 1 rfl).2.1
    clear hM2
    have hMf := ((hMe.setBox 1 rfl 0 (.int .i64 0)).setBox 1 rfl 1 (.bool false)).setBox 1 rfl 2 (.int .i64 1)
    go_wp2
    obtain ⟨W9, hW9⟩ : ∃ W9, W9 = ((w2.setCell ⟨w.heap.size + 1, 0, none⟩ (.int .i64 0)).setCell ⟨w.heap.size + 1, 1, none⟩ (.bool false)).setCell ⟨w.heap.size + 1, 2, none⟩ (.int .i64 1) := ⟨_, rfl⟩
    rw [← hW9] at hMf ⊢
    have c0 : W9.cell? ⟨w.heap.size + 1, 0, none⟩ = some (.int .i64 0) := (by have := hMf.cell 1 rfl 0; simpa using this)
    have c1 : W9.cell? ⟨w.heap.size + 1, 1, none⟩ = some (.bool false) := (by have := hMf.cell 1 rfl 1; simpa using this)
    have c2 : W9.cell? ⟨w.heap.size + 1, 2, none⟩ = some (.int .i64 1) := (by have := hMf.cell 1 rfl 2; simpa using this)
    refine bodyPost_ret (v := .agg #[.int .i64 0, .bool false, .int .i64 1]) (by simp [results, Try.results39, go_sem, c0, c1, c2]) rfl ⟨rfl, ?_⟩
    exact (hMf.drop (List.sublist_cons_self _ _)).drop (List.sublist_cons_self _ _)
  · obtain rfl : c = 0 := by
      rw [← hc, if_neg]
      intro e; cases e; exact he ⟨rfl, rfl⟩
    clear hc
    cases ur <;> cases vr
    · have hn : ¬ un = vn := fun e => he ⟨rfl, e⟩
      clear he
      go_wp2_with fail
      go_quiet (fail)
      rename_i nq
      have hM2 := HM1.out.drewN nq
      obtain ⟨w2, hw2⟩ : ∃ w2, w1.drewN nq = w2 := ⟨_, rfl⟩
      rw [hw2] at hM2 ⊢
      have hMe := hM2.perm (L' := ebox w.heap.size #[.int .i64 6, .int .i64 r, .int .i64 q, .int .i64 a, .int .i64 n] 58 :: ebox (w.heap.size + 1) #[.int .i64 0, .bool false, .int .i64 0] 89 :: mbox bx regs mv :: (L ++ T)) perm_do
      have o0 := hMe.cell 1 rfl 0
      have o1 := hMe.cell 1 rfl 1
      have o2 := hMe.cell 1 rfl 2
      have of0 := hMe.free 1 rfl 0
      have of1 := hMe.free 1 rfl 1
      have of2 := hMe.free 1 rfl 2
      have osz := (hMe.box 1 rfl).2.1
      clear hM2
      have hMf := ((hMe.setBox 1 rfl 0 (.int .i64 0)).setBox 1 rfl 1 (.bool false)).setBox 1 rfl 2 (.int .i64 0)
      go_wp2
      obtain ⟨W9, hW9⟩ : ∃ W9, W9 = ((w2.setCell ⟨w.heap.size + 1, 0, none⟩ (.int .i64 0)).setCell ⟨w.heap.size + 1, 1, none⟩ (.bool false)).setCell ⟨w.heap.size + 1, 2, none⟩ (.int .i64 0) := ⟨_, rfl⟩
      rw [← hW9] at hMf ⊢
      have c0 : W9.cell? ⟨w.heap.size + 1, 0, none⟩ = some (.int .i64 0) := (by have := hMf.cell 1 rfl 0; simpa using this)
      have c1 : W9.cell? ⟨w.heap.size + 1, 1, none⟩ = some (.bool false) := (by have := hMf.cell 1 rfl 1; simpa using this)
      have c2 : W9.cell? ⟨w.heap.size + 1, 2, none⟩ = some (.int .i64 0) := (by have := hMf.cell 1 rfl 2; simpa using this)
      refine bodyPost_ret (v := .agg #[.int .i64 0, .bool false, .int .i64 0]) (by simp [results, Try.results39, go_sem, c0, c1, c2]) rfl ⟨rfl, ?_⟩
      exact (hMf.drop (List.sublist_cons_self _ _)).drop (List.sublist_cons_self _ _)
    · clear he
      go_wp2_with fail
      go_quiet (fail)
      rename_i nq
      have hM2 := HM1.out.drewN nq
      obtain ⟨w2, hw2⟩ : ∃ w2, w1.drewN nq = w2 := ⟨_, rfl⟩
      rw [hw2] at hM2 ⊢
      have hMe := hM2.perm (L' := ebox w.heap.size #[.int .i64 6, .int .i64 r, .int .i64 q, .int .i64 a, .int .i64 n] 58 :: ebox (w.heap.size + 1) #[.int .i64 0, .bool false, .int .i64 0] 89 :: mbox bx regs mv :: (L ++ T)) perm_do
      have o0 := hMe.cell 1 rfl 0
      have o1 := hMe.cell 1 rfl 1
      have o2 := hMe.cell 1 rfl 2
      have of0 := hMe.free 1 rfl 0
      have of1 := hMe.free 1 rfl 1
      have of2 := hMe.free 1 rfl 2
      have osz := (hMe.box 1 rfl).2.1
      clear hM2
      have hMf := ((hMe.setBox 1 rfl 0 (.int .i64 0)).setBox 1 rfl 1 (.bool false)).setBox 1 rfl 2 (.int .i64 0)
      go_wp2
      obtain ⟨W9, hW9⟩ : ∃ W9, W9 = ((w2.setCell ⟨w.heap.size + 1, 0, none⟩ (.int .i64 0)).setCell ⟨w.heap.size + 1, 1, none⟩ (.bool false)).setCell ⟨w.heap.size + 1, 2, none⟩ (.int .i64 0) := ⟨_, rfl⟩
      rw [← hW9] at hMf ⊢
      have c0 : W9.cell? ⟨w.heap.size + 1, 0, none⟩ = some (.int .i64 0) := (by have := hMf.cell 1 rfl 0; simpa using this)
      have c1 : W9.cell? ⟨w.heap.size + 1, 1, none⟩ = some (.bool false) := (by have := hMf.cell 1 rfl 1; simpa using this)
      have c2 : W9.cell? ⟨w.heap.size + 1, 2, none⟩ = some (.int .i64 0) := (by have := hMf.cell 1 rfl 2; simpa using this)
      refine bodyPost_ret (v := .agg #[.int .i64 0, .bool false, .int .i64 0]) (by simp [results, Try.results39, go_sem, c0, c1, c2]) rfl ⟨rfl, ?_⟩
      exact (hMf.drop (List.sublist_cons_self _ _)).drop (List.sublist_cons_self _ _)
    · clear he
      go_wp2_with fail
      go_quiet (fail)
      rename_i nq
      have hM2 := HM1.out.drewN nq
      obtain ⟨w2, hw2⟩ : ∃ w2, w1.drewN nq = w2 := ⟨_, rfl⟩
      rw [hw2] at hM2 ⊢
      have hMe := hM2.perm (L' := ebox w.heap.size #[.int .i64 6, .int .i64 r, .int .i64 q, .int .i64 a, .int .i64 n] 58 :: ebox (w.heap.size + 1) #[.int .i64 0, .bool false, .int .i64 0] 89 :: mbox bx regs mv :: (L ++ T)) perm_do
      have o0 := hMe.cell 1 rfl 0
      have o1 := hMe.cell 1 rfl 1
      have o2 := hMe.cell 1 rfl 2
      have of0 := hMe.free 1 rfl 0
      have of1 := hMe.free 1 rfl 1
      have of2 := hMe.free 1 rfl 2
      have osz := (hMe.box 1 rfl).2.1
      clear hM2
      have hMf := ((hMe.setBox 1 rfl 0 (.int .i64 0)).setBox 1 rfl 1 (.bool false)).setBox 1 rfl 2 (.int .i64 0)
      go_wp2
      obtain ⟨W9, hW9⟩ : ∃ W9, W9 = ((w2.setCell ⟨w.heap.size + 1, 0, none⟩ (.int .i64 0)).setCell ⟨w.heap.size + 1, 1, none⟩ (.bool false)).setCell ⟨w.heap.size + 1, 2, none⟩ (.int .i64 0) := ⟨_, rfl⟩
      rw [← hW9] at hMf ⊢
      have c0 : W9.cell? ⟨w.heap.size + 1, 0, none⟩ = some (.int .i64 0) := (by have := hMf.cell 1 rfl 0; simpa using this)
      have c1 : W9.cell? ⟨w.heap.size + 1, 1, none⟩ = some (.bool false) := (by have := hMf.cell 1 rfl 1; simpa using this)
      have c2 : W9.cell? ⟨w.heap.size + 1, 2, none⟩ = some (.int .i64 0) := (by have := hMf.cell 1 rfl 2; simpa using this)
      refine bodyPost_ret (v := .agg #[.int .i64 0, .bool false, .int .i64 0]) (by simp [results, Try.results39, go_sem, c0, c1, c2]) rfl ⟨rfl, ?_⟩
      exact (hMf.drop (List.sublist_cons_self _ _)).drop (List.sublist_cons_self _ _)
    · have hn : ¬ un = vn := fun e => he ⟨rfl, e⟩
      clear he
      go_wp2_with fail
      go_quiet (fail)
      rename_i nq
      have hM2 := HM1.out.drewN nq
      obtain ⟨w2, hw2⟩ : ∃ w2, w1.drewN nq = w2 := ⟨_, rfl⟩
      rw [hw2] at hM2 ⊢
      have hMe := hM2.perm (L' := ebox w.heap.size #[.int .i64 6, .int .i64 r, .int .i64 q, .int .i64 a, .int .i64 n] 58 :: ebox (w.heap.size + 1) #[.int .i64 0, .bool false, .int .i64 0] 89 :: mbox bx regs mv :: (L ++ T)) perm_do
      have o0 := hMe.cell 1 rfl 0
      have o1 := hMe.cell 1 rfl 1
      have o2 := hMe.cell 1 rfl 2
      have of0 := hMe.free 1 rfl 0
      have of1 := hMe.free 1 rfl 1
      have of2 := hMe.free 1 rfl 2
      have osz := (hMe.box 1 rfl).2.1
      clear hM2
      have hMf := ((hMe.setBox 1 rfl 0 (.int .i64 0)).setBox 1 rfl 1 (.bool false)).setBox 1 rfl 2 (.int .i64 0)
      go_wp2
      obtain ⟨W9, hW9⟩ : ∃ W9, W9 = ((w2.setCell ⟨w.heap.size + 1, 0, none⟩ (.int .i64 0)).setCell ⟨w.heap.size + 1, 1, none⟩ (.bool false)).setCell ⟨w.heap.size + 1, 2, none⟩ (.int .i64 0) := ⟨_, rfl⟩
      rw [← hW9] at hMf ⊢
      have c0 : W9.cell? ⟨w.heap.size + 1, 0, none⟩ = some (.int .i64 0) := (by have := hMf.cell 1 rfl 0; simpa using this)
      have c1 : W9.cell? ⟨w.heap.size + 1, 1, none⟩ = some (.bool false) := (by have := hMf.cell 1 rfl 1; simpa using this)
      have c2 : W9.cell? ⟨w.heap.size + 1, 2, none⟩ = some (.int .i64 0) := (by have := hMf.cell 1 rfl 2; simpa using this)
      refine bodyPost_ret (v := .agg #[.int .i64 0, .bool false, .int .i64 0]) (by simp [results, Try.results39, go_sem, c0, c1, c2]) rfl ⟨rfl, ?_⟩
      exact (hMf.drop (List.sublist_cons_self _ _)).drop (List.sublist_cons_self _ _)
end
end Go.Proofs.Ytmmcjjklmcfegaa
