/- heap.Machine.Do, walked over any memory: get. -/
import Derived.Test.YtmmcjjklmcfegaaM5
namespace Go.Proofs.Ytmmcjjklmcfegaa
open Go.RowKit Go.Shelf
section
variable {X : Type} (Is : Os → X → List Ent → Prop)
set_option maxRecDepth 100000 in
set_option maxHeartbeats 2000000 in
theorem do_get (bx : Nat) (regs : List V) (mv : Value) (os os' : Os) (x' : X) (r q : Nat) (a n : Int) (ht : i64ok (r : Int)) (hf : i64ok (q : Int)) (hr : r < 8) (hq : q < 8) (v u : V) (hv : regs[q]? = some v) (hw0 : wrongC ⟨5, r, q, a, n⟩ = 0) (hcc : fieldC os v a = 0) (B : Nat) (w0 w : World) (L T : List Ent) (h8 : regs.length = 8)
    (hM : HoldsM B w0 bx regs mv L T w)
    (hlen : v.ref = true → MethAt mv "Len" (HoldsM B w0 bx regs mv L) #[.int .i64 v.n] fun _ w e w' => e = .returned (.int .i64 ((objAt os v.n).length : Int)) ∧ w' = w)
    (hget : MethAt mv "Get" (HoldsM B w0 bx regs mv L) #[.int .i64 v.n, .int .i64 a] fun _ w e w' => e = .returned (.agg #[.bool u.ref, .int .i64 u.n]) ∧ Below w.heap.size w w')
    (hold : MethAt mv "Hold" (HoldsM B w0 bx regs mv L) #[.int .i64 r, .agg #[.bool u.ref, .int .i64 u.n]] fun T _ e w' => e = .returned (.tuple #[]) ∧ ∃ L', Is os' x' L' ∧ HoldsM B w0 bx regs mv L' T w') :
    Calls Try.prog 39 #[.pointer (some ⟨bx, 0, none⟩), .agg #[.int .i64 5, .int .i64 r, .int .i64 q, .int .i64 a, .int .i64 n]] w fun e w' => e = .returned (.agg #[.int .i64 0, .bool false, .int .i64 0]) ∧ ∃ L', Is os' x' L' ∧ HoldsM B w0 bx (regs.set r u) mv L' T w' := by
  have hMa := (hM.alloc #[.int .i64 5, .int .i64 r, .int .i64 q, .int .i64 a, .int .i64 n] 58).tuck
  have hMb := (hMa.alloc #[.int .i64 0, .bool false, .int .i64 0] 89).tuck
  have hbx : bx < w.heap.size := (hM.box 0 rfl).2.1
  have hWr := wrong_any 5 r q a n ht hf ((w.alloc (.cells #[.int .i64 5, .int .i64 r, .int .i64 q, .int .i64 a, .int .i64 n] 58)).alloc (.cells #[.int .i64 0, .bool false, .int .i64 0] 89))
  rw [hw0] at hWr
  have HWr := Lib.hid hWr
  simp only [World.size_alloc] at hMb
  have HMb := Lib.hid hMb
  clear hMa hMb hM hWr
  go_enter Try.func39, Try.ntmps39
  go_wp2_with fail
  refine HWr.out.mono ?_
  rintro e w1 ⟨rfl, hb1⟩
  have hM1 := HMb.out.call hb1
  have hMd := hM1.perm (L' := ebox w.heap.size #[.int .i64 5, .int .i64 r, .int .i64 q, .int .i64 a, .int .i64 n] 58 :: ebox (w.heap.size + 1) #[.int .i64 0, .bool false, .int .i64 0] 89 :: mbox bx regs mv :: (L ++ T)) perm_do
  have d0 : w1.cell? ⟨w.heap.size, 0, none⟩ = some (.int .i64 5) := (by have := hMd.cell 0 rfl 0; simpa using this)
  have d1 : w1.cell? ⟨w.heap.size, 1, none⟩ = some (.int .i64 r) := (by have := hMd.cell 0 rfl 1; simpa using this)
  have d2 : w1.cell? ⟨w.heap.size, 2, none⟩ = some (.int .i64 q) := (by have := hMd.cell 0 rfl 2; simpa using this)
  have d3 : w1.cell? ⟨w.heap.size, 3, none⟩ = some (.int .i64 a) := (by have := hMd.cell 0 rfl 3; simpa using this)
  have d4 : w1.cell? ⟨w.heap.size, 4, none⟩ = some (.int .i64 n) := (by have := hMd.cell 0 rfl 4; simpa using this)
  have dsz : w.heap.size < w1.heap.size := (hMd.box 0 rfl).2.1
  have hM1' : HoldsM B w0 bx regs mv L (ebox (w.heap.size + 1) #[.int .i64 0, .bool false, .int .i64 0] 89 :: ebox w.heap.size #[.int .i64 5, .int .i64 r, .int .i64 q, .int .i64 a, .int .i64 n] 58 :: T) w1 := hM1
  obtain ⟨r0, r1, _, rb⟩ := hMd.regAt 2 rfl hv
  have e1 : (q : Int) < 8 := by omega
  have HM1 := Lib.hid hM1'
  have HS : Hid (∀ W', Below w1.heap.size w1 W' → W'.cell? ⟨w.heap.size, 2, none⟩ = some (.int .i64 q) ∧ W'.cell? ⟨bx, q * 2, none⟩ = some (.bool v.ref) ∧ W'.cell? ⟨bx, q * 2 + 1, none⟩ = some (.int .i64 v.n)) := Lib.hid (fun W' hb => ⟨(hb.cell (p := ⟨_, _, none⟩) dsz).trans d2, (hb.cell (p := ⟨_, _, none⟩) rb).trans r0, (hb.cell (p := ⟨_, _, none⟩) rb).trans r1⟩)
  clear hMd hM1 hM1'
  go_wp2_with fail
  go_cut [10] (fun sv W' => ∃ b, sv = .pointer (some ⟨b, 0, none⟩) ∧ HoldsM B w0 bx regs mv L (ebox b #[.bool v.ref, .int .i64 v.n] 80 :: (ebox (w.heap.size + 1) #[.int .i64 0, .bool false, .int .i64 0] 89 :: ebox w.heap.size #[.int .i64 5, .int .i64 r, .int .i64 q, .int .i64 a, .int .i64 n] 58 :: T)) W')
  case first =>
    go_region_held3 (fun X => X.cell? ⟨w.heap.size, 2, none⟩ = some (.int .i64 q) ∧ X.cell? ⟨bx, q * 2, none⟩ = some (.bool v.ref) ∧ X.cell? ⟨bx, q * 2 + 1, none⟩ = some (.int .i64 v.n))
      (exact HS.out _ (by repeat (first | exact Below.refl _ _ | assumption | refine Below.setCell ?_ (by first | exact Nat.le_refl _ | (simp; done) | (simp; omega) | (simp at *; omega)) _ | refine Below.alloc ?_ (by first | exact Nat.le_refl _ | (simp; done) | (simp; omega) | (simp at *; omega)) _ | refine Below.drew ?_)))
      (fail)
    all_goals
      go_wp2_with fail
      go_meet
      exact ⟨_, rfl, (HM1.out.alloc #[.bool v.ref, .int .i64 v.n] 80).tuck.drew⟩
  case rest =>
    obtain ⟨b, rfl, hM2⟩ := hcut
    have hMv := hM2.untuck
    have v0 := hMv.cell 0 rfl 0
    have v1 := hMv.cell 0 rfl 1
    have bsz := (hMv.box 0 rfl).2.1
    have hM3 := hMv.drop (List.sublist_cons_self _ _)
    have hMe0 := hM3.perm (L' := ebox w.heap.size #[.int .i64 5, .int .i64 r, .int .i64 q, .int .i64 a, .int .i64 n] 58 :: ebox (w.heap.size + 1) #[.int .i64 0, .bool false, .int .i64 0] 89 :: mbox bx regs mv :: (L ++ T)) perm_do
    have g0 := hMe0.cell 0 rfl 0
    have g1 := hMe0.cell 0 rfl 1
    have g2 := hMe0.cell 0 rfl 2
    have g3 := hMe0.cell 0 rfl 3
    have gsz := (hMe0.box 0 rfl).2.1
    have hF := field_any bx regs mv os v a B w0 wc L _ h8 hM2 hlen
    rw [hcc] at hF
    have HF := Lib.hid hF
    have HM2 := Lib.hid hM2
    clear hF hM2 hMv hM3 hMe0 HS HM1 r0 r1
    go_wp2_with fail
    refine HF.out.mono ?_
    rintro e w2 ⟨rfl, hb2⟩
    have hM4 : HoldsM B w0 bx regs mv L (ebox b #[.bool v.ref, .int .i64 v.n] 80 :: (ebox (w.heap.size + 1) #[.int .i64 0, .bool false, .int .i64 0] 89 :: ebox w.heap.size #[.int .i64 5, .int .i64 r, .int .i64 q, .int .i64 a, .int .i64 n] 58 :: T)) w2 := HM2.out.call hb2
    have m0 := hM4.memAt 0 rfl h8
    have mb := (hM4.box 0 rfl).2.1
    have hMx := hM4.untuck
    have z0 := hMx.cell 0 rfl 0
    have z1 := hMx.cell 0 rfl 1
    have zsz := (hMx.box 0 rfl).2.1
    have hM5 := hMx.drop (List.sublist_cons_self _ _)
    have hMe1 := hM5.perm (L' := ebox w.heap.size #[.int .i64 5, .int .i64 r, .int .i64 q, .int .i64 a, .int .i64 n] 58 :: ebox (w.heap.size + 1) #[.int .i64 0, .bool false, .int .i64 0] 89 :: mbox bx regs mv :: (L ++ T)) perm_do
    have y1 := hMe1.cell 0 rfl 1
    have y3 := hMe1.cell 0 rfl 3
    have ysz := (hMe1.box 0 rfl).2.1
    obtain ⟨ty, mp, rv, f, hmv, hent, hall⟩ := hget
    rw [hmv] at m0
    obtain ⟨hm, hc⟩ := hall _ _ hM4.drew
    have HS : Hid (∀ W', Below w2.heap.size w2 W' → W'.cell? ⟨bx, 16, none⟩ = some (.iface ty mp) ∧ W'.cell? ⟨b, 1, none⟩ = some (.int .i64 v.n) ∧ W'.cell? ⟨w.heap.size, 1, none⟩ = some (.int .i64 r) ∧ W'.cell? ⟨w.heap.size, 3, none⟩ = some (.int .i64 a)) :=
      Lib.hid (fun W' hb => ⟨(hb.cell (p := ⟨_, _, none⟩) mb).trans m0, (hb.cell (p := ⟨_, _, none⟩) zsz).trans z1, (hb.cell (p := ⟨_, _, none⟩) ysz).trans y1, (hb.cell (p := ⟨_, _, none⟩) ysz).trans y3⟩)
    have HSet : Hid (∀ W', Below w2.heap.size w2 W' → Calls Try.prog 64 #[.pointer (some ⟨bx, 0, none⟩), .int .i64 r, .agg #[.bool u.ref, .int .i64 u.n]] W' fun e w' => e = .returned (.tuple #[]) ∧ ∃ L', Is os' x' L' ∧ HoldsM B w0 bx (regs.set r u) mv L' (ebox b #[.bool v.ref, .int .i64 v.n] 80 :: (ebox (w.heap.size + 1) #[.int .i64 0, .bool false, .int .i64 0] 89 :: ebox w.heap.size #[.int .i64 5, .int .i64 r, .int .i64 q, .int .i64 a, .int .i64 n] 58 :: T)) w') :=
      Lib.hid (fun W' hb => set_any bx regs mv r u B w0 W' L _ (fun L' => Is os' x' L') h8 hr (hM4.call hb) hold)
    have Hc := Lib.hid hc
    have Hmv := Lib.hid hmv
    clear hall hc hM4 hMx hM5 hMe1 hmv hold
    go_wp2_with fail
    go_region_held3 (fun X => X.cell? ⟨bx, 16, none⟩ = some (.iface ty mp) ∧ X.cell? ⟨b, 1, none⟩ = some (.int .i64 v.n) ∧ X.cell? ⟨w.heap.size, 1, none⟩ = some (.int .i64 r) ∧ X.cell? ⟨w.heap.size, 3, none⟩ = some (.int .i64 a))
      (first | exact HS2 | exact HS.out _ (by repeat (first | exact Below.refl _ _ | assumption | refine Below.setCell ?_ (by first | exact Nat.le_refl _ | (simp; done) | (simp; omega) | (simp at *; omega)) _ | refine Below.alloc ?_ (by first | exact Nat.le_refl _ | (simp; done) | (simp; omega) | (simp at *; omega)) _ | refine Below.drew ?_)) | fail)
      (first | (refine Hc.out.mono ?_
                rintro e w3 ⟨rfl, hb3⟩
                have hB3 : Below w2.heap.size w2 w3 := ((Below.refl _ w2).drew).trans hb3)
             | (with_reducible refine (HSet.out _ hB3).mono ?_
                rintro e w4 ⟨rfl, L', hIs, hM6⟩
                have HS2 : w4.cell? ⟨bx, 16, none⟩ = some (.iface ty mp) ∧ w4.cell? ⟨b, 1, none⟩ = some (.int .i64 v.n) ∧ w4.cell? ⟨w.heap.size, 1, none⟩ = some (.int .i64 r) ∧ w4.cell? ⟨w.heap.size, 3, none⟩ = some (.int .i64 a) := by
                  have q5 := hM6.memAt 0 rfl (by rw [List.length_set]; exact h8)
                  rw [Hmv.out] at q5
                  have hMy := hM6.untuck
                  have hMe2 := (hMy.drop (List.sublist_cons_self _ _)).perm (L' := ebox w.heap.size #[.int .i64 5, .int .i64 r, .int .i64 q, .int .i64 a, .int .i64 n] 58 :: ebox (w.heap.size + 1) #[.int .i64 0, .bool false, .int .i64 0] 89 :: mbox bx (regs.set r u) mv :: (L' ++ T)) perm_do
                  exact ⟨q5, hMy.cell 0 rfl 1, hMe2.cell 0 rfl 1, hMe2.cell 0 rfl 3⟩))
    all_goals
      have hM7 := hM6.untuck.drop (List.sublist_cons_self _ _)
      have hMe := hM7.perm (L' := ebox w.heap.size #[.int .i64 5, .int .i64 r, .int .i64 q, .int .i64 a, .int .i64 n] 58 :: ebox (w.heap.size + 1) #[.int .i64 0, .bool false, .int .i64 0] 89 :: mbox bx (regs.set r u) mv :: (L' ++ T)) perm_do
      have o0 := hMe.cell 1 rfl 0
      have o1 := hMe.cell 1 rfl 1
      have o2 := hMe.cell 1 rfl 2
      have of0 := hMe.free 1 rfl 0
      have of1 := hMe.free 1 rfl 1
      have of2 := hMe.free 1 rfl 2
      have osz := (hMe.box 1 rfl).2.1
      have HIs := Lib.hid hIs
      clear hM6 hM7 hIs HSet Hc HS HS2 hB3 hb3 hm z0 z1 y1 y3 m0
      have hMf := ((hMe.setBox 1 rfl 0 (.int .i64 0)).setBox 1 rfl 1 (.bool false)).setBox 1 rfl 2 (.int .i64 0)
      go_wp2
      obtain ⟨W9, hW9⟩ : ∃ W9, W9 = ((w4.setCell ⟨w.heap.size + 1, 0, none⟩ (.int .i64 0)).setCell ⟨w.heap.size + 1, 1, none⟩ (.bool false)).setCell ⟨w.heap.size + 1, 2, none⟩ (.int .i64 0) := ⟨_, rfl⟩
      rw [← hW9] at hMf ⊢
      have c0 : W9.cell? ⟨w.heap.size + 1, 0, none⟩ = some (.int .i64 0) := (by have := hMf.cell 1 rfl 0; simpa using this)
      have c1 : W9.cell? ⟨w.heap.size + 1, 1, none⟩ = some (.bool false) := (by have := hMf.cell 1 rfl 1; simpa using this)
      have c2 : W9.cell? ⟨w.heap.size + 1, 2, none⟩ = some (.int .i64 0) := (by have := hMf.cell 1 rfl 2; simpa using this)
      refine bodyPost_ret (v := .agg #[.int .i64 0, .bool false, .int .i64 0]) (by simp [results, Try.results39, go_sem, c0, c1, c2]) rfl ⟨rfl, ?_⟩
      exact ⟨L', HIs.out, (hMf.drop (List.sublist_cons_self _ _)).drop (List.sublist_cons_self _ _)⟩
end
end Go.Proofs.Ytmmcjjklmcfegaa
