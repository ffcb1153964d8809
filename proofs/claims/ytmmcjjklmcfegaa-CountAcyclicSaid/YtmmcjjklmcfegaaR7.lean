/- Counting: Put and New, walked. -/
import Derived.Test.YtmmcjjklmcfegaaR6
namespace Go.Proofs.Ytmmcjjklmcfegaa
open Go.RowKit Go.Shelf
section
variable (B : Nat) (w0 : World) (bx : Nat) (regs : List V) (mv : Value) (bm : Nat) (room : Int)
set_option maxRecDepth 100000 in
set_option maxHeartbeats 4000000 in
theorem cput_any (T : List Ent) (w : World) (c : Cst) (i k : Nat) (u : V) (hi : Lives c.os (i : Int)) (hk : k < (objAt c.os (i : Int)).length) (hu : u.ref = true → Lives c.os u.n) (hI : InvP regs c []) (hS : Small c) (hb : ∀ x ∈ c.cs, x ≤ 100000) (hC : CM B w0 bx regs mv bm room c T w) :
    Calls Try.prog 159 #[.pointer (some ⟨bm, 0, none⟩), .int .i64 (i : Int), .int .i64 (k : Int), .agg #[.bool u.ref, .int .i64 u.n]] w fun e w' => e = .returned (.tuple #[]) ∧ CM B w0 bx regs mv bm room (dnF [(objAt c.os (i : Int)).getD k ⟨false, 0⟩] ⟨c.os.set i (some ((objAt c.os (i : Int)).set k u)), up1 c.cs u, c.gone⟩) T w' := by
  obtain ⟨vo, cs, vc, vg, hc, hM⟩ := hC
  have hob := hi.obj
  rw [Int.toNat_natCast] at hob
  have hob2 := hob
  rw [← hc] at hob2
  obtain ⟨oc, hoc, hl⟩ := conts_get hob2
  rw [hc] at hl
  obtain ⟨o, ho⟩ := get_some (objAt c.os (i : Int)) k hk
  have hgo : (objAt c.os (i : Int)).getD k ⟨false, 0⟩ = o := by rw [List.getD_eq_getElem?_getD, ho]; rfl
  rw [hgo]
  have hal : alive (c.os.set i (some ((objAt c.os (i : Int)).set k u))) = alive c.os := alive_some hob
  have z0 := (hM.alloc #[.bool u.ref, .int .i64 u.n] 80).cell 0 rfl 0
  have z1 := (hM.alloc #[.bool u.ref, .int .i64 u.n] 80).cell 0 rfl 1
  have zb := ((hM.alloc #[.bool u.ref, .int .i64 u.n] 80).box 0 rfl).2.1
  have hMt := hM.allocIn #[.bool u.ref, .int .i64 u.n] 80
  obtain ⟨W, hW⟩ : ∃ W, w.alloc (.cells #[.bool u.ref, .int .i64 u.n] 80) = W := ⟨_, rfl⟩
  rw [hW] at z0 z1 zb hMt
  have m0 : W.cell? ⟨bm, 0, none⟩ = some vo := hMt.cell 1 rfl 0
  have mb : bm < W.heap.size := (hMt.box 1 rfl).2.1
  have hget := oget_any B w0 W _ 2 5 vo cs hMt (oAt_of (A := cA bx regs mv bm room (alive c.os) vo cs vc c.cs vg c.gone) rfl) i oc hoc k o (by rw [hl]; exact ho)
  have Hget := Lib.hid hget
  have HMt := Lib.hid hMt
  have HW := Lib.hid hW
  have HI := Lib.hid hI
  have HS := Lib.hid hS
  have Hc := Lib.hid hc
  have Hu := Lib.hid hu
  have Hb := Lib.hid hb
  have Hgo := Lib.hid hgo
  have Hi := Lib.hid hi
  have Hl := Lib.hid hl
  have Hoc := Lib.hid hoc
  have Hk := Lib.hid hk
  have Hal := Lib.hid hal
  clear hM hMt hget hW hI hS hc hu hb ho hgo hi hob hob2 hl hoc hk hal
  go_enter Try.func159, Try.ntmps159
  go_upto_region 1 with (fail)
  rw [HW.out]
  go_wp2_with fail
  refine Hget.out.mono ?_
  rintro e w1 ⟨rfl, hb1⟩
  have hM1 := HMt.out.call hb1
  have hMu := hM1.allocIn #[.bool o.ref, .int .i64 o.n] 80
  obtain ⟨W2, hW2⟩ : ∃ W2, w1.alloc (.cells #[.bool o.ref, .int .i64 o.n] 80) = W2 := ⟨_, rfl⟩
  rw [hW2] at hMu
  have x0 := hMu.boxCell (b := w.heap.size) (c := #[.bool u.ref, .int .i64 u.n]) (t := 80) (by simp) 0 rfl
  have x1 := hMu.boxCell (b := w.heap.size) (c := #[.bool u.ref, .int .i64 u.n]) (t := 80) (by simp) 1 rfl
  have xb : w.heap.size < W2.heap.size := (hMu.lt (x := ebox w.heap.size #[.bool u.ref, .int .i64 u.n] 80) (by simp) _ rfl).2
  have hup := up_any B w0 bx regs mv bm room (alive c.os) vo cs vc vg c.gone _ W2 c.cs u hMu (up_ok HI.out Hb.out Hu.out)
  have Hup := Lib.hid hup
  have HW2 := Lib.hid hW2
  clear hM1 hMu hup hW2 hb1 m0 mb z0 z1 zb
  go_upto_region 2 with (fail)
  rw [HW2.out]
  go_wp2_with fail
  refine Hup.out.mono ?_
  rintro e w3 ⟨rfl, hM3⟩
  have y0 := hM3.boxCell (b := w.heap.size) (c := #[.bool u.ref, .int .i64 u.n]) (t := 80) (by simp) 0 rfl
  have y1 := hM3.boxCell (b := w.heap.size) (c := #[.bool u.ref, .int .i64 u.n]) (t := 80) (by simp) 1 rfl
  have yb : w.heap.size < w3.heap.size := (hM3.lt (x := ebox w.heap.size #[.bool u.ref, .int .i64 u.n] 80) (by simp) _ rfl).2
  have n0 : w3.cell? ⟨bm, 0, none⟩ = some vo := hM3.cell 1 rfl 0
  have nb : bm < w3.heap.size := (hM3.box 1 rfl).2.1
  have HM3 := Lib.hid hM3
  clear x0 x1 xb hM3
  go_upto_region 3 with (fail)
  go_still_tail 7, (by kernel_rfl)
  go_wp2_with fail
  have hkl : k < oc.l.length := by rw [Hl.out]; exact Hk.out
  refine (oput_any B w0 w3.drew _ 2 5 vo cs HM3.out.drew (oAt_of (A := cA bx regs mv bm room (alive c.os) vo cs vc (up1 c.cs u) vg c.gone) rfl) i oc Hoc.out k hkl u).mono ?_
  rintro e w4 ⟨rfl, hM4⟩
  have h1 := objs_set (A := cA bx regs mv bm room (alive c.os) vo cs vc (up1 c.cs u) vg c.gone) (R := ebox w1.heap.size #[.bool o.ref, .int .i64 o.n] 80 :: ebox w.heap.size #[.bool u.ref, .int .i64 u.n] 80 :: T) Hoc.out (c' := some ⟨oc.b, oc.v, oc.l.set k u⟩) rfl
  have h2 : rowP vo (cs.set i (some ⟨oc.b, oc.v, oc.l.set k u⟩)) = rowP vo cs := by
    unfold rowP
    rw [List.length_set, List.map_set]
    congr 1
    exact set_same (by rw [List.getElem?_map, Hoc.out]; rfl)
  have hM5 := hM4.cast h1
  have e4 : cA bx regs mv bm room (alive c.os) vo cs vc (up1 c.cs u) vg c.gone = cA bx regs mv bm room (alive (c.os.set i (some ((objAt c.os (i : Int)).set k u)))) vo (cs.set i (some ⟨oc.b, oc.v, oc.l.set k u⟩)) vc (up1 c.cs u) vg c.gone := by
    rw [Hal.out]; unfold cA; rw [h2]
  rw [e4] at hM5
  have y0 := hM5.boxCell (b := w1.heap.size) (c := #[.bool o.ref, .int .i64 o.n]) (t := 80) (by simp) 0 rfl
  have y1 := hM5.boxCell (b := w1.heap.size) (c := #[.bool o.ref, .int .i64 o.n]) (t := 80) (by simp) 1 rfl
  have yb : w1.heap.size < w4.heap.size := (hM5.lt (x := ebox w1.heap.size #[.bool o.ref, .int .i64 o.n] 80) (by simp) _ rfl).2
  have hC3 : CM B w0 bx regs mv bm room ⟨c.os.set i (some ((objAt c.os (i : Int)).set k u)), up1 c.cs u, c.gone⟩ T w4 := by
    refine ⟨vo, _, vc, vg, ?_, hM5.drop (List.Sublist.append_left (List.Sublist.append_left ((List.sublist_cons_self _ _).trans (List.sublist_cons_self _ _)) _) _)⟩
    rw [← Hl.out, ← Hc.out]
    unfold conts
    rw [List.map_set]; rfl
  have hI3 := HI.out.put Hi.out Hk.out Hu.out
  rw [Hgo.out, Int.toNat_natCast] at hI3
  have hdn := down_any B w0 bx regs mv bm room _ T w4 ⟨c.os.set i (some ((objAt c.os (i : Int)).set k u)), up1 c.cs u, c.gone⟩ o [] _ (Nat.le_refl _) hI3 ⟨small_up HI.out HS.out Hb.out Hu.out, by rw [Hal.out]; exact HS.out.room, fun j l hl => by
    rcases put_get (j := (i : Int)) (i := j) (l := l) (k := k) (u := u) (os := c.os) (by rw [Int.toNat_natCast]; exact hl) Hi.out with h | rfl
    · exact HS.out.flds j l h
    · rw [List.length_set]; exact HS.out.flds _ _ (Hi.out.obj)⟩ hC3
  have Hdn := Lib.hid hdn
  clear hM4 hM5 h1 h2 e4 hC3 hI3 hdn n0 nb
  go_wp2_with fail
  refine Hdn.out.mono ?_
  rintro e w5 ⟨rfl, h4⟩
  have H5 := Lib.hid h4
  clear h4
  go_wp2_with fail
  refine bodyPost_end (results_none rfl _ _ _) rfl ?_
  exact ⟨rfl, H5.out⟩
end
end Go.Proofs.Ytmmcjjklmcfegaa
