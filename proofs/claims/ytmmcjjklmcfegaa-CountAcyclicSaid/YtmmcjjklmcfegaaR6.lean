/- Counting: Hold, walked. -/
import Derived.Test.YtmmcjjklmcfegaaR3
import Derived.Test.YtmmcjjklmcfegaaR5
import Derived.Test.YtmmcjjklmcfegaaBcx
namespace Go.Proofs.Ytmmcjjklmcfegaa
open Go.RowKit Go.Shelf
theorem Mem.toT {B : Nat} {w0 w : World} {x : Ent} {P Q : List Ent} (h : Mem B w0 w (x :: (P ++ Q))) : Mem B w0 w (P ++ x :: Q) := h.perm List.perm_middle
theorem Mem.allocIn {B : Nat} {w0 w : World} {P Q R : List Ent} (h : Mem B w0 w (P ++ (Q ++ R))) (c : Array Value) (t : TypeId) : Mem B w0 (w.alloc (.cells c t)) (P ++ (Q ++ ebox w.heap.size c t :: R)) := by
  have := Mem.toT (P := P ++ Q) (Q := R) ((h.alloc c t).cast (L' := ebox w.heap.size c t :: ((P ++ Q) ++ R)) (by rw [List.append_assoc]))
  exact this.cast (by rw [List.append_assoc])
theorem up_ok {rg : List V} {c : Cst} {u : V} (hI : InvP rg c []) (hb : ∀ x ∈ c.cs, x ≤ 100000) (hu : u.ref = true → Lives c.os u.n) : u.ref = true → ∃ (j : Nat) (x : Int), u.n = (j : Int) ∧ c.cs[j]? = some x ∧ -1000000 ≤ x ∧ x ≤ 1000000 := by
  intro hr
  have hl := hu hr
  have h1 := hI.at hl
  have h2 := hb _ (List.mem_of_getElem? h1)
  refine ⟨u.n.toNat, _, by have := hl.1; omega, h1, by omega, by omega⟩
theorem small_up {rg : List V} {c : Cst} {u : V} (hI : InvP rg c []) (hS : Small c) (hb : ∀ x ∈ c.cs, x ≤ 100000) (hu : u.ref = true → Lives c.os u.n) : ∀ x ∈ up1 c.cs u, x ≤ 1000000 := by
  refine up1_bnd hS.cs fun hr => ?_
  have h1 := hI.at (hu hr)
  have h2 := hb _ (List.mem_of_getElem? h1)
  exact ⟨_, h1, by omega⟩
section
variable (B : Nat) (w0 : World) (bx : Nat) (regs : List V) (mv : Value) (bm : Nat) (room : Int)
set_option maxRecDepth 100000 in
set_option maxHeartbeats 4000000 in
theorem chold_any (T : List Ent) (w : World) (c : Cst) (r : Nat) (u : V) (h8 : regs.length = 8) (hr : r < 8) (hu : u.ref = true → Lives c.os u.n) (hI : InvP regs c []) (hS : Small c) (hb : ∀ x ∈ c.cs, x ≤ 100000) (hC : CM B w0 bx regs mv bm room c T w) :
    Calls Try.prog 157 #[.pointer (some ⟨bm, 0, none⟩), .int .i64 (r : Int), .agg #[.bool u.ref, .int .i64 u.n]] w fun e w' => e = .returned (.tuple #[]) ∧ CM B w0 bx regs mv bm room (dnF [regs.getD r ⟨false, 0⟩] ⟨c.os, up1 c.cs u, c.gone⟩) T w' := by
  obtain ⟨vo, cs, vc, vg, hc, hM⟩ := hC
  obtain ⟨o, ho⟩ := get_some regs r (by omega)
  have hgo : regs.getD r ⟨false, 0⟩ = o := by rw [List.getD_eq_getElem?_getD, ho]; rfl
  rw [hgo]
  have hM1 := hM.alloc #[.bool u.ref, .int .i64 u.n] 80
  have z0 := hM1.cell 0 rfl 0
  have z1 := hM1.cell 0 rfl 1
  have zb := (hM1.box 0 rfl).2.1
  have hMt := hM.allocIn #[.bool u.ref, .int .i64 u.n] 80
  obtain ⟨W, hW⟩ : ∃ W, w.alloc (.cells #[.bool u.ref, .int .i64 u.n] 80) = W := ⟨_, rfl⟩
  rw [hW] at z0 z1 zb hMt
  obtain ⟨r0, r1, _, rb⟩ := hMt.regAt 0 rfl ho
  have m1 : W.cell? ⟨bm, 1, none⟩ = some (.pointer (some ⟨bx, 0, none⟩)) := hMt.cell 1 rfl 1
  have mb : bm < W.heap.size := (hMt.box 1 rfl).2.1
  have hr8 : (r : Int) < 8 := by omega
  have hMu := hMt.allocIn #[.bool o.ref, .int .i64 o.n] 80
  obtain ⟨W2, hW2⟩ : ∃ W2, W.alloc (.cells #[.bool o.ref, .int .i64 o.n] 80) = W2 := ⟨_, rfl⟩
  rw [hW2] at hMu
  have hup := up_any B w0 bx regs mv bm room (alive c.os) vo cs vc vg c.gone _ W2 c.cs u hMu (up_ok hI hb hu)
  have Hup := Lib.hid hup
  have HW := Lib.hid hW
  have HMu := Lib.hid hMu
  have HW2 := Lib.hid hW2
  have HI := Lib.hid hI
  have HS := Lib.hid hS
  have Hc := Lib.hid hc
  have Hu := Lib.hid hu
  have Hb := Lib.hid hb
  have Hgo := Lib.hid hgo
  have H8 := Lib.hid h8
  clear hM hM1 hMt hMu hup hW hW2 hI hS hc hu hb ho hgo h8
  go_enter Try.func157, Try.ntmps157
  go_upto_region 1 with (fail)
  rw [HW.out]
  go_upto_region 2 with (fail)
  rw [HW2.out]
  have x0 := HMu.out.boxCell (b := w.heap.size) (c := #[.bool u.ref, .int .i64 u.n]) (t := 80) (by simp) 0 rfl
  have x1 := HMu.out.boxCell (b := w.heap.size) (c := #[.bool u.ref, .int .i64 u.n]) (t := 80) (by simp) 1 rfl
  have xb : w.heap.size < W2.heap.size := (HMu.out.lt (x := ebox w.heap.size #[.bool u.ref, .int .i64 u.n] 80) (by simp) _ rfl).2
  go_wp2_with fail
  refine Hup.out.mono ?_
  rintro e w3 ⟨rfl, hM3⟩
  have y0 := hM3.boxCell (b := W.heap.size) (c := #[.bool o.ref, .int .i64 o.n]) (t := 80) (by simp) 0 rfl
  have y1 := hM3.boxCell (b := W.heap.size) (c := #[.bool o.ref, .int .i64 o.n]) (t := 80) (by simp) 1 rfl
  have yb : W.heap.size < w3.heap.size := (hM3.lt (x := ebox W.heap.size #[.bool o.ref, .int .i64 o.n] 80) (by simp) _ rfl).2
  have hC3 : CM B w0 bx regs mv bm room ⟨c.os, up1 c.cs u, c.gone⟩ T w3 := ⟨vo, cs, vc, vg, Hc.out, hM3.drop (List.Sublist.append_left (List.Sublist.append_left ((List.sublist_cons_self _ _).trans (List.sublist_cons_self _ _)) _) _)⟩
  have hI3 := HI.out.hold (r := r) (by rw [H8.out]; exact hr) Hu.out
  rw [Hgo.out] at hI3
  have hdn := down_any B w0 bx regs mv bm room _ T w3 ⟨c.os, up1 c.cs u, c.gone⟩ o [] _ (Nat.le_refl _) hI3 ⟨small_up HI.out HS.out Hb.out Hu.out, HS.out.room, HS.out.flds⟩ hC3
  have Hdn := Lib.hid hdn
  clear hM3 hC3 hI3 hdn x0 x1 xb r0 r1 rb m1 mb z0 z1 zb
  go_wp2_with fail
  refine Hdn.out.mono ?_
  rintro e w4 ⟨rfl, h4⟩
  have H4 := Lib.hid h4
  clear h4
  go_wp2_with fail
  refine bodyPost_end (results_none rfl _ _ _) rfl ?_
  exact ⟨rfl, H4.out⟩
end
end Go.Proofs.Ytmmcjjklmcfegaa
