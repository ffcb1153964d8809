/- Counting: what a memory that counts holds; one reference more. -/
import Derived.Test.YtmmcjjklmcfegaaR4
import Derived.Test.YtmmcjjklmcfegaaQ4
namespace Go.Proofs.Ytmmcjjklmcfegaa
open Go.RowKit Go.Shelf

/-- The machine's box, the memory's, the objects' row, counts, and what went. -/
@[reducible] def cA (bx : Nat) (regs : List V) (mv : Value) (bm : Nat) (room there : Int) (vo : Value) (cs : List (Option Oc)) (vc : Value) (c : List Int) (vg : Value) (gn : List Int) : List Ent :=
  [mbox bx regs mv, ebox bm #[vo, .pointer (some ⟨bx, 0, none⟩), vc, .int .i64 room, .int .i64 there, vg] 99, rowP vo cs, rowI 3 vc c, rowI 3 vg gn]
section
variable (B : Nat) (w0 : World) (bx : Nat) (regs : List V) (mv : Value) (bm : Nat) (room there : Int) (vo : Value) (cs : List (Option Oc)) (vc : Value) (vg : Value) (gn : List Int) (R : List Ent)
set_option maxRecDepth 100000 in
set_option maxHeartbeats 1000000 in
theorem up_any (w : World) (c : List Int) (v : V) (hM : Mem B w0 w (cA bx regs mv bm room there vo cs vc c vg gn ++ R)) (hv : v.ref = true → ∃ (j : Nat) (x : Int), v.n = (j : Int) ∧ c[j]? = some x ∧ -1000000 ≤ x ∧ x ≤ 1000000) :
    Calls Try.prog 44 #[.pointer (some ⟨bm, 0, none⟩), .agg #[.bool v.ref, .int .i64 v.n]] w fun e w' => e = .returned (.tuple #[]) ∧ Mem B w0 w' (cA bx regs mv bm room there vo cs vc (up1 c v) vg gn ++ R) := by
  have hM1 := hM.alloc #[.bool v.ref, .int .i64 v.n] 80
  have hM2 := hM.alloc_ (.cells #[.bool v.ref, .int .i64 v.n] 80)
  have z0 := hM1.cell 0 rfl 0
  have z1 := hM1.cell 0 rfl 1
  have zb : w.heap.size < (w.alloc (.cells #[.bool v.ref, .int .i64 v.n] 80)).heap.size := by simp
  obtain ⟨W, hW⟩ : ∃ W, w.alloc (.cells #[.bool v.ref, .int .i64 v.n] 80) = W := ⟨_, rfl⟩
  rw [hW] at hM2 z0 z1 zb
  cases hr : v.ref with
  | false =>
    rw [hr] at hW z0
    have HM := Lib.hid hM2
    have HW := Lib.hid hW
    have Hu : Hid (up1 c v = c) := Lib.hid (by unfold up1; rw [hr]; rfl)
    clear hM hM1 hM2 hW hv hr
    go_enter Try.func44, Try.ntmps44
    go_wp2_with fail
    rw [HW.out]
    go_wp2_with fail
    refine bodyPost_end (results_none rfl _ _ _) rfl ⟨rfl, ?_⟩
    rw [Hu.out]; exact HM.out
  | true =>
    obtain ⟨j, x, hj, hx, x0, x1⟩ := hv hr
    have m2 : W.cell? ⟨bm, 2, none⟩ = some vc := hM2.cell 1 rfl 2
    have mb : bm < W.heap.size := (hM2.box 1 rfl).2.1
    have hlt : j < c.length := (List.getElem?_eq_some_iff.1 hx).1
    obtain ⟨g, cap, rfl, _, cb, cc, cf⟩ := hM2.intsAt 3 rfl (by rintro rfl; simp at hx)
    have c0 := cc j x hx
    have c1 := cf j
    have e1 : (j : Int) < (c.length : Int) := by omega
    have hN := hM2.setI 3 rfl rfl j (x + 1)
    rw [hr, hj] at hW
    rw [hr] at z0
    rw [hj] at z1 ⊢
    have Hu : Hid (up1 c v = c.set j (x + 1)) := Lib.hid (by unfold up1; rw [hr, hj]; show c.set _ _ = _; rw [Int.toNat_natCast, getD_at hx])
    have HN := Lib.hid hN
    have HW := Lib.hid hW
    clear hM hM1 hM2 hW hv hr hN hj hx cc cf
    go_enter Try.func44, Try.ntmps44
    go_wp2_with fail
    rw [HW.out]
    go_upto_region 2 with (fail)
    go_still_tail 10, (by kernel_rfl)
    go_wp2_with fail
    refine bodyPost_end (results_none rfl _ _ _) rfl ⟨rfl, ?_⟩
    rw [Hu.out]; exact HN.out.drew
end
end Go.Proofs.Ytmmcjjklmcfegaa
