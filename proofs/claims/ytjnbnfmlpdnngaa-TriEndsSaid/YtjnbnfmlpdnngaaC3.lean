/- Colours: what a memory with colours holds; white, shade. -/
import Derived.Test.YtjnbnfmlpdnngaaC0
import Derived.Test.YtjnbnfmlpdnngaaQ4
import Derived.BigQuiet
namespace Go.Proofs.Ytjnbnfmlpdnngaa
open Go.RowKit Go.Shelf

/-- The machine's box, the memory's, the objects' row, colours, and what went. -/
@[reducible] def tA (bx : Nat) (regs : List V) (mv : Value) (bm : Nat) (bv : Value) (vo : Value) (cs : List (Option Oc)) (vc : Value) (c : List Int) (vg : Value) (gn : List Int) : List Ent :=
  [mbox bx regs mv, ebox bm #[vo, bv, vc, vg] 81, rowP vo cs, rowI 3 vc c, rowI 3 vg gn]
def whiteB (c : List Int) (v : V) : Bool := v.ref && cAt c v.n == 0
section
variable (B : Nat) (w0 : World) (bx : Nat) (regs : List V) (mv : Value) (bm : Nat) (bv : Value) (vo : Value) (cs : List (Option Oc)) (vc : Value) (vg : Value) (gn : List Int) (R : List Ent)
set_option maxRecDepth 100000 in
set_option maxHeartbeats 1000000 in
theorem white_any (w : World) (c : List Int) (v : V) (hM : Mem B w0 w (tA bx regs mv bm bv vo cs vc c vg gn ++ R)) (hv : InR c.length v) :
    Calls Try.prog 80 #[.pointer (some ⟨bm, 0, none⟩), .agg #[.bool v.ref, .int .i64 v.n]] w fun e w' => e = .returned (.bool (whiteB c v)) ∧ Mem B w0 w' (tA bx regs mv bm bv vo cs vc c vg gn ++ R) := by
  have hM1 := hM.alloc #[.bool v.ref, .int .i64 v.n] 84
  have hM2 := hM.alloc_ (.cells #[.bool v.ref, .int .i64 v.n] 84)
  have z0 := hM1.cell 0 rfl 0
  have z1 := hM1.cell 0 rfl 1
  have zb : w.heap.size < (w.alloc (.cells #[.bool v.ref, .int .i64 v.n] 84)).heap.size := by simp
  obtain ⟨W, hW⟩ : ∃ W, w.alloc (.cells #[.bool v.ref, .int .i64 v.n] 84) = W := ⟨_, rfl⟩
  rw [hW] at hM2 z0 z1 zb
  cases hr : v.ref with
  | false =>
    rw [hr] at hW z0
    have HM := Lib.hid hM2
    have HW := Lib.hid hW
    have Hu : Hid (whiteB c v = false) := Lib.hid (by unfold whiteB; rw [hr]; rfl)
    clear hM hM1 hM2 hW hv hr
    go_enter Try.func80, Try.ntmps80
    go_upto_region 1 with (fail)
    rw [HW.out]
    go_quiet (fail)
    go_wp2
    go_ret
    rw [Hu.out]
    exact ⟨rfl, HM.out.drewN _⟩
  | true =>
    obtain ⟨h0, h1⟩ := hv hr
    obtain ⟨j, hj⟩ : ∃ j : Nat, v.n = (j : Int) := ⟨v.n.toNat, by omega⟩
    obtain ⟨x, hx⟩ : ∃ x, c[j]? = some x := ⟨_, List.getElem?_eq_getElem (by omega)⟩
    have m2 : W.cell? ⟨bm, 2, none⟩ = some vc := hM2.cell 1 rfl 2
    have mb : bm < W.heap.size := (hM2.box 1 rfl).2.1
    obtain ⟨g, cap, rfl, _, cb, cc, cf⟩ := hM2.intsAt 3 rfl (by rintro rfl; simp at hx)
    have c0 := cc j x hx
    have e1 : (j : Int) < (c.length : Int) := by omega
    rw [hr, hj] at hW
    rw [hr] at z0
    rw [hj] at z1 ⊢
    have Hu : Hid (whiteB c v = (x == 0)) := Lib.hid (by
      unfold whiteB cAt
      rw [hr, hj, Int.toNat_natCast, List.getD_eq_getElem?_getD, hx]; rfl)
    have HM := Lib.hid hM2
    have HW := Lib.hid hW
    clear hM hM1 hM2 hW hv hr hj hx cc cf h0 h1
    by_cases hx0 : x = 0
    · subst hx0
      go_enter Try.func80, Try.ntmps80
      go_upto_region 1 with (fail)
      rw [HW.out]
      go_quiet (fail)
      go_wp2
      go_ret
      rw [Hu.out]
      exact ⟨rfl, HM.out.drewN _⟩
    · have hxb : (x == 0) = false := by simpa using hx0
      go_enter Try.func80, Try.ntmps80
      go_upto_region 1 with (fail)
      rw [HW.out]
      go_quiet (fail)
      go_wp2
      go_ret
      rw [Hu.out, hxb]
      exact ⟨rfl, HM.out.drewN _⟩
set_option maxRecDepth 100000 in
set_option maxHeartbeats 1000000 in
theorem shade_any (w : World) (c : List Int) (v : V) (hM : Mem B w0 w (tA bx regs mv bm bv vo cs vc c vg gn ++ R)) (hv : InR c.length v) :
    Calls Try.prog 58 #[.pointer (some ⟨bm, 0, none⟩), .agg #[.bool v.ref, .int .i64 v.n]] w fun e w' => e = .returned (.tuple #[]) ∧ Mem B w0 w' (tA bx regs mv bm bv vo cs vc (shade c v) vg gn ++ R) := by
  have hM1 := (hM.alloc #[.bool v.ref, .int .i64 v.n] 84).perm (L' := tA bx regs mv bm bv vo cs vc c vg gn ++ (R ++ [ebox w.heap.size #[.bool v.ref, .int .i64 v.n] 84])) (by
    rw [← List.append_assoc]; exact List.perm_append_singleton _ _)
  have z0 := hM1.boxCell (b := w.heap.size) (c := #[.bool v.ref, .int .i64 v.n]) (t := 84) (by simp) 0 rfl
  have z1 := hM1.boxCell (b := w.heap.size) (c := #[.bool v.ref, .int .i64 v.n]) (t := 84) (by simp) 1 rfl
  have zb : w.heap.size < (w.alloc (.cells #[.bool v.ref, .int .i64 v.n] 84)).heap.size := by simp
  obtain ⟨W, hW⟩ : ∃ W, w.alloc (.cells #[.bool v.ref, .int .i64 v.n] 84) = W := ⟨_, rfl⟩
  rw [hW] at hM1 z0 z1 zb
  have hWh := white_any B w0 bx regs mv bm bv vo cs vc vg gn _ W c v hM1 hv
  have HWh := Lib.hid hWh
  have HW := Lib.hid hW
  clear hM hM1 hW hWh
  by_cases hw : whiteB c v = true
  · unfold whiteB at hw
    rw [Bool.and_eq_true] at hw
    obtain ⟨hr, hx0⟩ := hw
    have hx0' : cAt c v.n = 0 := by simpa using hx0
    obtain ⟨h0, h1⟩ := hv hr
    obtain ⟨j, hj⟩ : ∃ j : Nat, v.n = (j : Int) := ⟨v.n.toNat, by omega⟩
    have hjl : j < c.length := by omega
    have Hu : Hid (shade c v = c.set j 1) := Lib.hid (by unfold shade; rw [if_pos ⟨hr, hx0'⟩, hj, Int.toNat_natCast])
    have HWb : Hid (whiteB c v = true) := Lib.hid (by unfold whiteB; rw [hr, hx0]; rfl)
    rw [hj] at z1
    have HJ := Lib.hid hj
    have HR := Lib.hid hr
    clear hv hr hx0 hx0' h0 h1 hj
    go_enter Try.func58, Try.ntmps58
    go_wp2_with fail
    rw [HW.out]
    refine HWh.out.mono ?_
    rintro e w2 ⟨rfl, hM2⟩
    rw [HWb.out]
    have y0 := hM2.boxCell (b := w.heap.size) (c := #[.bool v.ref, .int .i64 v.n]) (t := 84) (by simp) 0 rfl
    have y1 := hM2.boxCell (b := w.heap.size) (c := #[.bool v.ref, .int .i64 v.n]) (t := 84) (by simp) 1 rfl
    simp only [List.getElem_toArray, List.getElem_cons_zero, List.getElem_cons_succ] at y0 y1
    have yb : w.heap.size < w2.heap.size := (hM2.boxFree (b := w.heap.size) (c := #[.bool v.ref, .int .i64 v.n]) (t := 84) (by simp) 0).2
    have m2 : w2.cell? ⟨bm, 2, none⟩ = some vc := hM2.cell 1 rfl 2
    have mb : bm < w2.heap.size := (hM2.box 1 rfl).2.1
    obtain ⟨g, cap, rfl, _, cb, cc, cf⟩ := hM2.intsAt 3 rfl (by rintro rfl; simp at hjl)
    have c0 := cc j _ (List.getElem?_eq_getElem hjl)
    have c1 := cf j
    have e1 : (j : Int) < (c.length : Int) := by omega
    have hN := (hM2.setI 3 rfl rfl j 1).drew
    rw [HJ.out] at y1
    have HN := Lib.hid hN
    clear hM2 hN cc cf z0 z1 zb HWh
    go_upto_region 2 with (fail)
    go_still_tail 7, (by kernel_rfl)
    go_wp2_with fail
    refine bodyPost_end (results_none rfl _ _ _) rfl ⟨rfl, ?_⟩
    rw [Hu.out]
    refine HN.out.drop ?_
    exact .cons_cons _ (.cons_cons _ (.cons_cons _ (.cons_cons _ (.cons_cons _ (List.sublist_append_left _ _)))))
  · have hw' : whiteB c v = false := by simpa using hw
    have Hu : Hid (shade c v = c) := Lib.hid (by
      unfold shade
      rw [if_neg]
      rintro ⟨h1, h2⟩
      unfold whiteB at hw
      rw [h1, h2] at hw
      exact hw rfl)
    have HWb := Lib.hid hw'
    clear hv hw hw'
    go_enter Try.func58, Try.ntmps58
    go_wp2_with fail
    rw [HW.out]
    refine HWh.out.mono ?_
    rintro e w2 ⟨rfl, hM2⟩
    rw [HWb.out]
    have HM := Lib.hid hM2
    clear hM2
    go_wp2_with fail
    refine bodyPost_end (results_none rfl _ _ _) rfl ⟨rfl, ?_⟩
    rw [Hu.out]
    refine HM.out.drop ?_
    exact .cons_cons _ (.cons_cons _ (.cons_cons _ (.cons_cons _ (.cons_cons _ (List.sublist_append_left _ _)))))
end
end Go.Proofs.Ytjnbnfmlpdnngaa
