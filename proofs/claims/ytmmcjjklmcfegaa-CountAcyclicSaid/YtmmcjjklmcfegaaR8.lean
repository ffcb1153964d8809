/- Counting: New, walked. -/
import Derived.Test.YtmmcjjklmcfegaaR6
namespace Go.Proofs.Ytmmcjjklmcfegaa
open Go.RowKit Go.Shelf
section
variable (B : Nat) (w0 : World) (bx : Nat) (regs : List V) (mv : Value) (bm : Nat) (room : Int)
def CNewSays (c : Cst) (n : Nat) (T : List Ent) (e : Ending) (w' : World) : Prop :=
      (room ≤ (alive c.os : Int) → e = .returned (.tuple #[.int .i64 0, .int .i64 6]) ∧ CM B w0 bx regs mv bm room c T w') ∧
      (¬ room ≤ (alive c.os : Int) → e = .returned (.tuple #[.int .i64 (c.os.length : Int), .int .i64 0]) ∧ CM B w0 bx regs mv bm room ⟨c.os ++ [some (zerosV n)], c.cs ++ [0], c.gone⟩ T w')
set_option maxRecDepth 100000 in
set_option maxHeartbeats 4000000 in
theorem cnew_any (T : List Ent) (w : World) (c : Cst) (n : Nat) (hn : n ≤ 4) (hl : c.os.length ≤ 1000) (hcl : c.cs.length = c.os.length) (hC : CM B w0 bx regs mv bm room c T w) :
    Calls Try.prog 158 #[.pointer (some ⟨bm, 0, none⟩), .int .i64 (n : Int)] w fun e w' => CNewSays B w0 bx regs mv bm room c n T e w' := by
  obtain ⟨vo, cs, vc, vg, hc, hM⟩ := hC
  have m3 : w.cell? ⟨bm, 3, none⟩ = some (.int .i64 room) := hM.cell 1 rfl 3
  have m4 : w.cell? ⟨bm, 4, none⟩ = some (.int .i64 (alive c.os : Int)) := hM.cell 1 rfl 4
  have mb : bm < w.heap.size := (hM.box 1 rfl).2.1
  have hcl2 : cs.length = c.os.length := by rw [← hc, conts_len]
  have ha : (alive c.os : Int) ≤ 1000 := by have := alive_le c.os; omega
  have ha0 : (0 : Int) ≤ (alive c.os : Int) := by omega
  have HM := Lib.hid hM
  have Hc := Lib.hid hc
  have Hcl := Lib.hid hcl
  have Hcl2 := Lib.hid hcl2
  have Hl := Lib.hid hl
  clear hM hc hcl hcl2 hl
  by_cases hr : room ≤ (alive c.os : Int)
  · have Hr := Lib.hid hr
    go_enter Try.func158, Try.ntmps158
    go_upto_region 1 with (fail)
    go_quiet (fail)
    rename_i nq
    have HM2 := Lib.hid (HM.out.drewN nq)
    go_wp2_with fail
    refine bodyPost_ret (v := .tuple #[.int .i64 0, .int .i64 6]) (by simp [results, Try.results158, go_sem]) rfl ?_
    exact ⟨fun _ => ⟨rfl, vo, cs, vc, vg, Hc.out, HM2.out⟩, fun h => absurd Hr.out h⟩
  · have Hr := Lib.hid hr
    have hgl : c.cs.length ≤ 1000000 := by rw [Hcl.out]; have := Hl.out; omega
    go_enter Try.func158, Try.ntmps158
    go_upto_region 1 with (fail)
    go_quiet (fail)
    rename_i nq
    have hM2 := HM.out.drewN nq
    obtain ⟨W, hW⟩ : ∃ W, w.drewN nq = W := ⟨_, rfl⟩
    rw [hW] at hM2 ⊢
    have x4 : W.cell? ⟨bm, 4, none⟩ = some (.int .i64 (alive c.os : Int)) := hM2.cell 1 rfl 4
    have xf := hM2.free 1 rfl 4
    have xb : bm < W.heap.size := (hM2.box 1 rfl).2.1
    have hM3 := hM2.setBox 1 rfl 4 (.int .i64 ((alive c.os : Int) + 1))
    obtain ⟨W3, hW3⟩ : ∃ W3, W.setCell ⟨bm, 4, none⟩ (.int .i64 ((alive c.os : Int) + 1)) = W3 := ⟨_, rfl⟩
    rw [hW3] at hM3
    have y2 : W3.cell? ⟨bm, 2, none⟩ = some vc := hM3.cell 1 rfl 2
    have yb : bm < W3.heap.size := (hM3.box 1 rfl).2.1
    have HM3 := Lib.hid hM3
    have HW3 := Lib.hid hW3
    clear m3 m4 mb hM2 hM3 hW3 hW HM
    go_upto_region 4 with (fail)
    rw [HW3.out]
    clear x4 xf xb
    go_upto_region 5 with (at_builtin; refine Mem.wp_appI elemInts rfl (.tmp 26) (.tmp 27) rfl HM3.out 3 rfl rfl _ (0 : Int) _ _ rfl (by simp) hgl ?_; intro ad n1 cp w3 hn1 hM4 hs3 hk3 ha3; have m6 : w3.cell? ⟨bm, 2, none⟩ = some vc := hM4.cell 1 rfl 2; have f6 : w3.frozen? ⟨bm, 2, none⟩ = false := hM4.free 1 rfl 2; have mb3 : bm < w3.heap.size := (hM4.box 1 rfl).2.1; have hM5 := Lib.hid (hM4.setBox 1 rfl 2 (.slice ad n1 cp)); clear hM4)
    obtain ⟨W4, hW4⟩ : ∃ W4, w3.setCell ⟨bm, 2, none⟩ (.slice ad n1 cp) = W4 := ⟨_, rfl⟩
    rw [hW4] at hM5 ⊢
    have hM6 : Mem B w0 W4 (cA bx regs mv bm room ((alive c.os : Int) + 1) vo cs (.slice ad n1 cp) (c.cs ++ [0]) vg c.gone ++ (objsE cs ++ T)) := hM5.out
    have hnw := onew_any B w0 W4 _ 1 2 5 bm #[vo, .pointer (some ⟨bx, 0, none⟩), .slice ad n1 cp, .int .i64 room, .int .i64 ((alive c.os : Int) + 1), vg] 99 vo cs hM6 (oAt_of (A := cA bx regs mv bm room ((alive c.os : Int) + 1) vo cs (.slice ad n1 cp) (c.cs ++ [0]) vg c.gone) rfl) rfl rfl (by decide) n hn (by rw [Hcl2.out]; exact Hl.out)
    have wb4 : bm < W4.heap.size := (hM6.box 1 rfl).2.1
    have Hnw := Lib.hid hnw
    clear hnw hM5 hM6 hW4 m6 f6 mb3 hn1 y2 yb
    go_wp2_with fail
    refine Hnw.out.mono ?_
    rintro e w5 ⟨b', v', vo', rfl, hM7⟩
    have hM8 : Mem B w0 w5 (cA bx regs mv bm room ((alive c.os : Int) + 1) vo' (cs ++ [some ⟨b', v', zerosV n⟩]) (.slice ad n1 cp) (c.cs ++ [0]) vg c.gone ++ (objsE (cs ++ [some ⟨b', v', zerosV n⟩]) ++ T)) := objs_push (c := some ⟨b', v', zerosV n⟩) (hM7.cast rfl)
    have hal : ((alive (c.os ++ [some (zerosV n)]) : Nat) : Int) = (alive c.os : Int) + 1 := by unfold alive; rw [List.countP_append]; simp
    rw [← hal] at hM8
    have hC8 : CM B w0 bx regs mv bm room ⟨c.os ++ [some (zerosV n)], c.cs ++ [0], c.gone⟩ T w5 := ⟨vo', _, _, vg, by rw [← Hc.out]; simp [conts], hM8⟩
    have HC8 := Lib.hid hC8
    rw [Hcl2.out]
    clear hM7 hM8 hC8 hal
    go_wp2_with fail
    refine bodyPost_ret (v := .tuple #[.int .i64 (c.os.length : Int), .int .i64 0]) (by simp [results, Try.results158, go_sem]) rfl ?_
    exact ⟨fun h => absurd Hr.out (by omega), fun _ => ⟨rfl, HC8.out⟩⟩
end
end Go.Proofs.Ytmmcjjklmcfegaa
