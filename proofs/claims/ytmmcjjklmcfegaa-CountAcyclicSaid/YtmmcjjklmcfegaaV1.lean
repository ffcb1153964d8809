/- count.Play, walked. -/
import Derived.Test.YtmmcjjklmcfegaaR9
import Derived.Test.YtmmcjjklmcfegaaV0
import Derived.Test.YtmmcjjklmcfegaaBase2
import Derived.Test.YtmmcjjklmcfegaaMx
import Derived.Test.YtmmcjjklmcfegaaTak
import Derived.Deep.CutBlock
import Derived.Deep.RegionLaw
namespace Go.Proofs.Ytmmcjjklmcfegaa
open Go.RowKit Go.Shelf
def cellsC (p : Int × Int) : List Value := [.int .i64 p.1, .int .i64 p.2]
theorem cellsC_one (p : Int × Int) : ∀ u ∈ cellsC p, u.oneCell' = true := by
  intro u hu
  simp only [cellsC, List.mem_cons, List.not_mem_nil, or_false] at hu
  rcases hu with rfl | rfl <;> rfl
theorem elemCounts : Elem Try.prog 38 53 2 16 (.agg #[.int .i64 0, .int .i64 0]) := ⟨by kernel_rfl, info_parts (by kernel_rfl), rfl, by decide⟩
def theres (s : Sm Cx) (k : Nat) : List (Int × Int) := ((thereL s.os s.os.length).take k).map fun i => (i, s.x.cs.getD i.toNat 0)
def CPlaySays (room : Int) (g : G) (ds : List Dd) (w w' : World) (e : Ending) : Prop :=
  ∃ s vo vt vg, s = (runs (cKd room).step (startC g) ds).1 ∧ e = .returned (.tuple #[.agg #[vo, vt, vg], .int .i64 0]) ∧
    Mem w.heap.size w w' [rowT 89 3 cellsO vo (runs (cKd room).step (startC g) ds).2, rowT 53 2 cellsC vt (theres s s.os.length), rowI 3 vg s.x.gone]
theorem of_cps {w W : World} {L : List Ent} {g : G} (hG : Good g) {v : Value} (hg : IsGraph w v g) {R : Ending → World → Prop} (hM : Mem w.heap.size w W L)
    (h : ∀ aO cO cs w', conts cs = g.objs.map some → Mem w.heap.size w w' (rowP (.slice aO cs.length cO) cs :: (objsE cs ++ L)) → R (.returned (.slice aO cs.length cO)) w') : Calls Try.prog 37 #[v] W R := by
  refine (of_any g hG v W (hg.later hM.below)).mono ?_
  rintro e w' ⟨vo, cs, rfl, h1, h2⟩
  have h3 := hM.callMem h2
  obtain ⟨aO, cO, rfl⟩ := (h3.cast (L' := [rowP vo cs] ++ (objsE cs ++ L)) rfl).ptrSlice (oAt_of (A := [rowP vo cs]) (kp := 0) (vo := vo) rfl)
  exact h aO cO cs w' h1 h3
theorem permA {x i p : Ent} {os R : List Ent} : (x :: p :: i :: (os ++ R)).Perm (x :: i :: p :: (os ++ R)) := List.Perm.cons _ (List.Perm.swap _ _ _)
theorem permB {x i p : Ent} {os R : List Ent} : (x :: p :: i :: (os ++ R)).Perm (x :: p :: (os ++ i :: R)) := List.Perm.cons _ (List.Perm.cons _ List.perm_middle.symm)
theorem pushIn {x a b : Ent} {P Q : List Ent} : (x :: a :: b :: (P ++ Q)).Perm (a :: b :: (P ++ x :: Q)) := (List.Perm.swap _ _ _).trans (List.Perm.cons _ ((List.Perm.swap _ _ _).trans (List.Perm.cons _ List.perm_middle.symm)))
theorem pull1 {m x : Ent} {L Q : List Ent} : (x :: m :: (L ++ Q)).Perm (m :: (L ++ x :: Q)) := (List.Perm.swap _ _ _).trans (List.Perm.cons _ List.perm_middle.symm)
theorem pull2 {m x y : Ent} {L Q : List Ent} : (x :: y :: m :: (L ++ Q)).Perm (m :: (L ++ x :: y :: Q)) := (List.Perm.cons _ pull1).trans pull1
theorem pull3 {m x y z : Ent} {L Q : List Ent} : (x :: y :: z :: m :: (L ++ Q)).Perm (m :: (L ++ x :: y :: z :: Q)) := (List.Perm.cons _ pull2).trans pull1
theorem ix0 (a0 b0 a1 b1 a2 b2 a3 b3 a4 b4 a5 b5 a6 b6 a7 b7 : Value) (w : World) : Sem.run Try.prog (Instr.index 82 (.agg #[a0, b0, a1, b1, a2, b2, a3, b3, a4, b4, a5, b5, a6, b6, a7, b7]) (.int .i64 0)) w = .ok (.agg #[a0, b0]) w := by kernel_rfl
theorem ix1 (a0 b0 a1 b1 a2 b2 a3 b3 a4 b4 a5 b5 a6 b6 a7 b7 : Value) (w : World) : Sem.run Try.prog (Instr.index 82 (.agg #[a0, b0, a1, b1, a2, b2, a3, b3, a4, b4, a5, b5, a6, b6, a7, b7]) (.int .i64 1)) w = .ok (.agg #[a1, b1]) w := by kernel_rfl
theorem ix2 (a0 b0 a1 b1 a2 b2 a3 b3 a4 b4 a5 b5 a6 b6 a7 b7 : Value) (w : World) : Sem.run Try.prog (Instr.index 82 (.agg #[a0, b0, a1, b1, a2, b2, a3, b3, a4, b4, a5, b5, a6, b6, a7, b7]) (.int .i64 2)) w = .ok (.agg #[a2, b2]) w := by kernel_rfl
theorem ix3 (a0 b0 a1 b1 a2 b2 a3 b3 a4 b4 a5 b5 a6 b6 a7 b7 : Value) (w : World) : Sem.run Try.prog (Instr.index 82 (.agg #[a0, b0, a1, b1, a2, b2, a3, b3, a4, b4, a5, b5, a6, b6, a7, b7]) (.int .i64 3)) w = .ok (.agg #[a3, b3]) w := by kernel_rfl
theorem ix4 (a0 b0 a1 b1 a2 b2 a3 b3 a4 b4 a5 b5 a6 b6 a7 b7 : Value) (w : World) : Sem.run Try.prog (Instr.index 82 (.agg #[a0, b0, a1, b1, a2, b2, a3, b3, a4, b4, a5, b5, a6, b6, a7, b7]) (.int .i64 4)) w = .ok (.agg #[a4, b4]) w := by kernel_rfl
theorem ix5 (a0 b0 a1 b1 a2 b2 a3 b3 a4 b4 a5 b5 a6 b6 a7 b7 : Value) (w : World) : Sem.run Try.prog (Instr.index 82 (.agg #[a0, b0, a1, b1, a2, b2, a3, b3, a4, b4, a5, b5, a6, b6, a7, b7]) (.int .i64 5)) w = .ok (.agg #[a5, b5]) w := by kernel_rfl
theorem ix6 (a0 b0 a1 b1 a2 b2 a3 b3 a4 b4 a5 b5 a6 b6 a7 b7 : Value) (w : World) : Sem.run Try.prog (Instr.index 82 (.agg #[a0, b0, a1, b1, a2, b2, a3, b3, a4, b4, a5, b5, a6, b6, a7, b7]) (.int .i64 6)) w = .ok (.agg #[a6, b6]) w := by kernel_rfl
theorem ix7 (a0 b0 a1 b1 a2 b2 a3 b3 a4 b4 a5 b5 a6 b6 a7 b7 : Value) (w : World) : Sem.run Try.prog (Instr.index 82 (.agg #[a0, b0, a1, b1, a2, b2, a3, b3, a4, b4, a5, b5, a6, b6, a7, b7]) (.int .i64 7)) w = .ok (.agg #[a7, b7]) w := by kernel_rfl
set_option maxRecDepth 100000 in
set_option maxHeartbeats 8000000 in
theorem cplay_yes (g : G) (hG : Good g) (v u : Value) (room : Int) (hr1 : 1 ≤ room) (hr2 : room ≤ 64) (ds : List Dd) (w : World) (hg : IsGraph w v g) (hu : IsTup 5 cellsD w u ds) (hd : ∀ d ∈ ds, DdOk d) (hn : ds.length ≤ 100) :
    Calls Try.prog 21 #[v, .int .i64 room, u] w fun e w' => CPlaySays room g ds w w' e := by
  have Hg := Lib.hid hg
  have HG := Lib.hid hG
  have Hu := Lib.hid hu
  have hD := Lib.hid hd
  obtain ⟨au, cu, rfl, _⟩ := hu.slice
  obtain ⟨vo, vr, rfl, ho, hr⟩ := hg
  obtain ⟨ao, co, rfl, hlo⟩ := ho.slice
  obtain ⟨ar, cr, rfl, hlr⟩ := hr.slice
  have hM0 := ((Mem.start w).alloc #[.slice ao g.objs.length co, .slice ar g.roots.length cr] 25).alloc #[.slice none 0 0, .slice none 0 0, .slice none 0 0] 41
  simp only [World.size_alloc] at hM0
  have HM0 := Lib.hid hM0
  have hn2 : ¬ (100 : Int) < ds.length := by omega
  have hn24 := hG.objs
  have hr3 : ¬ room < 1 := by omega
  have hr4 : ¬ 64 < room := by omega
  clear ho hr hG hu hd hM0
  go_enter Try.func21, Try.ntmps21
  go_wp2_with fail
  refine (gcheck_yes _ g _ (Hg.out.later HM0.out.below) HG.out).mono ?_
  rintro e w1 ⟨rfl, hb1⟩
  have hM1 := HM0.out.call hb1
  have p0 := hM1.cell 1 rfl 0
  have p1 := hM1.cell 1 rfl 1
  have pb := (hM1.box 1 rfl).2.1
  have HM1 := Lib.hid hM1
  clear hM1 hb1 HM0
  go_upto_region 8 with (fail)
  go_cut [9] (fun s9 W => ∃ (bm : Nat) (vo : Value) (cs : List (Option Oc)) (gC : Nat), s9 = .pointer (some ⟨bm, 0, none⟩) ∧ conts cs = g.objs.map some ∧ Mem w.heap.size w W (ebox bm #[vo, .pointer none, .slice (some ⟨gC, 0, none⟩) g.objs.length g.objs.length, .int .i64 room, .int .i64 (g.objs.length : Int), .slice none 0 0] 99 :: rowP vo cs :: rowI 3 (.slice (some ⟨gC, 0, none⟩) g.objs.length g.objs.length) (List.replicate g.objs.length 0) :: (objsE cs ++ [ebox (w.heap.size + 1) #[.slice none 0 0, .slice none 0 0, .slice none 0 0] 41, ebox w.heap.size #[.slice ao g.objs.length co, .slice ar g.roots.length cr] 25])))
  case first =>
    obtain ⟨mk, hmk, hmo⟩ := make_fun elemInts g.objs.length (by omega)
    have HK := Lib.hid (hmo w.heap.size w)
    have HNz := HM1
    clear hmo
    go_region_held3 (fun W => W.cell? ⟨w.heap.size, 0, none⟩ = some (.slice ao g.objs.length co) ∧ W.cell? ⟨w.heap.size, 1, none⟩ = some (.slice ar g.roots.length cr))
      (first | (refine BoxIn.both (B := w.heap.size) (w0 := w) (t := 25) ?_; apply Exists.intro; apply And.intro; (focus (repeat (first | exact hR | exact HNz.out | with_reducible apply Mem.drew | with_reducible apply HK.out | with_reducible apply Mem.alloc))); (focus simp)) | fail)
      (first
        | (go_at_call 37
           apply of_cps HG.out Hg.out
           (focus (repeat (first | exact hR | exact HNz.out | with_reducible apply Mem.drew | with_reducible apply HK.out | with_reducible apply Mem.alloc)))
           intro aO cO csu wq hcs hR)
        | fail)
    all_goals
      go_wp2_with fail
      go_meet
      apply Exists.intro; apply Exists.intro; apply Exists.intro; apply Exists.intro
      apply And.intro
      focus rfl
      apply And.intro
      focus exact hcs
      apply mem_cps
      (focus (repeat (first | exact hR | exact HNz.out | with_reducible apply Mem.drew | with_reducible apply HK.out | with_reducible apply Mem.alloc)))
      intro hF
      first | exact hF.perm permA | exact hF.perm permB | fail
  case rest =>
    obtain ⟨bm, vO, cs, gC, rfl, hcs, hM⟩ := hcut
    clear HM1 p0 p1 pb
    have r0 := hM.boxCell (b := w.heap.size) (c := #[.slice ao g.objs.length co, .slice ar g.roots.length cr]) (t := 25) (by simp) 0 rfl
    have r1 := hM.boxCell (b := w.heap.size) (c := #[.slice ao g.objs.length co, .slice ar g.roots.length cr]) (t := 25) (by simp) 1 rfl
    have rb : w.heap.size < wc.heap.size := (hM.lt (x := ebox w.heap.size #[.slice ao g.objs.length co, .slice ar g.roots.length cr] 25) (by simp) _ rfl).2
    obtain ⟨v0, v1, v2, v3, v4, v5, v6, v7, hv8⟩ := eight (firstR_len HG.out.roots)
    have hrv : regsV (firstR g.roots) = .agg #[.bool v0.ref, .int .i64 v0.n, .bool v1.ref, .int .i64 v1.n, .bool v2.ref, .int .i64 v2.n, .bool v3.ref, .int .i64 v3.n, .bool v4.ref, .int .i64 v4.n, .bool v5.ref, .int .i64 v5.n, .bool v6.ref, .int .i64 v6.n, .bool v7.ref, .int .i64 v7.n] := by rw [hv8]; rfl
    have hFi := first_any g _ wc (Hg.out.later hM.below) HG.out.roots
    rw [hrv] at hFi
    have HFi := Lib.hid hFi
    have Hv8 := Lib.hid hv8
    have HM := Lib.hid hM
    have Hcs := Lib.hid hcs
    clear hM hcs hFi hrv hv8
    go_wp2_with fail
    refine HFi.out.mono ?_
    rintro e w3 ⟨rfl, hb3⟩
    have hM3 := HM.out.call hb3
    have hM4 := hM3.alloc #[.bool v0.ref, .int .i64 v0.n, .bool v1.ref, .int .i64 v1.n, .bool v2.ref, .int .i64 v2.n, .bool v3.ref, .int .i64 v3.n, .bool v4.ref, .int .i64 v4.n, .bool v5.ref, .int .i64 v5.n, .bool v6.ref, .int .i64 v6.n, .bool v7.ref, .int .i64 v7.n, cMv bm] 87
    have e : mbox w3.heap.size (firstR g.roots) (cMv bm) = ebox w3.heap.size #[.bool v0.ref, .int .i64 v0.n, .bool v1.ref, .int .i64 v1.n, .bool v2.ref, .int .i64 v2.n, .bool v3.ref, .int .i64 v3.n, .bool v4.ref, .int .i64 v4.n, .bool v5.ref, .int .i64 v5.n, .bool v6.ref, .int .i64 v6.n, .bool v7.ref, .int .i64 v7.n, cMv bm] 87 := by unfold mbox mcells; rw [Hv8.out]; rfl
    rw [← e] at hM4
    obtain ⟨W4, hW4⟩ : ∃ W4, w3.alloc (.cells #[.bool v0.ref, .int .i64 v0.n, .bool v1.ref, .int .i64 v1.n, .bool v2.ref, .int .i64 v2.n, .bool v3.ref, .int .i64 v3.n, .bool v4.ref, .int .i64 v4.n, .bool v5.ref, .int .i64 v5.n, .bool v6.ref, .int .i64 v6.n, .bool v7.ref, .int .i64 v7.n, cMv bm] 87) = W4 := ⟨_, rfl⟩
    rw [hW4] at hM4
    obtain ⟨bx, hbx⟩ : ∃ bx, w3.heap.size = bx := ⟨_, rfl⟩
    rw [hbx] at hM4
    have m1 : W4.cell? ⟨bm, 1, none⟩ = some (.pointer none) := hM4.cell 1 rfl 1
    have mf := hM4.free 1 rfl 1
    have mb : bm < W4.heap.size := (hM4.box 1 rfl).2.1
    have mbx : bx < W4.heap.size := (hM4.box 0 rfl).2.1
    have hM5 := hM4.setBox 1 rfl 1 (.pointer (some ⟨bx, 0, none⟩))
    have HM5 := Lib.hid hM5
    have HW4 := Lib.hid hW4
    have Hbx := Lib.hid hbx
    clear hM3 hM4 hM5 hW4 hbx HFi HM e hb3 r0 r1
    go_upto_region 10 with (fail)
    have hW4' : w3.alloc (.cells #[.bool v0.ref, .int .i64 v0.n, .bool v1.ref, .int .i64 v1.n, .bool v2.ref, .int .i64 v2.n, .bool v3.ref, .int .i64 v3.n, .bool v4.ref, .int .i64 v4.n, .bool v5.ref, .int .i64 v5.n, .bool v6.ref, .int .i64 v6.n, .bool v7.ref, .int .i64 v7.n, .iface 96 (.pointer (some ⟨bm, 0, none⟩))] 87) = W4 := HW4.out
    rw [hW4', Hbx.out]
    clear hW4'
    go_upto_region 11 with (fail)
    obtain ⟨W5, hW5⟩ : ∃ W5, W4.setCell ⟨bm, 1, none⟩ (.pointer (some ⟨bx, 0, none⟩)) = W5 := ⟨_, rfl⟩
    have hM6 := HM5.out
    rw [hW5] at hM6 ⊢
    have hM7 : Mem w.heap.size w W5 (cA bx (firstR g.roots) (cMv bm) bm room (g.objs.length : Int) vO cs (.slice (some ⟨gC, 0, none⟩) g.objs.length g.objs.length) (ups (List.replicate g.objs.length 0) ((firstR g.roots).take 0)) (.slice none 0 0) [] ++ (objsE cs ++ [ebox (w.heap.size + 1) #[.slice none 0 0, .slice none 0 0, .slice none 0 0] 41, ebox w.heap.size #[.slice ao g.objs.length co, .slice ar g.roots.length cr] 25])) :=
      Mem.toT (P := [mbox bx (firstR g.roots) (cMv bm), ebox bm #[vO, .pointer (some ⟨bx, 0, none⟩), .slice (some ⟨gC, 0, none⟩) g.objs.length g.objs.length, .int .i64 room, .int .i64 (g.objs.length : Int), .slice none 0 0] 99, rowP vO cs, rowI 3 (.slice (some ⟨gC, 0, none⟩) g.objs.length g.objs.length) (List.replicate g.objs.length 0)]) (hM6.nilI 3)
    have e8 : mbox bx (firstR g.roots) (cMv bm) = ebox bx #[.bool v0.ref, .int .i64 v0.n, .bool v1.ref, .int .i64 v1.n, .bool v2.ref, .int .i64 v2.n, .bool v3.ref, .int .i64 v3.n, .bool v4.ref, .int .i64 v4.n, .bool v5.ref, .int .i64 v5.n, .bool v6.ref, .int .i64 v6.n, .bool v7.ref, .int .i64 v7.n, cMv bm] 87 := by unfold mbox mcells; rw [Hv8.out]; rfl
    have hMm := hM7
    unfold cA at hMm
    rw [e8] at hMm
    have k0 := hMm.cell 0 rfl 0
    have k1 := hMm.cell 0 rfl 1
    have k2 := hMm.cell 0 rfl 2
    have k3 := hMm.cell 0 rfl 3
    have k4 := hMm.cell 0 rfl 4
    have k5 := hMm.cell 0 rfl 5
    have k6 := hMm.cell 0 rfl 6
    have k7 := hMm.cell 0 rfl 7
    have k8 := hMm.cell 0 rfl 8
    have k9 := hMm.cell 0 rfl 9
    have k10 := hMm.cell 0 rfl 10
    have k11 := hMm.cell 0 rfl 11
    have k12 := hMm.cell 0 rfl 12
    have k13 := hMm.cell 0 rfl 13
    have k14 := hMm.cell 0 rfl 14
    have k15 := hMm.cell 0 rfl 15
    have kb : bx < W5.heap.size := (hMm.box 0 rfl).2.1
    obtain ⟨vc, hvc⟩ : ∃ vc, Value.slice (some ⟨gC, 0, none⟩) g.objs.length g.objs.length = vc := ⟨_, rfl⟩
    rw [hvc] at hM7
    obtain ⟨R, hR⟩ : ∃ R, [ebox (w.heap.size + 1) #[.slice none 0 0, .slice none 0 0, .slice none 0 0] 41, ebox w.heap.size #[.slice ao g.objs.length co, .slice ar g.roots.length cr] 25] = R := ⟨_, rfl⟩
    have HmR : Hid (ebox w.heap.size #[.slice ao g.objs.length co, .slice ar g.roots.length cr] 25 ∈ R) := Lib.hid (by rw [← hR]; simp)
    have HR := Lib.hid hR
    rw [hR] at hM7
    have HM7 := Lib.hid hM7
    clear hR hM6 hM7 hMm e8 hW5 HM5 HW4 Hbx m1 mf mb mbx rb hvc
    go_upto_region 12 with (fail)
    go_loopw [12, 68] (fun _ s68 wr => ∃ k : Nat, k ≤ 8 ∧ s68 = .int .i64 (k : Int) ∧ Mem w.heap.size w wr (cA bx (firstR g.roots) (cMv bm) bm room (g.objs.length : Int) vO cs vc (ups (List.replicate g.objs.length 0) ((firstR g.roots).take k)) (.slice none 0 0) [] ++ (objsE cs ++ R))) (fun _ i _ => 8 - (intOf i).toNat)
    case atStart => exact ⟨0, by omega, rfl, HM7.out⟩
    case round =>
      clear HM7 k0 k1 k2 k3 k4 k5 k6 k7 k8 k9 k10 k11 k12 k13 k14 k15 kb
      obtain ⟨k, hk, rfl, hM⟩ := hrel
      obtain rfl | rfl | rfl | rfl | rfl | rfl | rfl | rfl | rfl : k = 0 ∨ k = 1 ∨ k = 2 ∨ k = 3 ∨ k = 4 ∨ k = 5 ∨ k = 6 ∨ k = 7 ∨ k = 8 := by omega
      · have hx : (firstR g.roots)[0]? = some v0 := by rw [Hv8.out]; rfl
        have hix := ix0 (.bool v0.ref) (.int .i64 v0.n) (.bool v1.ref) (.int .i64 v1.n) (.bool v2.ref) (.int .i64 v2.n) (.bool v3.ref) (.int .i64 v3.n) (.bool v4.ref) (.int .i64 v4.n) (.bool v5.ref) (.int .i64 v5.n) (.bool v6.ref) (.int .i64 v6.n) (.bool v7.ref) (.int .i64 v7.n) wr
        have hup := up_any w.heap.size w bx (firstR g.roots) (cMv bm) bm room _ vO cs vc _ _ _ (wr.alloc (.cells #[.bool v0.ref, .int .i64 v0.n] 80)) _ v0 (hM.alloc_ _) (up_fine (fun u hu hr => (reg_rng HG.out (List.mem_of_mem_take hu) hr).1) (by rw [List.length_take]; omega) (fun hr => reg_rng HG.out (List.mem_of_getElem? hx) hr))
        rw [← ups_snoc, ← take_succ_some _ _ _ hx] at hup
        have Hup := Lib.hid hup
        clear hup hM hx
        go_wp2_with fail
        refine Hup.out.mono ?_
        rintro e w6 ⟨rfl, hM6⟩
        have HM6 := Lib.hid hM6
        clear hM6 Hup
        go_wp2_with fail
        go_roundw
        case rel => exact ⟨1, by omega, rfl, HM6.out⟩
        case measure => simp [intOf]
      · have hx : (firstR g.roots)[1]? = some v1 := by rw [Hv8.out]; rfl
        have hix := ix1 (.bool v0.ref) (.int .i64 v0.n) (.bool v1.ref) (.int .i64 v1.n) (.bool v2.ref) (.int .i64 v2.n) (.bool v3.ref) (.int .i64 v3.n) (.bool v4.ref) (.int .i64 v4.n) (.bool v5.ref) (.int .i64 v5.n) (.bool v6.ref) (.int .i64 v6.n) (.bool v7.ref) (.int .i64 v7.n) wr
        have hup := up_any w.heap.size w bx (firstR g.roots) (cMv bm) bm room _ vO cs vc _ _ _ (wr.alloc (.cells #[.bool v1.ref, .int .i64 v1.n] 80)) _ v1 (hM.alloc_ _) (up_fine (fun u hu hr => (reg_rng HG.out (List.mem_of_mem_take hu) hr).1) (by rw [List.length_take]; omega) (fun hr => reg_rng HG.out (List.mem_of_getElem? hx) hr))
        rw [← ups_snoc, ← take_succ_some _ _ _ hx] at hup
        have Hup := Lib.hid hup
        clear hup hM hx
        go_wp2_with fail
        refine Hup.out.mono ?_
        rintro e w6 ⟨rfl, hM6⟩
        have HM6 := Lib.hid hM6
        clear hM6 Hup
        go_wp2_with fail
        go_roundw
        case rel => exact ⟨2, by omega, rfl, HM6.out⟩
        case measure => simp [intOf]
      · have hx : (firstR g.roots)[2]? = some v2 := by rw [Hv8.out]; rfl
        have hix := ix2 (.bool v0.ref) (.int .i64 v0.n) (.bool v1.ref) (.int .i64 v1.n) (.bool v2.ref) (.int .i64 v2.n) (.bool v3.ref) (.int .i64 v3.n) (.bool v4.ref) (.int .i64 v4.n) (.bool v5.ref) (.int .i64 v5.n) (.bool v6.ref) (.int .i64 v6.n) (.bool v7.ref) (.int .i64 v7.n) wr
        have hup := up_any w.heap.size w bx (firstR g.roots) (cMv bm) bm room _ vO cs vc _ _ _ (wr.alloc (.cells #[.bool v2.ref, .int .i64 v2.n] 80)) _ v2 (hM.alloc_ _) (up_fine (fun u hu hr => (reg_rng HG.out (List.mem_of_mem_take hu) hr).1) (by rw [List.length_take]; omega) (fun hr => reg_rng HG.out (List.mem_of_getElem? hx) hr))
        rw [← ups_snoc, ← take_succ_some _ _ _ hx] at hup
        have Hup := Lib.hid hup
        clear hup hM hx
        go_wp2_with fail
        refine Hup.out.mono ?_
        rintro e w6 ⟨rfl, hM6⟩
        have HM6 := Lib.hid hM6
        clear hM6 Hup
        go_wp2_with fail
        go_roundw
        case rel => exact ⟨3, by omega, rfl, HM6.out⟩
        case measure => simp [intOf]
      · have hx : (firstR g.roots)[3]? = some v3 := by rw [Hv8.out]; rfl
        have hix := ix3 (.bool v0.ref) (.int .i64 v0.n) (.bool v1.ref) (.int .i64 v1.n) (.bool v2.ref) (.int .i64 v2.n) (.bool v3.ref) (.int .i64 v3.n) (.bool v4.ref) (.int .i64 v4.n) (.bool v5.ref) (.int .i64 v5.n) (.bool v6.ref) (.int .i64 v6.n) (.bool v7.ref) (.int .i64 v7.n) wr
        have hup := up_any w.heap.size w bx (firstR g.roots) (cMv bm) bm room _ vO cs vc _ _ _ (wr.alloc (.cells #[.bool v3.ref, .int .i64 v3.n] 80)) _ v3 (hM.alloc_ _) (up_fine (fun u hu hr => (reg_rng HG.out (List.mem_of_mem_take hu) hr).1) (by rw [List.length_take]; omega) (fun hr => reg_rng HG.out (List.mem_of_getElem? hx) hr))
        rw [← ups_snoc, ← take_succ_some _ _ _ hx] at hup
        have Hup := Lib.hid hup
        clear hup hM hx
        go_wp2_with fail
        refine Hup.out.mono ?_
        rintro e w6 ⟨rfl, hM6⟩
        have HM6 := Lib.hid hM6
        clear hM6 Hup
        go_wp2_with fail
        go_roundw
        case rel => exact ⟨4, by omega, rfl, HM6.out⟩
        case measure => simp [intOf]
      · have hx : (firstR g.roots)[4]? = some v4 := by rw [Hv8.out]; rfl
        have hix := ix4 (.bool v0.ref) (.int .i64 v0.n) (.bool v1.ref) (.int .i64 v1.n) (.bool v2.ref) (.int .i64 v2.n) (.bool v3.ref) (.int .i64 v3.n) (.bool v4.ref) (.int .i64 v4.n) (.bool v5.ref) (.int .i64 v5.n) (.bool v6.ref) (.int .i64 v6.n) (.bool v7.ref) (.int .i64 v7.n) wr
        have hup := up_any w.heap.size w bx (firstR g.roots) (cMv bm) bm room _ vO cs vc _ _ _ (wr.alloc (.cells #[.bool v4.ref, .int .i64 v4.n] 80)) _ v4 (hM.alloc_ _) (up_fine (fun u hu hr => (reg_rng HG.out (List.mem_of_mem_take hu) hr).1) (by rw [List.length_take]; omega) (fun hr => reg_rng HG.out (List.mem_of_getElem? hx) hr))
        rw [← ups_snoc, ← take_succ_some _ _ _ hx] at hup
        have Hup := Lib.hid hup
        clear hup hM hx
        go_wp2_with fail
        refine Hup.out.mono ?_
        rintro e w6 ⟨rfl, hM6⟩
        have HM6 := Lib.hid hM6
        clear hM6 Hup
        go_wp2_with fail
        go_roundw
        case rel => exact ⟨5, by omega, rfl, HM6.out⟩
        case measure => simp [intOf]
      · have hx : (firstR g.roots)[5]? = some v5 := by rw [Hv8.out]; rfl
        have hix := ix5 (.bool v0.ref) (.int .i64 v0.n) (.bool v1.ref) (.int .i64 v1.n) (.bool v2.ref) (.int .i64 v2.n) (.bool v3.ref) (.int .i64 v3.n) (.bool v4.ref) (.int .i64 v4.n) (.bool v5.ref) (.int .i64 v5.n) (.bool v6.ref) (.int .i64 v6.n) (.bool v7.ref) (.int .i64 v7.n) wr
        have hup := up_any w.heap.size w bx (firstR g.roots) (cMv bm) bm room _ vO cs vc _ _ _ (wr.alloc (.cells #[.bool v5.ref, .int .i64 v5.n] 80)) _ v5 (hM.alloc_ _) (up_fine (fun u hu hr => (reg_rng HG.out (List.mem_of_mem_take hu) hr).1) (by rw [List.length_take]; omega) (fun hr => reg_rng HG.out (List.mem_of_getElem? hx) hr))
        rw [← ups_snoc, ← take_succ_some _ _ _ hx] at hup
        have Hup := Lib.hid hup
        clear hup hM hx
        go_wp2_with fail
        refine Hup.out.mono ?_
        rintro e w6 ⟨rfl, hM6⟩
        have HM6 := Lib.hid hM6
        clear hM6 Hup
        go_wp2_with fail
        go_roundw
        case rel => exact ⟨6, by omega, rfl, HM6.out⟩
        case measure => simp [intOf]
      · have hx : (firstR g.roots)[6]? = some v6 := by rw [Hv8.out]; rfl
        have hix := ix6 (.bool v0.ref) (.int .i64 v0.n) (.bool v1.ref) (.int .i64 v1.n) (.bool v2.ref) (.int .i64 v2.n) (.bool v3.ref) (.int .i64 v3.n) (.bool v4.ref) (.int .i64 v4.n) (.bool v5.ref) (.int .i64 v5.n) (.bool v6.ref) (.int .i64 v6.n) (.bool v7.ref) (.int .i64 v7.n) wr
        have hup := up_any w.heap.size w bx (firstR g.roots) (cMv bm) bm room _ vO cs vc _ _ _ (wr.alloc (.cells #[.bool v6.ref, .int .i64 v6.n] 80)) _ v6 (hM.alloc_ _) (up_fine (fun u hu hr => (reg_rng HG.out (List.mem_of_mem_take hu) hr).1) (by rw [List.length_take]; omega) (fun hr => reg_rng HG.out (List.mem_of_getElem? hx) hr))
        rw [← ups_snoc, ← take_succ_some _ _ _ hx] at hup
        have Hup := Lib.hid hup
        clear hup hM hx
        go_wp2_with fail
        refine Hup.out.mono ?_
        rintro e w6 ⟨rfl, hM6⟩
        have HM6 := Lib.hid hM6
        clear hM6 Hup
        go_wp2_with fail
        go_roundw
        case rel => exact ⟨7, by omega, rfl, HM6.out⟩
        case measure => simp [intOf]
      · have hx : (firstR g.roots)[7]? = some v7 := by rw [Hv8.out]; rfl
        have hix := ix7 (.bool v0.ref) (.int .i64 v0.n) (.bool v1.ref) (.int .i64 v1.n) (.bool v2.ref) (.int .i64 v2.n) (.bool v3.ref) (.int .i64 v3.n) (.bool v4.ref) (.int .i64 v4.n) (.bool v5.ref) (.int .i64 v5.n) (.bool v6.ref) (.int .i64 v6.n) (.bool v7.ref) (.int .i64 v7.n) wr
        have hup := up_any w.heap.size w bx (firstR g.roots) (cMv bm) bm room _ vO cs vc _ _ _ (wr.alloc (.cells #[.bool v7.ref, .int .i64 v7.n] 80)) _ v7 (hM.alloc_ _) (up_fine (fun u hu hr => (reg_rng HG.out (List.mem_of_mem_take hu) hr).1) (by rw [List.length_take]; omega) (fun hr => reg_rng HG.out (List.mem_of_getElem? hx) hr))
        rw [← ups_snoc, ← take_succ_some _ _ _ hx] at hup
        have Hup := Lib.hid hup
        clear hup hM hx
        go_wp2_with fail
        refine Hup.out.mono ?_
        rintro e w6 ⟨rfl, hM6⟩
        have HM6 := Lib.hid hM6
        clear hM6 Hup
        go_wp2_with fail
        go_roundw
        case rel => exact ⟨8, by omega, rfl, HM6.out⟩
        case measure => simp [intOf]
      · simp only [Int.cast_ofNat_Int]
        have h8 : (firstR g.roots).take 8 = firstR g.roots := List.take_of_length_le (by rw [firstR_len HG.out.roots]; exact Nat.le_refl _)
        rw [h8] at hM
        have HM8 := Lib.hid hM
        have r0 := hM.boxCell (b := w.heap.size) (c := #[.slice ao g.objs.length co, .slice ar g.roots.length cr]) (t := 25) (by have := HmR.out; simp [this]) 0 rfl
        have rb : w.heap.size < wr.heap.size := (hM.lt (x := ebox w.heap.size #[.slice ao g.objs.length co, .slice ar g.roots.length cr] 25) (by have := HmR.out; simp [this]) _ rfl).2
        clear hM h8
        go_upto_region 17 with (fail)
        obtain ⟨vo', vr', he, ho, _⟩ := Hg.out
        cases he
        have Ho := Lib.hid ho
        clear ho
        go_loopw [14, 16, 78] (fun _ _ s78 wq => ∃ i : Nat, i ≤ g.objs.length ∧ s78 = .int .i64 (i : Int) ∧ Mem w.heap.size w wq (cA bx (firstR g.roots) (cMv bm) bm room (g.objs.length : Int) vO cs vc (ups (List.replicate g.objs.length 0) (firstR g.roots ++ (g.objs.take i).flatten)) (.slice none 0 0) [] ++ (objsE cs ++ R))) (fun _ _ i _ => g.objs.length - (intOf i).toNat)
        case atStart => exact ⟨0, Nat.zero_le _, rfl, by rw [List.take_zero, List.flatten_nil, List.append_nil]; exact HM8.out⟩
        case round =>
          clear HM8 r0 rb
          obtain ⟨i, hi, rfl, hM⟩ := hrel
          by_cases hlt : i < g.objs.length
          · obtain ⟨ob, hob⟩ := get_some _ _ hlt
            obtain ⟨b, off, cap2, uo, hv, hb, hb2, d1, _⟩ := Ho.out.at hM.below hob
            cases hv
            obtain ⟨_, _, _, uo', hv, _, _, d2, huo⟩ := Ho.out.at (Below.refl _ _) hob
            cases hv
            have huu : uo' = uo := by
              have h1 := hM.below.cell (p := ⟨b, off + i, none⟩) hb
              rw [d1, d2] at h1
              exact (Option.some.inj h1).symm
            subst huu
            obtain ⟨aq, cq, rfl, hlq⟩ := huo.slice
            have hof := HG.out.fields ob (List.mem_of_getElem? hob)
            have hMa := hM.alloc_ (.cells #[.slice aq ob.length cq] 94)
            obtain ⟨W6, hW6⟩ : ∃ W6, wr.alloc (.cells #[.slice aq ob.length cq] 94) = W6 := ⟨_, rfl⟩
            rw [hW6] at hMa
            have HMa := Lib.hid hMa
            have HW6 := Lib.hid hW6
            have Hob := Lib.hid hob
            have Hub := Lib.hid huo
            have HIi : Hid (i < g.objs.length) := Lib.hid hlt
            have hli : (i : Int) < (g.objs.length : Int) := by omega
            clear hM hMa hW6 hob huo d2
            go_upto_region 20 with (fail)
            rw [HW6.out]
            go_loopw [16, 85] (fun _ s85 wq => ∃ j : Nat, j ≤ ob.length ∧ s85 = .int .i64 (j : Int) ∧ Mem w.heap.size w wq (cA bx (firstR g.roots) (cMv bm) bm room (g.objs.length : Int) vO cs vc (ups (List.replicate g.objs.length 0) (firstR g.roots ++ (g.objs.take i).flatten ++ ob.take j)) (.slice none 0 0) [] ++ (objsE cs ++ R))) (fun _ i _ => ob.length - (intOf i).toNat)
            case atStart => exact ⟨0, Nat.zero_le _, rfl, by rw [List.take_zero, List.append_nil]; exact HMa.out⟩
            case round =>
              clear HMa d1 hb2
              obtain ⟨j, hj, rfl, hM⟩ := hrel
              by_cases hltj : j < ob.length
              · obtain ⟨x, hx⟩ := get_some _ _ hltj
                obtain ⟨bf, off2, cap3, hv, hbb, _, c0, c1, _⟩ := Hub.out.at hM.below hx
                cases hv
                have hxo : x ∈ g.objs.flatten := List.mem_flatten.2 ⟨ob, List.mem_of_getElem? Hob.out, List.mem_of_getElem? hx⟩
                have hln : (firstR g.roots ++ (g.objs.take i).flatten ++ ob.take j).length ≤ 1000 := by
                  have h1 := firstR_len HG.out.roots
                  have h2 := flat_len HG.out i
                  have h3 := take_len_le ob j
                  rw [List.length_append, List.length_append]; omega
                have hall : ∀ u ∈ firstR g.roots ++ (g.objs.take i).flatten ++ ob.take j, u.ref = true → 0 ≤ u.n := by
                  intro u hu hr
                  rw [List.mem_append, List.mem_append] at hu
                  rcases hu with (hu | hu) | hu
                  · exact (reg_rng HG.out hu hr).1
                  · obtain ⟨l, hl, hul⟩ := List.mem_flatten.1 hu
                    exact (fld_rng HG.out (List.mem_flatten.2 ⟨l, List.mem_of_mem_take hl, hul⟩) hr).1
                  · exact (fld_rng HG.out (List.mem_flatten.2 ⟨ob, List.mem_of_getElem? Hob.out, List.mem_of_mem_take hu⟩) hr).1
                have hup := up_any w.heap.size w bx (firstR g.roots) (cMv bm) bm room _ vO cs vc _ _ _ (wr.alloc (.cells #[.bool x.ref, .int .i64 x.n] 80)) _ x (hM.alloc_ _) (up_fine hall hln (fun hr => fld_rng HG.out hxo hr))
                rw [← ups_snoc, List.append_assoc (firstR g.roots ++ (g.objs.take i).flatten), ← take_succ_some _ _ _ hx] at hup
                have Hup := Lib.hid hup
                have e2 : (j : Int) < (ob.length : Int) := by omega
                clear hup hM hx hxo hln hall
                go_wp2_with fail
                refine Hup.out.mono ?_
                rintro e w6 ⟨rfl, hM6⟩
                have HM6 := Lib.hid hM6
                clear hM6 Hup
                go_wp2_with fail
                go_roundw
                case rel => exact ⟨j + 1, by omega, by go_num, HM6.out⟩
                case measure => simp [intOf]; omega
              · obtain rfl : j = ob.length := by omega
                rw [List.take_length, List.append_assoc, ← flat_take Hob.out] at hM
                have HM6 := Lib.hid hM
                clear hM
                go_wp2_with fail
                go_roundw
                case rel => exact ⟨i + 1, by have := HIi.out; omega, by go_num, HM6.out⟩
                case measure => simp [intOf]; have := HIi.out; omega
          · obtain rfl : i = g.objs.length := by omega
            have hst : ups (List.replicate g.objs.length 0) (firstR g.roots ++ (g.objs.take g.objs.length).flatten) = (startC0 g).cs := by
              rw [List.take_length, ups_append]; rfl
            rw [hst] at hM
            have hal : alive (startC0 g).os = g.objs.length := by
              unfold alive startC0
              simp only
              rw [List.countP_map]
              simp
            have hC : CM w.heap.size w bx (firstR g.roots) (cMv bm) bm room (zaps (startC0 g) 0) R wr := ⟨vO, cs, vc, .slice none 0 0, Hcs.out, by rw [show zaps (startC0 g) 0 = startC0 g from rfl, hal]; exact hM⟩
            have HC := Lib.hid hC
            have r0 := hM.boxCell (b := w.heap.size) (c := #[.slice ao g.objs.length co, .slice ar g.roots.length cr]) (t := 25) (by have := HmR.out; simp [this]) 0 rfl
            have rb : w.heap.size < wr.heap.size := (hM.lt (x := ebox w.heap.size #[.slice ao g.objs.length co, .slice ar g.roots.length cr] 25) (by have := HmR.out; simp [this]) _ rfl).2
            clear hM hC hst hal
            go_upto_region 26 with (fail)
            have hI0 := start_inv HG.out
            have hl0 : (startC0 g).os.length = g.objs.length := by simp [startC0]
            have hsm0 : Small (startC0 g) := ⟨fun x hx => by have := start_bnd HG.out x hx; omega, by rw [← hl0] at hn24; have := alive_le (startC0 g).os; show 0 + _ ≤ 2000; omega, fun i l hl => by have := (startI_inv HG.out).fine.flen i l hl; omega⟩
            have HI0 := Lib.hid hI0
            have Hl0 := Lib.hid hl0
            have Hsm0 := Lib.hid hsm0
            clear hI0 hl0 hsm0
            go_loopw [17, 97] (fun _ s97 wq => ∃ k : Nat, k ≤ g.objs.length ∧ s97 = .int .i64 (k : Int) ∧ CM w.heap.size w bx (firstR g.roots) (cMv bm) bm room (zaps (startC0 g) k) R wq) (fun _ i _ => g.objs.length - (intOf i).toNat)
            case atStart => exact ⟨0, Nat.zero_le _, rfl, HC.out⟩
            case round =>
              clear HC r0 rb
              obtain ⟨k, hk, rfl, hC⟩ := hrel
              by_cases hltk : k < g.objs.length
              · have hE := (zaps_end HI0.out k (by rw [Hl0.out]; exact hk)).1
                have hz := zaps_succ (startC0 g) k
                obtain ⟨S, hS⟩ : ∃ S, zaps (startC0 g) k = S := ⟨_, rfl⟩
                rw [hS] at hE hz hC
                have hlen : S.os.length = g.objs.length := hE.len.trans Hl0.out
                have hCk := hC
                obtain ⟨vo2, cs2, vc2, vg2, hc2, hM⟩ := hC
                have hcl : cs2.length = g.objs.length := by rw [← hlen, ← hc2, conts_len]
                obtain ⟨x, hx⟩ := get_some S.cs k (by rw [hE.inv.len, hlen]; exact hltk)
                obtain ⟨c, hcc⟩ := get_some cs2 k (by rw [hcl]; exact hltk)
                have hcl3 : S.cs.length = g.objs.length := hE.inv.len.trans hlen
                obtain ⟨g3, cap3, rfl, _, cb, hcc3, _⟩ := hM.intsAt 3 rfl (by intro e; rw [e] at hx; simp at hx)
                have c0 := hcc3 k x hx
                obtain ⟨g4, cap4, rfl, q0, _, qb⟩ := hM.ptrAt (oAt_of (A := cA bx (firstR g.roots) (cMv bm) bm room (alive S.os) vo2 cs2 (.slice (some ⟨g3, 0, none⟩) S.cs.length cap3) S.cs vg2 S.gone) (kp := 2) (vo := vo2) rfl) hcc
                have m0 : wr.cell? ⟨bm, 0, none⟩ = some (.slice (some ⟨g4, 0, none⟩) cs2.length cap4) := hM.cell 1 rfl 0
                have m2 : wr.cell? ⟨bm, 2, none⟩ = some (.slice (some ⟨g3, 0, none⟩) S.cs.length cap3) := hM.cell 1 rfl 2
                have mb : bm < wr.heap.size := (hM.box 1 rfl).2.1
                rw [hcl3] at m2
                rw [hcl] at m0
                have hos : S.os[k]? = some (c.map Oc.l) := by rw [← hc2]; unfold conts; rw [List.getElem?_map, hcc]; rfl
                have e2 : (k : Int) < (g.objs.length : Int) := by omega
                have HCk := Lib.hid hCk
                have Hk : Hid (k < g.objs.length) := Lib.hid hltk
                have Hz := Lib.hid hz
                have Hx := Lib.hid hx
                have Hos := Lib.hid hos
                have HE := Lib.hid hE
                clear hM hCk hc2 hlen hcl hcc hcl3 hcc3 hS hz hx hos hE
                by_cases hx0 : x = 0
                · cases c with
                  | none =>
                    have he : zaps (startC0 g) (k + 1) = S := Hz.out.trans (zap1_dead Hos.out)
                    have He := Lib.hid he
                    clear he
                    unfold ptrO at q0
                    simp only at q0
                    subst hx0
                    go_wp2_with fail
                    go_roundw
                    case rel => exact ⟨k + 1, by have := Hk.out; omega, by go_num, by rw [He.out]; exact HCk.out⟩
                    case measure => simp [intOf]; have := Hk.out; omega
                  | some o =>
                    subst hx0
                    have he : zaps (startC0 g) (k + 1) = dnF (objAt S.os (k : Int)) ⟨S.os.set k none, S.cs, S.gone ++ [(k : Int)]⟩ := Hz.out.trans (zap1_yes Hx.out Hos.out)
                    have hdr := drop_any w.heap.size w bx (firstR g.roots) (cMv bm) bm room _ R wr S k [] _ (Nat.le_refl _) HE.out.inv (lives_nat Hos.out) Hx.out (Hsm0.out.on HE.out) HCk.out
                    rw [← he] at hdr
                    have Hdr := Lib.hid hdr
                    unfold ptrO at q0
                    simp only at q0
                    clear hdr he
                    go_wp2_with fail
                    refine Hdr.out.mono ?_
                    rintro e w6 ⟨rfl, h6⟩
                    have H6 := Lib.hid h6
                    clear h6 Hdr
                    go_wp2_with fail
                    go_roundw
                    case rel => exact ⟨k + 1, by have := Hk.out; omega, by go_num, H6.out⟩
                    case measure => simp [intOf]; have := Hk.out; omega
                · have he : zaps (startC0 g) (k + 1) = S := Hz.out.trans (zap1_no Hx.out hx0)
                  have He := Lib.hid he
                  clear he
                  have hxb : (x == 0) = false := by simpa using hx0
                  go_wp2_with fail
                  go_roundw
                  case rel => exact ⟨k + 1, by have := Hk.out; omega, by go_num, by rw [He.out]; exact HCk.out⟩
                  case measure => simp [intOf]; have := Hk.out; omega
              · obtain rfl : k = g.objs.length := by omega
                have HC := Lib.hid hC
                clear hC
                obtain ⟨L0, hL0, hM0⟩ := cm_to HC.out
                have hM1 : HoldsM w.heap.size w bx (firstR g.roots) (cMv bm) L0 (ebox wr.heap.size #[.slice none 0 0, .slice none 0 0, .slice none 0 0] 41 :: rowT 89 3 cellsO (.slice none 0 0) [] :: R) (wr.alloc (.cells #[.slice none 0 0, .slice none 0 0, .slice none 0 0] 41)) :=
                  Mem.perm ((Mem.nilT hM0 89 3 cellsO).alloc #[.slice none 0 0, .slice none 0 0, .slice none 0 0] 41) (by
                    refine (List.Perm.cons _ (List.perm_middle.trans (List.Perm.cons _ List.perm_middle))).trans ?_
                    exact (List.Perm.swap _ _ _).trans (List.Perm.cons _ (List.Perm.swap _ _ _)))
                obtain ⟨b18, hb18⟩ : ∃ b18, wr.heap.size = b18 := ⟨_, rfl⟩
                obtain ⟨W9, hW9⟩ : ∃ W9, wr.alloc (.cells #[.slice none 0 0, .slice none 0 0, .slice none 0 0] 41) = W9 := ⟨_, rfl⟩
                rw [hW9, hb18] at hM1
                have hIs : IsC bx bm room (runs (cKd room).step (startC g) (ds.take 0)).1.os (runs (cKd room).step (startC g) (ds.take 0)).1.x L0 := hL0
                have hb1 : Hid (ebox w.heap.size #[.slice ao g.objs.length co, .slice ar g.roots.length cr] 25 ∈ R) := HmR
                have HM1 := Lib.hid hM1
                have HIs := Lib.hid hIs
                have Hb18 := Lib.hid hb18
                have HW9 := Lib.hid hW9
                clear hM1 hM0 hL0 hIs hb18 hW9 HC
                go_upto_region 33 with (fail)
                rw [HW9.out, Hb18.out]
                go_loopw [20, 124] (fun _ s124 wq => ∃ (k : Nat) (L : List Ent) (vU : Value), k ≤ ds.length ∧ s124 = .int .i64 (k : Int) ∧ Hid (IsC bx bm room (runs (cKd room).step (startC g) (ds.take k)).1.os (runs (cKd room).step (startC g) (ds.take k)).1.x L) ∧ HoldsM w.heap.size w bx (runs (cKd room).step (startC g) (ds.take k)).1.regs (cMv bm) L (ebox b18 #[vU, .slice none 0 0, .slice none 0 0] 41 :: rowT 89 3 cellsO vU (runs (cKd room).step (startC g) (ds.take k)).2 :: R) wq) (fun _ i _ => ds.length - (intOf i).toNat)
                case atStart => exact ⟨0, L0, _, Nat.zero_le _, rfl, HIs, HM1.out⟩
                case round =>
                  clear HM1 HIs
                  obtain ⟨k, L, vU, hk, rfl, hIs, hM⟩ := hrel
                  by_cases hltd : k < ds.length
                  · obtain ⟨d, hd⟩ := get_some _ _ hltd
                    obtain ⟨b, off, cap, hv, _, hb2, hc⟩ := Hu.out.at (Mem.below hM) hd
                    cases hv
                    obtain ⟨hI, hol⟩ := runsC_inv HG.out room k ds hk (by omega)
                    have HS := Lib.hid (runs_take (cKd room).step (startC g) hd)
                    obtain ⟨S, hS⟩ : ∃ S, runs (cKd room).step (startC g) (ds.take k) = S := ⟨_, rfl⟩
                    have hSl : S.2.length = k := by rw [← hS, runs_len, List.length_take]; omega
                    rw [hS] at hI hol hM hIs HS
                    have hdo := hD.out d (List.mem_of_getElem? hd)
                    obtain ⟨dk, dt, df, da, dn⟩ := d
                    have c0 : wr.cell? ⟨b, off + k * 5, none⟩ = some (.int .i64 dk) := hc 0 _ rfl
                    have c1 : wr.cell? ⟨b, off + k * 5 + 1, none⟩ = some (.int .i64 dt) := hc 1 _ rfl
                    have c2 : wr.cell? ⟨b, off + k * 5 + 2, none⟩ = some (.int .i64 df) := hc 2 _ rfl
                    have c3 : wr.cell? ⟨b, off + k * 5 + 3, none⟩ = some (.int .i64 da) := hc 3 _ rfl
                    have c4 : wr.cell? ⟨b, off + k * 5 + 4, none⟩ = some (.int .i64 dn) := hc 4 _ rfl
                    have hMa : HoldsM w.heap.size w bx S.1.regs (cMv bm) L (ebox wr.heap.size #[.int .i64 dk, .int .i64 dt, .int .i64 df, .int .i64 da, .int .i64 dn] 58 :: ebox b18 #[vU, .slice none 0 0, .slice none 0 0] 41 :: rowT 89 3 cellsO vU S.2 :: R) (wr.alloc (.cells #[.int .i64 dk, .int .i64 dt, .int .i64 df, .int .i64 da, .int .i64 dn] 58)) := (Mem.alloc hM #[.int .i64 dk, .int .i64 dt, .int .i64 df, .int .i64 da, .int .i64 dn] 58).tuck
                    obtain ⟨W6, hW6⟩ : ∃ W6, wr.alloc (.cells #[.int .i64 dk, .int .i64 dt, .int .i64 df, .int .i64 da, .int .i64 dn] 58) = W6 := ⟨_, rfl⟩
                    rw [hW6] at hMa
                    obtain ⟨b20, hb20⟩ : ∃ b20, wr.heap.size = b20 := ⟨_, rfl⟩
                    rw [hb20] at hMa
                    have hMp := Mem.perm hMa pull3
                    obtain ⟨aU, nU, cU, rfl⟩ := own_slice (hMp.row 2 rfl)
                    have d0 := hMp.cell 0 rfl 0
                    have d1 := hMp.cell 0 rfl 1
                    have d2 := hMp.cell 0 rfl 2
                    have d3 := hMp.cell 0 rfl 3
                    have d4 := hMp.cell 0 rfl 4
                    have dsz := (hMp.box 0 rfl).2.1
                    have o0 := hMp.cell 1 rfl 0
                    have osz := (hMp.box 1 rfl).2.1
                    have hDo := do_any (cface w.heap.size w bx bm room) S.1 hI ⟨dk, dt, df, da, dn⟩ hdo L _ hIs.out _ (Mem.drew hMa)
                    have HDo := Lib.hid hDo
                    have HW6 := Lib.hid hW6
                    have Hb20 := Lib.hid hb20
                    have hk1000 : S.2.length ≤ 1000000 := by omega
                    have hkd : (k : Int) < (ds.length : Int) := by omega
                    clear hc hd hM hMa hDo hIs hS hMp hW6 hb20
                    go_upto_region 35 with (fail)
                    rw [HW6.out, Hb20.out]
                    go_region_law (first
                      | (refine Mem.step_app1 elemOuts rfl (.tmp 129) (.tmp 133) rfl hM5 2 rfl rfl _ #[.int .i64 oc, .bool orf, .int .i64 on] _ _ rfl rfl rfl rfl (by decide) hk1000 ?_
                         intro ad cp w6 hM6 hs6 hk6
                         have u0 := hM6.cell 1 rfl 0
                         have u1 := hM6.free 1 rfl 0
                         have u2 := (hM6.box 1 rfl).2.1)
                      | (go_simp
                         refine HDo.out.mono ?_
                         rintro e w4 ⟨rfl, L', hIs2, hM2⟩
                         obtain ⟨S2, hS2⟩ : ∃ S2, (cKd room).step S.1 ⟨dk, dt, df, da, dn⟩ = S2 := ⟨_, rfl⟩
                         rw [hS2] at hIs2 hM2 ⊢
                         obtain ⟨s2, oc, orf, on⟩ := S2
                         simp only [otV]
                         have hM5 := Mem.perm hM2 pull3
                         have y0 := hM5.cell 1 rfl 0
                         have y1 := (hM5.box 1 rfl).2.1))
                    all_goals
                      try rw [hSl] at hM6
                      have hM7 := hM6.setBox 1 rfl 0 (.slice ad (k + 1) cp)
                      have HM7 := Lib.hid hM7
                      have HIs2 := Lib.hid hIs2
                      have HS2 := Lib.hid hS2
                      have HSl := Lib.hid hSl
                      clear hM6 hM7 hIs2 hS2 hM2 hM5 hSl u0 u1 u2 y0 y1
                      go_wp2_with fail
                      go_roundw
                      case rel =>
                        refine ⟨k + 1, L', .slice ad (k + 1) cp, by omega, by go_num, ?_, ?_⟩
                        · refine Lib.hid ?_
                          rw [HS.out, HS2.out]; exact HIs2.out
                        · rw [HS.out, HS2.out]
                          refine Mem.perm (Mem.cast (HM7.out.drop (List.sublist_cons_self _ _)) ?_) pull2.symm
                          simp [rowT, cellsO, HSl.out]
                      case measure => simp [intOf]; omega
                  · obtain rfl : k = ds.length := by omega
                    rw [List.take_length] at hIs hM
                    have hI := (runsC_inv HG.out room ds.length ds (Nat.le_refl _) hn).1
                    rw [List.take_length] at hI
                    obtain ⟨S, hS⟩ : ∃ S, runs (cKd room).step (startC g) ds = S := ⟨_, rfl⟩
                    rw [hS] at hI hIs hM
                    obtain ⟨vo3, cs3, vc3, vg3, hc3, rfl⟩ := hIs.out
                    have hM2 : Mem w.heap.size w wr (cA bx S.1.regs (cMv bm) bm room (alive S.1.os) vo3 cs3 vc3 S.1.x.cs vg3 S.1.x.gone ++ (objsE cs3 ++ (ebox b18 #[vU, .slice none 0 0, .slice none 0 0] 41 :: rowT 89 3 cellsO vU S.2 :: R))) := hM
                    have hcl : cs3.length = S.1.os.length := by rw [← hc3, conts_len]
                    have hlen := hI.len
                    have O := oAt_of (A := cA bx S.1.regs (cMv bm) bm room (alive S.1.os) vo3 cs3 vc3 S.1.x.cs vg3 S.1.x.gone) (kp := 2) (vo := vo3) (cs := cs3) (R := ebox b18 #[vU, .slice none 0 0, .slice none 0 0] 41 :: rowT 89 3 cellsO vU S.2 :: R) rfl
                    obtain ⟨a3, cp3, rfl⟩ := hM2.ptrSlice O
                    have m0 : wr.cell? ⟨bm, 0, none⟩ = some (.slice a3 cs3.length cp3) := hM2.cell 1 rfl 0
                    have mb : bm < wr.heap.size := (hM2.box 1 rfl).2.1
                    have hth := othere_any w.heap.size w wr _ 2 5 (.slice a3 cs3.length cp3) cs3 hM2 O (by omega)
                    rw [hc3, hcl] at hth
                    rw [hcl] at m0
                    have Hth := Lib.hid hth
                    have HM2 := Lib.hid hM2
                    have Hcl := Lib.hid hcl
                    have Hc3 := Lib.hid hc3
                    have HI := Lib.hid hI
                    have HSS := Lib.hid hS
                    clear hth hM2 hM hIs hI hS hc3 hcl O
                    go_wp2_with fail
                    refine Hth.out.mono ?_
                    rintro e w4 ⟨vl, rfl, hMt⟩
                    have hM3 := HM2.out.callMem hMt
                    obtain ⟨aL, cL, rfl⟩ := hMt.intsSlice 0 rfl
                    obtain ⟨TL, hTL⟩ : ∃ TL, thereL S.1.os S.1.os.length = TL := ⟨_, rfl⟩
                    rw [hTL] at hM3
                    have hM4 : Mem w.heap.size w w4 (ebox b18 #[vU, .slice none 0 0, .slice none 0 0] 41 :: rowT 53 2 cellsC (.slice none 0 0) [] :: rowI 3 (.slice aL TL.length cL) TL :: ((cA bx S.1.regs (cMv bm) bm room (alive S.1.os) (.slice a3 cs3.length cp3) cs3 vc3 S.1.x.cs vg3 S.1.x.gone ++ objsE cs3) ++ (rowT 89 3 cellsO vU S.2 :: R))) :=
                      Mem.perm (Mem.cast (hM3.nilT 53 2 cellsC) (by rw [List.append_assoc]; rfl)) pushIn
                    have HM4 := Lib.hid hM4
                    have HTL := Lib.hid hTL
                    have hTn : TL.length ≤ 1000 := by
                      rw [← hTL]
                      have h1 := thereL_len S.1.os S.1.os.length
                      have h2 := HI.out.len
                      omega
                    rw [hTL]
                    clear hM3 hM4 hMt HM2 Hth hTL
                    go_upto_region 38 with (fail)
                    go_loopw [22, 143] (fun _ s143 wq => ∃ (k : Nat) (vT : Value), k ≤ TL.length ∧ s143 = .int .i64 (k : Int) ∧ Mem w.heap.size w wq (ebox b18 #[vU, vT, .slice none 0 0] 41 :: rowT 53 2 cellsC vT (theres S.1 k) :: rowI 3 (.slice aL TL.length cL) TL :: ((cA bx S.1.regs (cMv bm) bm room (alive S.1.os) (.slice a3 cs3.length cp3) cs3 vc3 S.1.x.cs vg3 S.1.x.gone ++ objsE cs3) ++ (rowT 89 3 cellsO vU S.2 :: R)))) (fun _ i _ => TL.length - (intOf i).toNat)
                    case atStart => exact ⟨0, _, Nat.zero_le _, rfl, HM4.out⟩
                    case round =>
                      clear HM4
                      obtain ⟨k, vT, hk, rfl, hM⟩ := hrel
                      by_cases hltk : k < TL.length
                      · obtain ⟨x, hx⟩ := get_some _ _ hltk
                        have hxm := (mem_thereL (Nat.le_refl _)).1 (HTL.out ▸ List.mem_of_getElem? hx)
                        obtain ⟨i, rfl⟩ : ∃ i : Nat, x = (i : Int) := ⟨x.toNat, by have := hxm.1.1; omega⟩
                        have hxc := HI.out.inv.at hxm.1
                        rw [Int.toNat_natCast] at hxc
                        obtain ⟨y, hy⟩ : ∃ y, S.1.x.cs[i]? = some y := ⟨_, hxc⟩
                        have hyl : i < S.1.x.cs.length := (List.getElem?_eq_some_iff.1 hy).1
                        obtain ⟨gL, capL, hvL, _, bL, cL2, _⟩ := hM.intsAt 2 rfl (by rintro rfl; simp at hx)
                        have c0 := cL2 k _ hx
                        obtain ⟨gC, capC, hvc, _, bC, cC, _⟩ := hM.intsAt 6 rfl (by intro e; rw [e] at hy; simp at hy)
                        have c1 := cC i y hy
                        have m2 : wr.cell? ⟨bm, 2, none⟩ = some vc3 := hM.cell 4 rfl 2
                        rw [hvc] at m2
                        have mb : bm < wr.heap.size := (hM.box 4 rfl).2.1
                        obtain ⟨aT, nT, cT, rfl⟩ := own_slice (hM.row 1 rfl)
                        have o1 := hM.cell 0 rfl 1
                        have ob := (hM.box 0 rfl).2.1
                        have haL : aL = some ⟨gL, 0, none⟩ := by cases hvL; rfl
                        have hth : theres S.1 (k + 1) = theres S.1 k ++ [((i : Int), y)] := by
                          unfold theres
                          rw [HTL.out, take_succ_some _ _ _ hx, List.map_append, List.map_singleton, Int.toNat_natCast, getD_at hy]
                        have hyl2 : (theres S.1 k).length = k := by unfold theres; rw [HTL.out, List.length_map, List.length_take]; omega
                        obtain ⟨Y, hY⟩ : ∃ Y, theres S.1 k = Y := ⟨_, rfl⟩
                        rw [hY] at hth hyl2 hM
                        have e2 : (k : Int) < (TL.length : Int) := by omega
                        have e3 : (i : Int) < (S.1.x.cs.length : Int) := by omega
                        have hk1000 : Y.length ≤ 1000000 := by omega
                        have hM5 := hM
                        have Hth := Lib.hid hth
                        have HY := Lib.hid hyl2
                        have Hk : Hid (k < TL.length) := Lib.hid hltk
                        subst haL
                        clear hx hxm hxc hy hM hvL hvc cL2 cC hth hY hyl2 hltk hyl
                        go_upto_region 40 with (fail)
                        go_region_law (first
                          | (refine Mem.step_appT2 elemCounts rfl (.tmp 148) (.tmp 158) rfl (hM5.alloc_ (.cells #[.int .i64 i, .int .i64 y] 53)).drew 1 rfl rfl _ _ ((i : Int), y) rfl (new_at wr #[.int .i64 i, .int .i64 y] rfl 53) rfl (cellsC_one _) hk1000 (by decide) ?_
                             intro ad cp w6 hM6 hs6 hk6
                             have u0 := hM6.cell 0 rfl 1
                             have u1 := hM6.free 0 rfl 1
                             have u2 := (hM6.box 0 rfl).2.1)
                          | fail)
                        all_goals
                          have hM7 := hM6.setBox 0 rfl 1 (.slice ad (Y.length + 1) cp)
                          have HM7 := Lib.hid hM7
                          clear hM6 hM7 hM5 u0 u1 u2
                          go_wp2_with fail
                          go_roundw
                          case rel =>
                            refine ⟨k + 1, .slice ad (Y.length + 1) cp, by have := Hk.out; omega, by go_num, ?_⟩
                            rw [Hth.out]
                            exact HM7.out
                          case measure => simp [intOf]; have := Hk.out; omega
                      · obtain rfl : k = TL.length := by omega
                        have hth : theres S.1 TL.length = theres S.1 S.1.os.length := by
                          unfold theres
                          rw [HTL.out, List.take_length, List.take_of_length_le (by rw [← HTL.out]; exact thereL_len _ _)]
                        rw [hth] at hM
                        have m5 : wr.cell? ⟨bm, 5, none⟩ = some vg3 := hM.cell 4 rfl 5
                        have mb : bm < wr.heap.size := (hM.box 4 rfl).2.1
                        have o2 := hM.cell 0 rfl 2
                        have of2 := hM.free 0 rfl 2
                        have ob := (hM.box 0 rfl).2.1
                        obtain ⟨aG, nG, cG, rfl⟩ := own_slice (hM.row 7 rfl)
                        obtain ⟨aT, nT, cT, rfl⟩ := own_slice (hM.row 1 rfl)
                        have hM5 := hM.setBox 0 rfl 2 (.slice aG nG cG)
                        obtain ⟨aU, nU, cU, rfl⟩ := hM5.sliceIn (e := 89) (sz := 3) (v := vU) (n := S.2.length) (xs := S.2.flatMap cellsO) (by show rowT 89 3 cellsO vU S.2 ∈ _; simp)
                        obtain ⟨W9, hW9⟩ : ∃ W9, wr.setCell ⟨b18, 2, none⟩ (.slice aG nG cG) = W9 := ⟨_, rfl⟩
                        rw [hW9] at hM5
                        have v0 : W9.cell? ⟨b18, 0, none⟩ = some (.slice aU nU cU) := hM5.cell 0 rfl 0
                        have v1 : W9.cell? ⟨b18, 1, none⟩ = some (.slice aT nT cT) := hM5.cell 0 rfl 1
                        have v2 : W9.cell? ⟨b18, 2, none⟩ = some (.slice aG nG cG) := hM5.cell 0 rfl 2
                        have vb := (hM5.box 0 rfl).2.1
                        have hsub : [rowT 53 2 cellsC (.slice aT nT cT) (theres S.1 S.1.os.length), rowI 3 (.slice aG nG cG) S.1.x.gone, rowT 89 3 cellsO (.slice aU nU cU) S.2, ebox (w.heap.size + 1) #[.slice none 0 0, .slice none 0 0, .slice none 0 0] 41].Sublist (ebox b18 #[.slice aU nU cU, .slice aT nT cT, .slice aG nG cG] 41 :: rowT 53 2 cellsC (.slice aT nT cT) (theres S.1 S.1.os.length) :: rowI 3 (.slice aL TL.length cL) TL :: ((cA bx S.1.regs (cMv bm) bm room (alive S.1.os) (.slice a3 cs3.length cp3) cs3 vc3 S.1.x.cs (.slice aG nG cG) S.1.x.gone ++ objsE cs3) ++ (rowT 89 3 cellsO (.slice aU nU cU) S.2 :: R))) := by
                          refine .cons _ (.cons_cons _ (.cons _ ?_))
                          have h1 : [rowI 3 (.slice aG nG cG) S.1.x.gone].Sublist (cA bx S.1.regs (cMv bm) bm room (alive S.1.os) (.slice a3 cs3.length cp3) cs3 vc3 S.1.x.cs (.slice aG nG cG) S.1.x.gone) := .cons _ (.cons _ (.cons _ (.cons _ (List.Sublist.refl _))))
                          have h2 : [rowT 89 3 cellsO (.slice aU nU cU) S.2, ebox (w.heap.size + 1) #[.slice none 0 0, .slice none 0 0, .slice none 0 0] 41].Sublist (rowT 89 3 cellsO (.slice aU nU cU) S.2 :: R) := by
                            rw [← HR.out]; exact .cons_cons _ (.cons_cons _ (List.nil_sublist _))
                          exact (h1.trans (List.sublist_append_left _ _)).append h2
                        have hM6 := Mem.perm (hM5.drop hsub) (List.perm_middle (l₁ := [_, _, _]) (l₂ := [])).symm
                        have q0 := hM6.cell 0 rfl 0
                        have q1 := hM6.cell 0 rfl 1
                        have q2 := hM6.cell 0 rfl 2
                        have qf0 := hM6.free 0 rfl 0
                        have qf1 := hM6.free 0 rfl 1
                        have qf2 := hM6.free 0 rfl 2
                        have qb := (hM6.box 0 rfl).2.1
                        have hM7 := ((hM6.setBox 0 rfl 0 (.slice aU nU cU)).setBox 0 rfl 1 (.slice aT nT cT)).setBox 0 rfl 2 (.slice aG nG cG)
                        have s0 := hM7.cell 0 rfl 0
                        have s1 := hM7.cell 0 rfl 1
                        have s2 := hM7.cell 0 rfl 2
                        have hM8 := Mem.perm (hM7.drop (List.sublist_cons_self _ _)) (List.perm_middle (l₁ := [_, _]) (l₂ := [])).symm
                        have HM8 := Lib.hid hM8
                        have HW9 := Lib.hid hW9
                        clear hM hM5 hM6 hM7 hM8 hsub hth hW9
                        go_upto_region 43 with (fail)
                        rw [HW9.out]
                        go_wp2
                        refine bodyPost_ret (v := .tuple #[.agg #[.slice aU nU cU, .slice aT nT cT, .slice aG nG cG], .int .i64 0]) (by simp [results, Try.results21, go_sem, s0, s1, s2]) rfl ⟨S.1, _, _, _, by rw [HSS.out], rfl, by rw [HSS.out]; exact HM8.out⟩
end Go.Proofs.Ytmmcjjklmcfegaa
