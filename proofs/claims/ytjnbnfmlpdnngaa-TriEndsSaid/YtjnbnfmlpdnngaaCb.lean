/- tri.Play, walked. -/
import Derived.Test.YtjnbnfmlpdnngaaC9
import Derived.Test.YtjnbnfmlpdnngaaC2
import Derived.Test.YtjnbnfmlpdnngaaPc
import Derived.Test.YtjnbnfmlpdnngaaRpc
import Derived.Test.YtjnbnfmlpdnngaaBase2
import Derived.Test.YtjnbnfmlpdnngaaTak
import Derived.Deep.CutBlock
import Derived.Deep.RegionLaw
namespace Go.Proofs.Ytjnbnfmlpdnngaa
open Go.RowKit Go.Shelf
set_option maxRecDepth 100000 in
theorem barrier_yes (b : Int) (hb : b = 1 ∨ b = 2 ∨ b = 3) (w : World) : Calls Try.prog 32 #[.int .i64 b] w fun e w' => ∃ ty, e = .returned (.iface ty (.agg #[])) ∧ w = w' ∧ BarAt (.iface ty (.agg #[])) b := by
  rcases hb with rfl | rfl | rfl
  · go_enter Try.func32, Try.ntmps32
    go_wp2
    go_ret
    exact ⟨_, rfl, rfl, bar1⟩
  · go_enter Try.func32, Try.ntmps32
    go_wp2
    go_ret
    exact ⟨_, rfl, rfl, bar2⟩
  · go_enter Try.func32, Try.ntmps32
    go_wp2
    go_ret
    exact ⟨_, rfl, rfl, bar3⟩
set_option maxRecDepth 100000 in
theorem barrier_no (b : Int) (h1 : b ≠ 1) (h2 : b ≠ 2) (h3 : b ≠ 3) (w : World) : Calls Try.prog 32 #[.int .i64 b] w fun e w' => e = .returned .nilIface ∧ w = w' := by
  have e1 : (b == 1) = false := by simpa using h1
  have e2 : (b == 2) = false := by simpa using h2
  have e3 : (b == 3) = false := by simpa using h3
  go_enter Try.func32, Try.ntmps32
  go_wp2
  go_ret
  exact ⟨rfl, rfl⟩
theorem finA {B : Nat} {w0 w : World} {x p i e : Ent} {os R : List Ent} (h : Mem B w0 w (x :: p :: (os ++ i :: e :: R))) : Mem B w0 w (x :: p :: i :: (os ++ R)) :=
  (h.drop (.cons_cons _ (.cons_cons _ (List.Sublist.append_left (.cons_cons _ (List.sublist_cons_self _ _)) _)))).perm (List.Perm.cons _ (List.Perm.cons _ List.perm_middle.symm))
theorem finB {B : Nat} {w0 w : World} {x p i e : Ent} {os R : List Ent} (h : Mem B w0 w (x :: i :: p :: (os ++ e :: R))) : Mem B w0 w (x :: p :: i :: (os ++ R)) :=
  (h.drop (.cons_cons _ (.cons_cons _ (.cons_cons _ (List.Sublist.append_left (List.sublist_cons_self _ _) _))))).perm (List.Perm.cons _ (List.Perm.swap _ _ _))
theorem finC {B : Nat} {w0 w : World} {x p i e : Ent} {os R : List Ent} (h : Mem B w0 w (x :: i :: e :: p :: (os ++ R))) : Mem B w0 w (x :: p :: i :: (os ++ R)) :=
  (h.drop (.cons_cons _ (.cons_cons _ (List.sublist_cons_self _ _)))).perm (List.Perm.cons _ (List.Perm.swap _ _ _))
theorem toTail {B : Nat} {w0 w : World} {x : Ent} {P Q : List Ent} (h : Mem B w0 w (x :: (P ++ Q))) : Mem B w0 w (P ++ x :: Q) := h.perm List.perm_middle
theorem pull4 {m x y z u : Ent} {L Q : List Ent} : (x :: y :: z :: u :: m :: (L ++ Q)).Perm (m :: (L ++ x :: y :: z :: u :: Q)) := (List.Perm.cons _ pull3).trans pull1
def hues (s : Sm Tx) (k : Nat) : List (Int × Int) := ((thereL s.os s.os.length).take k).map fun i => (i, cAt s.x.col i)
def TPlaySays (b : Int) (g : G) (ds : List Dd) (w w' : World) (e : Ending) : Prop :=
  ∃ s vo vt vg, s = (runs (tstep b) (startT g) ds).1 ∧ e = .returned (.tuple #[.agg #[vo, vt, vg], .int .i64 0]) ∧
    Mem w.heap.size w w' [rowT 39 3 cellsO vo (runs (tstep b) (startT g) ds).2, rowT 98 2 cellsC vt (hues s s.os.length), rowI 3 vg s.x.gone]
set_option maxRecDepth 100000 in
set_option maxHeartbeats 8000000 in
theorem tplay_yes (g : G) (hG : Good g) (v u : Value) (b : Int) (hb : b = 1 ∨ b = 2 ∨ b = 3) (ds : List Dd) (w : World) (hg : IsGraph w v g) (hu : IsTup 5 cellsD w u ds) (hd : ∀ d ∈ ds, DdOk d) (hn : ds.length ≤ 100) :
    Calls Try.prog 11 #[v, .int .i64 b, u] w fun e w' => TPlaySays b g ds w w' e := by
  have Hg := Lib.hid hg
  have HG := Lib.hid hG
  have Hu := Lib.hid hu
  have HD := Lib.hid hd
  have Hb := Lib.hid hb
  obtain ⟨au, cu, rfl, _⟩ := hu.slice
  obtain ⟨vo, vr, rfl, ho, hr⟩ := hg
  obtain ⟨ao, co, rfl, hlo⟩ := ho.slice
  obtain ⟨ar, cr, rfl, hlr⟩ := hr.slice
  have hM0 := ((Mem.start w).alloc #[.slice ao g.objs.length co, .slice ar g.roots.length cr] 25).alloc #[.slice none 0 0, .slice none 0 0, .slice none 0 0] 31
  simp only [World.size_alloc] at hM0
  have HM0 := Lib.hid hM0
  have hn2 : ¬ (100 : Int) < ds.length := by omega
  have hn24 := hG.objs
  clear ho hr hG hu hd hM0 hb
  go_enter Try.func11, Try.ntmps11
  go_wp2_with fail
  refine (gcheck_yes _ g _ (Hg.out.later HM0.out.below) HG.out).mono ?_
  rintro e w1 ⟨rfl, hb1⟩
  have hM1 := HM0.out.call hb1
  have p0 := hM1.cell 1 rfl 0
  have p1 := hM1.cell 1 rfl 1
  have pb := (hM1.box 1 rfl).2.1
  have HM1 := Lib.hid hM1
  clear hM1 hb1 HM0
  go_wp2_with fail
  refine (barrier_yes b Hb.out w1).mono ?_
  rintro e w1' ⟨ty, rfl, rfl, hbar⟩
  have Hbar := Lib.hid hbar
  clear hbar
  go_upto_region 9 with (fail)
  go_cut [10] (fun s10 W => ∃ (bm : Nat) (vo : Value) (cs : List (Option Oc)) (vc : Value), s10 = .pointer (some ⟨bm, 0, none⟩) ∧ conts cs = g.objs.map some ∧ Mem w.heap.size w W (ebox bm #[vo, .iface ty (.agg #[]), vc, .slice none 0 0] 81 :: rowP vo cs :: rowI 3 vc (List.replicate g.objs.length 0) :: (objsE cs ++ [ebox (w.heap.size + 1) #[.slice none 0 0, .slice none 0 0, .slice none 0 0] 31, ebox w.heap.size #[.slice ao g.objs.length co, .slice ar g.roots.length cr] 25])))
  case first =>
    have HNz := HM1
    have hi2 : i64ok (0 : Int) := ⟨by omega, by omega⟩
    go_region_held3 (fun W => W.cell? ⟨w.heap.size, 0, none⟩ = some (.slice ao g.objs.length co) ∧ W.cell? ⟨w.heap.size, 1, none⟩ = some (.slice ar g.roots.length cr))
      (first | (refine BoxIn.both (B := w.heap.size) (w0 := w) (t := 25) ?_; apply Exists.intro; apply And.intro; (focus (repeat (first | exact hR | exact HNz.out | with_reducible apply Mem.drew | with_reducible apply Mem.alloc))); (focus simp)) | fail)
      (first
        | (go_at_call 33
           apply of_cps HG.out Hg.out
           (focus (repeat (first | exact hR | exact HNz.out | with_reducible apply Mem.drew | with_reducible apply Mem.alloc)))
           intro aO cO csu wq hcs hR)
        | (go_at_call 34
           apply rep_cps (B := w.heap.size) (w0 := w) (x := 0) (n := g.objs.length) hi2 (by omega)
           (focus (repeat (first | exact hR | exact HNz.out | with_reducible apply Mem.drew | with_reducible apply Mem.alloc)))
           (focus simp)
           intro vu wq hR
           obtain ⟨au2, cu2, hvu⟩ := hR.intsSlice 0 rfl
           rw [List.length_replicate] at hvu
           subst hvu)
        | fail)
    all_goals
      go_wp2_with fail
      go_meet
      apply Exists.intro; apply Exists.intro; apply Exists.intro; apply Exists.intro
      apply And.intro
      focus rfl
      apply And.intro
      focus exact hcs
      apply mem_cps
      (focus (repeat (first | exact hR | exact HNz.out | with_reducible apply Mem.drew | with_reducible apply Mem.alloc)))
      intro hF
      first | exact finA hF | exact finB hF | exact finC hF | fail
  case rest =>
    obtain ⟨bm, vO, cs, vc, rfl, hcs, hM⟩ := hcut
    clear HM1 p0 p1 pb
    have hgm : ebox w.heap.size #[.slice ao g.objs.length co, .slice ar g.roots.length cr] 25 ∈ (ebox bm #[vO, .iface ty (.agg #[]), vc, .slice none 0 0] 81 :: rowP vO cs :: rowI 3 vc (List.replicate g.objs.length 0) :: (objsE cs ++ [ebox (w.heap.size + 1) #[.slice none 0 0, .slice none 0 0, .slice none 0 0] 31, ebox w.heap.size #[.slice ao g.objs.length co, .slice ar g.roots.length cr] 25])) := by simp
    have r0 := hM.boxCell hgm 0 rfl
    have r1 := hM.boxCell hgm 1 rfl
    have rb : w.heap.size < wc.heap.size := (hM.boxFree hgm 0).2
    obtain ⟨v0, v1, v2, v3, v4, v5, v6, v7, hv8⟩ := eight (firstR_len HG.out.roots)
    have hrv : regsV (firstR g.roots) = .agg #[.bool v0.ref, .int .i64 v0.n, .bool v1.ref, .int .i64 v1.n, .bool v2.ref, .int .i64 v2.n, .bool v3.ref, .int .i64 v3.n, .bool v4.ref, .int .i64 v4.n, .bool v5.ref, .int .i64 v5.n, .bool v6.ref, .int .i64 v6.n, .bool v7.ref, .int .i64 v7.n] := by rw [hv8]; rfl
    have hFi := first_any g _ wc (Hg.out.later hM.below) HG.out.roots
    rw [hrv] at hFi
    have HFi := Lib.hid hFi
    have Hv8 := Lib.hid hv8
    have Hrv := Lib.hid hrv
    have HM := Lib.hid hM
    have Hcs := Lib.hid hcs
    clear hM hcs hFi hrv hv8 hgm
    go_wp2_with fail
    refine HFi.out.mono ?_
    rintro e w3 ⟨rfl, hb3⟩
    have hM3 := HM.out.call hb3
    have hM4 := hM3.alloc #[.bool v0.ref, .int .i64 v0.n, .bool v1.ref, .int .i64 v1.n, .bool v2.ref, .int .i64 v2.n, .bool v3.ref, .int .i64 v3.n, .bool v4.ref, .int .i64 v4.n, .bool v5.ref, .int .i64 v5.n, .bool v6.ref, .int .i64 v6.n, .bool v7.ref, .int .i64 v7.n, tMv bm] 91
    have e : mbox w3.heap.size (firstR g.roots) (tMv bm) = ebox w3.heap.size #[.bool v0.ref, .int .i64 v0.n, .bool v1.ref, .int .i64 v1.n, .bool v2.ref, .int .i64 v2.n, .bool v3.ref, .int .i64 v3.n, .bool v4.ref, .int .i64 v4.n, .bool v5.ref, .int .i64 v5.n, .bool v6.ref, .int .i64 v6.n, .bool v7.ref, .int .i64 v7.n, tMv bm] 91 := by unfold mbox mcells; rw [Hv8.out]; rfl
    have k0 := hM4.cell 0 rfl 0
    have k1 := hM4.cell 0 rfl 1
    have k2 := hM4.cell 0 rfl 2
    have k3 := hM4.cell 0 rfl 3
    have k4 := hM4.cell 0 rfl 4
    have k5 := hM4.cell 0 rfl 5
    have k6 := hM4.cell 0 rfl 6
    have k7 := hM4.cell 0 rfl 7
    have k8 := hM4.cell 0 rfl 8
    have k9 := hM4.cell 0 rfl 9
    have k10 := hM4.cell 0 rfl 10
    have k11 := hM4.cell 0 rfl 11
    have k12 := hM4.cell 0 rfl 12
    have k13 := hM4.cell 0 rfl 13
    have k14 := hM4.cell 0 rfl 14
    have k15 := hM4.cell 0 rfl 15
    have kb := (hM4.box 0 rfl).2.1
    rw [← e] at hM4
    have hM5 : Mem w.heap.size w _ (tA w3.heap.size (firstR g.roots) (tMv bm) bm (.iface ty (.agg #[])) vO cs vc (List.replicate g.objs.length 0) (.slice none 0 0) [] ++ (objsE cs ++ [ebox (w.heap.size + 1) #[.slice none 0 0, .slice none 0 0, .slice none 0 0] 31, ebox w.heap.size #[.slice ao g.objs.length co, .slice ar g.roots.length cr] 25])) :=
      toTail (P := [mbox w3.heap.size (firstR g.roots) (tMv bm), ebox bm #[vO, .iface ty (.agg #[]), vc, .slice none 0 0] 81, rowP vO cs, rowI 3 vc (List.replicate g.objs.length 0)]) (hM4.nilI 3)
    obtain ⟨W4, hW4⟩ : ∃ W4, w3.alloc (.cells #[.bool v0.ref, .int .i64 v0.n, .bool v1.ref, .int .i64 v1.n, .bool v2.ref, .int .i64 v2.n, .bool v3.ref, .int .i64 v3.n, .bool v4.ref, .int .i64 v4.n, .bool v5.ref, .int .i64 v5.n, .bool v6.ref, .int .i64 v6.n, .bool v7.ref, .int .i64 v7.n, tMv bm] 91) = W4 := ⟨_, rfl⟩
    obtain ⟨bx, hbx⟩ : ∃ bx, w3.heap.size = bx := ⟨_, rfl⟩
    rw [hW4, hbx] at hM5 k0 k1 k2 k3 k4 k5 k6 k7 k8 k9 k10 k11 k12 k13 k14 k15 kb
    have hregR : ∀ v ∈ firstR g.roots, InR (List.replicate g.objs.length (0 : Int)).length v := by
      intro v hv
      have := (startT_inv HG.out b).regR v hv
      rw [(startT_inv HG.out b).cl] at this
      simpa [startT] using this
    have hregI : ∀ v ∈ firstR g.roots, i64ok v.n := by
      intro v hv
      have h1 := (startT_inv HG.out b).fine.regs v hv
      cases hr : v.ref with
      | true =>
        have h2 := (startT_inv HG.out b).regR v hv hr
        have h3 : (startT g).x.col.length = g.objs.length := by rw [(startT_inv HG.out b).cl]; simp [startT]
        exact ⟨by omega, by omega⟩
      | false => have h2 := h1.2 hr; exact ⟨by omega, by omega⟩
    have hbg := begin_any w.heap.size w bx (firstR g.roots) (tMv bm) bm (.iface ty (.agg #[])) (objsE cs ++ [ebox (w.heap.size + 1) #[.slice none 0 0, .slice none 0 0, .slice none 0 0] 31, ebox w.heap.size #[.slice ao g.objs.length co, .slice ar g.roots.length cr] 25]) W4 vO cs vc _ (.slice none 0 0) [] (firstR g.roots) (firstR_len HG.out.roots) hregR hregI (by rw [List.length_replicate]; omega) hM5
    rw [Hrv.out, List.length_replicate] at hbg
    have Hbg := Lib.hid hbg
    have HW4 := Lib.hid hW4
    have Hbx := Lib.hid hbx
    clear hM3 hM4 hM5 hW4 hbx HFi HM e hb3 r0 r1 hbg hregR hregI
    go_upto_region 11 with (fail)
    have hW4' : w3.alloc (.cells #[.bool v0.ref, .int .i64 v0.n, .bool v1.ref, .int .i64 v1.n, .bool v2.ref, .int .i64 v2.n, .bool v3.ref, .int .i64 v3.n, .bool v4.ref, .int .i64 v4.n, .bool v5.ref, .int .i64 v5.n, .bool v6.ref, .int .i64 v6.n, .bool v7.ref, .int .i64 v7.n, .iface 75 (.pointer (some ⟨bm, 0, none⟩))] 91) = W4 := HW4.out
    rw [hW4', Hbx.out]
    clear hW4'
    go_wp2_with fail
    refine Hbg.out.mono ?_
    rintro e w4 ⟨rfl, hM6⟩
    have hM7 : Mem w.heap.size w w4 (tA bx (firstR g.roots) (tMv bm) bm (.iface ty (.agg #[])) vO cs vc (startT g).x.col (.slice none 0 0) (startT g).x.gone ++ (objsE cs ++ [ebox (w.heap.size + 1) #[.slice none 0 0, .slice none 0 0, .slice none 0 0] 31, ebox w.heap.size #[.slice ao g.objs.length co, .slice ar g.roots.length cr] 25])) := hM6
    have HM7 := Lib.hid hM7
    clear hM6 hM7 Hbg HW4 Hbx k0 k1 k2 k3 k4 k5 k6 k7 k8 k9 k10 k11 k12 k13 k14 k15 kb rb
    go_upto_region 12 with (fail)
    obtain ⟨R, hR⟩ : ∃ R, [ebox (w.heap.size + 1) #[.slice none 0 0, .slice none 0 0, .slice none 0 0] 31, ebox w.heap.size #[.slice ao g.objs.length co, .slice ar g.roots.length cr] 25] = R := ⟨_, rfl⟩
    have HR := Lib.hid hR
    have hM7 := HM7.out
    rw [hR] at hM7
    obtain ⟨L0, hL0, hM0⟩ := tm_to (bx := bx) (regs := firstR g.roots) (mv := tMv bm) (bm := bm) (bv := .iface ty (.agg #[])) (os := (startT g).os) (x := (startT g).x) (T := R) ⟨vO, cs, vc, .slice none 0 0, Hcs.out, hM7⟩
    have hM1 : HoldsM w.heap.size w bx (firstR g.roots) (tMv bm) L0 (ebox w4.heap.size #[.slice none 0 0, .slice none 0 0, .slice none 0 0] 31 :: rowT 39 3 cellsO (.slice none 0 0) [] :: R) (w4.alloc (.cells #[.slice none 0 0, .slice none 0 0, .slice none 0 0] 31)) :=
      Mem.perm ((Mem.nilT hM0 39 3 cellsO).alloc #[.slice none 0 0, .slice none 0 0, .slice none 0 0] 31) pull2.symm
    obtain ⟨b12, hb12⟩ : ∃ b12, w4.heap.size = b12 := ⟨_, rfl⟩
    obtain ⟨W9, hW9⟩ : ∃ W9, w4.alloc (.cells #[.slice none 0 0, .slice none 0 0, .slice none 0 0] 31) = W9 := ⟨_, rfl⟩
    rw [hW9, hb12] at hM1
    have hIs : IsT bm (.iface ty (.agg #[])) (runs (tstep b) (startT g) (ds.take 0)).1.os (runs (tstep b) (startT g) (ds.take 0)).1.x L0 := hL0
    have HM1 := Lib.hid hM1
    have HIs := Lib.hid hIs
    have Hb12 := Lib.hid hb12
    have HW9 := Lib.hid hW9
    clear hM1 hM0 hL0 hIs hb12 hW9 hM7 HM7 hR
    go_upto_region 14 with (fail)
    rw [HW9.out, Hb12.out]
    go_loopw [14, 15, 57, 67, 72] (fun _ _ s57 _ _ wq => ∃ (k : Nat) (L : List Ent) (vU : Value), k ≤ ds.length ∧ s57 = .int .i64 (k : Int) ∧ Hid (IsT bm (.iface ty (.agg #[])) (runs (tstep b) (startT g) (ds.take k)).1.os (runs (tstep b) (startT g) (ds.take k)).1.x L) ∧ HoldsM w.heap.size w bx (runs (tstep b) (startT g) (ds.take k)).1.regs (tMv bm) L (ebox b12 #[vU, .slice none 0 0, .slice none 0 0] 31 :: rowT 39 3 cellsO vU (runs (tstep b) (startT g) (ds.take k)).2 :: R) wq) (fun _ _ i _ _ _ => ds.length - (intOf i).toNat)
    case atStart => exact ⟨0, L0, _, Nat.zero_le _, rfl, HIs, HM1.out⟩
    case round =>
      clear HM1 HIs
      obtain ⟨k, L, vU, hk, rfl, hIs, hM⟩ := hrel
      by_cases hltd : k < ds.length
      · obtain ⟨d, hd⟩ := get_some _ _ hltd
        obtain ⟨bu, off, cap, hv, _, hb2, hc⟩ := Hu.out.at (Mem.below hM) hd
        cases hv
        obtain ⟨hI, hol⟩ := runsT_inv HG.out Hb.out k ds hk (by omega)
        have HS := Lib.hid (runs_take (tstep b) (startT g) hd)
        obtain ⟨S, hS⟩ : ∃ S, runs (tstep b) (startT g) (ds.take k) = S := ⟨_, rfl⟩
        have hSl : S.2.length = k := by rw [← hS, runs_len, List.length_take]; omega
        rw [hS] at hI hol hM hIs HS
        have hdo := HD.out d (List.mem_of_getElem? hd)
        obtain ⟨dk, dt, df, da, dn⟩ := d
        have c0 : wr.cell? ⟨bu, off + k * 5, none⟩ = some (.int .i64 dk) := hc 0 _ rfl
        have c1 : wr.cell? ⟨bu, off + k * 5 + 1, none⟩ = some (.int .i64 dt) := hc 1 _ rfl
        have c2 : wr.cell? ⟨bu, off + k * 5 + 2, none⟩ = some (.int .i64 df) := hc 2 _ rfl
        have c3 : wr.cell? ⟨bu, off + k * 5 + 3, none⟩ = some (.int .i64 da) := hc 3 _ rfl
        have c4 : wr.cell? ⟨bu, off + k * 5 + 4, none⟩ = some (.int .i64 dn) := hc 4 _ rfl
        have hMa := Mem.tuck (Mem.alloc (Mem.tuck (Mem.alloc hM #[.int .i64 dk, .int .i64 dt, .int .i64 df, .int .i64 da, .int .i64 dn] 37)) #[.int .i64 0, .bool false, .int .i64 0] 39)
        simp only [World.size_alloc] at hMa
        obtain ⟨W6, hW6⟩ : ∃ W6, (wr.alloc (.cells #[.int .i64 dk, .int .i64 dt, .int .i64 df, .int .i64 da, .int .i64 dn] 37)).alloc (.cells #[.int .i64 0, .bool false, .int .i64 0] 39) = W6 := ⟨_, rfl⟩
        obtain ⟨b14, hb14⟩ : ∃ b14, wr.heap.size = b14 := ⟨_, rfl⟩
        rw [hW6, hb14] at hMa
        obtain ⟨aU, nU, cU, rfl⟩ := Mem.sliceIn (v := vU) (e := 39) (sz := 3) (n := S.2.length) (xs := S.2.flatMap cellsO) hMa (by show rowT 39 3 cellsO vU S.2 ∈ _; simp)
        have hMa2 : HoldsM w.heap.size w bx S.1.regs (tMv bm) L (ebox (b14 + 1) #[.int .i64 0, .bool false, .int .i64 0] 39 :: ebox b14 #[.int .i64 dk, .int .i64 dt, .int .i64 df, .int .i64 da, .int .i64 dn] 37 :: ebox b12 #[.slice aU nU cU, .slice none 0 0, .slice none 0 0] 31 :: rowT 39 3 cellsO (.slice aU nU cU) S.2 :: R) W6 := hMa
        have hMp := Mem.perm hMa pull4
        have d0 := hMp.cell 1 rfl 0
        have d1 := hMp.cell 1 rfl 1
        have d2 := hMp.cell 1 rfl 2
        have d3 := hMp.cell 1 rfl 3
        have d4 := hMp.cell 1 rfl 4
        have dsz := (hMp.box 1 rfl).2.1
        have hkd : (k : Int) < (ds.length : Int) := by omega
        have hk1000 : S.2.length ≤ 1000000 := by omega
        have HW6 := Lib.hid hW6
        have Hb14 := Lib.hid hb14
        have HMa := Lib.hid hMa2
        have HI := Lib.hid hI
        have HIs := Lib.hid hIs.out
        have Hol := Lib.hid hol
        clear hc hd hM hMa hMa2 hIs hS hMp hW6 hb14 hI hol
        by_cases e8 : dk = 8
        · subst e8
          have hwk := twork_any w.heap.size w bx S.1.regs (tMv bm) bm (.iface ty (.agg #[])) _ W6 S.1.os S.1.x (by have := HI.out.len; omega) HI.out.cl HI.out.inr (fun i l hl => by have := HI.out.fine.flen i l hl; omega) (tm_of HIs.out HMa.out)
          obtain ⟨s2, c, hw⟩ : ∃ s2 c, workS ⟨S.1.regs, S.1.os, S.1.x⟩ = (s2, c) := ⟨_, _, rfl⟩
          have hw' : workS S.1 = (s2, c) := hw
          have hreg : s2.regs = S.1.regs := by have h := (work_os S.1).1; rw [hw'] at h; exact h
          have hS2 : tstep b S.1 ⟨8, dt, df, da, dn⟩ = (s2, ⟨c, false, 0⟩) := by
            unfold tstep
            rw [if_pos rfl, hw']
          rw [hw] at hwk
          have Hwk := Lib.hid hwk
          have HSt := Lib.hid hS2
          have Hreg := Lib.hid hreg
          clear hwk hS2 hreg hw hw' hdo
          go_upto_region 20 with (fail)
          rw [HW6.out, Hb14.out]
          go_wp2_with fail
          refine Hwk.out.mono ?_
          rintro e w7 ⟨rfl, h7⟩
          obtain ⟨L', hIs2, hM2⟩ := tm_to h7
          rw [← Hreg.out] at hM2
          have hS2 := HSt.out
          have hM7 := Mem.perm hM2 pull4
          have q0 := hM7.cell 0 rfl 0
          have qf0 := hM7.free 0 rfl 0
          have qb := (hM7.box 0 rfl).2.1
          have hM8 := hM7.setBox 0 rfl 0 (.int .i64 c)
          obtain ⟨W8, hW8⟩ : ∃ W8, w7.setCell ⟨b14 + 1, 0, none⟩ (.int .i64 c) = W8 := ⟨_, rfl⟩
          rw [hW8] at hM8
          have y0 := hM8.cell 0 rfl 0
          have y1 := hM8.cell 0 rfl 1
          have y2 := hM8.cell 0 rfl 2
          have yb := (hM8.box 0 rfl).2.1
          have x0 := hM8.cell 2 rfl 0
          have xb := (hM8.box 2 rfl).2.1
          have HM8 := Lib.hid hM8
          have HW8 := Lib.hid hW8
          have HIs2 := Lib.hid hIs2
          have HS2 := Lib.hid hS2
          clear hM8 hW8 hIs2 hS2 hM2 hM7 h7
          go_upto_region 23 with (fail)
          rw [HW8.out]
          go_wp2_with (at_builtin; refine Mem.wp_appT elemOuts rfl (.tmp 82) (.tmp 84) rfl HM8.out 3 rfl rfl _ (⟨c, false, 0⟩ : Ot) #[.int .i64 c, .bool false, .int .i64 0] rfl _ _ rfl (by simp) rfl rfl (by decide) hk1000 ?_; intro ad n1 cp w9 hn1 hM9 hs9 hk9 ha9; have u0 := hM9.cell 2 rfl 0; have u1 := hM9.free 2 rfl 0; have u2 := (hM9.box 2 rfl).2.1; have hM10 := Lib.hid (hM9.setBox 2 rfl 0 (.slice ad n1 cp)); clear hM9)
          go_roundw
          case rel =>
            refine ⟨k + 1, L', .slice ad n1 cp, by omega, by go_num, ?_, ?_⟩
            · refine Lib.hid ?_
              rw [HS.out, HS2.out]; exact HIs2.out
            · rw [HS.out, HS2.out]
              exact Mem.perm (hM10.out.drop ((List.sublist_cons_self _ _).trans (List.sublist_cons_self _ _))) pull2.symm
          case measure => simp [intOf]; omega
        · by_cases e9 : dk = 9
          · subst e9
            obtain ⟨y0, y1, y2, y3, y4, y5, y6, y7, hy8⟩ := eight HI.out.fine.regs8
            have hrv9 : regsV S.1.regs = .agg #[.bool y0.ref, .int .i64 y0.n, .bool y1.ref, .int .i64 y1.n, .bool y2.ref, .int .i64 y2.n, .bool y3.ref, .int .i64 y3.n, .bool y4.ref, .int .i64 y4.n, .bool y5.ref, .int .i64 y5.n, .bool y6.ref, .int .i64 y6.n, .bool y7.ref, .int .i64 y7.n] := by rw [hy8]; rfl
            have em : mbox bx S.1.regs (tMv bm) = ebox bx #[.bool y0.ref, .int .i64 y0.n, .bool y1.ref, .int .i64 y1.n, .bool y2.ref, .int .i64 y2.n, .bool y3.ref, .int .i64 y3.n, .bool y4.ref, .int .i64 y4.n, .bool y5.ref, .int .i64 y5.n, .bool y6.ref, .int .i64 y6.n, .bool y7.ref, .int .i64 y7.n, tMv bm] 91 := by unfold mbox mcells; rw [hy8]; rfl
            have hMb := HMa.out
            unfold HoldsM at hMb
            rw [em] at hMb
            have k0 := hMb.cell 0 rfl 0
            have k1 := hMb.cell 0 rfl 1
            have k2 := hMb.cell 0 rfl 2
            have k3 := hMb.cell 0 rfl 3
            have k4 := hMb.cell 0 rfl 4
            have k5 := hMb.cell 0 rfl 5
            have k6 := hMb.cell 0 rfl 6
            have k7 := hMb.cell 0 rfl 7
            have k8 := hMb.cell 0 rfl 8
            have k9 := hMb.cell 0 rfl 9
            have k10 := hMb.cell 0 rfl 10
            have k11 := hMb.cell 0 rfl 11
            have k12 := hMb.cell 0 rfl 12
            have k13 := hMb.cell 0 rfl 13
            have k14 := hMb.cell 0 rfl 14
            have k15 := hMb.cell 0 rfl 15
            have kb := (hMb.box 0 rfl).2.1
            have hgl : S.1.x.gone.length ≤ 1000 := by
              have h1 := nodup_sub_le S.1.x.gone ((List.range S.1.os.length).map fun i : Nat => (i : Int)) HI.out.nodup (fun q hq => by
                obtain ⟨h1, h2, _⟩ := (HI.out.gone q).1 hq
                exact List.mem_map.2 ⟨q.toNat, List.mem_range.2 (by omega), by omega⟩)
              rw [List.length_map, List.length_range] at h1
              have := HI.out.len
              omega
            have hri : ∀ q ∈ S.1.regs, i64ok q.n := by
              intro q hq
              have h1 := HI.out.fine.regs q hq
              cases hr : q.ref with
              | true =>
                have h2 := HI.out.regR q hq hr
                have h3 := HI.out.cl
                have h4 := HI.out.len
                exact ⟨by omega, by omega⟩
              | false => have h2 := h1.2 hr; exact ⟨by omega, by omega⟩
            have hsw := tsweep_any w.heap.size w bx S.1.regs (tMv bm) bm (.iface ty (.agg #[])) _ W6 S.1.os S.1.x S.1.regs HI.out.fine.regs8 HI.out.regR hri (by have := HI.out.len; omega) HI.out.cl hgl (tm_of HIs.out HMa.out)
            obtain ⟨s2, c, hw⟩ : ∃ s2 c, sweepS ⟨S.1.regs, S.1.os, S.1.x⟩ = (s2, c) := ⟨_, _, rfl⟩
            have hw' : sweepS S.1 = (s2, c) := hw
            have hreg : s2.regs = S.1.regs := by have h := (sweep_os S.1).1; rw [hw'] at h; exact h
            have hS2 : tstep b S.1 ⟨9, dt, df, da, dn⟩ = (s2, ⟨c, false, 0⟩) := by
              unfold tstep
              rw [if_neg (show ¬ ((9 : Int) = 8) by decide), if_pos rfl, hw']
            rw [hw, hrv9] at hsw
            have Hsw := Lib.hid hsw
            have HSt := Lib.hid hS2
            have Hreg := Lib.hid hreg
            clear hsw hS2 hreg hw hw' hdo hMb em hrv9 hy8 hri hgl
            go_upto_region 22 with (fail)
            rw [HW6.out, Hb14.out]
            go_wp2_with fail
            refine Hsw.out.mono ?_
            rintro e w7 ⟨rfl, h7⟩
            obtain ⟨L', hIs2, hM2⟩ := tm_to h7
            rw [← Hreg.out] at hM2
            have hS2 := HSt.out
            have hM7 := Mem.perm hM2 pull4
            have q0 := hM7.cell 0 rfl 0
            have qf0 := hM7.free 0 rfl 0
            have qb := (hM7.box 0 rfl).2.1
            have hM8 := hM7.setBox 0 rfl 0 (.int .i64 c)
            obtain ⟨W8, hW8⟩ : ∃ W8, w7.setCell ⟨b14 + 1, 0, none⟩ (.int .i64 c) = W8 := ⟨_, rfl⟩
            rw [hW8] at hM8
            clear k0 k1 k2 k3 k4 k5 k6 k7 k8 k9 k10 k11 k12 k13 k14 k15 kb
            have z0 := hM8.cell 0 rfl 0
            have z1 := hM8.cell 0 rfl 1
            have z2 := hM8.cell 0 rfl 2
            have yb := (hM8.box 0 rfl).2.1
            have x0 := hM8.cell 2 rfl 0
            have xb := (hM8.box 2 rfl).2.1
            have HM8 := Lib.hid hM8
            have HW8 := Lib.hid hW8
            have HIs2 := Lib.hid hIs2
            have HS2 := Lib.hid hS2
            clear hM8 hW8 hIs2 hS2 hM2 hM7 h7
            go_upto_region 23 with (fail)
            rw [HW8.out]
            go_wp2_with (at_builtin; refine Mem.wp_appT elemOuts rfl (.tmp 82) (.tmp 84) rfl HM8.out 3 rfl rfl _ (⟨c, false, 0⟩ : Ot) #[.int .i64 c, .bool false, .int .i64 0] rfl _ _ rfl (by simp) rfl rfl (by decide) hk1000 ?_; intro ad n1 cp w9 hn1 hM9 hs9 hk9 ha9; have u0 := hM9.cell 2 rfl 0; have u1 := hM9.free 2 rfl 0; have u2 := (hM9.box 2 rfl).2.1; have hM10 := Lib.hid (hM9.setBox 2 rfl 0 (.slice ad n1 cp)); clear hM9)
            go_roundw
            case rel =>
              refine ⟨k + 1, L', .slice ad n1 cp, by omega, by go_num, ?_, ?_⟩
              · refine Lib.hid ?_
                rw [HS.out, HS2.out]; exact HIs2.out
              · rw [HS.out, HS2.out]
                exact Mem.perm (hM10.out.drop ((List.sublist_cons_self _ _).trans (List.sublist_cons_self _ _))) pull2.symm
            case measure => simp [intOf]; omega
          · have e8b : (dk == 8) = false := by simpa using e8
            have e9b : (dk == 9) = false := by simpa using e9
            have hstep : tstep b S.1 ⟨dk, dt, df, da, dn⟩ = (tKd b).step S.1 ⟨dk, dt, df, da, dn⟩ := by unfold tstep; rw [if_neg e8, if_neg e9]
            have hDo := do_any (tface w.heap.size w bx bm (.iface ty (.agg #[])) b Hbar.out) S.1 HI.out ⟨dk, dt, df, da, dn⟩ hdo L _ HIs.out _ HMa.out
            obtain ⟨S2, hS2⟩ : ∃ S2, (tKd b).step S.1 ⟨dk, dt, df, da, dn⟩ = S2 := ⟨_, rfl⟩
            unfold DoSays at hDo
            rw [hS2] at hDo hstep
            have HDo := Lib.hid hDo
            have HSt := Lib.hid hstep
            clear hDo hS2 hstep hdo
            go_upto_region 18 with (fail)
            rw [HW6.out, Hb14.out]
            go_wp2_with fail
            refine HDo.out.mono ?_
            rintro e w7 ⟨rfl, L', hIs2, hM2⟩
            obtain ⟨s2, oc, orf, on⟩ := S2
            simp only [otV]
            have hS2 := HSt.out
            have hM7 := Mem.perm hM2 pull4
            have q0 := hM7.cell 0 rfl 0
            have q1 := hM7.cell 0 rfl 1
            have q2 := hM7.cell 0 rfl 2
            have qf0 := hM7.free 0 rfl 0
            have qf1 := hM7.free 0 rfl 1
            have qf2 := hM7.free 0 rfl 2
            have qb := (hM7.box 0 rfl).2.1
            have hM8 := ((hM7.setBox 0 rfl 0 (.int .i64 oc)).setBox 0 rfl 1 (.bool orf)).setBox 0 rfl 2 (.int .i64 on)
            obtain ⟨W8, hW8⟩ : ∃ W8, ((w7.setCell ⟨b14 + 1, 0, none⟩ (.int .i64 oc)).setCell ⟨b14 + 1, 1, none⟩ (.bool orf)).setCell ⟨b14 + 1, 2, none⟩ (.int .i64 on) = W8 := ⟨_, rfl⟩
            rw [hW8] at hM8
            have y0 := hM8.cell 0 rfl 0
            have y1 := hM8.cell 0 rfl 1
            have y2 := hM8.cell 0 rfl 2
            have yb := (hM8.box 0 rfl).2.1
            have x0 := hM8.cell 2 rfl 0
            have xb := (hM8.box 2 rfl).2.1
            have HM8 := Lib.hid hM8
            have HW8 := Lib.hid hW8
            have HIs2 := Lib.hid hIs2
            have HS2 := Lib.hid hS2
            clear hM8 hW8 hIs2 hS2 hM2 hM7
            go_upto_region 23 with (fail)
            rw [HW8.out]
            go_wp2_with (at_builtin; refine Mem.wp_appT elemOuts rfl (.tmp 82) (.tmp 84) rfl HM8.out 3 rfl rfl _ (⟨oc, orf, on⟩ : Ot) #[.int .i64 oc, .bool orf, .int .i64 on] rfl _ _ rfl (by simp) rfl rfl (by decide) hk1000 ?_; intro ad n1 cp w9 hn1 hM9 hs9 hk9 ha9; have u0 := hM9.cell 2 rfl 0; have u1 := hM9.free 2 rfl 0; have u2 := (hM9.box 2 rfl).2.1; have hM10 := Lib.hid (hM9.setBox 2 rfl 0 (.slice ad n1 cp)); clear hM9)
            go_roundw
            case rel =>
              refine ⟨k + 1, L', .slice ad n1 cp, by omega, by go_num, ?_, ?_⟩
              · refine Lib.hid ?_
                rw [HS.out, HS2.out]; exact HIs2.out
              · rw [HS.out, HS2.out]
                exact Mem.perm (hM10.out.drop ((List.sublist_cons_self _ _).trans (List.sublist_cons_self _ _))) pull2.symm
            case measure => simp [intOf]; omega
      · obtain rfl : k = ds.length := by omega
        rw [List.take_length] at hIs hM
        have hI := (runsT_inv HG.out Hb.out ds.length ds (Nat.le_refl _) hn).1
        rw [List.take_length] at hI
        obtain ⟨S, hS⟩ : ∃ S, runs (tstep b) (startT g) ds = S := ⟨_, rfl⟩
        rw [hS] at hI hIs hM
        obtain ⟨vo3, cs3, vc3, vg3, hc3, rfl⟩ := hIs.out
        have hM2 : Mem w.heap.size w wr (tA bx S.1.regs (tMv bm) bm (.iface ty (.agg #[])) vo3 cs3 vc3 S.1.x.col vg3 S.1.x.gone ++ (objsE cs3 ++ (ebox b12 #[vU, .slice none 0 0, .slice none 0 0] 31 :: rowT 39 3 cellsO vU S.2 :: R))) := hM
        have hcl : cs3.length = S.1.os.length := by rw [← hc3, conts_len]
        have hlen := hI.len
        have O := oAt_of (A := tA bx S.1.regs (tMv bm) bm (.iface ty (.agg #[])) vo3 cs3 vc3 S.1.x.col vg3 S.1.x.gone) (kp := 2) (vo := vo3) (cs := cs3) (R := ebox b12 #[vU, .slice none 0 0, .slice none 0 0] 31 :: rowT 39 3 cellsO vU S.2 :: R) rfl
        obtain ⟨a3, cp3, rfl⟩ := hM2.ptrSlice O
        have m0 : wr.cell? ⟨bm, 0, none⟩ = some (.slice a3 cs3.length cp3) := hM2.cell 1 rfl 0
        have mb : bm < wr.heap.size := (hM2.box 1 rfl).2.1
        have hth := othere_any w.heap.size w wr _ 2 5 (.slice a3 cs3.length cp3) cs3 hM2 O (by omega)
        rw [hc3, hcl] at hth
        rw [hcl] at m0
        have Hth := Lib.hid hth
        have HM2 := Lib.hid hM2
        have Hcl := Lib.hid hcl
        have Hc3 := Lib.hid hc3
        have HI := Lib.hid hI
        have HSS := Lib.hid hS
        clear hth hM2 hM hIs hI hS hc3 hcl O
        go_wp2_with fail
        refine Hth.out.mono ?_
        rintro e w4 ⟨vl, rfl, hMt⟩
        have hM3 := HM2.out.callMem hMt
        obtain ⟨aL, cL, rfl⟩ := hMt.intsSlice 0 rfl
        obtain ⟨TL, hTL⟩ : ∃ TL, thereL S.1.os S.1.os.length = TL := ⟨_, rfl⟩
        rw [hTL] at hM3
        have hM4 : Mem w.heap.size w w4 (ebox b12 #[vU, .slice none 0 0, .slice none 0 0] 31 :: rowT 98 2 cellsC (.slice none 0 0) [] :: rowI 3 (.slice aL TL.length cL) TL :: ((tA bx S.1.regs (tMv bm) bm (.iface ty (.agg #[])) (.slice a3 cs3.length cp3) cs3 vc3 S.1.x.col vg3 S.1.x.gone ++ objsE cs3) ++ (rowT 39 3 cellsO vU S.2 :: R))) :=
          Mem.perm (Mem.cast (hM3.nilT 98 2 cellsC) (by rw [List.append_assoc]; rfl)) pushIn
        have HM4 := Lib.hid hM4
        have HTL := Lib.hid hTL
        have hTn : TL.length ≤ 1000 := by
          rw [← hTL]
          have h1 := thereL_len S.1.os S.1.os.length
          have h2 := HI.out.len
          omega
        rw [hTL]
        clear hM3 hM4 hMt HM2 Hth hTL
        go_upto_region 26 with (fail)
        go_loopw [17, 94] (fun _ s94 wq => ∃ (k : Nat) (vT : Value), k ≤ TL.length ∧ s94 = .int .i64 (k : Int) ∧ Mem w.heap.size w wq (ebox b12 #[vU, vT, .slice none 0 0] 31 :: rowT 98 2 cellsC vT (hues S.1 k) :: rowI 3 (.slice aL TL.length cL) TL :: ((tA bx S.1.regs (tMv bm) bm (.iface ty (.agg #[])) (.slice a3 cs3.length cp3) cs3 vc3 S.1.x.col vg3 S.1.x.gone ++ objsE cs3) ++ (rowT 39 3 cellsO vU S.2 :: R)))) (fun _ i _ => TL.length - (intOf i).toNat)
        case atStart => exact ⟨0, _, Nat.zero_le _, rfl, HM4.out⟩
        case round =>
          clear HM4
          obtain ⟨k, vT, hk, rfl, hM⟩ := hrel
          by_cases hltk : k < TL.length
          · obtain ⟨x, hx⟩ := get_some _ _ hltk
            have hxm := (mem_thereL (Nat.le_refl _)).1 (HTL.out ▸ List.mem_of_getElem? hx)
            obtain ⟨i, rfl⟩ : ∃ i : Nat, x = (i : Int) := ⟨x.toNat, by have := hxm.1.1; omega⟩
            obtain ⟨y, hy⟩ : ∃ y, S.1.x.col[i]? = some y := ⟨_, List.getElem?_eq_getElem (by rw [HI.out.cl]; have := hxm.2; omega)⟩
            have hyl : i < S.1.x.col.length := (List.getElem?_eq_some_iff.1 hy).1
            obtain ⟨gL, capL, hvL, _, bL, cL2, _⟩ := hM.intsAt 2 rfl (by rintro rfl; simp at hx)
            have c0 := cL2 k _ hx
            obtain ⟨gC, capC, hvc, _, bC, cC, _⟩ := hM.intsAt 6 rfl (by intro e; rw [e] at hy; simp at hy)
            have c1 := cC i y hy
            have m2 : wr.cell? ⟨bm, 2, none⟩ = some vc3 := hM.cell 4 rfl 2
            rw [hvc] at m2
            have mb : bm < wr.heap.size := (hM.box 4 rfl).2.1
            obtain ⟨aT, nT, cT, rfl⟩ := own_slice (hM.row 1 rfl)
            have o1 := hM.cell 0 rfl 1
            have ob := (hM.box 0 rfl).2.1
            have haL : aL = some ⟨gL, 0, none⟩ := by cases hvL; rfl
            have hth : hues S.1 (k + 1) = hues S.1 k ++ [((i : Int), y)] := by
              unfold hues
              rw [HTL.out, take_succ_some _ _ _ hx, List.map_append, List.map_singleton, show cAt S.1.x.col (i : Int) = y from by unfold cAt; rw [Int.toNat_natCast, List.getD_eq_getElem?_getD, hy]; rfl]
            have hyl2 : (hues S.1 k).length = k := by unfold hues; rw [HTL.out, List.length_map, List.length_take]; omega
            obtain ⟨Y, hY⟩ : ∃ Y, hues S.1 k = Y := ⟨_, rfl⟩
            rw [hY] at hth hyl2 hM
            have e2 : (k : Int) < (TL.length : Int) := by omega
            have e3 : (i : Int) < (S.1.x.col.length : Int) := by omega
            have hk1000 : Y.length ≤ 1000000 := by omega
            have hM5 := hM
            have Hth := Lib.hid hth
            have HY := Lib.hid hyl2
            have Hk : Hid (k < TL.length) := Lib.hid hltk
            subst haL
            clear hx hxm hy hM hvL hvc cL2 cC hth hY hyl2 hltk hyl
            go_upto_region 28 with (fail)
            go_region_law (first
              | (refine Mem.step_appT2 elemCounts rfl (.tmp 99) (.tmp 109) rfl (hM5.alloc_ (.cells #[.int .i64 i, .int .i64 y] 98)).drew 1 rfl rfl _ _ ((i : Int), y) rfl (new_at wr #[.int .i64 i, .int .i64 y] rfl 98) rfl (cellsC_one _) hk1000 (by decide) ?_
                 intro ad cp w6 hM6 hs6 hk6
                 have u0 := hM6.cell 0 rfl 1
                 have u1 := hM6.free 0 rfl 1
                 have u2 := (hM6.box 0 rfl).2.1)
              | fail)
            all_goals
              have hM7 := hM6.setBox 0 rfl 1 (.slice ad (Y.length + 1) cp)
              have HM7 := Lib.hid hM7
              clear hM6 hM7 hM5 u0 u1 u2
              go_wp2_with fail
              go_roundw
              case rel =>
                refine ⟨k + 1, .slice ad (Y.length + 1) cp, by have := Hk.out; omega, by go_num, ?_⟩
                rw [Hth.out]
                exact HM7.out
              case measure => simp [intOf]; have := Hk.out; omega
          · obtain rfl : k = TL.length := by omega
            have hth : hues S.1 TL.length = hues S.1 S.1.os.length := by
              unfold hues
              rw [HTL.out, List.take_length, List.take_of_length_le (by rw [← HTL.out]; exact thereL_len _ _)]
            rw [hth] at hM
            have m5 : wr.cell? ⟨bm, 3, none⟩ = some vg3 := hM.cell 4 rfl 3
            have mb : bm < wr.heap.size := (hM.box 4 rfl).2.1
            have o2 := hM.cell 0 rfl 2
            have of2 := hM.free 0 rfl 2
            have ob := (hM.box 0 rfl).2.1
            obtain ⟨aG, nG, cG, rfl⟩ := own_slice (hM.row 7 rfl)
            obtain ⟨aT, nT, cT, rfl⟩ := own_slice (hM.row 1 rfl)
            have hM5 := hM.setBox 0 rfl 2 (.slice aG nG cG)
            obtain ⟨aU, nU, cU, rfl⟩ := hM5.sliceIn (e := 39) (sz := 3) (v := vU) (n := S.2.length) (xs := S.2.flatMap cellsO) (by show rowT 39 3 cellsO vU S.2 ∈ _; simp)
            obtain ⟨W9, hW9⟩ : ∃ W9, wr.setCell ⟨b12, 2, none⟩ (.slice aG nG cG) = W9 := ⟨_, rfl⟩
            rw [hW9] at hM5
            have v0 : W9.cell? ⟨b12, 0, none⟩ = some (.slice aU nU cU) := hM5.cell 0 rfl 0
            have v1 : W9.cell? ⟨b12, 1, none⟩ = some (.slice aT nT cT) := hM5.cell 0 rfl 1
            have v2 : W9.cell? ⟨b12, 2, none⟩ = some (.slice aG nG cG) := hM5.cell 0 rfl 2
            have vb := (hM5.box 0 rfl).2.1
            have hsub : [rowT 98 2 cellsC (.slice aT nT cT) (hues S.1 S.1.os.length), rowI 3 (.slice aG nG cG) S.1.x.gone, rowT 39 3 cellsO (.slice aU nU cU) S.2, ebox (w.heap.size + 1) #[.slice none 0 0, .slice none 0 0, .slice none 0 0] 31].Sublist (ebox b12 #[.slice aU nU cU, .slice aT nT cT, .slice aG nG cG] 31 :: rowT 98 2 cellsC (.slice aT nT cT) (hues S.1 S.1.os.length) :: rowI 3 (.slice aL TL.length cL) TL :: ((tA bx S.1.regs (tMv bm) bm (.iface ty (.agg #[])) (.slice a3 cs3.length cp3) cs3 vc3 S.1.x.col (.slice aG nG cG) S.1.x.gone ++ objsE cs3) ++ (rowT 39 3 cellsO (.slice aU nU cU) S.2 :: R))) := by
              refine .cons _ (.cons_cons _ (.cons _ ?_))
              have h1 : [rowI 3 (.slice aG nG cG) S.1.x.gone].Sublist (tA bx S.1.regs (tMv bm) bm (.iface ty (.agg #[])) (.slice a3 cs3.length cp3) cs3 vc3 S.1.x.col (.slice aG nG cG) S.1.x.gone) := .cons _ (.cons _ (.cons _ (.cons _ (List.Sublist.refl _))))
              have h2 : [rowT 39 3 cellsO (.slice aU nU cU) S.2, ebox (w.heap.size + 1) #[.slice none 0 0, .slice none 0 0, .slice none 0 0] 31].Sublist (rowT 39 3 cellsO (.slice aU nU cU) S.2 :: R) := by
                rw [← HR.out]; exact .cons_cons _ (.cons_cons _ (List.nil_sublist _))
              exact (h1.trans (List.sublist_append_left _ _)).append h2
            have hM6 := Mem.perm (hM5.drop hsub) (List.perm_middle (l₁ := [_, _, _]) (l₂ := [])).symm
            have q0 := hM6.cell 0 rfl 0
            have q1 := hM6.cell 0 rfl 1
            have q2 := hM6.cell 0 rfl 2
            have qf0 := hM6.free 0 rfl 0
            have qf1 := hM6.free 0 rfl 1
            have qf2 := hM6.free 0 rfl 2
            have qb := (hM6.box 0 rfl).2.1
            have hM7 := ((hM6.setBox 0 rfl 0 (.slice aU nU cU)).setBox 0 rfl 1 (.slice aT nT cT)).setBox 0 rfl 2 (.slice aG nG cG)
            have s0 := hM7.cell 0 rfl 0
            have s1 := hM7.cell 0 rfl 1
            have s2 := hM7.cell 0 rfl 2
            have hM8 := Mem.perm (hM7.drop (List.sublist_cons_self _ _)) (List.perm_middle (l₁ := [_, _]) (l₂ := [])).symm
            have HM8 := Lib.hid hM8
            have HW9 := Lib.hid hW9
            clear hM hM5 hM6 hM7 hM8 hsub hth hW9
            go_upto_region 31 with (fail)
            rw [HW9.out]
            go_wp2
            refine bodyPost_ret (v := .tuple #[.agg #[.slice aU nU cU, .slice aT nT cT, .slice aG nG cG], .int .i64 0]) (by simp [results, Try.results11, go_sem, s0, s1, s2]) rfl ⟨S.1, _, _, _, by rw [HSS.out], rfl, by rw [HSS.out]; exact HM8.out⟩
end Go.Proofs.Ytjnbnfmlpdnngaa
