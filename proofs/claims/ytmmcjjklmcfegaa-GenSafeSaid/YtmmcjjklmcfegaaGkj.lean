/- gen.Play, walked. -/
import Derived.Test.YtmmcjjklmcfegaaBase15
import Derived.Test.YtmmcjjklmcfegaaBase17
import Derived.Test.YtmmcjjklmcfegaaReb
import Derived.Test.YtmmcjjklmcfegaaBase12
import Derived.Test.YtmmcjjklmcfegaaBase2
import Derived.Test.YtmmcjjklmcfegaaTak
import Derived.Deep.CutBlock
import Derived.Deep.RegionLaw
namespace Go.Proofs.Ytmmcjjklmcfegaa
open Go.RowKit Go.Shelf
theorem repK_cps {B : Nat} {w0 w : World} {L : List Ent} {x : Bool} {n : Nat} (hn : n ≤ 1000) {b : Nat} {R : Ending → World → Prop} (hM : Mem B w0 w L) (hm : ebox b #[.bool x] 4 ∈ L)
    (h : ∀ v w', Mem B w0 w' (rowK v (List.replicate n x) :: L) → R (.returned v) w') : Calls Try.prog 52 #[.slice (some ⟨b, 0, none⟩) 1 1, .int .i64 (n : Int)] w R := by
  refine (repeatK_any x b 0 1 n hn w (hM.lt hm _ rfl).2 (hM.boxCell hm 0 rfl)).mono ?_
  rintro e w' ⟨v, rfl, hM2⟩
  exact h v w' (hM.callMem hM2)
theorem newMapC {B : Nat} {w0 w : World} {L : List Ent} (h : Mem B w0 w L) : Mem B w0 (w.alloc (.map #[] 0)) (gmap mapCI w.heap.size 0 (fun _ => none) :: L) := h.newMapG
theorem perm3g {α : Type} (A R S : List α) : (A ++ (R ++ S)).Perm (R ++ (A ++ S)) := by
  rw [← List.append_assoc, ← List.append_assoc]
  exact List.Perm.append_right _ List.perm_append_comm
theorem finG {B : Nat} {w0 w : World} {A' O R : List Ent} (A Bk : List Ent) (h : Mem B w0 w (A ++ (O ++ (Bk ++ R)))) (idx : List Nat) (hn : idx.Nodup) (he : A'.map some = idx.map (fun i => (A ++ Bk)[i]?)) : Mem B w0 w (A' ++ (O ++ R)) := by
  refine Mem.pick (A := A ++ Bk) (h.perm ?_) idx hn he
  rw [List.append_assoc]
  exact List.Perm.append_left _ (perm3g Bk O R)
/-- Who is there, and how old. -/
def ages (s : Sm Gx) (k : Nat) : List (Int × Int) := ((thereL s.os s.os.length).take k).map fun i => (i, if oA s.x.old i = true then 1 else 0)
def GPlaySays (room : Int) (g : G) (ds : List Dd) (w w' : World) (e : Ending) : Prop :=
  ∃ s vo vt vr Rl, s = (runs (gstep room) (startG g) ds).1 ∧ e = .returned (.tuple #[.agg #[vo, vt, vr], .int .i64 0]) ∧ (∀ p ∈ Rl, s.x.rem p = true) ∧ Rl.length ≤ 1000 ∧
    Mem w.heap.size w w' [rowT 89 3 cellsO vo (runs (gstep room) (startG g) ds).2, rowT 53 2 cellsC vt (ages s s.os.length), rowT 53 2 cellsC vr Rl]
theorem pull4g {m x y z u : Ent} {L Q : List Ent} : (x :: y :: z :: u :: m :: (L ++ Q)).Perm (m :: (L ++ x :: y :: z :: u :: Q)) := (List.Perm.cons _ pull3).trans pull1
set_option maxRecDepth 100000 in
set_option maxHeartbeats 16000000 in
theorem gplay_yes (room : Int) (hrm : 1 ≤ room ∧ room ≤ 64) (g : G) (hG : Good g) (v u : Value) (ds : List Dd) (w : World) (hg : IsGraph w v g) (hu : IsTup 5 cellsD w u ds) (hd : ∀ d ∈ ds, DdOk d) (hn : ds.length ≤ 100) :
    Calls Try.prog 35 #[v, .int .i64 room, u] w fun e w' => GPlaySays room g ds w w' e := by
  have Hg := Lib.hid hg
  have HG := Lib.hid hG
  have Hu := Lib.hid hu
  have HD := Lib.hid hd
  obtain ⟨au, cu, rfl, _⟩ := hu.slice
  obtain ⟨vo, vr, rfl, ho, hr⟩ := hg
  obtain ⟨ao, co, rfl, hlo⟩ := ho.slice
  obtain ⟨ar, cr, rfl, hlr⟩ := hr.slice
  have hM0 := ((Mem.start w).alloc #[.slice ao g.objs.length co, .slice ar g.roots.length cr] 25).alloc #[.slice none 0 0, .slice none 0 0, .slice none 0 0] 68
  simp only [World.size_alloc] at hM0
  have HM0 := Lib.hid hM0
  have hn2 : ¬ (100 : Int) < ds.length := by omega
  have hn24 := hG.objs
  have hr1 : ¬ room < 1 := by omega
  have hr2 : ¬ 64 < room := by omega
  clear ho hr hG hu hd hM0
  go_enter Try.func35, Try.ntmps35
  go_wp2_with fail
  refine (gcheck_yes _ g _ (Hg.out.later HM0.out.below) HG.out).mono ?_
  rintro e w1 ⟨rfl, hb1⟩
  have hM1 := HM0.out.call hb1
  have p0 := hM1.cell 1 rfl 0
  have p1 := hM1.cell 1 rfl 1
  have pb := (hM1.box 1 rfl).2.1
  have HM1 := Lib.hid hM1
  clear hM1 hb1 HM0
  go_upto_region 8 with (fail)
  go_cut [9] (fun s9 W => ∃ (bm : Nat) (vo : Value) (cs : List (Option Oc)) (vK : Value) (bt : Nat), s9 = .pointer (some ⟨bm, 0, none⟩) ∧ conts cs = g.objs.map some ∧ Mem w.heap.size w W ([ebox bm #[vo, .pointer none, vK, .map (some bt), .int .i64 room] 122, rowP vo cs, rowK vK (List.replicate g.objs.length true), gmap mapCI bt 0 (fun _ => none)] ++ (objsE cs ++ [ebox (w.heap.size + 1) #[.slice none 0 0, .slice none 0 0, .slice none 0 0] 68, ebox w.heap.size #[.slice ao g.objs.length co, .slice ar g.roots.length cr] 25])))
  case first =>
    have HNz := HM1
    have hmm := @run_makeMap Try.prog
    go_region_held3 (fun W => W.cell? ⟨w.heap.size, 0, none⟩ = some (.slice ao g.objs.length co) ∧ W.cell? ⟨w.heap.size, 1, none⟩ = some (.slice ar g.roots.length cr))
      (first | (refine BoxIn.both (B := w.heap.size) (w0 := w) (t := 25) ?_; apply Exists.intro; apply And.intro; (focus (repeat (first | exact hR | exact HNz.out | with_reducible apply Mem.drew | with_reducible apply Mem.alloc | with_reducible apply newMapC))); (focus simp)) | fail)
      (first
        | (go_at_call 37
           apply of_cps HG.out Hg.out
           (focus (repeat (first | exact hR | exact HNz.out | with_reducible apply Mem.drew | with_reducible apply Mem.alloc | with_reducible apply newMapC)))
           intro aO cO csu wq hcs hR)
        | (go_at_call 52
           apply repK_cps (B := w.heap.size) (w0 := w) (x := true) (n := g.objs.length) (by omega)
           (focus (repeat (first | exact hR | exact HNz.out | with_reducible apply Mem.drew | with_reducible apply Mem.alloc | with_reducible apply newMapC)))
           (focus simp)
           intro vu wq hR
           obtain ⟨au2, cu2, hvu⟩ := hR.sliceK 0 rfl
           rw [List.length_replicate] at hvu
           subst hvu)
        | fail)
    all_goals
      go_wp2_with fail
      go_meet
      apply Exists.intro; apply Exists.intro; apply Exists.intro; apply Exists.intro; apply Exists.intro
      apply And.intro
      focus rfl
      apply And.intro
      focus exact hcs
      apply mem_cps
      (focus (repeat (first | exact hR | exact HNz.out | with_reducible apply Mem.drew | with_reducible apply Mem.alloc | with_reducible apply newMapC)))
      intro hF
      try simp only [World.size_alloc] at hF
      first
        | exact finG [_, _, _] [_, _] hF [0, 2, 1, 3] (by decide) rfl
        | exact finG [_, _, _] [_, _] hF [0, 2, 1, 4] (by decide) rfl
        | exact finG [_, _, _, _] [_] hF [0, 3, 1, 2] (by decide) rfl
        | exact finG [_, _, _, _] [_] hF [0, 3, 2, 1] (by decide) rfl
        | exact finG [_, _, _, _] [_] hF [0, 3, 1, 4] (by decide) rfl
        | exact finG [_, _, _, _, _] [] hF [0, 4, 1, 2] (by decide) rfl
        | exact finG [_, _, _, _, _] [] hF [0, 4, 1, 3] (by decide) rfl
        | exact finG [_, _, _, _, _] [] hF [0, 4, 2, 1] (by decide) rfl
        | fail
  case rest =>
    obtain ⟨bm, vO, cs, vK, bt, rfl, hcs, hM⟩ := hcut
    clear HM1 p0 p1 pb
    have hgm : ebox w.heap.size #[.slice ao g.objs.length co, .slice ar g.roots.length cr] 25 ∈ ([ebox bm #[vO, .pointer none, vK, .map (some bt), .int .i64 room] 122, rowP vO cs, rowK vK (List.replicate g.objs.length true), gmap mapCI bt 0 (fun _ => none)] ++ (objsE cs ++ [ebox (w.heap.size + 1) #[.slice none 0 0, .slice none 0 0, .slice none 0 0] 68, ebox w.heap.size #[.slice ao g.objs.length co, .slice ar g.roots.length cr] 25])) := by simp
    have r0 := hM.boxCell hgm 0 rfl
    have r1 := hM.boxCell hgm 1 rfl
    have rb : w.heap.size < wc.heap.size := (hM.boxFree hgm 0).2
    obtain ⟨v0, v1, v2, v3, v4, v5, v6, v7, hv8⟩ := eight (firstR_len HG.out.roots)
    have hrv : regsV (firstR g.roots) = .agg #[.bool v0.ref, .int .i64 v0.n, .bool v1.ref, .int .i64 v1.n, .bool v2.ref, .int .i64 v2.n, .bool v3.ref, .int .i64 v3.n, .bool v4.ref, .int .i64 v4.n, .bool v5.ref, .int .i64 v5.n, .bool v6.ref, .int .i64 v6.n, .bool v7.ref, .int .i64 v7.n] := by rw [hv8]; rfl
    have hFi := first_any g _ wc (Hg.out.later hM.below) HG.out.roots
    rw [hrv] at hFi
    have HFi := Lib.hid hFi
    have Hv8 := Lib.hid hv8
    have HM := Lib.hid hM
    have Hcs := Lib.hid hcs
    clear hM hcs hFi hrv hv8 hgm
    go_wp2_with fail
    refine HFi.out.mono ?_
    rintro e w3 ⟨rfl, hb3⟩
    have hM3 := HM.out.call hb3
    have hM4 := hM3.alloc #[.bool v0.ref, .int .i64 v0.n, .bool v1.ref, .int .i64 v1.n, .bool v2.ref, .int .i64 v2.n, .bool v3.ref, .int .i64 v3.n, .bool v4.ref, .int .i64 v4.n, .bool v5.ref, .int .i64 v5.n, .bool v6.ref, .int .i64 v6.n, .bool v7.ref, .int .i64 v7.n, gMv bm] 87
    have e : mbox w3.heap.size (firstR g.roots) (gMv bm) = ebox w3.heap.size #[.bool v0.ref, .int .i64 v0.n, .bool v1.ref, .int .i64 v1.n, .bool v2.ref, .int .i64 v2.n, .bool v3.ref, .int .i64 v3.n, .bool v4.ref, .int .i64 v4.n, .bool v5.ref, .int .i64 v5.n, .bool v6.ref, .int .i64 v6.n, .bool v7.ref, .int .i64 v7.n, gMv bm] 87 := by unfold mbox mcells; rw [Hv8.out]; rfl
    rw [← e] at hM4
    obtain ⟨W4, hW4⟩ : ∃ W4, w3.alloc (.cells #[.bool v0.ref, .int .i64 v0.n, .bool v1.ref, .int .i64 v1.n, .bool v2.ref, .int .i64 v2.n, .bool v3.ref, .int .i64 v3.n, .bool v4.ref, .int .i64 v4.n, .bool v5.ref, .int .i64 v5.n, .bool v6.ref, .int .i64 v6.n, .bool v7.ref, .int .i64 v7.n, .iface 117 (.pointer (some ⟨bm, 0, none⟩))] 87) = W4 := ⟨_, rfl⟩
    obtain ⟨bx, hbx⟩ : ∃ bx, w3.heap.size = bx := ⟨_, rfl⟩
    rw [hbx] at hM4
    have hM4' : Mem w.heap.size w W4 (mbox bx (firstR g.roots) (gMv bm) :: ([ebox bm #[vO, .pointer none, vK, .map (some bt), .int .i64 room] 122, rowP vO cs, rowK vK (List.replicate g.objs.length true), gmap mapCI bt 0 (fun _ => none)] ++ (objsE cs ++ [ebox (w.heap.size + 1) #[.slice none 0 0, .slice none 0 0, .slice none 0 0] 68, ebox w.heap.size #[.slice ao g.objs.length co, .slice ar g.roots.length cr] 25]))) := hW4 ▸ hM4
    have n1 : W4.cell? ⟨bm, 1, none⟩ = some (.pointer none) := hM4'.cell 1 rfl 1
    have nf : W4.frozen? ⟨bm, 1, none⟩ = false := hM4'.free 1 rfl 1
    have nb : bm < W4.heap.size := (hM4'.box 1 rfl).2.1
    have hM5 := hM4'.setBox 1 rfl 1 (.pointer (some ⟨bx, 0, none⟩))
    obtain ⟨W5, hW5⟩ : ∃ W5, W4.setCell ⟨bm, 1, none⟩ (.pointer (some ⟨bx, 0, none⟩)) = W5 := ⟨_, rfl⟩
    rw [hW5] at hM5
    obtain ⟨R, hR⟩ : ∃ R, [ebox (w.heap.size + 1) #[.slice none 0 0, .slice none 0 0, .slice none 0 0] 68, ebox w.heap.size #[.slice ao g.objs.length co, .slice ar g.roots.length cr] 25] = R := ⟨_, rfl⟩
    have hGM : GM w.heap.size w bx (firstR g.roots) (gMv bm) bm room (startG g).os (startG g).x R W5 := by
      refine ⟨vO, cs, bt, 0, vK, Hcs.out, Nat.le_refl _, ?_⟩
      rw [← hR]
      show Mem w.heap.size w W5 (gA bx (firstR g.roots) (gMv bm) bm room vO cs (.map (some bt)) (gmap mapCI bt 0 (setC (fun _ => false))) vK (List.replicate g.objs.length true) ++ _)
      rw [setC_no]
      exact hM5
    have HW4 := Lib.hid hW4
    have HW5 := Lib.hid hW5
    have Hbx := Lib.hid hbx
    have HR := Lib.hid hR
    have HGM := Lib.hid hGM
    clear hM3 hM4 hM4' hM5 hW4 hW5 hbx hR hGM HFi HM e hb3 r0 r1 rb Hcs Hv8
    go_upto_region 10 with (fail)
    rw [HW4.out, Hbx.out]
    go_upto_region 11 with (fail)
    rw [HW5.out]
    clear n1 nf nb
    obtain ⟨L0, hL0, hM0⟩ := gm_to HGM.out
    have hM1 : HoldsM w.heap.size w bx (firstR g.roots) (gMv bm) L0 (ebox W5.heap.size #[.slice none 0 0, .slice none 0 0, .slice none 0 0] 68 :: rowT 89 3 cellsO (.slice none 0 0) [] :: R) (W5.alloc (.cells #[.slice none 0 0, .slice none 0 0, .slice none 0 0] 68)) :=
      Mem.perm ((Mem.nilT hM0 89 3 cellsO).alloc #[.slice none 0 0, .slice none 0 0, .slice none 0 0] 68) pull2.symm
    obtain ⟨b11, hb11⟩ : ∃ b11, W5.heap.size = b11 := ⟨_, rfl⟩
    obtain ⟨W9, hW9⟩ : ∃ W9, W5.alloc (.cells #[.slice none 0 0, .slice none 0 0, .slice none 0 0] 68) = W9 := ⟨_, rfl⟩
    rw [hW9, hb11] at hM1
    have hIs : IsG bm bx room (runs (gstep room) (startG g) (ds.take 0)).1.os (runs (gstep room) (startG g) (ds.take 0)).1.x L0 := hL0
    have HM1 := Lib.hid hM1
    have HIs := Lib.hid hIs
    have Hb11 := Lib.hid hb11
    have HW9 := Lib.hid hW9
    clear hM1 hM0 hL0 hIs hb11 hW9 HGM HW4 HW5
    go_upto_region 13 with (fail)
    rw [HW9.out, Hb11.out]
    go_loopw [13, 14, 61, 71, 75] (fun _ _ s61 _ _ wq => ∃ (k : Nat) (L : List Ent) (vU : Value), k ≤ ds.length ∧ s61 = .int .i64 (k : Int) ∧ Hid (IsG bm bx room (runs (gstep room) (startG g) (ds.take k)).1.os (runs (gstep room) (startG g) (ds.take k)).1.x L) ∧ HoldsM w.heap.size w bx (runs (gstep room) (startG g) (ds.take k)).1.regs (gMv bm) L (ebox b11 #[vU, .slice none 0 0, .slice none 0 0] 68 :: rowT 89 3 cellsO vU (runs (gstep room) (startG g) (ds.take k)).2 :: R) wq) (fun _ _ i _ _ _ => ds.length - (intOf i).toNat)
    case atStart => exact ⟨0, L0, _, Nat.zero_le _, rfl, HIs, HM1.out⟩
    case round =>
      clear HM1 HIs
      obtain ⟨k, L, vU, hk, rfl, hIs, hM⟩ := hrel
      by_cases hltd : k < ds.length
      · obtain ⟨d, hd⟩ := get_some _ _ hltd
        obtain ⟨bu, off, cap, hv, _, hb2, hc⟩ := Hu.out.at (Mem.below hM) hd
        cases hv
        obtain ⟨hI, hol, hcn⟩ := runsG_inv HG.out hrm.1 k ds hk (by omega)
        have HS := Lib.hid (runs_take (gstep room) (startG g) hd)
        obtain ⟨S, hS⟩ : ∃ S, runs (gstep room) (startG g) (ds.take k) = S := ⟨_, rfl⟩
        have hSl : S.2.length = k := by rw [← hS, runs_len, List.length_take]; omega
        rw [hS] at hI hol hM hIs HS hcn
        have hdo := HD.out d (List.mem_of_getElem? hd)
        obtain ⟨dk, dt, df, da, dn⟩ := d
        have c0 : wr.cell? ⟨bu, off + k * 5, none⟩ = some (.int .i64 dk) := hc 0 _ rfl
        have c1 : wr.cell? ⟨bu, off + k * 5 + 1, none⟩ = some (.int .i64 dt) := hc 1 _ rfl
        have c2 : wr.cell? ⟨bu, off + k * 5 + 2, none⟩ = some (.int .i64 df) := hc 2 _ rfl
        have c3 : wr.cell? ⟨bu, off + k * 5 + 3, none⟩ = some (.int .i64 da) := hc 3 _ rfl
        have c4 : wr.cell? ⟨bu, off + k * 5 + 4, none⟩ = some (.int .i64 dn) := hc 4 _ rfl
        have hMa := Mem.tuck (Mem.alloc (Mem.tuck (Mem.alloc hM #[.int .i64 dk, .int .i64 dt, .int .i64 df, .int .i64 da, .int .i64 dn] 58)) #[.int .i64 0, .bool false, .int .i64 0] 89)
        simp only [World.size_alloc] at hMa
        obtain ⟨W6, hW6⟩ : ∃ W6, (wr.alloc (.cells #[.int .i64 dk, .int .i64 dt, .int .i64 df, .int .i64 da, .int .i64 dn] 58)).alloc (.cells #[.int .i64 0, .bool false, .int .i64 0] 89) = W6 := ⟨_, rfl⟩
        obtain ⟨b14, hb14⟩ : ∃ b14, wr.heap.size = b14 := ⟨_, rfl⟩
        rw [hW6, hb14] at hMa
        obtain ⟨aU, nU, cU, rfl⟩ := Mem.sliceIn (v := vU) (e := 89) (sz := 3) (n := S.2.length) (xs := S.2.flatMap cellsO) hMa (by show rowT 89 3 cellsO vU S.2 ∈ _; simp)
        have hMa2 : HoldsM w.heap.size w bx S.1.regs (gMv bm) L (ebox (b14 + 1) #[.int .i64 0, .bool false, .int .i64 0] 89 :: ebox b14 #[.int .i64 dk, .int .i64 dt, .int .i64 df, .int .i64 da, .int .i64 dn] 58 :: ebox b11 #[.slice aU nU cU, .slice none 0 0, .slice none 0 0] 68 :: rowT 89 3 cellsO (.slice aU nU cU) S.2 :: R) W6 := hMa
        have hMp := Mem.perm hMa pull4g
        have d0 := hMp.cell 1 rfl 0
        have d1 := hMp.cell 1 rfl 1
        have d2 := hMp.cell 1 rfl 2
        have d3 := hMp.cell 1 rfl 3
        have d4 := hMp.cell 1 rfl 4
        have dsz := (hMp.box 1 rfl).2.1
        have hkd : (k : Int) < (ds.length : Int) := by omega
        have hk1000 : S.2.length ≤ 1000000 := by omega
        have HW6 := Lib.hid hW6
        have Hb14 := Lib.hid hb14
        have HMa := Lib.hid hMa2
        have HI := Lib.hid (show InvG' room S.1 from ⟨hI, by omega⟩)
        have HIs := Lib.hid hIs.out
        clear hc hd hM hMa hMa2 hIs hS hMp hW6 hb14 hI hol hcn
        by_cases e8 : dk = 8
        · subst e8
          have hwk := minor_any w.heap.size w bx S.1.regs (gMv bm) bm room _ W6 S.1.os S.1.x HI.out.1 (gm_of HIs.out HMa.out)
          have hS2 : gstep room S.1 ⟨8, dt, df, da, dn⟩ = (minorS S.1, ⟨0, false, 0⟩) := by
            unfold gstep
            rw [if_pos rfl]
          have Hwk := Lib.hid hwk
          have HSt := Lib.hid hS2
          clear hwk hS2 hdo
          go_upto_region 19 with (fail)
          rw [HW6.out, Hb14.out]
          go_wp2_with fail
          refine Hwk.out.mono ?_
          rintro e w7 ⟨rfl, h7⟩
          obtain ⟨L', hIs2, hM2⟩ := gm_to h7
          have hM8 := Mem.perm hM2 pull4g
          have z0 := hM8.cell 0 rfl 0
          have z1 := hM8.cell 0 rfl 1
          have z2 := hM8.cell 0 rfl 2
          have zb := (hM8.box 0 rfl).2.1
          have x0 := hM8.cell 2 rfl 0
          have xb := (hM8.box 2 rfl).2.1
          have HM8 := Lib.hid hM8
          have HIs2 : Hid (IsG bm bx room (minorS S.1).os (minorS S.1).x L') := Lib.hid hIs2
          clear hM8 hIs2 hM2 h7 Hwk
          go_upto_region 22 with (fail)
          go_wp2_with (at_builtin; refine Mem.wp_appT elemOuts rfl (.tmp 80) (.tmp 82) rfl HM8.out 3 rfl rfl _ (⟨0, false, 0⟩ : Ot) #[.int .i64 0, .bool false, .int .i64 0] rfl _ _ rfl (by simp) rfl rfl (by decide) hk1000 ?_; intro ad n1 cp w9 hn1 hM9 hs9 hk9 ha9; have u0 := hM9.cell 2 rfl 0; have u1 := hM9.free 2 rfl 0; have u2 := (hM9.box 2 rfl).2.1; have hM10 := Lib.hid (hM9.setBox 2 rfl 0 (.slice ad n1 cp)); clear hM9)
          go_roundw
          case rel =>
            refine ⟨k + 1, L', .slice ad n1 cp, by omega, by go_num, ?_, ?_⟩
            · refine Lib.hid ?_
              rw [HS.out, HSt.out]; exact HIs2.out
            · rw [HS.out, HSt.out]
              exact Mem.perm (hM10.out.drop ((List.sublist_cons_self _ _).trans (List.sublist_cons_self _ _))) pull2.symm
          case measure => simp [intOf]; omega
        · by_cases e9 : dk = 9
          · subst e9
            have hwk := major_any w.heap.size w bx S.1.regs (gMv bm) bm room _ W6 S.1.os S.1.x HI.out.1 (gm_of HIs.out HMa.out)
            have hS2 : gstep room S.1 ⟨9, dt, df, da, dn⟩ = (majorS S.1, ⟨0, false, 0⟩) := by
              unfold gstep
              rw [if_neg (show ¬ ((9 : Int) = 8) by decide), if_pos rfl]
            have Hwk := Lib.hid hwk
            have HSt := Lib.hid hS2
            clear hwk hS2 hdo
            go_upto_region 21 with (fail)
            rw [HW6.out, Hb14.out]
            go_wp2_with fail
            refine Hwk.out.mono ?_
            rintro e w7 ⟨rfl, h7⟩
            obtain ⟨L', hIs2, hM2⟩ := gm_to h7
            have hM8 := Mem.perm hM2 pull4g
            have z0 := hM8.cell 0 rfl 0
            have z1 := hM8.cell 0 rfl 1
            have z2 := hM8.cell 0 rfl 2
            have zb := (hM8.box 0 rfl).2.1
            have x0 := hM8.cell 2 rfl 0
            have xb := (hM8.box 2 rfl).2.1
            have HM8 := Lib.hid hM8
            have HIs2 : Hid (IsG bm bx room (majorS S.1).os (majorS S.1).x L') := Lib.hid hIs2
            clear hM8 hIs2 hM2 h7 Hwk
            go_upto_region 22 with (fail)
            go_wp2_with (at_builtin; refine Mem.wp_appT elemOuts rfl (.tmp 80) (.tmp 82) rfl HM8.out 3 rfl rfl _ (⟨0, false, 0⟩ : Ot) #[.int .i64 0, .bool false, .int .i64 0] rfl _ _ rfl (by simp) rfl rfl (by decide) hk1000 ?_; intro ad n1 cp w9 hn1 hM9 hs9 hk9 ha9; have u0 := hM9.cell 2 rfl 0; have u1 := hM9.free 2 rfl 0; have u2 := (hM9.box 2 rfl).2.1; have hM10 := Lib.hid (hM9.setBox 2 rfl 0 (.slice ad n1 cp)); clear hM9)
            go_roundw
            case rel =>
              refine ⟨k + 1, L', .slice ad n1 cp, by omega, by go_num, ?_, ?_⟩
              · refine Lib.hid ?_
                rw [HS.out, HSt.out]; exact HIs2.out
              · rw [HS.out, HSt.out]
                exact Mem.perm (hM10.out.drop ((List.sublist_cons_self _ _).trans (List.sublist_cons_self _ _))) pull2.symm
            case measure => simp [intOf]; omega
          · have e8b : (dk == 8) = false := by simpa using e8
            have e9b : (dk == 9) = false := by simpa using e9
            have hstep : gstep room S.1 ⟨dk, dt, df, da, dn⟩ = (gKd room).step S.1 ⟨dk, dt, df, da, dn⟩ := by unfold gstep; rw [if_neg e8, if_neg e9]
            have hDo := do_any (gface w.heap.size w bx bm room hrm) S.1 HI.out ⟨dk, dt, df, da, dn⟩ hdo L _ HIs.out _ HMa.out
            obtain ⟨S2, hS2⟩ : ∃ S2, (gKd room).step S.1 ⟨dk, dt, df, da, dn⟩ = S2 := ⟨_, rfl⟩
            unfold DoSays at hDo
            rw [hS2] at hDo hstep
            have HDo := Lib.hid hDo
            have HSt := Lib.hid hstep
            clear hDo hS2 hstep hdo
            go_upto_region 17 with (fail)
            rw [HW6.out, Hb14.out]
            go_wp2_with fail
            refine HDo.out.mono ?_
            rintro e w7 ⟨rfl, L', hIs2, hM2⟩
            obtain ⟨s2, oc, orf, on⟩ := S2
            simp only [otV]
            have hS2 := HSt.out
            have hM7 := Mem.perm hM2 pull4g
            have q0 := hM7.cell 0 rfl 0
            have q1 := hM7.cell 0 rfl 1
            have q2 := hM7.cell 0 rfl 2
            have qf0 := hM7.free 0 rfl 0
            have qf1 := hM7.free 0 rfl 1
            have qf2 := hM7.free 0 rfl 2
            have qb := (hM7.box 0 rfl).2.1
            have hM8 := ((hM7.setBox 0 rfl 0 (.int .i64 oc)).setBox 0 rfl 1 (.bool orf)).setBox 0 rfl 2 (.int .i64 on)
            obtain ⟨W8, hW8⟩ : ∃ W8, ((w7.setCell ⟨b14 + 1, 0, none⟩ (.int .i64 oc)).setCell ⟨b14 + 1, 1, none⟩ (.bool orf)).setCell ⟨b14 + 1, 2, none⟩ (.int .i64 on) = W8 := ⟨_, rfl⟩
            rw [hW8] at hM8
            have y0 := hM8.cell 0 rfl 0
            have y1 := hM8.cell 0 rfl 1
            have y2 := hM8.cell 0 rfl 2
            have yb := (hM8.box 0 rfl).2.1
            have x0 := hM8.cell 2 rfl 0
            have xb := (hM8.box 2 rfl).2.1
            have HM8 := Lib.hid hM8
            have HW8 := Lib.hid hW8
            have HIs2 := Lib.hid hIs2
            have HS2 := Lib.hid hS2
            clear hM8 hW8 hIs2 hS2 hM2 hM7
            go_upto_region 22 with (fail)
            rw [HW8.out]
            go_wp2_with (at_builtin; refine Mem.wp_appT elemOuts rfl (.tmp 80) (.tmp 82) rfl HM8.out 3 rfl rfl _ (⟨oc, orf, on⟩ : Ot) #[.int .i64 oc, .bool orf, .int .i64 on] rfl _ _ rfl (by simp) rfl rfl (by decide) hk1000 ?_; intro ad n1 cp w9 hn1 hM9 hs9 hk9 ha9; have u0 := hM9.cell 2 rfl 0; have u1 := hM9.free 2 rfl 0; have u2 := (hM9.box 2 rfl).2.1; have hM10 := Lib.hid (hM9.setBox 2 rfl 0 (.slice ad n1 cp)); clear hM9)
            go_roundw
            case rel =>
              refine ⟨k + 1, L', .slice ad n1 cp, by omega, by go_num, ?_, ?_⟩
              · refine Lib.hid ?_
                rw [HS.out, HS2.out]; exact HIs2.out
              · rw [HS.out, HS2.out]
                exact Mem.perm (hM10.out.drop ((List.sublist_cons_self _ _).trans (List.sublist_cons_self _ _))) pull2.symm
            case measure => simp [intOf]; omega
      · obtain rfl : k = ds.length := by omega
        rw [List.take_length] at hIs hM
        obtain ⟨hI, hol0, hcn⟩ := runsG_inv HG.out hrm.1 ds.length ds (Nat.le_refl _) hn
        rw [List.take_length] at hI hcn
        obtain ⟨S, hS⟩ : ∃ S, runs (gstep room) (startG g) ds = S := ⟨_, rfl⟩
        rw [hS] at hI hIs hM hcn
        obtain ⟨vo3, cs3, bt3, nt3, vK3, hc3, hnt3, hM2⟩ := gm_of hIs.out hM
        have hcl : cs3.length = S.1.os.length := by rw [← hc3, conts_len]
        have hlen := hI.len
        have O := oAt_of (A := gA bx S.1.regs (gMv bm) bm room vo3 cs3 (.map (some bt3)) (gmap mapCI bt3 nt3 (setC S.1.x.rem)) vK3 S.1.x.old) (kp := 2) (vo := vo3) (cs := cs3) (R := ebox b11 #[vU, .slice none 0 0, .slice none 0 0] 68 :: rowT 89 3 cellsO vU S.2 :: R) rfl
        obtain ⟨a3, cp3, rfl⟩ := hM2.ptrSlice O
        have m0 : wr.cell? ⟨bm, 0, none⟩ = some (.slice a3 cs3.length cp3) := hM2.cell 1 rfl 0
        have mb : bm < wr.heap.size := (hM2.box 1 rfl).2.1
        have hth := othere_any w.heap.size w wr _ 2 5 (.slice a3 cs3.length cp3) cs3 hM2 O (by omega)
        rw [hc3, hcl] at hth
        rw [hcl] at m0
        have Hth := Lib.hid hth
        have HM2 := Lib.hid hM2
        have Hcl := Lib.hid hcl
        have Hc3 := Lib.hid hc3
        have HI := Lib.hid hI
        have HSS := Lib.hid hS
        have Hnt3 := Lib.hid hnt3
        have Hcn := Lib.hid hcn
        clear hth hM2 hM hIs hI hS hc3 hcl O hnt3 hcn
        go_wp2_with fail
        refine Hth.out.mono ?_
        rintro e w4 ⟨vl, rfl, hMt⟩
        have hM3 := HM2.out.callMem hMt
        obtain ⟨aL, cL, rfl⟩ := hMt.intsSlice 0 rfl
        obtain ⟨TL, hTL⟩ : ∃ TL, thereL S.1.os S.1.os.length = TL := ⟨_, rfl⟩
        rw [hTL] at hM3
        obtain ⟨em, hem⟩ : ∃ em, gmap mapCI bt3 nt3 (setC S.1.x.rem) = em := ⟨_, rfl⟩
        rw [hem] at hM3
        have Hem := Lib.hid hem
        have hM4 : Mem w.heap.size w w4 (ebox b11 #[vU, .slice none 0 0, .slice none 0 0] 68 :: rowT 53 2 cellsC (.slice none 0 0) [] :: rowI 3 (.slice aL TL.length cL) TL :: ((gA bx S.1.regs (gMv bm) bm room (.slice a3 cs3.length cp3) cs3 (.map (some bt3)) em vK3 S.1.x.old ++ objsE cs3) ++ (rowT 89 3 cellsO vU S.2 :: R))) :=
          Mem.perm (Mem.cast (hM3.nilT 53 2 cellsC) (by rw [List.append_assoc]; rfl)) pushIn
        have HM4 := Lib.hid hM4
        have HTL := Lib.hid hTL
        have hTn : TL.length ≤ 1000 := by
          rw [← hTL]
          have h1 := thereL_len S.1.os S.1.os.length
          have h2 := HI.out.len
          omega
        rw [hTL]
        clear hM3 hM4 hMt HM2 Hth hTL hem
        go_upto_region 25 with (fail)
        go_loopw [16, 17, 92] (fun _ _ s92 wq => ∃ (k : Nat) (vT : Value), k ≤ TL.length ∧ s92 = .int .i64 (k : Int) ∧ Mem w.heap.size w wq (ebox b11 #[vU, vT, .slice none 0 0] 68 :: rowT 53 2 cellsC vT (ages S.1 k) :: rowI 3 (.slice aL TL.length cL) TL :: ((gA bx S.1.regs (gMv bm) bm room (.slice a3 cs3.length cp3) cs3 (.map (some bt3)) em vK3 S.1.x.old ++ objsE cs3) ++ (rowT 89 3 cellsO vU S.2 :: R)))) (fun _ _ i _ => TL.length - (intOf i).toNat)
        case atStart => exact ⟨0, _, Nat.zero_le _, rfl, HM4.out⟩
        case round =>
          clear HM4
          obtain ⟨k, vT, hk, rfl, hM⟩ := hrel
          by_cases hltk : k < TL.length
          · obtain ⟨x, hx⟩ := get_some _ _ hltk
            have hxm := (mem_thereL (Nat.le_refl _)).1 (HTL.out ▸ List.mem_of_getElem? hx)
            obtain ⟨i, rfl⟩ : ∃ i : Nat, x = (i : Int) := ⟨x.toNat, by have := hxm.1.1; omega⟩
            have hil : i < S.1.x.old.length := by rw [HI.out.olen]; have := hxm.2; omega
            obtain ⟨y, hy⟩ := get_some S.1.x.old i hil
            have hoy := bit_at hy
            obtain ⟨gL, capL, hvL, _, bL, cL2, _⟩ := hM.intsAt 2 rfl (by rintro rfl; simp at hx)
            have c0 := cL2 k _ hx
            have haL : aL = some ⟨gL, 0, none⟩ := by cases hvL; rfl
            obtain ⟨aT, nT, cT, rfl⟩ := own_slice (hM.row 1 rfl)
            have hth : ages S.1 (k + 1) = ages S.1 k ++ [((i : Int), if y = true then 1 else 0)] := by
              unfold ages
              rw [HTL.out, take_succ_some _ _ _ hx, List.map_append, List.map_singleton, hoy]
            have hyl2 : (ages S.1 k).length = k := by unfold ages; rw [HTL.out, List.length_map, List.length_take]; omega
            obtain ⟨Y, hY⟩ : ∃ Y, ages S.1 k = Y := ⟨_, rfl⟩
            rw [hY] at hth hyl2 hM
            have e2 : (k : Int) < (TL.length : Int) := by omega
            have e3 : (i : Int) < (S.1.x.old.length : Int) := by omega
            have hk1000 : Y.length ≤ 1000000 := by omega
            have hM5 := hM.alloc #[.int .i64 (i : Int), .int .i64 0] 53
            obtain ⟨W5, hW5⟩ : ∃ W5, wr.alloc (.cells #[.int .i64 (i : Int), .int .i64 0] 53) = W5 := ⟨_, rfl⟩
            obtain ⟨b5, hb5⟩ : ∃ b5, wr.heap.size = b5 := ⟨_, rfl⟩
            rw [hW5, hb5] at hM5
            obtain ⟨gK, capK, hvK, c4, _, cb⟩ := Mem.boolK hM5 7 rfl hy
            have m2 : W5.cell? ⟨bm, 2, none⟩ = some vK3 := hM5.cell 5 rfl 2
            rw [hvK] at m2
            have mb5 : bm < W5.heap.size := (hM5.box 5 rfl).2.1
            have Hth := Lib.hid hth
            have HY := Lib.hid hyl2
            have Hk : Hid (k < TL.length) := Lib.hid hltk
            have HW5 := Lib.hid hW5
            have Hb5 := Lib.hid hb5
            have HvK := Lib.hid hvK
            subst haL
            cases y with
            | true =>
              have t1 := hM5.cell 0 rfl 1
              have tf1 := hM5.free 0 rfl 1
              have tb1 := (hM5.box 0 rfl).2.1
              have hM6 := hM5.setBox 0 rfl 1 (.int .i64 1)
              obtain ⟨W6, hW6⟩ : ∃ W6, W5.setCell ⟨b5, 1, none⟩ (.int .i64 1) = W6 := ⟨_, rfl⟩
              rw [hW6] at hM6
              have z0 := hM6.cell 0 rfl 0
              have z1 := hM6.cell 0 rfl 1
              have zb := (hM6.box 0 rfl).2.1
              have o1 := hM6.cell 1 rfl 1
              have ob := (hM6.box 1 rfl).2.1
              have HM6 := Lib.hid hM6
              have HW6 := Lib.hid hW6
              clear hx hxm hM hvL cL2 hth hY hyl2 hltk hil hy hoy hM5 hM6 hW5 hb5 hvK hW6
              go_upto_region 28 with (fail)
              rw [HW5.out, Hb5.out]
              go_upto_region 30 with (fail)
              rw [HW6.out]
              clear t1 tf1 tb1
              go_wp2_with (at_builtin; refine Mem.wp_appT elemCounts rfl (.tmp 107) (.tmp 109) rfl HM6.out 2 rfl rfl _ ((i : Int), (1 : Int)) #[.int .i64 (i : Int), .int .i64 1] rfl _ _ rfl (by simp) rfl rfl (by decide) hk1000 ?_; intro ad n1 cp w9 hn1 hM9 hs9 hk9 ha9; have u0 := hM9.cell 1 rfl 1; have u1 := hM9.free 1 rfl 1; have u2 := (hM9.box 1 rfl).2.1; have hM10 := Lib.hid (hM9.setBox 1 rfl 1 (.slice ad n1 cp)); clear hM9)
              go_roundw
              case rel =>
                refine ⟨k + 1, .slice ad n1 cp, by have := Hk.out; omega, by go_num, ?_⟩
                rw [Hth.out]
                exact hM10.out.drop (List.sublist_cons_self _ _)
              case measure => simp [intOf]; have := Hk.out; omega
            | false =>
              have z0 := hM5.cell 0 rfl 0
              have z1 := hM5.cell 0 rfl 1
              have zb := (hM5.box 0 rfl).2.1
              have o1 := hM5.cell 1 rfl 1
              have ob := (hM5.box 1 rfl).2.1
              have HM6 := Lib.hid hM5
              clear hx hxm hM hvL cL2 hth hY hyl2 hltk hil hy hoy hM5 hW5 hb5 hvK
              go_upto_region 28 with (fail)
              rw [HW5.out, Hb5.out]
              go_upto_region 30 with (fail)
              go_wp2_with (at_builtin; refine Mem.wp_appT elemCounts rfl (.tmp 107) (.tmp 109) rfl HM6.out 2 rfl rfl _ ((i : Int), (0 : Int)) #[.int .i64 (i : Int), .int .i64 0] rfl _ _ rfl (by simp) rfl rfl (by decide) hk1000 ?_; intro ad n1 cp w9 hn1 hM9 hs9 hk9 ha9; have u0 := hM9.cell 1 rfl 1; have u1 := hM9.free 1 rfl 1; have u2 := (hM9.box 1 rfl).2.1; have hM10 := Lib.hid (hM9.setBox 1 rfl 1 (.slice ad n1 cp)); clear hM9)
              go_roundw
              case rel =>
                refine ⟨k + 1, .slice ad n1 cp, by have := Hk.out; omega, by go_num, ?_⟩
                rw [Hth.out]
                exact hM10.out.drop (List.sublist_cons_self _ _)
              case measure => simp [intOf]; have := Hk.out; omega
          · obtain rfl : k = TL.length := by omega
            have hth : ages S.1 TL.length = ages S.1 S.1.os.length := by
              unfold ages
              rw [HTL.out, List.take_length, List.take_of_length_le (by rw [← HTL.out]; exact thereL_len _ _)]
            rw [hth] at hM
            obtain ⟨aT, nT, cT, rfl⟩ := own_slice (hM.row 1 rfl)
            obtain ⟨aU, nU, cU, rfl⟩ := hM.sliceIn (e := 89) (sz := 3) (v := vU) (n := S.2.length) (xs := S.2.flatMap cellsO) (by show rowT 89 3 cellsO vU S.2 ∈ _; simp)
            have m3 : wr.cell? ⟨bm, 3, none⟩ = some (.map (some bt3)) := hM.cell 4 rfl 3
            have mb : bm < wr.heap.size := (hM.box 4 rfl).2.1
            have hM5 := hM.nilT 53 2 cellsC
            rw [← Hem.out] at hM5
            have HM5 := Lib.hid hM5
            obtain ⟨AG, hAG⟩ : ∃ AG, ages S.1 S.1.os.length = AG := ⟨_, rfl⟩
            have HAG := Lib.hid hAG
            rw [hAG] at HM5
            clear hM hth hM5 hAG
            go_wp2_with (first
              | (at_range
                 refine Mem.wp_rangeG (M := mapCI) rfl _ rfl HM5.out 8 rfl rfl ?_
                 intro w5 r cn mo ro hM6 hR6 hcnt hr6 hs6 hb6)
              | fail)
            go_frame
            have hcn : cn ≤ 100 := by have h1 := Hnt3.out; have h2 := Hcn.out; omega
            have hM6b : Mem w.heap.size w w5 (efix r ro :: rowT 53 2 cellsC (.slice none 0 0) [] :: ebox b11 #[.slice aU nU cU, .slice aT nT cT, .slice none 0 0] 68 :: rowT 53 2 cellsC (.slice aT nT cT) AG :: rowI 3 (.slice aL TL.length cL) TL :: ((gA bx S.1.regs (gMv bm) bm room (.slice a3 cs3.length cp3) cs3 (.map (some bt3)) (efix bt3 mo) vK3 S.1.x.old ++ objsE cs3) ++ (rowT 89 3 cellsO (.slice aU nU cU) S.2 :: R))) := hM6
            have HM6 := Lib.hid hM6b
            have HR6 := Lib.hid hR6
            clear hM6 hM6b hR6 hr6 hb6 hcnt hs6 HM5 m3 mb
            go_loopg [18] cn (fun gk _ wq => ∃ (left : Int × Int → Bool) (ro : Obj) (vR : Value) (Rl : List (Int × Int)), Rl.length + gk ≤ cn ∧ Hid (∀ p ∈ Rl, S.1.x.rem p = true) ∧ Ranging mapCI bt3 r nt3 (setC S.1.x.rem) left gk mo ro ∧
              Mem w.heap.size w wq (efix r ro :: rowT 53 2 cellsC vR Rl :: ebox b11 #[.slice aU nU cU, .slice aT nT cT, vR] 68 :: rowT 53 2 cellsC (.slice aT nT cT) AG :: rowI 3 (.slice aL TL.length cL) TL :: ((gA bx S.1.regs (gMv bm) bm room (.slice a3 cs3.length cp3) cs3 (.map (some bt3)) (efix bt3 mo) vK3 S.1.x.old ++ objsE cs3) ++ (rowT 89 3 cellsO (.slice aU nU cU) S.2 :: R))))
            case atStart => exact ⟨_, _, _, [], by simp, Lib.hid (fun p hp => by cases hp), HR6.out, HM6.out⟩
            case round =>
              clear HM6 HR6
              obtain ⟨left, ro5, vR, Rl, hcl5, hRl, hRg, hM⟩ := hrel
              obtain ⟨aR, nR, cR, rfl⟩ := own_slice (hM.row 1 rfl)
              have HMr := Lib.hid hM
              have HRg := Lib.hid hRg
              have o2 := hM.cell 2 rfl 2
              have ob := (hM.box 2 rfl).2.1
              have hRk : Rl.length ≤ 1000000 := by omega
              clear hM hRg
              go_wp2_with (first
                | (at_next
                   refine Mem.wp_nextCI rfl _ rfl HMr.out 0 9 rfl rfl HRg.out rfl ?_ ?_
                   (focus (intro hc0 hl0)); rotate_left
                   (focus (intro p1 p2 v w6 c6 ro6 hx6 hl6 hf6 hM7 hR7 hlt6 hs6 hen6
                           have hM7b : Mem w.heap.size w w6 (efix r ro6 :: rowT 53 2 cellsC (.slice aR nR cR) Rl :: ebox b11 #[.slice aU nU cU, .slice aT nT cT, .slice aR nR cR] 68 :: rowT 53 2 cellsC (.slice aT nT cT) AG :: rowI 3 (.slice aL TL.length cL) TL :: ((gA bx S.1.regs (gMv bm) bm room (.slice a3 cs3.length cp3) cs3 (.map (some bt3)) (efix bt3 mo) vK3 S.1.x.old ++ objsE cs3) ++ (rowT 89 3 cellsO (.slice aU nU cU) S.2 :: R))) := hM7
                           have hM8 := hM7b.allocAt wr.heap.size hs6 #[.int .i64 p1, .int .i64 p2] 53
                           have g0 := hM8.cell 0 rfl 0
                           have g1 := hM8.cell 0 rfl 1
                           have gb := (hM8.box 0 rfl).2.1
                           have g2 := hM8.cell 3 rfl 2
                           have g3 := (hM8.box 3 rfl).2.1
                           have HM8 := Lib.hid hM8
                           have HR7 := Lib.hid hR7
                           have Hf6 := Lib.hid hf6
                           clear hM7 hM7b hM8 hR7 hx6 hl6 hf6)))
                | (at_builtin
                   refine Mem.wp_appT elemCounts rfl (.tmp 123) (.tmp 125) rfl HM8.out 2 rfl rfl _ (p1, p2) #[.int .i64 p1, .int .i64 p2] rfl _ _ rfl (by simp [hs6]) rfl rfl (by decide) hRk ?_
                   intro ad n1 cp w9 hn1 hM9 hs9 hk9 ha9
                   have u0 := hM9.cell 3 rfl 2
                   have u1 := hM9.free 3 rfl 2
                   have u2 := (hM9.box 3 rfl).2.1
                   have HM9 := Lib.hid (hM9.setBox 3 rfl 2 (.slice ad n1 cp))
                   clear hM9)
                | fail)
              · go_roundg c6
                case rel =>
                  refine ⟨_, ro6, .slice ad n1 cp, Rl ++ [(p1, p2)], by simp; omega, ?_, HR7.out, HM9.out.drop (List.sublist_cons_self _ _)⟩
                  refine Lib.hid fun p hp => ?_
                  rcases List.mem_append.1 hp with hp | hp
                  · exact hRl.out p hp
                  · rw [List.mem_singleton] at hp
                    subst hp
                    exact setC_some.1 (by rw [Hf6.out]; rfl)
                case measure => exact hlt6
              · have hMe2 : Mem w.heap.size w wr (rowT 53 2 cellsP (.slice aR nR cR) Rl :: ebox b11 #[.slice aU nU cU, .slice aT nT cT, .slice aR nR cR] 68 :: rowT 53 2 cellsC (.slice aT nT cT) AG :: rowI 3 (.slice aL TL.length cL) TL :: ((gA bx S.1.regs (gMv bm) bm room (.slice a3 cs3.length cp3) cs3 (.map (some bt3)) (gmap mapCI bt3 nt3 (setC S.1.x.rem)) vK3 S.1.x.old ++ objsE cs3) ++ (rowT 89 3 cellsO (.slice aU nU cU) S.2 :: R))) := Mem.drop (HMr.out.rangeEnd 9 rfl HRg.out) (List.sublist_cons_self _ _)
                have hst := sortP_any w.heap.size w wr _ 0 (.slice aR nR cR) Rl hMe2 rfl (by omega)
                have Hst := Lib.hid hst
                have hRk2 : Rl.length ≤ 1000 := by omega
                clear hst hMe2 HMr HRg o2 ob hl0 hc0
                refine Hst.out.mono ?_
                rintro e w7 ⟨rfl, Rd, hperm, hM8⟩
                have hM8b : Mem w.heap.size w w7 (rowT 53 2 cellsC (.slice aR nR cR) Rd :: ebox b11 #[.slice aU nU cU, .slice aT nT cT, .slice aR nR cR] 68 :: rowT 53 2 cellsC (.slice aT nT cT) AG :: rowI 3 (.slice aL TL.length cL) TL :: ((gA bx S.1.regs (gMv bm) bm room (.slice a3 cs3.length cp3) cs3 (.map (some bt3)) (gmap mapCI bt3 nt3 (setC S.1.x.rem)) vK3 S.1.x.old ++ objsE cs3) ++ (rowT 89 3 cellsO (.slice aU nU cU) S.2 :: R))) := hM8
                have v0 : w7.cell? ⟨b11, 0, none⟩ = some (.slice aU nU cU) := hM8b.cell 1 rfl 0
                have v1 : w7.cell? ⟨b11, 1, none⟩ = some (.slice aT nT cT) := hM8b.cell 1 rfl 1
                have v2 : w7.cell? ⟨b11, 2, none⟩ = some (.slice aR nR cR) := hM8b.cell 1 rfl 2
                have vb := (hM8b.box 1 rfl).2.1
                have hsub : [rowT 53 2 cellsC (.slice aR nR cR) Rd, rowT 53 2 cellsC (.slice aT nT cT) AG, rowT 89 3 cellsO (.slice aU nU cU) S.2, ebox (w.heap.size + 1) #[.slice none 0 0, .slice none 0 0, .slice none 0 0] 68].Sublist (rowT 53 2 cellsC (.slice aR nR cR) Rd :: ebox b11 #[.slice aU nU cU, .slice aT nT cT, .slice aR nR cR] 68 :: rowT 53 2 cellsC (.slice aT nT cT) AG :: rowI 3 (.slice aL TL.length cL) TL :: ((gA bx S.1.regs (gMv bm) bm room (.slice a3 cs3.length cp3) cs3 (.map (some bt3)) (gmap mapCI bt3 nt3 (setC S.1.x.rem)) vK3 S.1.x.old ++ objsE cs3) ++ (rowT 89 3 cellsO (.slice aU nU cU) S.2 :: R))) := by
                  refine .cons_cons _ (.cons _ (.cons_cons _ (.cons _ ?_)))
                  have h2 : [rowT 89 3 cellsO (.slice aU nU cU) S.2, ebox (w.heap.size + 1) #[.slice none 0 0, .slice none 0 0, .slice none 0 0] 68].Sublist (rowT 89 3 cellsO (.slice aU nU cU) S.2 :: R) := by
                    rw [← HR.out]; exact .cons_cons _ (.cons_cons _ (List.nil_sublist _))
                  exact h2.trans (List.sublist_append_right _ _)
                have hM9 := Mem.perm (hM8b.drop hsub) (List.perm_middle (l₁ := [_, _, _]) (l₂ := [])).symm
                have q0 := hM9.cell 0 rfl 0
                have q1 := hM9.cell 0 rfl 1
                have q2 := hM9.cell 0 rfl 2
                have qf0 := hM9.free 0 rfl 0
                have qf1 := hM9.free 0 rfl 1
                have qf2 := hM9.free 0 rfl 2
                have qb := (hM9.box 0 rfl).2.1
                have hM10 := ((hM9.setBox 0 rfl 0 (.slice aU nU cU)).setBox 0 rfl 1 (.slice aT nT cT)).setBox 0 rfl 2 (.slice aR nR cR)
                have s0 := hM10.cell 0 rfl 0
                have s1 := hM10.cell 0 rfl 1
                have s2 := hM10.cell 0 rfl 2
                have hM11 := Mem.pick0 (A' := [rowT 89 3 cellsO (.slice aU nU cU) S.2, rowT 53 2 cellsC (.slice aT nT cT) AG, rowT 53 2 cellsC (.slice aR nR cR) Rd]) hM10 [3, 2, 1] (by decide) rfl
                have HM11 := Lib.hid hM11
                have Hpm := Lib.hid hperm
                clear hM8 hM8b hM9 hM10 hM11 hsub Hst hperm
                go_wp2
                refine bodyPost_ret (v := .tuple #[.agg #[.slice aU nU cU, .slice aT nT cT, .slice aR nR cR], .int .i64 0]) (by simp [results, Try.results35, go_sem, s0, s1, s2]) rfl ⟨S.1, _, _, _, Rd, by rw [HSS.out], rfl, fun p hp => hRl.out p (Hpm.out.mem_iff.1 hp), by rw [Hpm.out.length_eq]; exact hRk2, ?_⟩
                rw [HSS.out, HAG.out]; exact HM11.out
end Go.Proofs.Ytmmcjjklmcfegaa
