/- run.Play, walked. -/
import Derived.Test.YtjnbnfmlpdnngaaBase18
import Derived.Test.YtjnbnfmlpdnngaaPc
import Derived.Test.YtjnbnfmlpdnngaaTak
import Derived.Deep.CutBlock
import Derived.Deep.RegionLaw
namespace Go.Proofs.Ytjnbnfmlpdnngaa
open Go.RowKit Go.Shelf
theorem pull4' {m x y z u : Ent} {L Q : List Ent} : (x :: y :: z :: u :: m :: (L ++ Q)).Perm (m :: (L ++ x :: y :: z :: u :: Q)) := (List.Perm.cons _ pull3).trans pull1
def RPlaySays (col words : Int) (ds : List Dd) (w w' : World) (e : Ending) : Prop :=
  ∃ s vo g1 g2 c, s = (runs (rstep col words) startX ds).1 ∧ e = .returned (.tuple #[.agg #[vo, g1, g2, .int .i64 s.x.times], .int .i64 0]) ∧ CanonS (gOf s.regs s.os) c ∧ Graft w.heap.size w' (.agg #[g1, g2]) c ∧
    Mem w.heap.size w w' [rowT 39 3 cellsO vo (runs (rstep col words) startX ds).2]
theorem atF_nil (a : List Int) : atF [] a = fun _ => none := by
  funext i
  unfold atF
  rw [if_neg]
  rintro ⟨_, h⟩
  simp at h
set_option maxRecDepth 100000 in
set_option maxHeartbeats 8000000 in
theorem rplay_yes (col words : Int) (hcol : 1 ≤ col ∧ col ≤ 3) (hwd : 1 ≤ words ∧ words ≤ 256) (u : Value) (ds : List Dd) (w : World) (hu : IsTup 5 cellsD w u ds) (hd : ∀ d ∈ ds, DdOk d) (hn : ds.length ≤ 100) :
    Calls Try.prog 29 #[.int .i64 col, .int .i64 words, u] w fun e w' => RPlaySays col words ds w w' e := by
  have Hu := Lib.hid hu
  have HD := Lib.hid hd
  obtain ⟨au, cu, rfl, _⟩ := hu.slice
  have hM0 := (Mem.start w).alloc #[.slice none 0 0, .slice none 0 0, .slice none 0 0, .int .i64 0] 65
  have hM1 := hM0.newMapAt mapII (w.heap.size + 1) (by simp)
  have hM2 := hM1.allocAt (w.heap.size + 1 + 1) (by simp) #[.slice none 0 0, .pointer (some ⟨w.heap.size + 1 + 1 + 1, 0, none⟩), .map (some (w.heap.size + 1)), .int .i64 col, .int .i64 words, .int .i64 0] 112
  have hM3 := hM2.allocAt (w.heap.size + 1 + 1 + 1) (by simp) #[.bool false, .int .i64 0, .bool false, .int .i64 0, .bool false, .int .i64 0, .bool false, .int .i64 0, .bool false, .int .i64 0, .bool false, .int .i64 0, .bool false, .int .i64 0, .bool false, .int .i64 0, xMv (w.heap.size + 1 + 1)] 91
  have hM5 := hM3.allocAt (w.heap.size + 1 + 1 + 1 + 1) (by simp) #[.slice none 0 0, .slice none 0 0, .slice none 0 0, .int .i64 0] 65
  obtain ⟨W9, hW9⟩ : ∃ W9, (((((w.alloc (.cells #[.slice none 0 0, .slice none 0 0, .slice none 0 0, .int .i64 0] 65)).alloc (.map #[] 0)).alloc (.cells #[.slice none 0 0, .pointer (some ⟨w.heap.size + 1 + 1 + 1, 0, none⟩), .map (some (w.heap.size + 1)), .int .i64 col, .int .i64 words, .int .i64 0] 112)).alloc (.cells #[.bool false, .int .i64 0, .bool false, .int .i64 0, .bool false, .int .i64 0, .bool false, .int .i64 0, .bool false, .int .i64 0, .bool false, .int .i64 0, .bool false, .int .i64 0, .bool false, .int .i64 0, .iface 108 (.pointer (some ⟨w.heap.size + 1 + 1, 0, none⟩))] 91)).alloc (.cells #[.slice none 0 0, .slice none 0 0, .slice none 0 0, .int .i64 0] 65)) = W9 := ⟨_, rfl⟩
  have hM5' : Mem w.heap.size w W9 _ := hW9 ▸ hM5
  obtain ⟨R, hR⟩ : ∃ R, [ebox w.heap.size #[.slice none 0 0, .slice none 0 0, .slice none 0 0, .int .i64 0] 65] = R := ⟨_, rfl⟩
  have HR := Lib.hid hR
  obtain ⟨bt, hbt⟩ : ∃ bt, w.heap.size + 1 = bt := ⟨_, rfl⟩
  rw [hbt] at hM5' hW9
  obtain ⟨bm, hbm⟩ : ∃ bm, bt + 1 = bm := ⟨_, rfl⟩
  rw [hbm] at hM5' hW9
  obtain ⟨bx, hbx⟩ : ∃ bx, bm + 1 = bx := ⟨_, rfl⟩
  rw [hbx] at hM5' hW9
  obtain ⟨b10, hb10⟩ : ∃ b10, bx + 1 = b10 := ⟨_, rfl⟩
  rw [hb10] at hM5'
  have hM6 : Mem w.heap.size w W9 (ebox b10 #[.slice none 0 0, .slice none 0 0, .slice none 0 0, .int .i64 0] 65 :: mbox bx startX.regs (xMv bm) :: boxR bm bx bt (.slice none 0 0) col words 0 :: gmap mapII bt 0 (fun _ => none) :: R) := by
    rw [← hR]
    exact hM5'
  have hM7 := hM6.nil 123 1
  have hM8 : HoldsM w.heap.size w bx startX.regs (xMv bm) [boxR bm bx bt (.slice none 0 0) col words 0, rowP (.slice none 0 0) [], gmap mapII bt 0 (atF [] [])] (ebox b10 #[.slice none 0 0, .slice none 0 0, .slice none 0 0, .int .i64 0] 65 :: R) W9 := by
    rw [atF_nil]
    exact Mem.pick (A := [erow 123 1 (.slice none 0 0) 0 [], ebox b10 #[.slice none 0 0, .slice none 0 0, .slice none 0 0, .int .i64 0] 65, mbox bx startX.regs (xMv bm), boxR bm bx bt (.slice none 0 0) col words 0, gmap mapII bt 0 (fun _ => none)])
      (A' := [mbox bx startX.regs (xMv bm), boxR bm bx bt (.slice none 0 0) col words 0, rowP (.slice none 0 0) [], gmap mapII bt 0 (fun _ => none), ebox b10 #[.slice none 0 0, .slice none 0 0, .slice none 0 0, .int .i64 0] 65]) (T := R) hM7 [2, 3, 0, 4, 1] (by decide) rfl
  have hM9 : HoldsM w.heap.size w bx startX.regs (xMv bm) [boxR bm bx bt (.slice none 0 0) col words 0, rowP (.slice none 0 0) [], gmap mapII bt 0 (atF [] [])] (ebox b10 #[.slice none 0 0, .slice none 0 0, .slice none 0 0, .int .i64 0] 65 :: rowT 39 3 cellsO (.slice none 0 0) [] :: R) W9 :=
    Mem.perm (Mem.nilT hM8 39 3 cellsO) (by
      refine (List.Perm.cons _ (List.Perm.cons _ (List.Perm.cons _ (List.Perm.cons _ (List.Perm.swap _ _ _))))).trans ?_
      refine (List.Perm.cons _ (List.Perm.cons _ (List.Perm.cons _ (List.Perm.swap _ _ _)))).trans ?_
      refine (List.Perm.cons _ (List.Perm.cons _ (List.Perm.swap _ _ _))).trans ?_
      refine (List.Perm.cons _ (List.Perm.swap _ _ _)).trans ?_
      exact List.Perm.swap _ _ _)
  have hIs : IsX bx bm col words (runs (rstep col words) startX (ds.take 0)).1.os (runs (rstep col words) startX (ds.take 0)).1.x [boxR bm bx bt (.slice none 0 0) col words 0, rowP (.slice none 0 0) [], gmap mapII bt 0 (atF [] [])] := ⟨.slice none 0 0, [], bt, 0, rfl, Int.le_refl _, rfl⟩
  have HM1 := Lib.hid hM9
  have HIs := Lib.hid hIs
  have HW9 := Lib.hid hW9
  have Hbs := Lib.hid (And.intro hbt (And.intro hbm (And.intro hbx hb10)))
  have hmm := @run_makeMap Try.prog
  have hn2 : ¬ (100 : Int) < ds.length := by omega
  have c1 : ¬ col < 1 := by omega
  have c2 : ¬ 3 < col := by omega
  have c3 : ¬ words < 1 := by omega
  have c4 : ¬ 256 < words := by omega
  have hwd2 : 0 ≤ words := by omega
  clear hM0 hM1 hM2 hM3 hM5 hM5' hM6 hM7 hM8 hM9 hW9 hbt hbm hbx hb10 hu hd hR hIs hcol
  go_enter Try.func29, Try.ntmps29
  go_upto_region 12 with (fail)
  rw [Hbs.out.1, Hbs.out.2.1, Hbs.out.2.2.1, HW9.out, Hbs.out.2.2.2]
  clear c1 c2 c3 c4 hmm
  go_loopw [12, 13, 49] (fun _ _ s49 wq => ∃ (k : Nat) (L : List Ent) (vU : Value), k ≤ ds.length ∧ s49 = .int .i64 (k : Int) ∧ Hid (IsX bx bm col words (runs (rstep col words) startX (ds.take k)).1.os (runs (rstep col words) startX (ds.take k)).1.x L) ∧ HoldsM w.heap.size w bx (runs (rstep col words) startX (ds.take k)).1.regs (xMv bm) L (ebox b10 #[vU, .slice none 0 0, .slice none 0 0, .int .i64 0] 65 :: rowT 39 3 cellsO vU (runs (rstep col words) startX (ds.take k)).2 :: R) wq) (fun _ _ i _ => ds.length - (intOf i).toNat)
  case atStart => exact ⟨0, _, _, Nat.zero_le _, rfl, HIs, HM1.out⟩
  case round =>
    clear HM1 HIs
    obtain ⟨k, L, vU, hk, rfl, hIs, hM⟩ := hrel
    by_cases hltd : k < ds.length
    · obtain ⟨d, hd⟩ := get_some _ _ hltd
      obtain ⟨bu, off, cap, hv, _, hb2, hc⟩ := Hu.out.at (Mem.below hM) hd
      cases hv
      obtain ⟨hI, hol, hti0, hti⟩ := runsX_inv hwd2 col k ds hk (by omega)
      have HS := Lib.hid (runs_take (rstep col words) startX hd)
      obtain ⟨S, hS⟩ : ∃ S, runs (rstep col words) startX (ds.take k) = S := ⟨_, rfl⟩
      have hSl : S.2.length = k := by rw [← hS, runs_len, List.length_take]; omega
      rw [hS] at hI hol hM hIs HS hti
      have hdo := HD.out d (List.mem_of_getElem? hd)
      obtain ⟨dk, dt, df, da, dn⟩ := d
      have c0 : wr.cell? ⟨bu, off + k * 5, none⟩ = some (.int .i64 dk) := hc 0 _ rfl
      have c1 : wr.cell? ⟨bu, off + k * 5 + 1, none⟩ = some (.int .i64 dt) := hc 1 _ rfl
      have c2 : wr.cell? ⟨bu, off + k * 5 + 2, none⟩ = some (.int .i64 df) := hc 2 _ rfl
      have c3 : wr.cell? ⟨bu, off + k * 5 + 3, none⟩ = some (.int .i64 da) := hc 3 _ rfl
      have c4 : wr.cell? ⟨bu, off + k * 5 + 4, none⟩ = some (.int .i64 dn) := hc 4 _ rfl
      have hMa := Mem.tuck (Mem.alloc (Mem.tuck (Mem.alloc hM #[.int .i64 dk, .int .i64 dt, .int .i64 df, .int .i64 da, .int .i64 dn] 37)) #[.int .i64 0, .bool false, .int .i64 0] 39)
      simp only [World.size_alloc] at hMa
      obtain ⟨W6, hW6⟩ : ∃ W6, (wr.alloc (.cells #[.int .i64 dk, .int .i64 dt, .int .i64 df, .int .i64 da, .int .i64 dn] 37)).alloc (.cells #[.int .i64 0, .bool false, .int .i64 0] 39) = W6 := ⟨_, rfl⟩
      obtain ⟨b14, hb14⟩ : ∃ b14, wr.heap.size = b14 := ⟨_, rfl⟩
      rw [hW6, hb14] at hMa
      obtain ⟨aU, nU, cU, rfl⟩ := Mem.sliceIn (v := vU) (e := 39) (sz := 3) (n := S.2.length) (xs := S.2.flatMap cellsO) hMa (by show rowT 39 3 cellsO vU S.2 ∈ _; simp)
      have hMa2 : HoldsM w.heap.size w bx S.1.regs (xMv bm) L (ebox (b14 + 1) #[.int .i64 0, .bool false, .int .i64 0] 39 :: ebox b14 #[.int .i64 dk, .int .i64 dt, .int .i64 df, .int .i64 da, .int .i64 dn] 37 :: ebox b10 #[.slice aU nU cU, .slice none 0 0, .slice none 0 0, .int .i64 0] 65 :: rowT 39 3 cellsO (.slice aU nU cU) S.2 :: R) W6 := hMa
      have hMp := Mem.perm hMa pull4'
      have d0 := hMp.cell 1 rfl 0
      have d1 := hMp.cell 1 rfl 1
      have d2 := hMp.cell 1 rfl 2
      have d3 := hMp.cell 1 rfl 3
      have d4 := hMp.cell 1 rfl 4
      have dsz := (hMp.box 1 rfl).2.1
      have hkd : (k : Int) < (ds.length : Int) := by omega
      have hk1000 : S.2.length ≤ 1000000 := by omega
      have HW6 := Lib.hid hW6
      have Hb14 := Lib.hid hb14
      have HMa := Lib.hid hMa2
      have HI := Lib.hid (show InvX' words S.1 from ⟨hI, by omega⟩)
      have HIs := Lib.hid hIs.out
      clear hc hd hM hMa hMa2 hIs hS hMp hW6 hb14 hI hol hti hti0
      by_cases e8 : dk = 8
      · subst e8
        have hwk := rclear_any w.heap.size w bx S.1.regs (xMv bm) bm col words _ W6 S.1.os S.1.x HI.out.1 HI.out.2 (xm_of HIs.out HMa.out)
        have hS2 : rstep col words S.1 ⟨8, dt, df, da, dn⟩ = (clearS col S.1, ⟨0, false, 0⟩) := by
          unfold rstep
          rw [if_pos rfl]
        have Hwk := Lib.hid hwk
        have HSt := Lib.hid hS2
        clear hwk hS2 hdo
        go_upto_region 16 with (fail)
        rw [HW6.out, Hb14.out]
        go_wp2_with fail
        refine Hwk.out.mono ?_
        rintro e w7 ⟨rfl, h7⟩
        obtain ⟨L', hIs2, hM2⟩ := xm_to h7
        have hM8 := Mem.perm hM2 pull4'
        have y0 := hM8.cell 0 rfl 0
        have y1 := hM8.cell 0 rfl 1
        have y2 := hM8.cell 0 rfl 2
        have yb := (hM8.box 0 rfl).2.1
        have x0 := hM8.cell 2 rfl 0
        have xb := (hM8.box 2 rfl).2.1
        have HM8 := Lib.hid hM8
        have HIs2 := Lib.hid hIs2
        clear hM8 hIs2 hM2 h7 Hwk
        go_upto_region 18 with (fail)
        go_wp2_with (at_builtin; refine Mem.wp_appT elemOuts rfl (.tmp 63) (.tmp 65) rfl HM8.out 3 rfl rfl _ (⟨0, false, 0⟩ : Ot) #[.int .i64 0, .bool false, .int .i64 0] rfl _ _ rfl (by simp) rfl rfl (by decide) hk1000 ?_; intro ad n1 cp w9 hn1 hM9 hs9 hk9 ha9; have u0 := hM9.cell 2 rfl 0; have u1 := hM9.free 2 rfl 0; have u2 := (hM9.box 2 rfl).2.1; have hM10 := Lib.hid (hM9.setBox 2 rfl 0 (.slice ad n1 cp)); clear hM9)
        go_roundw
        case rel =>
          refine ⟨k + 1, L', .slice ad n1 cp, by omega, by go_num, ?_, ?_⟩
          · refine Lib.hid ?_
            rw [HS.out, HSt.out]; exact HIs2.out
          · rw [HS.out, HSt.out]
            exact Mem.perm (hM10.out.drop ((List.sublist_cons_self _ _).trans (List.sublist_cons_self _ _))) pull2.symm
        case measure => simp [intOf]; omega
      · have e8b : (dk == 8) = false := by simpa using e8
        have hstep : rstep col words S.1 ⟨dk, dt, df, da, dn⟩ = (rKd col words).step S.1 ⟨dk, dt, df, da, dn⟩ := by unfold rstep; rw [if_neg e8]
        have hDo := do_any (xface w.heap.size w bx bm col words ⟨hwd2, by omega⟩) S.1 HI.out ⟨dk, dt, df, da, dn⟩ hdo L _ HIs.out _ HMa.out
        obtain ⟨S2, hS2⟩ : ∃ S2, (rKd col words).step S.1 ⟨dk, dt, df, da, dn⟩ = S2 := ⟨_, rfl⟩
        unfold DoSays at hDo
        rw [hS2] at hDo hstep
        have HDo := Lib.hid hDo
        have HSt := Lib.hid hstep
        clear hDo hS2 hstep hdo
        go_upto_region 17 with (fail)
        rw [HW6.out, Hb14.out]
        go_wp2_with fail
        refine HDo.out.mono ?_
        rintro e w7 ⟨rfl, L', hIs2, hM2⟩
        obtain ⟨s2, oc, orf, on⟩ := S2
        simp only [otV]
        have hS2 := HSt.out
        have hM7 := Mem.perm hM2 pull4'
        have q0 := hM7.cell 0 rfl 0
        have q1 := hM7.cell 0 rfl 1
        have q2 := hM7.cell 0 rfl 2
        have qf0 := hM7.free 0 rfl 0
        have qf1 := hM7.free 0 rfl 1
        have qf2 := hM7.free 0 rfl 2
        have qb := (hM7.box 0 rfl).2.1
        have hM8 := ((hM7.setBox 0 rfl 0 (.int .i64 oc)).setBox 0 rfl 1 (.bool orf)).setBox 0 rfl 2 (.int .i64 on)
        obtain ⟨W8, hW8⟩ : ∃ W8, ((w7.setCell ⟨b14 + 1, 0, none⟩ (.int .i64 oc)).setCell ⟨b14 + 1, 1, none⟩ (.bool orf)).setCell ⟨b14 + 1, 2, none⟩ (.int .i64 on) = W8 := ⟨_, rfl⟩
        rw [hW8] at hM8
        have y0 := hM8.cell 0 rfl 0
        have y1 := hM8.cell 0 rfl 1
        have y2 := hM8.cell 0 rfl 2
        have yb := (hM8.box 0 rfl).2.1
        have x0 := hM8.cell 2 rfl 0
        have xb := (hM8.box 2 rfl).2.1
        have HM8 := Lib.hid hM8
        have HW8 := Lib.hid hW8
        have HIs2 := Lib.hid hIs2
        have HS2 := Lib.hid hS2
        clear hM8 hW8 hIs2 hS2 hM2 hM7
        go_upto_region 18 with (fail)
        rw [HW8.out]
        go_wp2_with (at_builtin; refine Mem.wp_appT elemOuts rfl (.tmp 63) (.tmp 65) rfl HM8.out 3 rfl rfl _ (⟨oc, orf, on⟩ : Ot) #[.int .i64 oc, .bool orf, .int .i64 on] rfl _ _ rfl (by simp) rfl rfl (by decide) hk1000 ?_; intro ad n1 cp w9 hn1 hM9 hs9 hk9 ha9; have u0 := hM9.cell 2 rfl 0; have u1 := hM9.free 2 rfl 0; have u2 := (hM9.box 2 rfl).2.1; have hM10 := Lib.hid (hM9.setBox 2 rfl 0 (.slice ad n1 cp)); clear hM9)
        go_roundw
        case rel =>
          refine ⟨k + 1, L', .slice ad n1 cp, by omega, by go_num, ?_, ?_⟩
          · refine Lib.hid ?_
            rw [HS.out, HS2.out]; exact HIs2.out
          · rw [HS.out, HS2.out]
            exact Mem.perm (hM10.out.drop ((List.sublist_cons_self _ _).trans (List.sublist_cons_self _ _))) pull2.symm
        case measure => simp [intOf]; omega
    · obtain rfl : k = ds.length := by omega
      rw [List.take_length] at hIs hM
      obtain ⟨S, hS⟩ : ∃ S, runs (rstep col words) startX ds = S := ⟨_, rfl⟩
      obtain ⟨hI, hol, _, _⟩ := runsX_inv hwd2 col ds.length ds (Nat.le_refl _) hn
      rw [List.take_length, hS] at hI hol
      rw [hS] at hIs hM
      obtain ⟨vo2, cs2, bt2, nt2, hc2, _, rfl⟩ := hIs.out
      have hMe : Mem w.heap.size w wr (rA bx S.1.regs (xMv bm) bm bt2 nt2 vo2 cs2 (atF S.1.os S.1.x.at_) col words S.1.x.times ++ (objsE cs2 ++ (ebox b10 #[vU, .slice none 0 0, .slice none 0 0, .int .i64 0] 65 :: rowT 39 3 cellsO vU S.2 :: R))) := hM
      have hl2 : cs2.length ≤ 1000 := by rw [← conts_len, hc2]; omega
      obtain ⟨a2, cp2, rfl⟩ := hMe.ptrSlice (oAt_of (A := rA bx S.1.regs (xMv bm) bm bt2 nt2 vo2 cs2 (atF S.1.os S.1.x.at_) col words S.1.x.times) (kp := 2) (vo := vo2) rfl)
      obtain ⟨tm, htm⟩ : ∃ tm, S.1.x.times = tm := ⟨_, rfl⟩
      rw [htm] at hMe
      have m0 : wr.cell? ⟨bm, 0, none⟩ = some (.slice a2 cs2.length cp2) := hMe.cell 1 rfl 0
      have m5 : wr.cell? ⟨bm, 5, none⟩ = some (.int .i64 tm) := hMe.cell 1 rfl 5
      have mb : bm < wr.heap.size := (hMe.box 1 rfl).2.1
      have hMbx : bx < wr.heap.size := (hMe.box 0 rfl).2.1
      obtain ⟨v0, v1, v2, v3, v4, v5, v6, v7, hv8⟩ := eight hI.fine.regs8
      have k0 : wr.cell? ⟨bx, 0, none⟩ = some (.bool v0.ref) := (hMe.regAt 0 rfl (r := 0) (v := v0) (by rw [hv8]; rfl)).1
      have k1 : wr.cell? ⟨bx, 1, none⟩ = some (.int .i64 v0.n) := (hMe.regAt 0 rfl (r := 0) (v := v0) (by rw [hv8]; rfl)).2.1
      have k2 : wr.cell? ⟨bx, 2, none⟩ = some (.bool v1.ref) := (hMe.regAt 0 rfl (r := 1) (v := v1) (by rw [hv8]; rfl)).1
      have k3 : wr.cell? ⟨bx, 3, none⟩ = some (.int .i64 v1.n) := (hMe.regAt 0 rfl (r := 1) (v := v1) (by rw [hv8]; rfl)).2.1
      have k4 : wr.cell? ⟨bx, 4, none⟩ = some (.bool v2.ref) := (hMe.regAt 0 rfl (r := 2) (v := v2) (by rw [hv8]; rfl)).1
      have k5 : wr.cell? ⟨bx, 5, none⟩ = some (.int .i64 v2.n) := (hMe.regAt 0 rfl (r := 2) (v := v2) (by rw [hv8]; rfl)).2.1
      have k6 : wr.cell? ⟨bx, 6, none⟩ = some (.bool v3.ref) := (hMe.regAt 0 rfl (r := 3) (v := v3) (by rw [hv8]; rfl)).1
      have k7 : wr.cell? ⟨bx, 7, none⟩ = some (.int .i64 v3.n) := (hMe.regAt 0 rfl (r := 3) (v := v3) (by rw [hv8]; rfl)).2.1
      have k8 : wr.cell? ⟨bx, 8, none⟩ = some (.bool v4.ref) := (hMe.regAt 0 rfl (r := 4) (v := v4) (by rw [hv8]; rfl)).1
      have k9 : wr.cell? ⟨bx, 9, none⟩ = some (.int .i64 v4.n) := (hMe.regAt 0 rfl (r := 4) (v := v4) (by rw [hv8]; rfl)).2.1
      have k10 : wr.cell? ⟨bx, 10, none⟩ = some (.bool v5.ref) := (hMe.regAt 0 rfl (r := 5) (v := v5) (by rw [hv8]; rfl)).1
      have k11 : wr.cell? ⟨bx, 11, none⟩ = some (.int .i64 v5.n) := (hMe.regAt 0 rfl (r := 5) (v := v5) (by rw [hv8]; rfl)).2.1
      have k12 : wr.cell? ⟨bx, 12, none⟩ = some (.bool v6.ref) := (hMe.regAt 0 rfl (r := 6) (v := v6) (by rw [hv8]; rfl)).1
      have k13 : wr.cell? ⟨bx, 13, none⟩ = some (.int .i64 v6.n) := (hMe.regAt 0 rfl (r := 6) (v := v6) (by rw [hv8]; rfl)).2.1
      have k14 : wr.cell? ⟨bx, 14, none⟩ = some (.bool v7.ref) := (hMe.regAt 0 rfl (r := 7) (v := v7) (by rw [hv8]; rfl)).1
      have k15 : wr.cell? ⟨bx, 15, none⟩ = some (.int .i64 v7.n) := (hMe.regAt 0 rfl (r := 7) (v := v7) (by rw [hv8]; rfl)).2.1
      have hGr := ograph_any w.heap.size w wr.drew _ 2 4 _ cs2 S.1.regs hMe.drew (oAt_of (A := rA bx S.1.regs (xMv bm) bm bt2 nt2 (.slice a2 cs2.length cp2) cs2 (atF S.1.os S.1.x.at_) col words tm) (kp := 2) rfl) hl2 (by rw [hc2]; exact hI.fine)
      have hrv : regsV S.1.regs = .agg #[.bool v0.ref, .int .i64 v0.n, .bool v1.ref, .int .i64 v1.n, .bool v2.ref, .int .i64 v2.n, .bool v3.ref, .int .i64 v3.n, .bool v4.ref, .int .i64 v4.n, .bool v5.ref, .int .i64 v5.n, .bool v6.ref, .int .i64 v6.n, .bool v7.ref, .int .i64 v7.n] := by rw [hv8]; rfl
      rw [hrv] at hGr
      have HGr := Lib.hid hGr
      have hMu : Mem w.heap.size w wr (ebox b10 #[vU, .slice none 0 0, .slice none 0 0, .int .i64 0] 65 :: rowT 39 3 cellsO vU S.2 :: R) := by
        have h1 := hMe.drop (List.sublist_append_right (rA bx S.1.regs (xMv bm) bm bt2 nt2 (.slice a2 cs2.length cp2) cs2 (atF S.1.os S.1.x.at_) col words tm) _)
        exact h1.drop (List.sublist_append_right _ _)
      obtain ⟨ao9, no9, co9, rfl⟩ := hMu.isSlice 1 rfl
      have hmem : ebox b10 #[.slice ao9 no9 co9, .slice none 0 0, .slice none 0 0, .int .i64 0] 65 ∈ objsE cs2 ++ (ebox b10 #[.slice ao9 no9 co9, .slice none 0 0, .slice none 0 0, .int .i64 0] 65 :: rowT 39 3 cellsO (.slice ao9 no9 co9) S.2 :: R) := List.mem_append_right _ (List.mem_cons_self ..)
      have hp2 := (List.pairwise_append.1 hMe.apart).2.2
      have Hne1 : Hid (bm ≠ b10) := Lib.hid (fun e => hp2 _ (List.mem_cons_of_mem _ (List.mem_cons_self ..)) _ hmem bm rfl (by rw [e]; rfl))
      have Hne2 : Hid (bx ≠ b10) := Lib.hid (fun e => hp2 _ (List.mem_cons_self ..) _ hmem bx rfl (by rw [e]; rfl))
      have Hc2 := Lib.hid hc2
      have HS := Lib.hid hS
      have HMu := Lib.hid hMu
      have Htm := Lib.hid htm
      clear hM hMe hGr hrv hMu hc2 hS hIs hv8 hI hp2 hmem hol hl2 htm
      have HSS : Hid (∀ W', KeepsB bm bx wr W' → W'.cell? ⟨bm, 0, none⟩ = some (.slice a2 cs2.length cp2) ∧ W'.cell? ⟨bm, 5, none⟩ = some (.int .i64 tm) ∧ W'.cell? ⟨bx, 0, none⟩ = some (.bool v0.ref) ∧ W'.cell? ⟨bx, 1, none⟩ = some (.int .i64 v0.n) ∧ W'.cell? ⟨bx, 2, none⟩ = some (.bool v1.ref) ∧ W'.cell? ⟨bx, 3, none⟩ = some (.int .i64 v1.n) ∧ W'.cell? ⟨bx, 4, none⟩ = some (.bool v2.ref) ∧ W'.cell? ⟨bx, 5, none⟩ = some (.int .i64 v2.n) ∧ W'.cell? ⟨bx, 6, none⟩ = some (.bool v3.ref) ∧ W'.cell? ⟨bx, 7, none⟩ = some (.int .i64 v3.n) ∧ W'.cell? ⟨bx, 8, none⟩ = some (.bool v4.ref) ∧ W'.cell? ⟨bx, 9, none⟩ = some (.int .i64 v4.n) ∧ W'.cell? ⟨bx, 10, none⟩ = some (.bool v5.ref) ∧ W'.cell? ⟨bx, 11, none⟩ = some (.int .i64 v5.n) ∧ W'.cell? ⟨bx, 12, none⟩ = some (.bool v6.ref) ∧ W'.cell? ⟨bx, 13, none⟩ = some (.int .i64 v6.n) ∧ W'.cell? ⟨bx, 14, none⟩ = some (.bool v7.ref) ∧ W'.cell? ⟨bx, 15, none⟩ = some (.int .i64 v7.n)) := Lib.hid (fun W' hb => ⟨(hb.1 0).trans m0, (hb.1 5).trans m5, (hb.2 0).trans k0, (hb.2 1).trans k1, (hb.2 2).trans k2, (hb.2 3).trans k3, (hb.2 4).trans k4, (hb.2 5).trans k5, (hb.2 6).trans k6, (hb.2 7).trans k7, (hb.2 8).trans k8, (hb.2 9).trans k9, (hb.2 10).trans k10, (hb.2 11).trans k11, (hb.2 12).trans k12, (hb.2 13).trans k13, (hb.2 14).trans k14, (hb.2 15).trans k15⟩)
      have hne1 := Hne1.out
      clear HSS Hu HD HW9 Hbs hltd
      have hb10 : b10 < wr.heap.size := (HMu.out.box 0 rfl).2.1
      have hb00 : w.heap.size < wr.heap.size := by
        have h1 := HMu.out
        rw [← HR.out] at h1
        exact (h1.box 2 rfl).2.1
      have HB10 := Lib.hid (And.intro hb10 hb00)
      clear hb10 hb00
      go_wp2_with fail
      go_cut [] (fun W => ∃ a1 n1 c1 a2 n2 c2 c, CanonS (gOf S.1.regs (conts cs2)) c ∧ Graft wr.heap.size W (.agg #[.slice a1 n1 c1, .slice a2 n2 c2]) c ∧ Mem w.heap.size w W [ebox b10 #[.slice ao9 no9 co9, .slice a1 n1 c1, .slice a2 n2 c2, .int .i64 tm] 65, rowT 39 3 cellsO (.slice ao9 no9 co9) S.2, ebox w.heap.size #[.slice none 0 0, .slice none 0 0, .slice none 0 0, .int .i64 0] 65])
      case first =>
       go_region_law (first
               | (go_simp
                  refine HGr.out.mono ?_
                  rintro e w4 ⟨v', c, rfl, hC, hGf, hb4⟩
                  have hB4 : Below wr.heap.size wr w4 := ((Below.refl _ wr).drew).trans hb4
                  have hM4 := HMu.out.call hB4
                  have u0 := hM4.cell 0 rfl 0
                  have u1 := hM4.cell 0 rfl 1
                  have u2 := hM4.cell 0 rfl 2
                  have u3 := hM4.cell 0 rfl 3
                  have uf1 := hM4.free 0 rfl 1
                  have uf2 := hM4.free 0 rfl 2
                  have uf3 := hM4.free 0 rfl 3
                  have n5 : w4.cell? ⟨bm, 5, none⟩ = some (.int .i64 tm) := (hB4.cell (p := ⟨_, _, none⟩) mb).trans m5
                  have nb : bm < w4.heap.size := Nat.lt_of_lt_of_le mb hB4.size
                  have hg4 := hGf.here
                  obtain ⟨vo3, vr3, rfl, ho3, hr3⟩ := hg4
                  obtain ⟨ao3, co3, rfl, _⟩ := ho3.slice
                  obtain ⟨ar3, cr3, rfl, _⟩ := hr3.slice)
               | fail)
       all_goals
        have hM5 := ((hM4.setBox 0 rfl 1 (.slice ao3 c.objs.length co3)).setBox 0 rfl 2 (.slice ar3 c.roots.length cr3)).setBox 0 rfl 3 (.int .i64 tm)
        rw [← HR.out] at hM5
        have hGf7 : Graft wr.heap.size (((w4.setCell ⟨b10, 1, none⟩ (.slice ao3 c.objs.length co3)).setCell ⟨b10, 2, none⟩ (.slice ar3 c.roots.length cr3)).setCell ⟨b10, 3, none⟩ (.int .i64 tm)) (.agg #[.slice ao3 c.objs.length co3, .slice ar3 c.roots.length cr3]) c := by
          have h3 := HB10.out
          refine hGf.step (Nat.le_refl wr.heap.size) (by simp) ?_
          intro b h1 h2
          have h1' : wr.heap.size ≤ b := h1
          rw [heap_setCell_other _ _ _ _ (by simp only; omega), heap_setCell_other _ _ _ _ (by simp only; omega), heap_setCell_other _ _ _ _ (by simp only; omega)]
        have hfin := And.intro hC (And.intro hGf7 hM5)
        have HF := Lib.hid hfin
        clear hM4 hM5 hGf7 hGf hC hfin hb4 hB4 ho3 hr3
        go_wp2_with fail
        go_meet
        exact ⟨_, _, _, _, _, _, c, HF.out.1, HF.out.2.1, HF.out.2.2⟩
      case rest =>
        obtain ⟨a1, n1, c1, a2, n2, c2, c, hC, hGf, hM5⟩ := hcut
        clear m0 m5 mb k0 k1 k2 k3 k4 k5 k6 k7 k8 k9 k10 k11 k12 k13 k14 k15 hMbx hne1 HGr HMu
        have z0 := hM5.cell 0 rfl 0
        have z1 := hM5.cell 0 rfl 1
        have z2 := hM5.cell 0 rfl 2
        have z3 := hM5.cell 0 rfl 3
        have zb := (hM5.box 0 rfl).2.1
        have q0 := hM5.cell 2 rfl 0
        have q1 := hM5.cell 2 rfl 1
        have q2 := hM5.cell 2 rfl 2
        have q3 := hM5.cell 2 rfl 3
        have qf0 := hM5.free 2 rfl 0
        have qf1 := hM5.free 2 rfl 1
        have qf2 := hM5.free 2 rfl 2
        have qf3 := hM5.free 2 rfl 3
        have qb := (hM5.box 2 rfl).2.1
        have hM7 := (((hM5.setBox 2 rfl 0 (.slice ao9 no9 co9)).setBox 2 rfl 1 (.slice a1 n1 c1)).setBox 2 rfl 2 (.slice a2 n2 c2)).setBox 2 rfl 3 (.int .i64 tm)
        obtain ⟨W7, hW7⟩ : ∃ W7, ((((wc.setCell ⟨w.heap.size, 0, none⟩ (.slice ao9 no9 co9)).setCell ⟨w.heap.size, 1, none⟩ (.slice a1 n1 c1)).setCell ⟨w.heap.size, 2, none⟩ (.slice a2 n2 c2)).setCell ⟨w.heap.size, 3, none⟩ (.int .i64 tm)) = W7 := ⟨_, rfl⟩
        rw [hW7] at hM7
        have s0 : W7.cell? ⟨w.heap.size, 0, none⟩ = some (.slice ao9 no9 co9) := hM7.cell 2 rfl 0
        have s1 : W7.cell? ⟨w.heap.size, 1, none⟩ = some (.slice a1 n1 c1) := hM7.cell 2 rfl 1
        have s2 : W7.cell? ⟨w.heap.size, 2, none⟩ = some (.slice a2 n2 c2) := hM7.cell 2 rfl 2
        have s3 : W7.cell? ⟨w.heap.size, 3, none⟩ = some (.int .i64 tm) := hM7.cell 2 rfl 3
        have hlast : Mem w.heap.size w W7 [rowT 39 3 cellsO (.slice ao9 no9 co9) S.2] := hM7.drop (.cons _ (.cons_cons _ (.cons _ (List.Sublist.refl _))))
        have hGf9 : Graft w.heap.size W7 (.agg #[.slice a1 n1 c1, .slice a2 n2 c2]) c := by
          have h3 := HB10.out.2
          refine hGf.step (show w.heap.size ≤ wr.heap.size by omega) (by rw [← hW7]; simp) ?_
          intro b h1 h2
          rw [← hW7, heap_setCell_other _ _ _ _ (by simp only; omega), heap_setCell_other _ _ _ _ (by simp only; omega), heap_setCell_other _ _ _ _ (by simp only; omega), heap_setCell_other _ _ _ _ (by simp only; omega)]
        have HL := Lib.hid hlast
        have HG := Lib.hid hGf9
        have HC := Lib.hid hC
        have HW7 := Lib.hid hW7
        clear hM5 hM7 hlast hGf hGf9 hC hW7
        go_wp2
        rw [HW7.out]
        refine bodyPost_ret (v := .tuple #[.agg #[.slice ao9 no9 co9, .slice a1 n1 c1, .slice a2 n2 c2, .int .i64 tm], .int .i64 0]) (by simp [results, Try.results29, go_sem, s0, s1, s2, s3]) rfl ?_
        refine ⟨S.1, _, _, _, c, by rw [HS.out], by rw [Htm.out], ?_, ?_, ?_⟩
        · rw [← Hc2.out]; exact HC.out
        · exact HG.out
        · rw [HS.out]; exact HL.out
end Go.Proofs.Ytjnbnfmlpdnngaa
