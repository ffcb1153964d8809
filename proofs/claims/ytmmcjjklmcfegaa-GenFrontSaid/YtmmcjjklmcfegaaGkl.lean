/- GenFront, walked. -/
import Derived.Test.YtmmcjjklmcfegaaGkk
import Derived.Test.YtmmcjjklmcfegaaU3
import Derived.Test.YtmmcjjklmcfegaaBase16
import Derived.Deep.RegionHeld3
namespace Go.Proofs.Ytmmcjjklmcfegaa
open Go.RowKit Go.Shelf

set_option maxRecDepth 100000 in
set_option maxHeartbeats 4000000 in
theorem genFront_good (g : G) (hG : Good g) (v : Value) (au : Option Addr) (cu : Nat) (room : Int) (hr : 1 ≤ room ∧ room ≤ 64) (ds : List Dd) (q : Nat) (hq : q < 256) (w : World) (hg : IsGraph w v g) (hu : IsTup 5 cellsD w (.slice au ds.length cu) ds) (hcu : ds.length ≤ cu) (hd : ∀ d ∈ ds, DdOk d) (hn : ds.length ≤ 100) :
    Calls Try.prog 12 #[v, .int .i64 room, .slice au ds.length cu, .int .u8 (q : Int)] w fun e w' => e = .returned (.bool true) ∧ Below w.heap.size w w' := by
  have Hg := Lib.hid hg
  obtain ⟨vo, vr, rfl, ho, hr⟩ := hg
  obtain ⟨ao, co, rfl, hlo⟩ := ho.slice
  obtain ⟨ar, cr, rfl, hlr⟩ := hr.slice
  rename_i hrm
  have hM0 := (Mem.start w).alloc #[.slice ao g.objs.length co, .slice ar g.roots.length cr] 25
  obtain ⟨L, hL⟩ : ∃ L, ds.length = L := ⟨_, rfl⟩
  obtain ⟨n, hn'⟩ : ∃ n, q % (L + 1) = n := ⟨_, rfl⟩
  have hnL : n ≤ L := by rw [← hn']; have := Nat.mod_lt q (show 0 < L + 1 by omega); omega
  have hln : (ds.take n).length = n := by rw [List.length_take]; omega
  have hun := isTup_take hu n (by omega)
  have hdn : ∀ d ∈ ds.take n, DdOk d := fun d h => hd d (List.mem_of_mem_take h)
  obtain ⟨m1, hm1⟩ : ∃ m1, (ages (runs (gstep room) (startG g) ds).1 (runs (gstep room) (startG g) ds).1.os.length).length = m1 := ⟨_, rfl⟩
  obtain ⟨m2, hm2⟩ : ∃ m2, (ages (runs (gstep room) (startG g) (ds.take n)).1 (runs (gstep room) (startG g) (ds.take n)).1.os.length).length = m2 := ⟨_, rfl⟩
  have HP1 := Lib.hid (gAgain (gPlay3 room hrm g hG _ _ ds w Hg.out hu hd hn L m1 hL hm1))
  have HP2 := Lib.hid (gAgain (gPlay3 room hrm g hG _ _ (ds.take n) w Hg.out hun hdn (by omega) n m2 hln hm2))
  have hout := runs_front (gstep room) (startG g) ds n
  have hlo1 : (runs (gstep room) (startG g) ds).2.length = L := by rw [runs_len]; exact hL
  have hlo2 : (runs (gstep room) (startG g) (ds.take n)).2.length = n := by rw [runs_len]; exact hln
  have hold : ∀ y z : Int × Int, y ∈ ages (runs (gstep room) (startG g) (ds.take n)).1 (runs (gstep room) (startG g) (ds.take n)).1.os.length → z ∈ ages (runs (gstep room) (startG g) ds).1 (runs (gstep room) (startG g) ds).1.os.length → y.1 = z.1 → y.2 ≤ z.2 := fun y z hy hz e => ages_front hG hrm.1 hn (by omega) hy hz e
  have hb1 : m1 ≤ 1000 := by
    rw [← hm1, ages_len]
    have h1 := (runsG_inv hG hrm.1 ds.length ds (Nat.le_refl _) hn).1.len
    rw [List.take_length] at h1
    have h2 := thereL_len (runs (gstep room) (startG g) ds).1.os (runs (gstep room) (startG g) ds).1.os.length
    omega
  have hb2 : m2 ≤ 1000 := by
    rw [← hm2, ages_len]
    have h1 := (runsG_inv hG hrm.1 n ds (by omega) (by omega)).1.len
    have h2 := thereL_len (runs (gstep room) (startG g) (ds.take n)).1.os (runs (gstep room) (startG g) (ds.take n)).1.os.length
    omega
  obtain ⟨O1, hO1⟩ : ∃ O1, (runs (gstep room) (startG g) ds).2 = O1 := ⟨_, rfl⟩
  obtain ⟨O2, hO2⟩ : ∃ O2, (runs (gstep room) (startG g) (ds.take n)).2 = O2 := ⟨_, rfl⟩
  obtain ⟨A1, hA1⟩ : ∃ A1, ages (runs (gstep room) (startG g) ds).1 (runs (gstep room) (startG g) ds).1.os.length = A1 := ⟨_, rfl⟩
  obtain ⟨A2, hA2⟩ : ∃ A2, ages (runs (gstep room) (startG g) (ds.take n)).1 (runs (gstep room) (startG g) (ds.take n)).1.os.length = A2 := ⟨_, rfl⟩
  unfold GAgain at HP1 HP2
  rw [hO1, hA1] at HP1
  rw [hO2, hA2] at HP2
  rw [hO1, hO2] at hout
  rw [hO1] at hlo1
  rw [hO2] at hlo2
  rw [hA1, hA2] at hold
  rw [hA1] at hm1
  rw [hA2] at hm2
  have Hold := Lib.hid hold
  have Hout := Lib.hid hout
  have HM0 := Lib.hid hM0
  have Hlo := Lib.hid (And.intro hlo1 hlo2)
  have Hlm := Lib.hid (And.intro hm1 hm2)
  have hmod : ((q : Int) % ((L : Int) + 1)) = (n : Int) := by rw [← hn']; simp
  have htmod : ((q : Int).tmod ((L : Int) + 1)) = (n : Int) := by rw [Int.tmod_eq_emod_of_nonneg (by omega)]; exact hmod
  have hncl : n ≤ cu := by omega
  rw [hL] at hn HP1 ⊢
  have hL0 : ¬ (L : Int) + 1 = 0 := by omega
  clear hu hd hun hdn hM0 hG hL hln hn' ho hr hcu hlo1 hlo2 hout hold hO1 hO2 hA1 hA2 hm1 hm2
  go_enter Try.func12, Try.ntmps12
  go_wp2_with fail
  refine HP1.out _ _ _ HM0.out ?_
  intro aO cO aT cT aG nG cG w1 hM1
  dsimp only
  have hM1 := hM1.alloc #[.slice aO L cO, .slice aT m1 cT, .slice aG nG cG] 68
  obtain ⟨W1, hW1⟩ : ∃ W1, w1.alloc (.cells #[.slice aO L cO, .slice aT m1 cT, .slice aG nG cG] 68) = W1 := ⟨_, rfl⟩
  rw [hW1] at hM1
  obtain ⟨b9, hb9⟩ : ∃ b9, w1.heap.size = b9 := ⟨_, rfl⟩
  rw [hb9] at hM1
  have HNz := Lib.hid hM1
  have HW1 := Lib.hid hW1
  have Hb9 := Lib.hid hb9
  clear hM1 hW1 hb9 HP1 HM0
  go_upto_region 3 with (fail)
  rw [HW1.out, Hb9.out]
  clear HW1 Hb9
  go_cut [12, 13] (fun s12 s13 W => s13 = .int .i64 0 ∧ ∃ b12 aD cD aH cH aK nK cK, s12 = .pointer (some ⟨b12, 0, none⟩) ∧ Mem w.heap.size w W (ebox b12 #[.slice aD n cD, .slice aH m2 cH, .slice aK nK cK] 68 :: rowT 89 3 cellsO (.slice aD n cD) O2 :: rowT 53 2 cellsC (.slice aH m2 cH) A2 :: ebox b9 #[.slice aO L cO, .slice aT m1 cT, .slice aG nG cG] 68 :: rowT 89 3 cellsO (.slice aO L cO) O1 :: rowT 53 2 cellsC (.slice aT m1 cT) A1 :: [ebox w.heap.size #[.slice ao g.objs.length co, .slice ar g.roots.length cr] 25]))
  case first =>
    go_region_held3 (fun X => X.cell? ⟨w.heap.size, 0, none⟩ = some (.slice ao g.objs.length co) ∧ X.cell? ⟨w.heap.size, 1, none⟩ = some (.slice ar g.roots.length cr))
      (first | (refine BoxIn.both (B := w.heap.size) (w0 := w) (t := 25) ?_; apply Exists.intro; apply And.intro; (focus (repeat (first | exact hR | exact HNz.out | with_reducible apply Mem.drew | with_reducible apply Mem.alloc | with_reducible apply Mem.setBox0))); (focus (repeat (first | exact List.mem_cons_self | refine List.mem_cons_of_mem _ ?_)))) | fail)
      (first
        | (go_at_call 35
           apply HP2.out
           (focus (repeat (first | exact hR | exact HNz.out | with_reducible apply Mem.drew | with_reducible apply Mem.alloc | with_reducible apply Mem.setBox0)))
           intro aD cD aH cH aK nK cK w5 hR
           (first
             | (refine box3 hR (b := W1.heap.size) (x := .slice none 0 0) (y := .slice none 0 0) (z := .slice none 0 0) (t := 68) ?_ ?_
                (focus ((repeat (first | exact List.mem_cons_self | refine List.mem_cons_of_mem _ ?_)); done))
                intro x0 x1 x2 y0 y1 y2 z0
                replace hR := Mem.perm hR permC)
             | skip))
        | fail)
    all_goals
      go_wp2_with fail
      go_meet
      refine ⟨rfl, _, aD, cD, aH, cH, aK, nK, cK, rfl, ?_⟩
      apply mem_cps
      (focus (repeat (first | exact hR | exact HNz.out | with_reducible apply Mem.drew | with_reducible apply Mem.alloc | with_reducible apply Mem.setBox0)))
      intro hF
      exact hF
  case rest =>
    obtain ⟨rfl, b12, aD, cD, aH, cH, aK, nK, cK, rfl, hM⟩ := hcut
    clear HNz HP2
    have c1 := hM.cell 0 rfl 1
    have cb := (hM.box 0 rfl).2.1
    have HM := Lib.hid hM
    clear hM
    go_upto_region 7 with (fail)
    go_loopw [15, 17, 45, 52] (fun _ _ s45 _ wr => ∃ k : Nat, k ≤ m2 ∧ s45 = .int .i64 (k : Int) ∧ Mem w.heap.size w wr (ebox b12 #[.slice aD n cD, .slice aH m2 cH, .slice aK nK cK] 68 :: rowT 89 3 cellsO (.slice aD n cD) O2 :: rowT 53 2 cellsC (.slice aH m2 cH) A2 :: ebox b9 #[.slice aO L cO, .slice aT m1 cT, .slice aG nG cG] 68 :: rowT 89 3 cellsO (.slice aO L cO) O1 :: rowT 53 2 cellsC (.slice aT m1 cT) A1 :: [ebox w.heap.size #[.slice ao g.objs.length co, .slice ar g.roots.length cr] 25])) (fun _ _ i _ _ => m2 - (intOf i).toNat)
    case atStart => exact ⟨0, Nat.zero_le _, rfl, HM.out⟩
    case round =>
      clear HM c1 cb
      obtain ⟨k, hk, rfl, hM⟩ := hrel
      by_cases hlt : k < m2
      · obtain ⟨y, hy⟩ := get_some A2 k (by rw [Hlm.out.2]; exact hlt)
        have hym := List.mem_of_getElem? hy
        have t2 := hM.isTup 2 rfl (fun _ => rfl) (by have := Hlm.out.2; omega)
        obtain ⟨bu, off, cap, hv, _, hb2u, hc⟩ := t2.at (Below.refl _ _) hy
        have haH : aH = some ⟨bu, off, none⟩ := by cases hv; rfl
        subst haH
        obtain ⟨y1, y2⟩ := y
        have c0 : wr.cell? ⟨bu, off + k * 2, none⟩ = some (.int .i64 y1) := hc 0 _ rfl
        have c1 : wr.cell? ⟨bu, off + k * 2 + 1, none⟩ = some (.int .i64 y2) := hc 1 _ rfl
        have e1 : (k : Int) < (m2 : Int) := by omega
        have hM5 := hM.alloc #[.int .i64 y1, .int .i64 y2] 53
        obtain ⟨W5, hW5⟩ : ∃ W5, wr.alloc (.cells #[.int .i64 y1, .int .i64 y2] 53) = W5 := ⟨_, rfl⟩
        obtain ⟨b5, hb5⟩ : ∃ b5, wr.heap.size = b5 := ⟨_, rfl⟩
        rw [hW5, hb5] at hM5
        have d1 := hM5.cell 4 rfl 1
        have db := (hM5.box 4 rfl).2.1
        have HM5 := Lib.hid hM5
        have HW5 := Lib.hid hW5
        have Hb5 := Lib.hid hb5
        have Hym := Lib.hid hym
        clear hM hM5 hW5 hb5 hy hym t2 hv hc
        go_upto_region 9 with (fail)
        rw [HW5.out, Hb5.out]
        go_upto_region 10 with (fail)
        go_loopw [17, 52] (fun _ s52 wq => ∃ i : Nat, i ≤ m1 ∧ s52 = .int .i64 (i : Int) ∧ Mem w.heap.size w wq (ebox b5 #[.int .i64 y1, .int .i64 y2] 53 :: ebox b12 #[.slice aD n cD, .slice (some ⟨bu, off, none⟩) m2 cH, .slice aK nK cK] 68 :: rowT 89 3 cellsO (.slice aD n cD) O2 :: rowT 53 2 cellsC (.slice (some ⟨bu, off, none⟩) m2 cH) A2 :: ebox b9 #[.slice aO L cO, .slice aT m1 cT, .slice aG nG cG] 68 :: rowT 89 3 cellsO (.slice aO L cO) O1 :: rowT 53 2 cellsC (.slice aT m1 cT) A1 :: [ebox w.heap.size #[.slice ao g.objs.length co, .slice ar g.roots.length cr] 25])) (fun _ i _ => m1 - (intOf i).toNat)
        case atStart => exact ⟨0, Nat.zero_le _, rfl, HM5.out⟩
        case round =>
          clear HM5 d1 db c0 c1 hb2u
          obtain ⟨i, hi, rfl, hM⟩ := hrel
          by_cases hlti : i < m1
          · obtain ⟨z, hz⟩ := get_some A1 i (by rw [Hlm.out.1]; exact hlti)
            have hzm := List.mem_of_getElem? hz
            have t1 := hM.isTup 6 rfl (fun _ => rfl) (by have := Hlm.out.1; omega)
            obtain ⟨bz, offz, capz, hvz, _, hbz2, hcz⟩ := t1.at (Below.refl _ _) hz
            have haT : aT = some ⟨bz, offz, none⟩ := by cases hvz; rfl
            subst haT
            obtain ⟨z1, z2⟩ := z
            have hle := Hold.out (y1, y2) (z1, z2) Hym.out hzm
            have c0 : wr.cell? ⟨bz, offz + i * 2, none⟩ = some (.int .i64 z1) := hcz 0 _ rfl
            have c1 : wr.cell? ⟨bz, offz + i * 2 + 1, none⟩ = some (.int .i64 z2) := hcz 1 _ rfl
            have e2 : (i : Int) < (m1 : Int) := by omega
            have hM6 := hM.alloc #[.int .i64 z1, .int .i64 z2] 53
            obtain ⟨W6, hW6⟩ : ∃ W6, wr.alloc (.cells #[.int .i64 z1, .int .i64 z2] 53) = W6 := ⟨_, rfl⟩
            obtain ⟨b6, hb6⟩ : ∃ b6, wr.heap.size = b6 := ⟨_, rfl⟩
            rw [hW6, hb6] at hM6
            have u0 := hM6.cell 0 rfl 0
            have u1 := hM6.cell 0 rfl 1
            have ub := (hM6.box 0 rfl).2.1
            have v0 := hM6.cell 1 rfl 0
            have v1 := hM6.cell 1 rfl 1
            have vb := (hM6.box 1 rfl).2.1
            have HM6 := Lib.hid hM6
            have HW6 := Lib.hid hW6
            have Hb6 := Lib.hid hb6
            clear hM hM6 hW6 hb6 hz hzm t1 hvz hcz
            by_cases heq : y1 = z1
            · have h1 := hle heq
              have h2 : decide (z2 < y2) = false := by simpa using h1
              have h3 : ¬ z2 < y2 := by simpa using h1
              subst heq
              go_upto_region 12 with (fail)
              rw [HW6.out, Hb6.out]
              go_wp2_with fail
              go_roundw
              case rel => exact ⟨i + 1, by omega, by go_num, HM6.out.drop (List.sublist_cons_self _ _)⟩
              case measure => simp [intOf]; omega
            · have h1 : (y1 == z1) = false := by simpa using heq
              have h2 : decide (y1 = z1) = false := by simpa using heq
              go_upto_region 12 with (fail)
              rw [HW6.out, Hb6.out]
              go_wp2_with fail
              go_roundw
              case rel => exact ⟨i + 1, by omega, by go_num, HM6.out.drop (List.sublist_cons_self _ _)⟩
              case measure => simp [intOf]; omega
          · obtain rfl : i = m1 := by omega
            have HM6 := Lib.hid hM
            clear hM
            go_wp2_with fail
            go_roundw
            case rel => exact ⟨k + 1, by omega, by go_num, HM6.out.drop (List.sublist_cons_self _ _)⟩
            case measure => simp [intOf]; omega
      · obtain rfl : k = m2 := by omega
        have c0 := hM.cell 0 rfl 0
        have cb := (hM.box 0 rfl).2.1
        have d0 := hM.cell 3 rfl 0
        have db := (hM.box 3 rfl).2.1
        have hO2 := hM.isTup 1 rfl (fun _ => rfl) (by have := Hlo.out.2; omega)
        have hO1 := hM.isTup 4 rfl (fun _ => rfl) (by have := Hlo.out.1; omega)
        have kO := ownCap (hM.row 4 rfl)
        rw [Hlo.out.1] at kO
        have HPr : Hid (∀ X, Below wr.heap.size wr X → Calls Try.prog 22 #[.slice aD n cD, .slice aO L cO] X fun e w' => e = .returned (.bool true) ∧ Below X.heap.size X w') := Lib.hid fun X hX =>
          prefix_yes _ _ _ _ _ _ _ _ X (hO2.later hX) (hO1.later hX) Hout.out Hlo.out.2 Hlo.out.1 kO
        have q1 : ((L : Int) == (L : Int)) = true := by simp
        have q2 : ((n : Int) == (n : Int)) = true := by simp
        have HM6 := Lib.hid hM
        clear hM hO1 hO2 kO
        go_wp2_with fail
        refine (HPr.out _ (Below.refl _ _)).mono ?_
        rintro e w5 ⟨rfl, hb5⟩
        have hM5 := HM6.out.call hb5
        have HB := Lib.hid hM5.below
        clear hM5 hb5 c0 cb d0 db HM6
        go_wp2_with fail
        go_ret
        exact ⟨rfl, HB.out⟩
set_option maxRecDepth 100000 in
set_option maxHeartbeats 4000000 in
theorem genFront_bad (g : G) (v : Value) (au : Option Addr) (cu : Nat) (room : Int) (ds : List Dd) (hk : ¬ (Good g ∧ (1 ≤ room ∧ room ≤ 64) ∧ ds.length ≤ 100)) (hbig : ds.length ≤ 17592186044416) (q : Nat) (hq : q < 256) (w : World) (hg : IsGraph w v g) (hu : IsTup 5 cellsD w (.slice au ds.length cu) ds) (hcu : ds.length ≤ cu) (hd : ∀ d ∈ ds, DdOk d) :
    Calls Try.prog 12 #[v, .int .i64 room, .slice au ds.length cu, .int .u8 (q : Int)] w fun e w' => e = .returned (.bool true) ∧ Below w.heap.size w w' := by
  have Hg := Lib.hid hg
  obtain ⟨vo, vr, rfl, ho, hr⟩ := hg
  obtain ⟨ao, co, rfl, hlo⟩ := ho.slice
  obtain ⟨ar, cr, rfl, hlr⟩ := hr.slice
  have hM0 := (Mem.start w).alloc #[.slice ao g.objs.length co, .slice ar g.roots.length cr] 25
  obtain ⟨L, hL⟩ : ∃ L, ds.length = L := ⟨_, rfl⟩
  obtain ⟨n, hn'⟩ : ∃ n, q % (L + 1) = n := ⟨_, rfl⟩
  have hnL : n ≤ L := by rw [← hn']; have := Nat.mod_lt q (show 0 < L + 1 by omega); omega
  have hun := isTup_take hu n (by omega)
  have hdn : ∀ d ∈ ds.take n, DdOk d := fun d h => hd d (List.mem_of_mem_take h)
  have HP1 := Lib.hid (gplay_no g _ _ room ds _ (Hg.out.later hM0.below) (hu.later hM0.below) hk)
  have HP2 := Lib.hid (gAny g _ _ room (ds.take n) w Hg.out hun hdn)
  have HM0 := Lib.hid hM0
  have hmod : ((q : Int) % ((L : Int) + 1)) = (n : Int) := by rw [← hn']; simp
  have htmod : ((q : Int).tmod ((L : Int) + 1)) = (n : Int) := by rw [Int.tmod_eq_emod_of_nonneg (by omega)]; exact hmod
  have hncl : n ≤ cu := by omega
  rw [hL] at HP1 hbig ⊢
  unfold GAny at HP2
  have hL0 : ¬ (L : Int) + 1 = 0 := by omega
  clear hu hd hun hdn hM0 hL hn' ho hr hcu hk
  go_enter Try.func12, Try.ntmps12
  go_wp2_with fail
  refine HP1.out.mono ?_
  rintro e w1 ⟨c, hc, rfl, hb1⟩
  rw [show NilGr = .agg #[.slice none 0 0, .slice none 0 0, .slice none 0 0] from rfl]
  have hM1 := (HM0.out.call hb1).alloc #[.slice none 0 0, .slice none 0 0, .slice none 0 0] 68
  obtain ⟨W1, hW1⟩ : ∃ W1, w1.alloc (.cells #[.slice none 0 0, .slice none 0 0, .slice none 0 0] 68) = W1 := ⟨_, rfl⟩
  rw [hW1] at hM1
  obtain ⟨b9, hb9⟩ : ∃ b9, w1.heap.size = b9 := ⟨_, rfl⟩
  rw [hb9] at hM1
  have HNz := Lib.hid hM1
  have HW1 := Lib.hid hW1
  have Hb9 := Lib.hid hb9
  clear hM1 hW1 hb9 HP1 HM0 hb1
  have hcn : (c != 0) = true := by rw [bne, hc]; rfl
  go_upto_region 3 with (fail)
  rw [HW1.out, Hb9.out]
  clear HW1 Hb9
  go_cut [12, 13] (fun s12 s13 W => ∃ b12 c12, s12 = .pointer (some ⟨b12, 0, none⟩) ∧ s13 = .int .i64 c12 ∧ Below w.heap.size w W)
  case first =>
    go_region_held3 (fun X => X.cell? ⟨w.heap.size, 0, none⟩ = some (.slice ao g.objs.length co) ∧ X.cell? ⟨w.heap.size, 1, none⟩ = some (.slice ar g.roots.length cr))
      (first | (refine BoxIn.both (B := w.heap.size) (w0 := w) (t := 25) ?_; apply Exists.intro; apply And.intro; (focus (repeat (first | exact hR | exact HNz.out | with_reducible apply Mem.drew | with_reducible apply Mem.alloc | with_reducible apply Mem.setBox0))); (focus (repeat (first | exact List.mem_cons_self | refine List.mem_cons_of_mem _ ?_)))) | fail)
      (first
        | (go_at_call 35
           apply HP2.out
           (focus (repeat (first | exact hR | exact HNz.out | with_reducible apply Mem.drew | with_reducible apply Mem.alloc | with_reducible apply Mem.setBox0)))
           intro aD nD cD aH nH cH aK nK cK c12 w5 hR
           (first
             | (refine box3 hR (b := W1.heap.size) (x := .slice none 0 0) (y := .slice none 0 0) (z := .slice none 0 0) (t := 68) ?_ ?_
                (focus ((repeat (first | exact List.mem_cons_self | refine List.mem_cons_of_mem _ ?_)); done))
                intro x0 x1 x2 y0 y1 y2 z0)
             | skip))
        | fail)
    all_goals
      go_wp2_with fail
      go_meet
      refine ⟨_, c12, rfl, rfl, ?_⟩
      apply Mem.below
      (focus (repeat (first | exact hR | exact HNz.out | with_reducible apply Mem.drew | with_reducible apply Mem.alloc | with_reducible apply Mem.setBox0)))
  case rest =>
    obtain ⟨b12, c12, rfl, rfl, hB⟩ := hcut
    clear HNz HP2
    have HB := Lib.hid hB
    clear hB
    go_wp2
    go_ret
    exact ⟨rfl, HB.out⟩
theorem genFront_walk (W : World) (v0 v1 v2 v3 : Value) (g0 : ∃ g, IsGraph W v0 g) (g1 : ∃ x : Int, v1 = .int .i64 x ∧ i64ok x) (g2 : ∃ l : List Dd, ((IsTup 5 cellsD W v2 l ∧ ∀ d ∈ l, DdOk d) ∧ l.length ≤ 17592186044416) ∧ ∃ a c, v2 = .slice a l.length c ∧ l.length ≤ c) (g3 : ∃ k : Nat, v3 = .int .u8 (k : Int) ∧ k < 256) :
    Calls Try.prog 12 #[v0, v1, v2, v3] W fun e w' => e = .returned (.bool true) ∧ Below W.heap.size W w' := by
  obtain ⟨g, hg⟩ := g0
  obtain ⟨room, rfl, _⟩ := g1
  obtain ⟨ds, ⟨⟨hu, hd⟩, hbig⟩, a, c, rfl, hc⟩ := g2
  obtain ⟨q, rfl, hq⟩ := g3
  by_cases hk : Good g ∧ (1 ≤ room ∧ room ≤ 64) ∧ ds.length ≤ 100
  · exact genFront_good g hk.1 v0 a c room hk.2.1 ds q hq W hg hu hc hd hk.2.2
  · exact genFront_bad g v0 a c room ds hk hbig q hq W hg hu hc hd
end Go.Proofs.Ytmmcjjklmcfegaa
