/- GenSafe, walked. -/
import Derived.Test.YtmmcjjklmcfegaaGkk
import Derived.Test.YtmmcjjklmcfegaaU2
import Derived.Test.YtmmcjjklmcfegaaU3
import Derived.Test.YtmmcjjklmcfegaaBase16
import Derived.Test.YtmmcjjklmcfegaaRis
import Derived.Deep.RegionHeld3
namespace Go.Proofs.Ytmmcjjklmcfegaa
open Go.RowKit Go.Shelf

theorem rising_of_pwG {l : List Int} (h : l.Pairwise (· < ·)) : Rising l := by
  intro k x y hx hy
  have hk := (List.getElem?_eq_some_iff.1 hy)
  obtain ⟨h1, rfl⟩ := hk
  have hk2 := (List.getElem?_eq_some_iff.1 hx)
  obtain ⟨h2, rfl⟩ := hk2
  exact List.pairwise_iff_getElem.1 h k (k + 1) h2 h1 (by omega)
theorem ints2_newG {B : Nat} {w0 w : World} {L : List Ent} (h : Mem B w0 w L) {x y : Int} (hx : i64ok x) (hy : i64ok y) (t : TypeId) : IsInts (w.alloc (.cells #[.int .i64 x, .int .i64 y] t)) (.slice (some ⟨w.heap.size, 0, none⟩) 2 2) [x, y] := by
  have hM := h.alloc #[.int .i64 x, .int .i64 y] t
  refine ⟨some ⟨w.heap.size, 0, none⟩, 2, rfl, by simp, fun k z hk => ?_⟩
  match k with
  | 0 => cases hk; exact ⟨_, 0, rfl, by simp, hM.cell 0 rfl 0, hx⟩
  | 1 => cases hk; exact ⟨_, 0, rfl, by simp, hM.cell 0 rfl 1, hy⟩
  | k + 2 => simp at hk
theorem ages_young (s : Sm Gx) : (ages s s.os.length).countP (fun p => p.2 == 0) = manyC false s := by
  unfold ages manyC
  rw [List.take_of_length_le (thereL_len _ _), List.countP_map]
  refine List.countP_congr fun i _ => ?_
  simp only [Function.comp]
  cases oA s.x.old i <;> simp
theorem cp_take {l : List (Int × Int)} {k : Nat} {y : Int × Int} (h : l[k]? = some y) (p : Int × Int → Bool) : (l.take (k + 1)).countP p = (l.take k).countP p + if p y = true then 1 else 0 := by
  rw [take_succ_some _ _ _ h, List.countP_append, List.countP_singleton]
theorem any_take {l : List (Int × Int)} {k : Nat} {y : Int × Int} (h : l[k]? = some y) (p : Int × Int → Bool) : (l.take (k + 1)).any p = ((l.take k).any p || p y) := by
  rw [take_succ_some _ _ _ h, List.any_append]; simp
set_option maxRecDepth 100000 in
set_option maxHeartbeats 8000000 in
theorem genSafe_good (g : G) (hG : Good g) (v : Value) (au : Option Addr) (cu : Nat) (room : Int) (hr : 1 ≤ room ∧ room ≤ 64) (ds : List Dd) (w : World) (hg : IsGraph w v g) (hu : IsTup 5 cellsD w (.slice au ds.length cu) ds) (hd : ∀ d ∈ ds, DdOk d) (hn : ds.length ≤ 100) :
    Calls Try.prog 13 #[v, .int .i64 room, .slice au ds.length cu] w fun e w' => e = .returned (.bool true) ∧ Below w.heap.size w w' := by
  have Hg := Lib.hid hg
  obtain ⟨vo, vr, rfl, ho, hr⟩ := hg
  obtain ⟨ao, co, rfl, hlo⟩ := ho.slice
  obtain ⟨ar, cr, rfl, hlr⟩ := hr.slice
  rename_i hrm
  have hM0 := (Mem.start w).alloc #[.slice ao g.objs.length co, .slice ar g.roots.length cr] 25
  obtain ⟨L, hL⟩ : ∃ L, ds.length = L := ⟨_, rfl⟩
  obtain ⟨S, hS⟩ : ∃ S, runs (gstep room) (startG g) ds = S := ⟨_, rfl⟩
  have hi := runsG_inv hG hrm.1 ds.length ds (Nat.le_refl _) hn
  rw [List.take_length, hS] at hi
  obtain ⟨hi, hi2, hi3⟩ := hi
  obtain ⟨t, ht1, ht2, ht3⟩ := gen_told hG hrm.1 hn
  obtain ⟨nT, hnT⟩ : ∃ nT, (ages S.1 S.1.os.length).length = nT := ⟨_, rfl⟩
  have hP := gPlay3 room hrm g hG _ _ ds w Hg.out hu hd hn L nT hL (by rw [hS]; exact hnT)
  unfold GPlay3 at hP
  have hlo : S.2.length = L := by rw [← hS, runs_len]; exact hL
  rw [hS] at hP ht1 ht2
  have hyng : ((ages S.1 S.1.os.length).countP (fun p => p.2 == 0) : Int) ≤ room := by rw [ages_young]; exact hi.yng
  have hrem : ∀ p, S.1.x.rem p = true → (∃ z ∈ ages S.1 S.1.os.length, z.1 = p.1 ∧ z.2 = 1) ∧ 0 ≤ p.2 ∧ p.2 < 4 := by
    intro p hp
    obtain ⟨h1, h2, h3, h4⟩ := hi.remOk p hp
    have h5 := hi.fine.flen _ _ h1.obj
    exact ⟨⟨(p.1, 1), ages_mem.2 ⟨h1, by rw [if_pos h2]⟩, rfl, rfl⟩, h3, by omega⟩
  have hfst : (ages S.1 S.1.os.length).map Prod.fst = thereL S.1.os S.1.os.length := ages_fst _
  have hris : Rising ((ages S.1 S.1.os.length).map Prod.fst) := by rw [hfst]; exact rising_of_pwG (thereL_rising _ _)
  have hpos : ∀ x ∈ (ages S.1 S.1.os.length).map Prod.fst, i64ok x := by
    rw [hfst]
    intro x hx
    have h1 := lives_rng ((mem_thereL (Nat.le_refl _)).1 hx).1
    have h2 := hi.len
    exact ⟨by omega, by omega⟩
  have hnTb : nT ≤ 1000 := by
    rw [← hnT, ages_len]
    have := thereL_len S.1.os S.1.os.length
    have := hi.len
    omega
  have hcl : ∀ c, CanonS (gOf t.regs t.os) c → c.objs.length ≤ nT := by
    intro c hc
    have := canon_le ht2 ht3 hc
    rw [← hnT, ages_len]
    exact this
  obtain ⟨O1, hO1⟩ : ∃ O1, S.2 = O1 := ⟨_, rfl⟩
  obtain ⟨A1, hA1⟩ : ∃ A1, ages S.1 S.1.os.length = A1 := ⟨_, rfl⟩
  rw [hO1, hA1, hL] at hP
  rw [hO1] at ht1 hlo
  rw [hA1] at hyng hris hpos hnT
  have hrem2 : ∀ p, S.1.x.rem p = true → (A1.any fun z => z.1 == p.1 && z.2 == 1) = true ∧ 0 ≤ p.2 ∧ p.2 < 4 := by
    intro p hp
    obtain ⟨⟨z, hz, h1, h2⟩, h3⟩ := hrem p hp
    refine ⟨List.any_eq_true.2 ⟨z, by rw [← hA1]; exact hz, ?_⟩, h3⟩
    rw [h1, h2]; simp
  have HP := Lib.hid hP
  have HM0 := Lib.hid hM0
  have HT := Lib.hid ht1
  have Hrem := Lib.hid hrem2
  have Hris := Lib.hid hris
  have Hpos := Lib.hid hpos
  have Hlo := Lib.hid hlo
  have HnT := Lib.hid hnT
  have Hyng := Lib.hid hyng
  have Hcl := Lib.hid hcl
  have HL := Lib.hid hL
  have HG := Lib.hid hG
  have HD := Lib.hid hd
  have Hu := Lib.hid hu
  rw [hL] at hn Hu ⊢
  clear hM0 ho hr hi hi2 hi3 ht1 ht2 ht3 hP hlo hyng hrem hrem2 hfst hpos hris hO1 hA1 hnT hL hS hG hd hu hcl
  go_enter Try.func13, Try.ntmps13
  go_wp2_with fail
  refine HP.out _ _ _ HM0.out ?_
  intro aO cO aT cT aG nG cG Rl w1 hRl hnG hnG2 hM1
  have hM1 := hM1.alloc #[.slice aO L cO, .slice aT nT cT, .slice aG nG cG] 68
  obtain ⟨W1, hW1⟩ : ∃ W1, w1.alloc (.cells #[.slice aO L cO, .slice aT nT cT, .slice aG nG cG] 68) = W1 := ⟨_, rfl⟩
  rw [hW1] at hM1
  obtain ⟨b7, hb7⟩ : ∃ b7, w1.heap.size = b7 := ⟨_, rfl⟩
  rw [hb7] at hM1
  have hO := hM1.isTup 1 rfl (fun _ => rfl) (by have := Hlo.out; omega)
  have g0 := hM1.cell 4 rfl 0
  have g1 := hM1.cell 4 rfl 1
  have gb := (hM1.box 4 rfl).2.1
  have c0 := hM1.cell 0 rfl 0
  have cb := (hM1.box 0 rfl).2.1
  have hM1b := hM1.alloc #[.int .i64 8, .int .i64 9] 3
  have hTo := told_any g HG.out (.agg #[.slice ao g.objs.length co, .slice ar g.roots.length cr]) (.slice au L cu) (.slice aO L cO) (.slice (some ⟨W1.heap.size, 0, none⟩) 2 2) ds O1 [8, 9] _ (Hg.out.later hM1b.below) (Hu.out.later hM1b.below) (hO.later ((Below.refl _ _).alloc (Nat.le_refl _) _)) (ints2_newG hM1 ⟨by omega, by omega⟩ ⟨by omega, by omega⟩ 3) HD.out (by rw [HL.out]; exact hn) (by rw [Hlo.out, HL.out]) (by rw [HT.out])
  have HM1b := Lib.hid hM1b
  have HTo := Lib.hid hTo
  have HM1 := Lib.hid hM1
  have HW1 := Lib.hid hW1
  have Hb7 := Lib.hid hb7
  have HRl := Lib.hid hRl
  have HnG := Lib.hid hnG
  clear hM1 hM1b hW1 hb7 HP HM0 hO hTo hRl hnG
  go_upto_region 4 with (fail)
  rw [HW1.out, Hb7.out]
  go_wp2_with fail
  refine HTo.out.mono ?_
  rintro e w2 ⟨v', c, rfl, hca, hgc, hb2⟩
  rw [HT.out] at hca
  have hcn := Hcl.out c hca
  have q3 : ¬ (nT : Int) < (c.objs.length : Int) := by omega
  obtain ⟨vo3, vr3, rfl, ho3, hr3⟩ := hgc
  obtain ⟨ao3, co3, rfl, _⟩ := ho3.slice
  obtain ⟨ar3, cr3, rfl, _⟩ := hr3.slice
  have hM2 := ((HM1b.out.call hb2).drop (List.sublist_cons_self _ _)).alloc #[.slice ao3 c.objs.length co3, .slice ar3 c.roots.length cr3] 25
  obtain ⟨W2, hW2⟩ : ∃ W2, w2.alloc (.cells #[.slice ao3 c.objs.length co3, .slice ar3 c.roots.length cr3] 25) = W2 := ⟨_, rfl⟩
  rw [hW2] at hM2
  obtain ⟨b9, hb9⟩ : ∃ b9, w2.heap.size = b9 := ⟨_, rfl⟩
  rw [hb9] at hM2
  have d1 := hM2.cell 1 rfl 1
  have db := (hM2.box 1 rfl).2.1
  have e0 := hM2.cell 0 rfl 0
  have eb := (hM2.box 0 rfl).2.1
  have tT := hM2.isTup 3 rfl (fun _ => rfl) (by have := HnT.out; omega)
  have hOb := objects_any (.slice aT nT cT) A1 W2 tT (by have := HnT.out; omega)
  have HOb := Lib.hid hOb
  have HM2 := Lib.hid hM2
  have HW2 := Lib.hid hW2
  have Hb9 := Lib.hid hb9
  clear hM2 hW2 hb9 hca hb2 ho3 hr3 g0 g1 gb c0 cb HTo HM1 HW1 Hb7 tT hOb HM1b
  go_upto_region 5 with (fail)
  rw [HW2.out, Hb9.out]
  clear HW2 Hb9
  go_wp2_with fail
  refine HOb.out.mono ?_
  rintro e w3 ⟨vF, rfl, hMF⟩
  obtain ⟨aF, cF, heF⟩ := hMF.intsSlice 0 rfl
  rw [List.length_map, HnT.out] at heF
  subst heF
  have tF := isInts_of_own (hMF.row 0 rfl) (by rw [List.length_map]; have := HnT.out; omega) Hpos.out
  have hRi := rising_yes _ _ w3 tF Hris.out
  have hM3 := HM2.out.call hMF.below
  have HRi := Lib.hid hRi
  have HM3 := Lib.hid hM3
  clear hRi hM3 hMF tF HOb HM2 d1 db e0 eb
  go_wp2_with fail
  refine HRi.out.mono ?_
  rintro e w4 ⟨rfl, hb4⟩
  have hM4 := HM3.out.call hb4
  have c1 := hM4.cell 1 rfl 1
  have cb := (hM4.box 1 rfl).2.1
  have HM4 := Lib.hid hM4
  clear hM4 hb4 HM3 HRi
  go_upto_region 9 with (fail)
  go_loopw [11, 13, 62] (fun s11 _ s62 wr => ∃ k : Nat, k ≤ nT ∧ s62 = .int .i64 (k : Int) ∧ s11 = .int .i64 (((A1.take k).countP (fun p => p.2 == 0) : Nat) : Int) ∧ Mem w.heap.size w wr (ebox b9 #[.slice ao3 c.objs.length co3, .slice ar3 c.roots.length cr3] 25 :: ebox b7 #[.slice aO L cO, .slice aT nT cT, .slice aG nG cG] 68 :: rowT 89 3 cellsO (.slice aO L cO) O1 :: rowT 53 2 cellsC (.slice aT nT cT) A1 :: rowT 53 2 cellsC (.slice aG nG cG) Rl :: [ebox w.heap.size #[.slice ao g.objs.length co, .slice ar g.roots.length cr] 25])) (fun _ _ i _ => nT - (intOf i).toNat)
  case atStart => exact ⟨0, Nat.zero_le _, rfl, rfl, HM4.out⟩
  case round =>
    clear HM4 c1 cb
    obtain ⟨k, hk, rfl, rfl, hM⟩ := hrel
    have hyl : (A1.take k).countP (fun p => p.2 == 0) ≤ 1000 := by
      have h1 := List.countP_le_length (p := fun p : Int × Int => p.2 == 0) (l := A1.take k)
      have h2 := take_len_le A1 k
      have h3 := HnT.out
      omega
    obtain ⟨yc, hyc⟩ : ∃ yc, (A1.take k).countP (fun p => p.2 == 0) = yc := ⟨_, rfl⟩
    have Hyc := Lib.hid hyc
    rw [hyc] at hyl ⊢
    clear hyc
    by_cases hlt : k < nT
    · obtain ⟨z, hz⟩ := get_some A1 k (by rw [HnT.out]; exact hlt)
      have t1 := hM.isTup 3 rfl (fun _ => rfl) (by have := HnT.out; omega)
      obtain ⟨bz, offz, capz, hvz, _, hbz2, hcz⟩ := t1.at (Below.refl _ _) hz
      have haT : aT = some ⟨bz, offz, none⟩ := by cases hvz; rfl
      subst haT
      have hct := cp_take hz (fun p => p.2 == 0)
      rw [Hyc.out] at hct
      obtain ⟨z1, z2⟩ := z
      have c0 : wr.cell? ⟨bz, offz + k * 2, none⟩ = some (.int .i64 z1) := hcz 0 _ rfl
      have c1 : wr.cell? ⟨bz, offz + k * 2 + 1, none⟩ = some (.int .i64 z2) := hcz 1 _ rfl
      have e2 : (k : Int) < (nT : Int) := by omega
      have hM6 := hM.alloc #[.int .i64 z1, .int .i64 z2] 53
      obtain ⟨W6, hW6⟩ : ∃ W6, wr.alloc (.cells #[.int .i64 z1, .int .i64 z2] 53) = W6 := ⟨_, rfl⟩
      obtain ⟨b6, hb6⟩ : ∃ b6, wr.heap.size = b6 := ⟨_, rfl⟩
      rw [hW6, hb6] at hM6
      have u1 := hM6.cell 0 rfl 1
      have ub := (hM6.box 0 rfl).2.1
      have HM6 := Lib.hid hM6
      have HW6 := Lib.hid hW6
      have Hb6 := Lib.hid hb6
      clear hM hM6 hW6 hb6 hz t1 hvz hcz
      by_cases heq : z2 = 0
      · subst heq
        have Hct : Hid ((A1.take (k + 1)).countP (fun p => p.2 == 0) = yc + 1) := Lib.hid (by rw [hct]; simp)
        clear hct
        go_upto_region 11 with (fail)
        rw [HW6.out, Hb6.out]
        go_wp2_with fail
        go_roundw
        case rel => exact ⟨k + 1, by omega, by go_num, by rw [Hct.out]; go_num, HM6.out.drop (List.sublist_cons_self _ _)⟩
        case measure => simp [intOf]; omega
      · have h1 : (z2 == 0) = false := by simpa using heq
        have Hct : Hid ((A1.take (k + 1)).countP (fun p => p.2 == 0) = yc) := Lib.hid (by rw [hct]; simp [h1])
        clear hct
        go_upto_region 11 with (fail)
        rw [HW6.out, Hb6.out]
        go_wp2_with fail
        go_roundw
        case rel => exact ⟨k + 1, by omega, by go_num, by rw [Hct.out], HM6.out.drop (List.sublist_cons_self _ _)⟩
        case measure => simp [intOf]; omega
    · obtain rfl : nT = k := by omega
      have hyr : (yc : Int) ≤ room := by
        have h1 := Hyc.out
        rw [← HnT.out, List.take_length] at h1
        rw [← h1]; exact Hyng.out
      have hyd : decide ((yc : Int) ≤ room) = true := by simpa using hyr
      have c2 := hM.cell 1 rfl 2
      have cb := (hM.box 1 rfl).2.1
      have HM4 := Lib.hid hM
      clear hM
      go_upto_region 15 with (fail)
      go_loopw [15, 16, 18, 75, 82] (fun _ _ _ s75 _ wr => ∃ k : Nat, k ≤ nG ∧ s75 = .int .i64 (k : Int) ∧ Mem w.heap.size w wr (ebox b9 #[.slice ao3 c.objs.length co3, .slice ar3 c.roots.length cr3] 25 :: ebox b7 #[.slice aO L cO, .slice aT nT cT, .slice aG nG cG] 68 :: rowT 89 3 cellsO (.slice aO L cO) O1 :: rowT 53 2 cellsC (.slice aT nT cT) A1 :: rowT 53 2 cellsC (.slice aG nG cG) Rl :: [ebox w.heap.size #[.slice ao g.objs.length co, .slice ar g.roots.length cr] 25])) (fun _ _ _ i _ _ => nG - (intOf i).toNat)
      case atStart => exact ⟨0, Nat.zero_le _, rfl, HM4.out⟩
      case round =>
        clear HM4 c2 cb
        obtain ⟨j, hj, rfl, hM⟩ := hrel
        by_cases hltj : j < nG
        · obtain ⟨f, hf⟩ := get_some Rl j (by rw [HnG.out]; exact hltj)
          have hrm2 := Hrem.out f (HRl.out f (List.mem_of_getElem? hf))
          have t1 := hM.isTup 4 rfl (fun _ => rfl) (by have := HnG.out; omega)
          obtain ⟨bz, offz, capz, hvz, _, hbz2, hcz⟩ := t1.at (Below.refl _ _) hf
          have haG : aG = some ⟨bz, offz, none⟩ := by cases hvz; rfl
          subst haG
          obtain ⟨f1, f2⟩ := f
          obtain ⟨hany, hf20, hf24⟩ := hrm2
          simp only at hany hf20 hf24
          have c0 : wr.cell? ⟨bz, offz + j * 2, none⟩ = some (.int .i64 f1) := hcz 0 _ rfl
          have c1 : wr.cell? ⟨bz, offz + j * 2 + 1, none⟩ = some (.int .i64 f2) := hcz 1 _ rfl
          have e2 : (j : Int) < (nG : Int) := by omega
          have hM5 := hM.alloc #[.int .i64 f1, .int .i64 f2] 53
          obtain ⟨W5, hW5⟩ : ∃ W5, wr.alloc (.cells #[.int .i64 f1, .int .i64 f2] 53) = W5 := ⟨_, rfl⟩
          obtain ⟨b5, hb5⟩ : ∃ b5, wr.heap.size = b5 := ⟨_, rfl⟩
          rw [hW5, hb5] at hM5
          have d1 := hM5.cell 2 rfl 1
          have db := (hM5.box 2 rfl).2.1
          have HM5 := Lib.hid hM5
          have HW5 := Lib.hid hW5
          have Hb5 := Lib.hid hb5
          have Hany := Lib.hid hany
          clear hM hM5 hW5 hb5 hf t1 hvz hcz hany
          go_upto_region 17 with (fail)
          rw [HW5.out, Hb5.out]
          go_upto_region 19 with (fail)
          go_loopw [16, 18, 82] (fun s16 _ s82 wq => ∃ i : Nat, i ≤ nT ∧ s82 = .int .i64 (i : Int) ∧ s16 = .bool ((A1.take i).any fun z => z.1 == f1 && z.2 == 1) ∧ Mem w.heap.size w wq (ebox b5 #[.int .i64 f1, .int .i64 f2] 53 :: ebox b9 #[.slice ao3 c.objs.length co3, .slice ar3 c.roots.length cr3] 25 :: ebox b7 #[.slice aO L cO, .slice aT nT cT, .slice (some ⟨bz, offz, none⟩) nG cG] 68 :: rowT 89 3 cellsO (.slice aO L cO) O1 :: rowT 53 2 cellsC (.slice aT nT cT) A1 :: rowT 53 2 cellsC (.slice (some ⟨bz, offz, none⟩) nG cG) Rl :: [ebox w.heap.size #[.slice ao g.objs.length co, .slice ar g.roots.length cr] 25])) (fun _ _ i _ => nT - (intOf i).toNat)
          case atStart => exact ⟨0, Nat.zero_le _, rfl, rfl, HM5.out⟩
          case round =>
            clear HM5 d1 db c0 c1 hbz2
            obtain ⟨i, hi, rfl, rfl, hM⟩ := hrel
            obtain ⟨is, his⟩ : ∃ is, ((A1.take i).any fun z => z.1 == f1 && z.2 == 1) = is := ⟨_, rfl⟩
            have His := Lib.hid his
            rw [his]
            clear his
            by_cases hlti : i < nT
            · obtain ⟨z, hz⟩ := get_some A1 i (by rw [HnT.out]; exact hlti)
              have t1 := hM.isTup 4 rfl (fun _ => rfl) (by have := HnT.out; omega)
              obtain ⟨by_, offy, capy, hvy, _, hby2, hcy⟩ := t1.at (Below.refl _ _) hz
              have haT : aT = some ⟨by_, offy, none⟩ := by cases hvy; rfl
              subst haT
              have hat := any_take hz (fun z => z.1 == f1 && z.2 == 1)
              rw [His.out] at hat
              obtain ⟨z1, z2⟩ := z
              have c0 : wr.cell? ⟨by_, offy + i * 2, none⟩ = some (.int .i64 z1) := hcy 0 _ rfl
              have c1 : wr.cell? ⟨by_, offy + i * 2 + 1, none⟩ = some (.int .i64 z2) := hcy 1 _ rfl
              have e3 : (i : Int) < (nT : Int) := by omega
              have hM6 := hM.alloc #[.int .i64 z1, .int .i64 z2] 53
              obtain ⟨W6, hW6⟩ : ∃ W6, wr.alloc (.cells #[.int .i64 z1, .int .i64 z2] 53) = W6 := ⟨_, rfl⟩
              obtain ⟨b6, hb6⟩ : ∃ b6, wr.heap.size = b6 := ⟨_, rfl⟩
              rw [hW6, hb6] at hM6
              have u0 := hM6.cell 0 rfl 0
              have u1 := hM6.cell 0 rfl 1
              have ub := (hM6.box 0 rfl).2.1
              have v0 := hM6.cell 1 rfl 0
              have vb := (hM6.box 1 rfl).2.1
              have HM6 := Lib.hid hM6
              have HW6 := Lib.hid hW6
              have Hb6 := Lib.hid hb6
              clear hM hM6 hW6 hb6 hz t1 hvy hcy
              cases is with
              | true =>
                have Hat : Hid (((A1.take (i + 1)).any fun z => z.1 == f1 && z.2 == 1) = true) := Lib.hid (by rw [hat]; rfl)
                clear hat
                go_upto_region 21 with (fail)
                rw [HW6.out, Hb6.out]
                go_wp2_with fail
                go_roundw
                case rel => exact ⟨i + 1, by omega, by go_num, by rw [Hat.out], HM6.out.drop (List.sublist_cons_self _ _)⟩
                case measure => simp [intOf]; omega
              | false =>
                by_cases h1 : z1 = f1
                · subst h1
                  by_cases h2 : z2 = 1
                  · subst h2
                    have Hat : Hid (((A1.take (i + 1)).any fun z => z.1 == z1 && z.2 == 1) = true) := Lib.hid (by rw [hat]; simp)
                    clear hat
                    go_upto_region 21 with (fail)
                    rw [HW6.out, Hb6.out]
                    go_wp2_with fail
                    go_roundw
                    case rel => exact ⟨i + 1, by omega, by go_num, by rw [Hat.out], HM6.out.drop (List.sublist_cons_self _ _)⟩
                    case measure => simp [intOf]; omega
                  · have k1 : (z2 == 1) = false := by simpa using h2
                    have Hat : Hid (((A1.take (i + 1)).any fun z => z.1 == z1 && z.2 == 1) = false) := Lib.hid (by rw [hat]; simp [k1])
                    clear hat
                    go_upto_region 21 with (fail)
                    rw [HW6.out, Hb6.out]
                    go_wp2_with fail
                    go_roundw
                    case rel => exact ⟨i + 1, by omega, by go_num, by rw [Hat.out], HM6.out.drop (List.sublist_cons_self _ _)⟩
                    case measure => simp [intOf]; omega
                · have k1 : (z1 == f1) = false := by simpa using h1
                  have Hat : Hid (((A1.take (i + 1)).any fun z => z.1 == f1 && z.2 == 1) = false) := Lib.hid (by rw [hat]; simp [k1])
                  clear hat
                  go_upto_region 21 with (fail)
                  rw [HW6.out, Hb6.out]
                  go_wp2_with fail
                  go_roundw
                  case rel => exact ⟨i + 1, by omega, by go_num, by rw [Hat.out], HM6.out.drop (List.sublist_cons_self _ _)⟩
                  case measure => simp [intOf]; omega
            · obtain rfl : i = nT := by omega
              have hist : is = true := by
                have h1 := His.out
                rw [← HnT.out, List.take_length] at h1
                rw [← h1]; exact Hany.out
              subst hist
              have k1 : ¬ f2 < 0 := by omega
              have k2 : ¬ 4 ≤ f2 := by omega
              have v1 := hM.cell 0 rfl 1
              have vb := (hM.box 0 rfl).2.1
              have HM6 := Lib.hid hM
              clear hM
              go_wp2_with fail
              go_roundw
              case rel => exact ⟨j + 1, by omega, by go_num, HM6.out.drop (List.sublist_cons_self _ _)⟩
              case measure => simp [intOf]; omega
        · obtain rfl : j = nG := by omega
          have HB := Lib.hid hM.below
          clear hM
          go_wp2_with fail
          refine bodyPost_ret (v := .bool true) (by simp [results, Try.results13, go_sem]) rfl ⟨rfl, HB.out⟩
set_option maxRecDepth 100000 in
set_option maxHeartbeats 2000000 in
theorem genSafe_bad (g : G) (v : Value) (u : Value) (room : Int) (ds : List Dd) (hk : ¬ (Good g ∧ (1 ≤ room ∧ room ≤ 64) ∧ ds.length ≤ 100)) (w : World) (hg : IsGraph w v g) (hu : IsTup 5 cellsD w u ds) :
    Calls Try.prog 13 #[v, .int .i64 room, u] w fun e w' => e = .returned (.bool true) ∧ Below w.heap.size w w' := by
  have Hg := Lib.hid hg
  obtain ⟨au, cu, rfl, _⟩ := hu.slice
  obtain ⟨vo, vr, rfl, ho, hr⟩ := hg
  obtain ⟨ao, co, rfl, hlo⟩ := ho.slice
  obtain ⟨ar, cr, rfl, hlr⟩ := hr.slice
  have hM0 := (Mem.start w).alloc #[.slice ao g.objs.length co, .slice ar g.roots.length cr] 25
  have HP1 := Lib.hid (gplay_no g _ _ room ds _ (Hg.out.later hM0.below) (hu.later hM0.below) hk)
  have HM0 := Lib.hid hM0
  clear hu hM0 ho hr hk
  go_enter Try.func13, Try.ntmps13
  go_wp2_with fail
  refine HP1.out.mono ?_
  rintro e w1 ⟨c, hc, rfl, hb1⟩
  rw [show NilGr = .agg #[.slice none 0 0, .slice none 0 0, .slice none 0 0] from rfl]
  have hM1 := (HM0.out.call hb1).alloc #[.slice none 0 0, .slice none 0 0, .slice none 0 0] 68
  have HB := Lib.hid hM1.below
  have hcn : (c != 0) = true := by rw [bne, hc]; rfl
  clear hM1 hb1
  go_wp2
  go_ret
  exact ⟨rfl, HB.out⟩
theorem genSafe_walk (W : World) (v0 v1 v2 : Value) (g0 : ∃ g, IsGraph W v0 g) (g1 : ∃ x : Int, v1 = .int .i64 x ∧ i64ok x) (g2 : ∃ ds, IsTup 5 cellsD W v2 ds ∧ ∀ d ∈ ds, DdOk d) :
    Calls Try.prog 13 #[v0, v1, v2] W fun e w' => e = .returned (.bool true) ∧ Below W.heap.size W w' := by
  obtain ⟨g, hg⟩ := g0
  obtain ⟨room, rfl, _⟩ := g1
  obtain ⟨ds, hu, hd⟩ := g2
  by_cases hk : Good g ∧ (1 ≤ room ∧ room ≤ 64) ∧ ds.length ≤ 100
  · obtain ⟨a, c, rfl, _⟩ := hu.slice
    exact genSafe_good g hk.1 v0 a c room hk.2.1 ds W hg hu hd hk.2.2
  · exact genSafe_bad g v0 v2 room ds hk W hg hu
end Go.Proofs.Ytmmcjjklmcfegaa
