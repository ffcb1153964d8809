/- CompsRound, walked at a good graph. -/
import Derived.Test.YtnpbdabboecpaaaO7
import Derived.Test.YtnpbdabboecpaaaN7
namespace Go.Proofs.Ytnpbdabboecpaaa
open Go.RowKit Go.Shelf Tarj

theorem cls_round {g : G} {cs : List (List Int)} (hP : Parts g.objs.length cs) (hT : Told g cs) {k : Nat} {c : List Int} (hc : cs[k]? = some c) (hl : 1 < c.length) : ∀ x ∈ c, x ∈ rndL g g.objs.length := by
  intro x hx
  have hcm := List.mem_of_getElem? hc
  have hnd : c.Nodup := (hP.rise c hcm).imp (fun h => by omega)
  obtain ⟨y, hy, hne⟩ : ∃ y ∈ c, y ≠ x := by
    apply Classical.byContradiction
    intro hno
    have h2 : ∀ y ∈ c, y = x := fun y hy => Classical.byContradiction fun e => hno ⟨y, hy, e⟩
    have := hnd.length_le_of_subset (l₂ := [x]) (fun y hy => by rw [h2 y hy]; simp)
    simp at this; omega
  refine mem_rndL.2 ⟨hP.rng c hcm x hx, ?_⟩
  rcases (hT.same k k c c x y hc hc hx hy).1 rfl with h | ⟨⟨j, h1, h2⟩, m, h3, h4⟩
  · exact (hne h.symm).elim
  · exact ⟨j, h1, h2.trans (.step h3 h4)⟩
theorem round_iff {g : G} {i : Nat} (hi : i < g.objs.length) : (i : Int) ∈ rndL g g.objs.length ↔ ∃ j, EG' g (i : Int) j ∧ Lead (EG' g) j (i : Int) := by
  rw [mem_rndL]
  exact ⟨fun h => h.2, fun h => ⟨⟨by omega, by omega⟩, h⟩⟩

set_option maxRecDepth 100000 in
set_option maxHeartbeats 4000000 in
theorem cround_good (g : G) (hG : Good g) (v : Value) (w : World) (hg : IsGraph w v g) :
    Calls Try.prog 7 #[v] w fun e w' => e = .returned (.bool true) ∧ Below w.heap.size w w' := by
  have hg0 := hg
  obtain ⟨vo, vr, rfl, ho, hr⟩ := hg
  obtain ⟨ao, co, rfl, hlo⟩ := ho.slice
  obtain ⟨ar, cr, rfl, hlr⟩ := hr.slice
  have Hg := Lib.hid hg0
  have HG := Lib.hid hG
  have hn := hG.objs
  clear ho hr hg0 hG
  have hM0 := (Mem.start w).alloc #[.slice ao g.objs.length co, .slice ar g.roots.length cr] 25
  go_enter Try.func7, Try.ntmps7
  go_wp2_with fail
  refine (good_yes _ g _ (Hg.out.later hM0.below) HG.out).mono ?_
  rintro e w0 ⟨rfl, hb0⟩
  have hM1 := hM0.call hb0
  obtain ⟨o0, o1⟩ := hM1.cells2 0 rfl
  go_wp2_with fail
  refine (comps_told g HG.out _ w0 (Hg.out.later hM1.below)).mono ?_
  rintro e w1 ⟨vl, vs, cs, fs, rfl, hP, hTd, hvl, hat, hMl⟩
  have hM2 := (hM1.callMem hMl).perm (L' := ebox w.heap.size #[.slice ao g.objs.length co, .slice ar g.roots.length cr] 25 :: (rowR vl vs :: rowsI fs)) (by exact (List.perm_append_comm (l₁ := [_]) (l₂ := rowR vl vs :: rowsI fs)))
  obtain ⟨al, cl, rfl⟩ := hM2.rowSlice 1 rfl
  obtain ⟨o0, o1⟩ := hM2.cells2 0 rfl
  rw [hvl] at hM2 ⊢
  have HP := Lib.hid hP
  have HTd := Lib.hid hTd
  have Hat := Lib.hid hat
  have hcn := hP.len
  have hpos : 0 < g.objs.length → 0 < cs.length := by
    intro h
    obtain ⟨p, c, h1, _⟩ := hP.all 0 h
    have := (List.getElem?_eq_some_iff.1 h1).1
    omega
  clear hP hTd hat hMl hM0 hM1 hb0 hvl
  go_wp2_with fail
  refine (round_yes g HG.out _ w1 (Hg.out.later hM2.below)).mono ?_
  rintro e w2 ⟨vr, rfl, _, hMr⟩
  have hM3 := (hM2.callMem hMr).cast (L' := rowI 3 vr (rndL g g.objs.length) :: ebox w.heap.size #[.slice ao g.objs.length co, .slice ar g.roots.length cr] 25 :: (rowR (.slice al cs.length cl) vs :: rowsI fs)) (by simp)
  obtain ⟨ar2, cr2, rfl⟩ := hM3.intsSlice 0 rfl
  obtain ⟨rs, hrs⟩ : ∃ rs, rndL g g.objs.length = rs := ⟨_, rfl⟩
  have hrsl : rs.length ≤ 24 := by rw [← hrs]; have := rndL_len g g.objs.length; omega
  have hrsi : ∀ x ∈ rs, 0 ≤ x ∧ x < g.objs.length := fun x hx => by rw [← hrs] at hx; exact (mem_rndL.1 hx).1
  have hrr : Rising rs := by rw [← hrs]; exact rise_rising (rndL_rising _ _)
  rw [hrs] at hM3 ⊢
  obtain ⟨o0, o1⟩ := hM3.cells2 1 rfl
  have iR := isInts_of_own (hM3.ownI 0 rfl) (by omega) (fun x hx => by have := hrsi x hx; exact ⟨by omega, by omega⟩)
  have Hrs := Lib.hid hrs
  have Hrsl := Lib.hid hrsl
  have Hrsi := Lib.hid hrsi
  have Hrr := Lib.hid hrr
  have HM3 := Lib.hid hM3
  have HiR := Lib.hid iR
  clear hM2 hMr hrs hrsl hrsi hrr hM3 iR
  go_upto_region 5 with (fail)
  go_cut [48] (fun s48 W' => s48 = .bool false ∧ Mem w.heap.size w W' (rowI 3 (.slice ar2 rs.length cr2) rs :: ebox w.heap.size #[.slice ao g.objs.length co, .slice ar g.roots.length cr] 25 :: (rowR (.slice al cs.length cl) vs :: rowsI fs)))
  case first =>
    by_cases h0 : cs.length = 0
    · have h1 : ¬ 0 < g.objs.length := fun h => by have := hpos h; omega
      have h2 : ¬ (0 : Int) < g.objs.length := by omega
      have h3 : ((cs.length : Int) == 0) = true := by simpa using h0
      clear hpos h0
      go_wp2_with fail
      refine (rising_yes _ rs _ HiR.out Hrr.out).mono ?_
      rintro e w3 ⟨rfl, hb3⟩
      have hM4 := HM3.out.call hb3
      obtain ⟨o0, o1⟩ := hM4.cells2 1 rfl
      go_wp2_with fail
      go_meet
      exact ⟨by simp, hM4⟩
    · have h3 : ¬ (cs.length : Int) = 0 := by omega
      have h4 : ((cs.length : Int) == 0) = false := by simpa using h0
      clear hpos
      go_wp2_with fail
      refine (rising_yes _ rs _ HiR.out Hrr.out).mono ?_
      rintro e w3 ⟨rfl, hb3⟩
      have hM4 := HM3.out.call hb3
      obtain ⟨o0, o1⟩ := hM4.cells2 1 rfl
      go_wp2_with fail
      go_meet
      exact ⟨rfl, hM4⟩
  case rest =>
    obtain ⟨rfl, hM4⟩ := hcut
    have HM4 := Lib.hid hM4
    clear hM4 HM3 HiR hpos o0 o1
    go_wp2_with fail
    go_loopw [7, 8, 9] (fun s7 _ _ wr => ∃ i : Nat, i ≤ g.objs.length ∧ s7 = .int .i64 (i : Int) ∧ Mem w.heap.size w wr (rowI 3 (.slice ar2 rs.length cr2) rs :: ebox w.heap.size #[.slice ao g.objs.length co, .slice ar g.roots.length cr] 25 :: (rowR (.slice al cs.length cl) vs :: rowsI fs))) (fun i _ _ _ => g.objs.length - (intOf i).toNat)
    case atStart => exact ⟨0, Nat.zero_le _, rfl, HM4.out⟩
    case round =>
      clear HM4
      obtain ⟨i, hi, rfl, hM⟩ := hrel
      obtain ⟨q0, q1⟩ := hM.cells2 1 rfl
      by_cases hlt3 : i < g.objs.length
      · have hLe := Lib.hid (leads_own g HG.out _ i wr (Hg.out.later hM.below) hlt3)
        have HM := Lib.hid hM
        clear hM
        go_wp2_with fail
        refine hLe.out.mono ?_
        rintro e w5 ⟨vt, lt, dt, rfl, hFt0, hMt⟩
        have hFt := hFt0.far (fromG_good HG.out (i : Int))
        have hM2 := HM.out.callMem hMt
        obtain ⟨ts, hts⟩ : ∃ ts, sorted lt = ts := ⟨_, rfl⟩
        have hts24 : ts.length ≤ 24 := by rw [← hts, length_sorted]; have h9 : lt.length ≤ g.objs.length := hFt.inv.length_le; omega
        have htm : ∀ x, x ∈ ts ↔ ∃ j, EG' g (i : Int) j ∧ Lead (EG' g) j x := fun x => by rw [← hts, mem_sorted, hFt.iff, from_lead HG.out (by omega)]
        have hti : ∀ x ∈ ts, 0 ≤ x ∧ x < g.objs.length := fun x hx => by rw [← hts] at hx; exact hFt.inv.rng x (mem_sorted.1 hx)
        rw [hts] at hM2
        obtain ⟨at2, ct2, rfl⟩ := hM2.intsSlice 0 rfl
        have iT := isInts_of_own (hM2.ownI 0 rfl) (by omega) (fun x hx => by have := hti x hx; exact ⟨by omega, by omega⟩)
        have iR := isInts_of_own (hM2.ownI 1 rfl) (by have := Hrsl.out; omega) (fun x hx => by have := Hrsi.out x hx; exact ⟨by omega, by omega⟩)
        obtain ⟨t, ht⟩ : ∃ t, hasB ts (i : Int) = t := ⟨_, rfl⟩
        have ht2 : hasB rs (i : Int) = t := by
          rw [← ht, Bool.eq_iff_iff, hasB_iff, hasB_iff, htm, ← Hrs.out, round_iff hlt3]
        have Q1 := has_any _ ts (i : Int) w5 iT
        have Q2 := has_any _ rs (i : Int) w5 iR
        rw [ht] at Q1
        rw [ht2] at Q2
        have Q1 := Lib.hid Q1
        have Q2 := Lib.hid Q2
        have HM9 := Lib.hid (hM2.drop (List.sublist_cons_self _ _))
        have x1 : (t != t) = false := by simp
        clear hFt hFt0 hMt hM2 hts hts24 htm hti hLe q0 q1 HM iT iR ht ht2
        go_wp2_with fail
        refine Q1.out.mono ?_
        rintro e w7 ⟨rfl, rfl⟩
        go_wp2_with fail
        refine Q2.out.mono ?_
        rintro e w7 ⟨rfl, rfl⟩
        go_wp2
        go_roundw
        case rel => exact ⟨i + 1, by omega, by go_num, HM9.out⟩
        case measure => simp [intOf]; omega
      · obtain rfl : i = g.objs.length := by omega
        have HM := Lib.hid hM
        clear hM
        go_wp2
        go_loopw [11, 75] (fun _ s75 wr => ∃ k : Nat, k ≤ cs.length ∧ s75 = .int .i64 (k : Int) ∧ Mem w.heap.size w wr (rowI 3 (.slice ar2 rs.length cr2) rs :: ebox w.heap.size #[.slice ao g.objs.length co, .slice ar g.roots.length cr] 25 :: (rowR (.slice al cs.length cl) vs :: rowsI fs))) (fun _ i _ => cs.length - (intOf i).toNat)
        case atStart => exact ⟨0, Nat.zero_le _, rfl, HM.out⟩
        case round =>
          clear HM q0 q1
          obtain ⟨k, hk, rfl, hM⟩ := hrel
          by_cases hlt : k < cs.length
          · obtain ⟨c, hc⟩ := get_some _ _ hlt
            obtain ⟨x, K, hx, hK⟩ := Hat.out k c hc
            have hcm := List.mem_of_getElem? hc
            have hcl := HP.out.clen hcm
            have hrg := HP.out.rng c hcm
            have hrow : (rowI 3 (.slice ar2 rs.length cr2) rs :: ebox w.heap.size #[.slice ao g.objs.length co, .slice ar g.roots.length cr] 25 :: (rowR (.slice al cs.length cl) vs :: rowsI fs))[K + 3]? = some (rowI 3 x c) := rowsI_get hK
            obtain ⟨b, rfl⟩ := hM.rowSliceAt 2 rfl (by rintro rfl; simp at hx)
            obtain ⟨c1, c2, hb⟩ := hM.rowCell 2 rfl hx
            obtain ⟨ax, cx, rfl⟩ := hM.intsSlice (K + 3) hrow
            have iC := isInts_of_own (hM.ownI (K + 3) hrow) (by omega) (fun y hy => by have := hrg y hy; exact ⟨by omega, by omega⟩)
            have iR := isInts_of_own (hM.ownI 0 rfl) (by have := Hrsl.out; omega) (fun x hx => by have := Hrsi.out x hx; exact ⟨by omega, by omega⟩)
            have HM := Lib.hid hM
            by_cases h1 : 1 < c.length
            · have Hin := Lib.hid (inside_yes _ _ c rs wr iC iR (by rw [← Hrs.out]; exact cls_round HP.out HTd.out hc h1))
              have h2 : (1 : Int) < (c.length : Int) := by omega
              clear hc hx hK hcm hrg hrow hM iC iR
              go_wp2_with fail
              refine Hin.out.mono ?_
              rintro e w7 ⟨rfl, rfl⟩
              go_wp2
              go_roundw
              case rel => exact ⟨k + 1, by omega, by go_num, HM.out⟩
              case measure => simp [intOf]; omega
            · have h2 : ¬ (1 : Int) < (c.length : Int) := by omega
              clear hc hx hK hcm hrg hrow hM iC iR
              go_wp2
              go_roundw
              case rel => exact ⟨k + 1, by omega, by go_num, HM.out⟩
              case measure => simp [intOf]; omega
          · obtain rfl : k = cs.length := by omega
            have HB := Lib.hid hM.below
            clear hM
            go_wp2
            go_ret
            exact ⟨rfl, HB.out⟩
end Go.Proofs.Ytnpbdabboecpaaa
