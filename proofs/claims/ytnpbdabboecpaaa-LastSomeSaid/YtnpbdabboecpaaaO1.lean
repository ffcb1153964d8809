/- LastSome, walked. -/
import Derived.Test.YtnpbdabboecpaaaLx
import Derived.Test.YtnpbdabboecpaaaN7
import Derived.Test.YtnpbdabboecpaaaNr
namespace Go.Proofs.Ytnpbdabboecpaaa
open Go.RowKit Go.Shelf Tarj

theorem leadP_lead {g : G} (hG : Good g) {i x : Int} (h0 : 0 ≤ i) (h : LeadP g i x) : ∃ j, EG' g i j ∧ Lead (EG' g) j x := by
  refine h (fun x => ∃ j, EG' g i j ∧ Lead (EG' g) j x) ?_ (fun j hj => ⟨j, ⟨h0, hj⟩, .here j⟩)
  rintro a ⟨j, h1, h2⟩ b hb
  refine ⟨j, h1, h2.trans (.one ⟨?_, hb⟩)⟩
  rcases lead_last h2 with rfl | ⟨c, _, h3⟩
  · exact (edge_in hG h1).2.1
  · exact (edge_in hG h3).2.1
/-- Where nothing goes round, one that is lost is ready. -/
theorem LastS.some {g : G} (hG : Good g) {wl R S : List Int} (h : LastS g wl R S) (hw : ∀ x ∈ wl, 0 ≤ x ∧ x < (g.objs.length : Int)) (hr : rndL g g.objs.length = []) {comp : Int → Int} {all : List (List Int)} (hR : Res (EG' g) g.objs.length comp all) (hl : ∃ x, LostP g wl x) : R ≠ [] := by
  obtain ⟨x, hx⟩ := hl
  obtain ⟨y, hy, hmax⟩ := hR.top (fun x => LostP g wl x) _ x hx (Nat.le_refl _)
  have hyr := hw y hy.1
  have hym : y ∈ R := h.mkR hyr ⟨hy, by
    rintro ⟨i, hi, hl, hne⟩
    have hir := hw i hi.1
    obtain ⟨j, h1, h2⟩ := leadP_lead hG hir.1 hl
    have hci := hR.rng i hir.1 hir.2
    have h3 := hR.done _ _ hci h1
    have h4 := hR.lead h3.1 h2
    have h5 := hmax i hi
    have h6 := hR.same y i h4.1 (by omega)
    have h7 : i ∈ rndL g g.objs.length := mem_rndL.2 ⟨hir, ⟨j, h1, h2.trans h6⟩⟩
    rw [hr] at h7; cases h7⟩
  intro e
  rw [e] at hym; cases hym
theorem LastS.saved_some {g : G} {wl R S : List Int} (h : LastS g wl R S) (hw : ∀ x ∈ wl, 0 ≤ x ∧ x < (g.objs.length : Int)) : 0 < S.length ↔ ∃ x ∈ wl, ¬ ReachP g x := by
  constructor
  · intro h1
    cases S with
    | nil => simp at h1
    | cons a l =>
      obtain ⟨i, hi, _⟩ := h.savedI (List.mem_cons_self ..)
      exact ⟨i, hi⟩
  · rintro ⟨x, hx, hn⟩
    have := h.has (hw x hx) hx hn
    cases S with
    | nil => cases this
    | cons a l => simp

set_option maxRecDepth 100000 in
set_option maxHeartbeats 4000000 in
theorem lsome_good (g : G) (v u : Value) (wl : List Int) (w : World) (hg : IsGraph w v g) (hu : IsInts w u wl) (hk : LastOk g wl) :
    Calls Try.prog 8 #[v, u] w fun e w' => e = .returned (.bool true) ∧ Below w.heap.size w w' := by
  have Hg := Lib.hid hg
  obtain ⟨vo, vr, rfl, ho, hr⟩ := hg
  obtain ⟨ao, co, rfl, hlo⟩ := ho.slice
  obtain ⟨ar, cr, rfl, hlr⟩ := hr.slice
  have Hu := Lib.hid hu
  obtain ⟨au, cu, rfl, hlu⟩ := hu.slice
  have hM0 := (Mem.start w).alloc #[.slice ao g.objs.length co, .slice ar g.roots.length cr] 25
  have Hk := Lib.hid hk
  have hn := hk.1.objs
  have hfl := hk.2.1
  clear ho hr hu hk
  go_enter Try.func8, Try.ntmps8
  go_wp2_with fail
  refine (last_yes g _ _ wl _ (Hg.out.later hM0.below) (Hu.out.later hM0.below) Hk.out).mono ?_
  rintro e w1 ⟨vR, vS, R, S, rfl, hL, hIR, hIS, hb1⟩
  obtain ⟨aR, cR, rfl, _⟩ := hIR.slice
  obtain ⟨aS, cS, rfl, _⟩ := hIS.slice
  have hM1 := hM0.call hb1
  obtain ⟨p0, p1⟩ := hM1.cells2 0 rfl
  have HL := Lib.hid hL
  clear hL hIR hIS
  go_wp2_with fail
  refine (round_yes g Hk.out.1 _ w1 (Hg.out.later hM1.below)).mono ?_
  rintro e w2 ⟨vr, rfl, hRes, hMr⟩
  have hM2 := hM1.call hMr.below
  obtain ⟨p2, p3⟩ := hM2.cells2 0 rfl
  obtain ⟨ar2, cr2, rfl⟩ := hMr.intsSlice 0 rfl
  obtain ⟨rs, hrs⟩ : ∃ rs, rndL g g.objs.length = rs := ⟨_, rfl⟩
  rw [hrs]
  have Hrs := Lib.hid hrs
  have HRes := Lib.hid hRes
  clear hMr hrs hRes
  go_wp2_with fail
  refine (good_yes _ g _ (Hg.out.later hM2.below) Hk.out.1).mono ?_
  rintro e w3 ⟨rfl, hb3⟩
  have hM3 := hM2.call hb3
  obtain ⟨p4, p5⟩ := hM3.cells2 0 rfl
  go_wp2_with fail
  refine (within_yes g.objs.length _ _ _ (Hu.out.later hM3.below) Hk.out.2.2).mono ?_
  rintro e w4 ⟨rfl, rfl⟩
  have HM3 := Lib.hid hM3
  clear hM0 hM1 hM2 hM3 hb1 hb3 p0 p1 p2 p3
  go_wp2
  go_loopw [10, 12, 45] (fun s10 s12 s45 wr => ∃ (k : Nat) (b : Bool), k ≤ wl.length ∧ s45 = .int .i64 (k : Int) ∧ s10 = .bool b ∧ Hid (b = true ↔ ∃ x ∈ wl.take k, ¬ ReachP g x) ∧ Mem w.heap.size w wr [ebox w.heap.size #[.slice ao g.objs.length co, .slice ar g.roots.length cr] 25]) (fun _ _ i _ => wl.length - (intOf i).toNat)
  case atStart => exact ⟨0, false, Nat.zero_le _, rfl, rfl, Lib.hid (by simp), HM3.out⟩
  case round =>
    clear HM3 p4 p5
    obtain ⟨k, b, hk, rfl, rfl, hb, hM⟩ := hrel
    by_cases hlt : k < wl.length
    · obtain ⟨x, hx⟩ := get_some _ _ hlt
      obtain ⟨bx, ox, cx, hv, hbx, hnx, c1, _⟩ := Hu.out.at hM.below hx
      cases hv
      have HS := Lib.hid (take_succ_some _ _ _ hx)
      obtain ⟨q0, q1⟩ := hM.cells2 0 rfl
      cases b with
      | true =>
        have Hn : Hid (true = true ↔ ∃ x ∈ wl.take (k + 1), ¬ ReachP g x) := Lib.hid (by
          obtain ⟨z, hz, hz2⟩ := hb.out.1 rfl
          exact ⟨fun _ => ⟨z, by rw [HS.out]; exact List.mem_append_left _ hz, hz2⟩, fun _ => rfl⟩)
        have HM := Lib.hid hM
        clear hx hb hM
        go_wp2
        go_roundw
        case rel => exact ⟨k + 1, true, by omega, by go_num, rfl, Hn, HM.out⟩
        case measure => simp [intOf]; omega
      | false =>
        have hrr := Lib.hid (reachR_any g (by omega) _ wr (Hg.out.later hM.below))
        have HM := Lib.hid hM
        have Hb := Lib.hid hb
        clear hx hM hb
        go_wp2_with fail
        refine hrr.out.mono ?_
        rintro e w5 ⟨vR, L, rfl, hR, hM5⟩
        obtain ⟨t, ht⟩ := dec_iff (x ∈ L)
        have iL := isInts_small hM5 0 rfl (by
          have h1 := rising_le hR.rising hR.rng; omega) (fun y hy => by have := hR.rng y hy; omega)
        obtain ⟨aL, cL, rfl, _⟩ := iL.slice
        have H1 := Lib.hid (has_said _ L x w5 iL t ht)
        have Hn : Hid ((!t) = true ↔ ∃ x ∈ wl.take (k + 1), ¬ ReachP g x) := Lib.hid (by
          rw [HS.out]
          have hx2 : x ∈ L ↔ ReachP g x := hR.reachP Hk.out.1 x
          constructor
          · intro h
            refine ⟨x, List.mem_append_right _ (List.mem_singleton.2 rfl), fun h2 => ?_⟩
            have := ht.2 (hx2.2 h2)
            rw [this] at h; cases h
          · rintro ⟨z, hz, hz2⟩
            rcases List.mem_append.1 hz with hz | hz
            · have := Hb.out.out.2 ⟨z, hz, hz2⟩; cases this
            · rw [List.mem_singleton.1 hz] at hz2
              cases t with
              | false => rfl
              | true => exact (hz2 (hx2.1 (ht.1 rfl))).elim)
        have HM6 := Lib.hid (HM.out.call hM5.below)
        clear hR hM5 ht iL
        go_wp2_with fail
        refine H1.out.mono ?_
        rintro e w6 ⟨rfl, rfl⟩
        go_wp2
        go_roundw
        case rel => exact ⟨k + 1, !t, by omega, by go_num, rfl, Hn, HM6.out⟩
        case measure => simp [intOf]; omega
    · obtain rfl : k = wl.length := by omega
      have hb2 : b = true ↔ ∃ x ∈ wl, ¬ ReachP g x := by have := hb.out; rwa [List.take_length] at this
      have hS := HL.out.saved_some Hk.out.2.2
      have HM := Lib.hid hM
      clear hM hb
      cases b with
      | true =>
        have hl := hb2.1 rfl
        have hSn := hS.2 hl
        have sa : (0 : Int) < (S.length : Int) := by omega
        have sb : 0 < S.length := by omega
        have sc : decide ((0 : Int) < (S.length : Int)) = true := by simpa using sb
        have sd : decide (0 < S.length) = true := by simpa using sb
        by_cases h0 : 0 < rs.length
        · have ra : (0 : Int) < (rs.length : Int) := by omega
          have rb : 0 < rs.length := by omega
          have rc : decide ((0 : Int) < (rs.length : Int)) = true := by simpa using rb
          have rd : decide (0 < rs.length) = true := by simpa using rb
          clear hb2 hS hl h0 hSn
          go_wp2
          go_ret
          exact ⟨by simp, HM.out.below⟩
        · have ra : ¬ (0 : Int) < (rs.length : Int) := by omega
          have rb : ¬ 0 < rs.length := by omega
          have rc : decide ((0 : Int) < (rs.length : Int)) = false := by simpa using rb
          have rd : decide (0 < rs.length) = false := by simpa using rb
          have hRn : 0 < R.length := by
            obtain ⟨comp, all, hR⟩ := HRes.out
            have h3 := HL.out.some Hk.out.1 Hk.out.2.2 (by rw [Hrs.out]; exact List.eq_nil_of_length_eq_zero (by omega)) hR hl
            exact List.length_pos_iff.2 h3
          have qa : (0 : Int) < (R.length : Int) := by omega
          have qb : 0 < R.length := by omega
          have qc : decide ((0 : Int) < (R.length : Int)) = true := by simpa using qb
          have qd : decide (0 < R.length) = true := by simpa using qb
          clear hb2 hS hl h0 hSn hRn
          go_wp2
          go_ret
          exact ⟨by simp, HM.out.below⟩
      | false =>
        have hno : ¬ ∃ x ∈ wl, ¬ ReachP g x := fun h => by have := hb2.2 h; cases this
        have hSn : ¬ 0 < S.length := fun h => hno (hS.1 h)
        have hRn : ¬ 0 < R.length := by
          intro h
          cases hRe : R with
          | nil => rw [hRe] at h; simp at h
          | cons a l =>
            have := HL.out.readyI (x := a) (by rw [hRe]; exact List.mem_cons_self ..)
            exact hno ⟨a, this.1⟩
        have sa : ¬ (0 : Int) < (S.length : Int) := by omega
        have sb : ¬ 0 < S.length := by omega
        have sc : decide ((0 : Int) < (S.length : Int)) = false := by simpa using sb
        have sd : decide (0 < S.length) = false := by simpa using sb
        have qa : ¬ (0 : Int) < (R.length : Int) := by omega
        have qb : ¬ 0 < R.length := by omega
        have qc : decide ((0 : Int) < (R.length : Int)) = false := by simpa using qb
        have qd : decide (0 < R.length) = false := by simpa using qb
        by_cases h0 : 0 < rs.length
        · have ra : (0 : Int) < (rs.length : Int) := by omega
          have rb : 0 < rs.length := by omega
          have rc : decide ((0 : Int) < (rs.length : Int)) = true := by simpa using rb
          have rd : decide (0 < rs.length) = true := by simpa using rb
          clear hb2 hS hno h0 hSn hRn
          go_wp2
          go_ret
          exact ⟨by simp, HM.out.below⟩
        · have ra : ¬ (0 : Int) < (rs.length : Int) := by omega
          have rb : ¬ 0 < rs.length := by omega
          have rc : decide ((0 : Int) < (rs.length : Int)) = false := by simpa using rb
          have rd : decide (0 < rs.length) = false := by simpa using rb
          clear hb2 hS hno h0 hSn hRn
          go_wp2
          go_ret
          exact ⟨by simp, HM.out.below⟩

set_option maxRecDepth 100000 in
set_option maxHeartbeats 1000000 in
theorem lsome_bad (g : G) (v u : Value) (fr : List Int) (w : World) (hg : IsGraph w v g) (hu : IsInts w u fr) (hk : ¬ LastOk g fr) :
    Calls Try.prog 8 #[v, u] w fun e w' => e = .returned (.bool true) ∧ Below w.heap.size w w' := by
  have Hg := Lib.hid hg
  obtain ⟨vo, vr, rfl, ho, hr⟩ := hg
  obtain ⟨ao, co, rfl, hlo⟩ := ho.slice
  obtain ⟨ar, cr, rfl, hlr⟩ := hr.slice
  have Hu := Lib.hid hu
  obtain ⟨au, cu, rfl, hlu⟩ := hu.slice
  have hM0 := (Mem.start w).alloc #[.slice ao g.objs.length co, .slice ar g.roots.length cr] 25
  have Hk := Lib.hid hk
  clear ho hr hu hk
  go_enter Try.func8, Try.ntmps8
  go_wp2_with fail
  refine (last_no g _ _ fr _ (Hg.out.later hM0.below) (Hu.out.later hM0.below) Hk.out).mono ?_
  rintro e w1 ⟨c, hc, rfl, hb1⟩
  have hM1 := hM0.call hb1
  obtain ⟨p0, p1⟩ := hM1.cells2 0 rfl
  by_cases hG : Good g
  · go_wp2_with fail
    refine (round_yes g hG _ w1 (Hg.out.later hM1.below)).mono ?_
    rintro e w9 ⟨vr, rfl, _, hMr⟩
    have hM1 := hM1.call hMr.below
    obtain ⟨p0, p1⟩ := hM1.cells2 0 rfl
    obtain ⟨ar2, cr2, rfl⟩ := hMr.intsSlice 0 rfl
    go_wp2_with fail
    refine (good_yes _ g _ (Hg.out.later hM1.below) hG).mono ?_
    rintro e w2 ⟨rfl, hb2⟩
    have hM2 := hM1.call hb2
    obtain ⟨p2, p3⟩ := hM2.cells2 0 rfl
    by_cases hfl : fr.length ≤ 24
    · have Hno : Hid (¬ ∀ x ∈ fr, 0 ≤ x ∧ x < (g.objs.length : Int)) := Lib.hid (fun h => Hk.out ⟨hG, hfl, h⟩)
      go_wp2_with fail
      refine (within_either g.objs.length _ _ _ (Hu.out.later hM2.below)).mono ?_
      rintro e w3 ⟨t, rfl, ht, rfl⟩
      obtain rfl : t = false := by
        cases t with
        | false => rfl
        | true => exact (Hno.out (ht.1 rfl)).elim
      clear ht
      go_wp2
      go_ret
      exact ⟨by simp, hM2.below⟩
    · have hz : decide (24 < (fr.length : Int)) = true := by simp; omega
      go_wp2
      go_ret
      exact ⟨by simp, hM2.below⟩
  · go_wp2_with fail
    refine (round_bad g hG _ w1 (Hg.out.later hM1.below)).mono ?_
    rintro e w9 ⟨c9, _, rfl, hb9⟩
    have hM1 := hM1.call hb9
    obtain ⟨p0, p1⟩ := hM1.cells2 0 rfl
    go_wp2_with fail
    refine (good_no _ g _ (Hg.out.later hM1.below) hG).mono ?_
    rintro e w2 ⟨rfl, hb2⟩
    have hM2 := hM1.call hb2
    go_wp2
    go_ret
    exact ⟨by simp, hM2.below⟩
theorem lsome_walk (w : World) (v u : Value) (h : ∃ g, IsGraph w v g) (hu : ∃ l, IsInts w u l) :
    Calls Try.prog 8 #[v, u] w fun e w' => e = .returned (.bool true) ∧ Below w.heap.size w w' := by
  obtain ⟨g, hg⟩ := h
  obtain ⟨fr, hu⟩ := hu
  by_cases hk : LastOk g fr
  · exact lsome_good g v u fr w hg hu hk
  · exact lsome_bad g v u fr w hg hu hk
end Go.Proofs.Ytnpbdabboecpaaa
