/- WeakClears, walked. -/
import Derived.Test.YtjnbnfmlpdnngaaWqc
import Derived.Test.YtjnbnfmlpdnngaaWit
import Derived.Test.YtjnbnfmlpdnngaaVa
namespace Go.Proofs.Ytjnbnfmlpdnngaa
open Go.RowKit Go.Shelf

theorem WeakS.same {g : G} {ks : List Int} {K K' : List Bool} (h : WeakS g ks K) (h' : WeakS g ks K') : K = K' := by
  have hl : K.length = K'.length := h.inv.len.trans h'.inv.len.symm
  refine List.ext_getElem hl fun i hi hi' => ?_
  have h1 := h.unique h' (i : Int)
  unfold kp at h1
  rw [Int.toNat_natCast, List.getD_eq_getElem?_getD, List.getD_eq_getElem?_getD, List.getElem?_eq_getElem hi, List.getElem?_eq_getElem hi'] at h1
  simp only [Option.getD_some, Int.natCast_nonneg, decide_true, Bool.true_and] at h1
  exact Bool.eq_iff_iff.2 h1
theorem left_of {g : G} {ks : List Int} {K : List Bool} {k : Nat} {x : Int} (hx : (listK K)[k]? = some x) : (renum (wipeG g ks K) (listK K)).objs[k]? = some ((fieldsAt (wipeG g ks K) x).map (turnV (at_ (listK K) (listK K).length))) := by
  unfold renum
  rw [List.getElem?_map, hx]; rfl
set_option maxRecDepth 100000 in
set_option maxHeartbeats 8000000 in
theorem weakClears_good (g : G) (v u : Value) (ks : List Int) (w : World) (hg : IsGraph w v g) (hroom : RoomG w v g) (hu : IsInts w u ks) (hk : KindOf g ks) :
    Calls Try.prog 7 #[v, u] w fun e w' => e = .returned (.bool true) ∧ Below w.heap.size w w' := by
  have Hg := Lib.hid hg
  have Hu := Lib.hid hu
  have hn := hk.1.objs
  have hro := hroom
  obtain ⟨vo0, vr0, rfl, ho, hr⟩ := hg
  obtain ⟨ao, co, rfl, hlo⟩ := ho.slice
  obtain ⟨ar, cr, rfl, hlr⟩ := hr.slice
  obtain ⟨au, cu, rfl, hlu⟩ := hu.slice
  have hM0 := (Mem.start w).alloc #[.slice ao g.objs.length co, .slice ar g.roots.length cr] 25
  have Hkept := Lib.hid (kept_yes g _ _ ks _ (Hg.out.later hM0.below) (RoomG.later Hg.out hro hM0.below) (hu.later hM0.below) hk)
  have HM0 := Lib.hid hM0
  have HO := Lib.hid ho
  have Hro := Lib.hid hro
  have Hk := Lib.hid hk
  clear ho hr hroom hro hu hk hM0
  go_enter Try.func7, Try.ntmps7
  go_wp2_with fail
  refine Hkept.out.mono ?_
  rintro e w1 ⟨vl, K, rfl, hW, hMl⟩
  have hM1 := HM0.out.callMem hMl
  have hKl := hW.inv.len
  have hll := listTo_len K K.length
  have hI := isInts_of_own (hMl.ownI 0 rfl) (by unfold listK; omega) (fun x hx => by have := listK_in hx; exact ⟨by omega, by omega⟩)
  obtain ⟨al, cl, hle, _⟩ := hI.slice
  subst hle
  obtain ⟨n, hnl⟩ : ∃ n, (listK K).length = n := ⟨_, rfl⟩
  rw [hnl] at hI hM1 ⊢
  have hn24 : n ≤ 24 := by rw [← hnl]; unfold listK; omega
  have p0 := hM1.cell 1 rfl 0
  have p1 := hM1.cell 1 rfl 1
  have pb := (hM1.box 1 rfl).2.1
  have Hcl := Lib.hid (clear_yes g _ _ ks w1 (Hg.out.later hM1.below) (RoomG.later Hg.out Hro.out hM1.below) (Hu.out.later hM1.below) Hk.out)
  have HI := Lib.hid hI
  have HW := Lib.hid hW
  have HM1 := Lib.hid hM1
  have HKl := Lib.hid hKl
  have Hnl := Lib.hid hnl
  clear hI hW hM1 hKl hnl hMl hll Hkept HM0
  go_wp2_with fail
  refine Hcl.out.mono ?_
  rintro e w2 ⟨K', v', rfl, hW', hgr, hb2⟩
  obtain rfl : K = K' := HW.out.same hW'
  have hGc := HW.out.good Hk.out.2.2 Hk.out.1
  have hclen : (renum (wipeG g ks K) (listK K)).objs.length = n := by rw [left_len]; exact Hnl.out
  have hcroots : (renum (wipeG g ks K) (listK K)).roots.length = g.roots.length := by simp [renum, wipeG]
  have hcobj : ∀ (k : Nat) (x : Int), (listK K)[k]? = some x → ∃ oc, (renum (wipeG g ks K) (listK K)).objs[k]? = some oc ∧ oc.length = (fieldsAt g x).length := by
    intro k x hx
    refine ⟨_, left_of hx, ?_⟩
    have h1 := listK_in (List.mem_of_getElem? hx)
    rw [HKl.out] at h1
    obtain ⟨i, rfl⟩ : ∃ i : Nat, x = (i : Int) := ⟨x.toNat, by omega⟩
    rw [List.length_map, wipeG_at (by omega), wipeL_len]
  have hagain : ∀ K2, WeakS (renum (wipeG g ks K) (listK K)) ((listK K).map (kindAt ks)) K2 → renum (wipeG (renum (wipeG g ks K) (listK K)) ((listK K).map (kindAt ks)) K2) (listK K2) = renum (wipeG g ks K) (listK K) := by
    intro K2 h2
    refine clear_id hGc h2.inv.len fun j hj => ?_
    rw [left_len] at hj
    exact HW.out.again h2 j hj
  have hkc : KindOf (renum (wipeG g ks K) (listK K)) ((listK K).map (kindAt ks)) := by
    refine ⟨hGc, by rw [List.length_map, left_len], fun x hx => ?_⟩
    obtain ⟨y, _, rfl⟩ := List.mem_map.1 hx
    rcases kindAt_ok Hk.out.2.2 y with h | h | h <;> rw [h] <;> exact ⟨by decide, by decide⟩
  obtain ⟨c, hc⟩ : ∃ c, renum (wipeG g ks K) (listK K) = c := ⟨_, rfl⟩
  rw [hc] at hgr hGc hclen hcroots hcobj hagain hkc
  have hgw := (hgr.later (Below.refl _ _)).1
  obtain ⟨aO, cO, aR, cR, rfl, _, _⟩ := hgw.shape
  have hgw2 := hgw
  rw [hclen, hcroots] at hgr hgw ⊢
  have hC2 : ∀ X, Below w2.heap.size w2 X → (X.cell? ⟨w.heap.size, 0, none⟩ = some (.slice ao g.objs.length co) ∧ X.cell? ⟨w.heap.size, 1, none⟩ = some (.slice ar g.roots.length cr) ∧ w.heap.size < X.heap.size) ∧ Below w.heap.size w X ∧ IsInts X (.slice al n cl) (listK K) ∧ IsGraph X (.agg #[.slice aO n cO, .slice aR g.roots.length cR]) c ∧ RoomG X (.agg #[.slice aO n cO, .slice aR g.roots.length cR]) c := by
    intro X hX
    have h1 : Below w1.heap.size w1 X := hb2.trans (hX.mono hb2.size)
    have h2 := hgr.later hX
    exact ⟨⟨(h1.cell (p := ⟨_, _, none⟩) pb).trans p0, (h1.cell (p := ⟨_, _, none⟩) pb).trans p1, Nat.lt_of_lt_of_le pb h1.size⟩, HM1.out.below.trans (h1.mono HM1.out.below.size), HI.out.later h1, h2.1, h2.2⟩
  have HC2 := Lib.hid hC2
  have hM7 := (Mem.start w2).alloc #[.slice aO n cO, .slice aR g.roots.length cR] 25
  obtain ⟨W7, hW7⟩ : ∃ W7, w2.alloc (.cells #[.slice aO n cO, .slice aR g.roots.length cR] 25) = W7 := ⟨_, rfl⟩
  rw [hW7] at hM7
  obtain ⟨⟨q0, q1, qb⟩, hB7, _, _, _⟩ := hC2 W7 hM7.below
  have Hgood := Lib.hid (good_yes _ g W7 (Hg.out.later hB7) Hk.out.1)
  have HM7 := Lib.hid hM7
  have HW7 := Lib.hid hW7
  have HGc := Lib.hid hGc
  have Hclen := Lib.hid hclen
  have Hcroots := Lib.hid hcroots
  have Hcobj := Lib.hid hcobj
  have Hagain := Lib.hid hagain
  have Hkc := Lib.hid hkc
  have Hc := Lib.hid hc
  clear hC2 hM7 hW7 hGc hclen hcroots hcobj hagain hkc hc hgw hgw2 hgr hW' hb2 p0 p1 pb Hcl hB7
  go_upto_region 3 with (fail)
  rw [HW7.out]
  go_wp2_with fail
  refine Hgood.out.mono ?_
  rintro e w3 ⟨rfl, hb3⟩
  have hB3 : Below w2.heap.size w2 w3 := HM7.out.below.trans (hb3.mono HM7.out.below.size)
  obtain ⟨⟨r0, r1, rb⟩, hBw3, hI3, _, _⟩ := HC2.out w3 hB3
  have Hkck := Lib.hid (kcheck_yes g _ _ ks w3 (Hg.out.later hBw3) (Hu.out.later hBw3) Hk.out.2.1 Hk.out.2.2)
  have HB3' := Lib.hid hb3
  have HB3 := Lib.hid hB3
  have Hb3 := Lib.hid hb3
  clear hB3 hBw3 hI3 hb3 q0 q1 qb Hgood
  go_wp2_with fail
  refine Hkck.out.mono ?_
  rintro e w4 ⟨rfl, hb4⟩
  have hM4 := (HM7.out.call HB3'.out).call hb4
  obtain ⟨⟨q0, q1, qb⟩, hB4, hI4, hg4, _⟩ := HC2.out w4 hM4.below
  have s0 := hM4.cell 0 rfl 0
  have s1 := hM4.cell 0 rfl 1
  have sb := (hM4.box 0 rfl).2.1
  have Hwi := Lib.hid (within_yes g.objs.length (.slice al n cl) (listK K) w4 hI4 (fun x hx => by have := listK_in hx; have := HKl.out; omega))
  have Hgc := Lib.hid (good_yes _ c w4 hg4 HGc.out)
  have HM4 := Lib.hid hM4
  have z1 : ((n : Int) != (n : Int)) = false := by simp
  have z2 : ((g.roots.length : Int) != (g.roots.length : Int)) = false := by simp
  clear hM4 hB4 hI4 hg4 hb4 HB3 Hb3 HB3' Hkck HM7 r0 r1 rb
  go_wp2_with fail
  refine Hwi.out.mono ?_
  rintro e w5 ⟨rfl, rfl⟩
  go_wp2_with fail
  refine Hgc.out.mono ?_
  rintro e w5 ⟨rfl, hb5⟩
  have hM5 := HM4.out.call hb5
  obtain ⟨⟨t0, t1, tb⟩, _, _, _, _⟩ := HC2.out w5 hM5.below
  have v0 := hM5.cell 0 rfl 0
  have v1 := hM5.cell 0 rfl 1
  have vb := (hM5.box 0 rfl).2.1
  have HM5 := Lib.hid (hM5.nilI 3)
  clear hM5 hb5 Hgc Hwi HM4 q0 q1 qb s0 s1 sb
  go_upto_region 9 with (fail)
  go_loopw [9, 10, 11, 78] (fun s9 _ _ s78 wr => ∃ k : Nat, k ≤ n ∧ s78 = .int .i64 (k : Int) ∧ Mem w2.heap.size w2 wr [rowI 3 s9 (((listK K).take k).map (kindAt ks)), ebox w2.heap.size #[.slice aO n cO, .slice aR g.roots.length cR] 25]) (fun _ _ _ i _ => n - (intOf i).toNat)
  case atStart => exact ⟨0, Nat.zero_le _, rfl, HM5.out⟩
  case round =>
    clear HM5 t0 t1 tb v0 v1 vb
    obtain ⟨k, hk, rfl, hM⟩ := hrel
    obtain ⟨Lk, hLk⟩ : ∃ Lk, ((listK K).take k).map (kindAt ks) = Lk := ⟨_, rfl⟩
    rw [hLk] at hM
    have hLl : Lk.length ≤ 24 := by rw [← hLk, List.length_map, List.length_take, Hnl.out]; omega
    have HLk := Lib.hid hLk
    clear hLk
    by_cases hlt : k < n
    · obtain ⟨x, hx⟩ := get_some (listK K) k (by rw [Hnl.out]; exact hlt)
      have hxr := listK_in (List.mem_of_getElem? hx)
      rw [HKl.out] at hxr
      obtain ⟨i, rfl⟩ : ∃ i : Nat, x = (i : Int) := ⟨x.toNat, by omega⟩
      have hi : i < g.objs.length := by omega
      obtain ⟨kd, hkd⟩ := get_some ks i (by rw [Hk.out.2.1]; exact hi)
      obtain ⟨ob, hob⟩ := get_some _ _ hi
      obtain ⟨oc, hoc, hocl⟩ := Hcobj.out k _ hx
      have hfa : fieldsAt g (i : Int) = ob := by unfold fieldsAt; rw [Int.toNat_natCast, List.getD_eq_getElem?_getD, hob]; rfl
      have hka : kindAt ks (i : Int) = kd := by unfold kindAt; rw [Int.toNat_natCast, List.getD_eq_getElem?_getD, hkd]; rfl
      rw [hfa] at hocl
      obtain ⟨m, hm⟩ : ∃ m, ob.length = m := ⟨_, rfl⟩
      rw [hm] at hocl
      obtain ⟨_, hBr, hIr, _, _⟩ := HC2.out wr hM.below
      obtain ⟨bl, ol, cl2, hv, _, hbl, d0, _⟩ := hIr.at (Below.refl _ _) hx
      rw [Hnl.out] at hv
      have hal : al = some ⟨bl, ol, none⟩ := by cases hv; rfl
      subst hal
      obtain ⟨bk, ok, ck, hv3, _, hbk, c3, _⟩ := Hu.out.at hBr hkd
      have hau : au = some ⟨bk, ok, none⟩ := by cases hv3; rfl
      subst hau
      have hkx : Hid (((listK K).take (k + 1)).map (kindAt ks) = Lk ++ [kd]) := Lib.hid (by rw [take_succ_some _ _ _ hx, List.map_append, HLk.out]; simp only [List.map_cons, List.map_nil]; rw [hka])
      have j1 : (k : Int) < (n : Int) := by omega
      have j2 : (i : Int) < (ks.length : Int) := by rw [Hk.out.2.1]; omega
      have j3 : (0 : Int) ≤ (i : Int) := by omega
      have j4 : (0 : Int) ≤ (k : Int) := by omega
      have j5 : (i : Int) < (g.objs.length : Int) := by omega
      have HM := Lib.hid hM
      have Hob := Lib.hid hob
      have Hoc := Lib.hid hoc
      have Hm := Lib.hid hm
      have Hocl := Lib.hid hocl
      clear hM hx hkd hob hoc hfa hka hv hv3 hIr hBr hm hocl
      go_upto_region 12 with (at_builtin; refine Mem.wp_appI elemInts rfl (.tmp 83) (.tmp 88) rfl HM.out 0 rfl rfl _ kd _ _ rfl (by simp) (by omega) ?_; intro ad n1 cp w6 hn1 hM6 hs6 hk6 ha6)
      obtain ⟨⟨q0, q1, qb⟩, hB6, _, hg6, _⟩ := HC2.out w6 hM6.below
      have s0 := hM6.cell 1 rfl 0
      have sb := (hM6.box 1 rfl).2.1
      obtain ⟨vo6, vr6, hv6, ho6, _⟩ := hg6
      obtain ⟨rfl, rfl⟩ : Value.slice aO n cO = vo6 ∧ Value.slice aR g.roots.length cR = vr6 := by simpa using hv6
      obtain ⟨bO, oO, capO, uO, hv7, _, hbO, e0, huO⟩ := ho6.at (Below.refl _ _) Hoc.out
      rw [Hclen.out] at hv7
      have haO : aO = some ⟨bO, oO, none⟩ := by cases hv7; rfl
      subst haO
      obtain ⟨aq, cq, rfl, _⟩ := huO.slice
      rw [Hocl.out] at e0
      obtain ⟨bo, oo, capo, uo, hv8, _, hbo, e1, huo⟩ := HO.out.at hB6 Hob.out
      have hao : ao = some ⟨bo, oo, none⟩ := by cases hv8; rfl
      subst hao
      obtain ⟨ap, cpp, rfl, _⟩ := huo.slice
      rw [Hm.out] at e1
      have HM6 := Lib.hid hM6
      clear hM6 hB6 hv6 ho6 hv7 hv8 huO huo hs6 hk6 c3 d0 hxr
      go_quiet (fail)
      go_wp2_with fail
      go_roundw
      case rel => exact ⟨k + 1, by omega, by go_num, (HM6.out.drewN _).cast (by rw [hkx.out]; rfl)⟩
      case measure => simp [intOf]; omega
    · obtain rfl : n = k := by omega
      have hleft : Lk = (listK K).map (kindAt ks) := by rw [← HLk.out, List.take_of_length_le (by rw [Hnl.out]; exact Nat.le_refl _)]
      rw [hleft] at hM
      obtain ⟨aD, nD, cD, rfl⟩ := own_slice (hM.ownI 0 rfl)
      obtain ⟨_, _, _, hg6, hro6⟩ := HC2.out wr hM.below
      have s0 := hM.cell 1 rfl 0
      have s1 := hM.cell 1 rfl 1
      have sb := (hM.box 1 rfl).2.1
      have hIl := isInts_of_own (hM.ownI 0 rfl) (by rw [List.length_map, Hnl.out]; omega) (fun x hx => by have := Hkc.out.2.2 x hx; exact ⟨by omega, by omega⟩)
      have Hcl2 := Lib.hid (clear_yes c _ _ _ wr hg6 hro6 hIl Hkc.out)
      have HM := Lib.hid hM
      clear hM hleft hg6 hro6 hIl
      go_wp2_with fail
      refine Hcl2.out.mono ?_
      rintro e w8 ⟨K2, v2, rfl, hW2, hgr2, hb8⟩
      rw [Hagain.out K2 hW2] at hgr2
      have hM8 := HM.out.call hb8
      have hg2 := (hgr2.later (Below.refl _ _)).1
      obtain ⟨a1, c1, a2, c2, rfl, _, _⟩ := hg2.shape
      have hM9 := hM8.alloc #[.slice a1 c.objs.length c1, .slice a2 c.roots.length c2] 25
      have hgB := (hgr2.later ((Below.refl _ w8).alloc (Nat.le_refl _) (.cells #[.slice a1 c.objs.length c1, .slice a2 c.roots.length c2] 25))).1
      obtain ⟨W9, hW9⟩ : ∃ W9, w8.alloc (.cells #[.slice a1 c.objs.length c1, .slice a2 c.roots.length c2] 25) = W9 := ⟨_, rfl⟩
      obtain ⟨b12, hb12⟩ : ∃ b12, w8.heap.size = b12 := ⟨_, rfl⟩
      rw [hW9, hb12] at hM9
      rw [hW9] at hgB
      obtain ⟨_, _, _, hgA, _⟩ := HC2.out W9 hM9.below
      have x0 := hM9.cell 0 rfl 0
      have x1 := hM9.cell 0 rfl 1
      have xb := (hM9.box 0 rfl).2.1
      have y0 := hM9.cell 2 rfl 0
      have y1 := hM9.cell 2 rfl 1
      have yb := (hM9.box 2 rfl).2.1
      have Hgs := Lib.hid (graphs_same _ _ c W9 hgA hgB)
      have HM9 := Lib.hid hM9
      have HW9 := Lib.hid hW9
      have Hb12 := Lib.hid hb12
      clear hM8 hM9 hgA hgB hg2 hgr2 hW9 hb12 hb8 hW2 Hcl2 HM s0 s1 sb
      go_upto_region 16 with (fail)
      rw [HW9.out, Hb12.out]
      go_wp2_with fail
      refine Hgs.out.mono ?_
      rintro e w10 ⟨rfl, hb10⟩
      have HBf := Lib.hid (HC2.out w10 (HM9.out.call hb10).below).2.1
      clear hb10
      go_wp2
      go_ret
      exact ⟨rfl, HBf.out⟩
set_option maxRecDepth 100000 in
set_option maxHeartbeats 2000000 in
theorem weakClears_bad (g : G) (v u : Value) (ks : List Int) (w : World) (hg : IsGraph w v g) (hu : IsInts w u ks) (hk : ¬ KindOf g ks) :
    Calls Try.prog 7 #[v, u] w fun e w' => e = .returned (.bool true) ∧ Below w.heap.size w w' := by
  have Hg := Lib.hid hg
  have Hu := Lib.hid hu
  obtain ⟨vo0, vr0, rfl, ho, hr⟩ := hg
  obtain ⟨ao, co, rfl, hlo⟩ := ho.slice
  obtain ⟨ar, cr, rfl, hlr⟩ := hr.slice
  obtain ⟨au, cu, rfl, hlu⟩ := hu.slice
  have hM0 := (Mem.start w).alloc #[.slice ao g.objs.length co, .slice ar g.roots.length cr] 25
  have Hkept := Lib.hid (kept_no g _ _ ks _ (Hg.out.later hM0.below) (hu.later hM0.below) hk)
  have HM0 := Lib.hid hM0
  have Hk := Lib.hid hk
  clear ho hr hu hk hM0
  go_enter Try.func7, Try.ntmps7
  go_wp2_with fail
  refine Hkept.out.mono ?_
  rintro e w1 ⟨⟨c1, hc1, hc1', rfl⟩, hb1⟩
  have hM1 := HM0.out.call hb1
  have p0 := hM1.cell 0 rfl 0
  have p1 := hM1.cell 0 rfl 1
  have pb := (hM1.box 0 rfl).2.1
  have Hcl := Lib.hid (clear_no g (.agg #[.slice ao g.objs.length co, .slice ar g.roots.length cr]) (.slice au ks.length cu) ks w1 (Hg.out.later hM1.below) (Hu.out.later hM1.below) Hk.out)
  have HM1 := Lib.hid hM1
  clear hM1 hb1 Hkept HM0
  go_wp2_with fail
  refine Hcl.out.mono ?_
  rintro e w2 ⟨⟨c2, hc2, hc2', rfl⟩, hb2⟩
  have hM2 := (HM1.out.call hb2).alloc #[.slice none 0 0, .slice none 0 0] 25
  obtain ⟨W2, hW2⟩ : ∃ W2, w2.alloc (.cells #[.slice none 0 0, .slice none 0 0] 25) = W2 := ⟨_, rfl⟩
  obtain ⟨b7, hb7⟩ : ∃ b7, w2.heap.size = b7 := ⟨_, rfl⟩
  rw [hW2, hb7] at hM2
  have q0 := hM2.cell 1 rfl 0
  have q1 := hM2.cell 1 rfl 1
  have qb := (hM2.box 1 rfl).2.1
  have HM2 := Lib.hid hM2
  have HW2 := Lib.hid hW2
  have Hb7 := Lib.hid hb7
  clear hM2 hW2 hb7 hb2 HM1 Hcl p0 p1 pb
  go_upto_region 3 with (fail)
  rw [HW2.out, Hb7.out]
  clear HW2 Hb7
  by_cases hG : Good g
  · have hbad : ¬ (ks.length = g.objs.length ∧ KindsOk ks) := fun h => Hk.out ⟨hG, h.1, h.2⟩
    have Hgood := Lib.hid (good_yes _ g W2 (Hg.out.later HM2.out.below) hG)
    have Hbad := Lib.hid hbad
    clear hbad hG
    go_wp2_with fail
    refine Hgood.out.mono ?_
    rintro e w3 ⟨rfl, hb3⟩
    have hM3 := HM2.out.call hb3
    have r0 := hM3.cell 1 rfl 0
    have r1 := hM3.cell 1 rfl 1
    have rb := (hM3.box 1 rfl).2.1
    have Hkc := Lib.hid (kcheck_no g (.agg #[.slice ao g.objs.length co, .slice ar g.roots.length cr]) (.slice au ks.length cu) ks w3 (Hg.out.later hM3.below) (Hu.out.later hM3.below) Hbad.out)
    have HM3 := Lib.hid hM3
    clear hM3 hb3 Hgood HM2 q0 q1 qb
    go_wp2_with fail
    refine Hkc.out.mono ?_
    rintro e w4 ⟨he, hb4⟩
    have HB := Lib.hid (HM3.out.call hb4).below
    clear hb4
    rcases he with rfl | rfl
    · go_wp2
      go_ret
      exact ⟨rfl, HB.out⟩
    · go_wp2
      go_ret
      exact ⟨rfl, HB.out⟩
  · have Hgood := Lib.hid (good_no _ g W2 (Hg.out.later HM2.out.below) hG)
    clear hG
    go_wp2_with fail
    refine Hgood.out.mono ?_
    rintro e w3 ⟨rfl, hb3⟩
    have HB := Lib.hid (HM2.out.call hb3).below
    clear hb3
    go_wp2
    go_ret
    exact ⟨rfl, HB.out⟩
theorem weakClears_walk (W : World) (v0 v1 : Value) (g0 : ∃ g, IsGraph W v0 g ∧ RoomG W v0 g) (g1 : ∃ l, IsInts W v1 l) :
    Calls Try.prog 7 #[v0, v1] W fun e w' => e = .returned (.bool true) ∧ Below W.heap.size W w' := by
  obtain ⟨g, hg, hroom⟩ := g0
  obtain ⟨ks, hu⟩ := g1
  by_cases hk : KindOf g ks
  · exact weakClears_good g v0 v1 ks W hg hroom hu hk
  · exact weakClears_bad g v0 v1 ks W hg hu hk
end Go.Proofs.Ytjnbnfmlpdnngaa
