/- DualTraces, walked. -/
import Derived.Test.YtnpbdabboecpaaaN7
import Derived.Test.YtnpbdabboecpaaaN8
import Derived.Test.YtnpbdabboecpaaaDd
import Derived.Test.YtnpbdabboecpaaaLd
import Derived.Test.YtnpbdabboecpaaaZt
import Derived.Test.YtnpbdabboecpaaaLh
import Derived.Test.YtnpbdabboecpaaaFr
namespace Go.Proofs.Ytnpbdabboecpaaa
open Go.RowKit Go.Shelf Tarj

theorem from_lead {g : G} (hG : Good g) {r : Int} (h0 : 0 ≤ r) (x : Int) : Rch (fromG g r) x ↔ ∃ j, EG' g r j ∧ Lead (EG' g) j x := by
  constructor
  · intro h
    induction h with
    | @root y h1 h2 _ => exact ⟨y.n, ⟨h0, mem_targets_iff.2 ⟨y, h1, h2, rfl⟩⟩, .here _⟩
    | @step i y hi h1 h2 _ ih =>
      obtain ⟨j, h3, h4⟩ := ih
      have hr := rch_rng (fromG_good hG r) hi
      exact ⟨j, h3, h4.trans (.one ⟨hr.1, mem_targets_iff.2 ⟨y, h1, h2, rfl⟩⟩)⟩
  · rintro ⟨j, ⟨_, h1⟩, h2⟩
    have h3 : Rch (fromG g r) j := by
      obtain ⟨y, hy, hr, rfl⟩ := mem_targets_iff.1 h1
      exact .root hy hr (fun h => h)
    clear h1
    induction h2 with
    | here => exact h3
    | @step a b c e _ ih =>
      refine ih ?_
      obtain ⟨y, hy, hr, rfl⟩ := mem_targets_iff.1 e.2
      exact Av.step h3 hy hr (fun h => h)
theorem held_of {g : G} (hG : Good g) {ls H : List Int} (h1 : ∀ x, x ∈ ls ↔ Rch g x)
    (hH : ∀ x, x ∈ H ↔ x ∈ ls ∨ x ∈ rndL g g.objs.length ∨ ∃ r ∈ rndL g g.objs.length, ∃ j, EG' g r j ∧ Lead (EG' g) j x) (x : Int) : x ∈ H ↔ Held g x := by
  have hr : ∀ r, r ∈ rndL g g.objs.length ↔ Rnd (EG' g) r := fun r => by
    rw [mem_rndL]
    constructor
    · exact fun h => h.2
    · intro h
      have h' := h
      obtain ⟨j, h2, _⟩ := h'
      exact ⟨(edge_in hG h2).1, h⟩
  rw [hH]
  constructor
  · rintro (h | h | ⟨r, h, h2⟩)
    · exact .inl ((h1 x).1 h)
    · exact .inr ⟨x, (hr x).1 h, .inl rfl⟩
    · exact .inr ⟨r, (hr r).1 h, .inr h2⟩
  · rintro (h | ⟨r, h, rfl | h2⟩)
    · exact .inl ((h1 x).2 h)
    · exact .inr (.inl ((hr x).2 h))
    · exact .inr (.inr ⟨r, (hr r).2 h, h2⟩)

set_option maxRecDepth 100000 in
set_option maxHeartbeats 4000000 in
theorem dualTraces_good (g : G) (hG : Good g) (v : Value) (w : World) (hg : IsGraph w v g) :
    Calls Try.prog 9 #[v] w fun e w' => e = .returned (.bool true) ∧ Below w.heap.size w w' := by
  have hg0 := hg
  obtain ⟨vo, vr, rfl, ho, hr⟩ := hg
  obtain ⟨ao, co, rfl, hlo⟩ := ho.slice
  obtain ⟨ar, cr, rfl, hlr⟩ := hr.slice
  have Hg := Lib.hid hg0
  have HG := Lib.hid hG
  have hn := hG.objs
  clear ho hr hg0 hG
  have hM0 := (Mem.start w).alloc #[.slice ao g.objs.length co, .slice ar g.roots.length cr] 25
  go_enter Try.func9, Try.ntmps9
  go_wp2_with fail
  refine (good_yes _ g _ (Hg.out.later hM0.below) HG.out).mono ?_
  rintro e w0 ⟨rfl, hb0⟩
  have hM1 := hM0.call hb0
  have o0 : w0.cell? ⟨w.heap.size, 0, none⟩ = some (.slice ao g.objs.length co) := by have := hM1.cell 0 rfl 0; simpa using this
  have o1 : w0.cell? ⟨w.heap.size, 1, none⟩ = some (.slice ar g.roots.length cr) := by have := hM1.cell 0 rfl 1; simpa using this
  go_wp2_with fail
  refine (least_any g HG.out _ w0 (Hg.out.later hM1.below)).mono ?_
  rintro e w1 ⟨vl, l, rfl, hL, hSl, hMl⟩
  have hM2 := hM1.callMem hMl
  have o0 : w1.cell? ⟨w.heap.size, 0, none⟩ = some (.slice ao g.objs.length co) := by have := hM2.cell 1 rfl 0; simpa using this
  have o1 : w1.cell? ⟨w.heap.size, 1, none⟩ = some (.slice ar g.roots.length cr) := by have := hM2.cell 1 rfl 1; simpa using this
  obtain ⟨al, cl, rfl⟩ := hM2.intsSlice 0 rfl
  rw [hL.1] at hM2 ⊢
  have HL := Lib.hid hL
  have HSl := Lib.hid hSl
  clear hL hSl hMl hM1 hM0 hb0
  go_wp2_with fail
  refine (greatest_any g HG.out _ w1 (Hg.out.later hM2.below)).mono ?_
  rintro e w2 ⟨vm, m, rfl, hGm, hSm, hMm⟩
  have hM3 := hM2.callMem hMm
  have o0 : w2.cell? ⟨w.heap.size, 0, none⟩ = some (.slice ao g.objs.length co) := by have := hM3.cell 2 rfl 0; simpa using this
  have o1 : w2.cell? ⟨w.heap.size, 1, none⟩ = some (.slice ar g.roots.length cr) := by have := hM3.cell 2 rfl 1; simpa using this
  obtain ⟨am, cm, rfl⟩ := hM3.intsSlice 0 rfl
  rw [hGm.1] at hM3 ⊢
  have HGm := Lib.hid hGm
  have HSm := Lib.hid hSm
  clear hGm hSm hMm hM2
  go_wp2_with fail
  refine (reach_any g HG.out _ w2 (Hg.out.later hM3.below)).mono ?_
  rintro e w3 ⟨ve, le, dist, rfl, hF, hMe⟩
  have hM4 := hM3.callMem hMe
  have o0 : w3.cell? ⟨w.heap.size, 0, none⟩ = some (.slice ao g.objs.length co) := by have := hM4.cell 3 rfl 0; simpa using this
  have o1 : w3.cell? ⟨w.heap.size, 1, none⟩ = some (.slice ar g.roots.length cr) := by have := hM4.cell 3 rfl 1; simpa using this
  obtain ⟨ae, ce, rfl⟩ := hM4.intsSlice 0 rfl
  have Hfar := Lib.hid (hF.far HG.out)
  obtain ⟨ls, hls⟩ : ∃ ls, sorted le = ls := ⟨_, rfl⟩
  rw [hls] at hM4 ⊢
  have Hls := Lib.hid hls
  clear hF hMe hM3 hls
  go_wp2_with fail
  refine (round_yes g HG.out _ w3 (Hg.out.later hM4.below)).mono ?_
  rintro e w4 ⟨vr, rfl, hRes, hMr⟩
  have hM5 := hM4.callMem hMr
  have o0 : w4.cell? ⟨w.heap.size, 0, none⟩ = some (.slice ao g.objs.length co) := by have := hM5.cell 4 rfl 0; simpa using this
  have o1 : w4.cell? ⟨w.heap.size, 1, none⟩ = some (.slice ar g.roots.length cr) := by have := hM5.cell 4 rfl 1; simpa using this
  obtain ⟨ar2, cr2, rfl⟩ := hM5.intsSlice 0 rfl
  obtain ⟨rs, hrs⟩ : ∃ rs, rndL g g.objs.length = rs := ⟨_, rfl⟩
  have hrsl : rs.length ≤ 24 := by rw [← hrs]; have := rndL_len g g.objs.length; omega
  have hlsl : ls.length ≤ 24 := by rw [← Hls.out, length_sorted]; have h9 : le.length ≤ g.objs.length := Hfar.out.inv.length_le; omega
  have hrsi : ∀ x ∈ rs, 0 ≤ x ∧ x < g.objs.length := fun x hx => by rw [← hrs] at hx; exact (mem_rndL.1 hx).1
  have hlsi : ∀ x ∈ ls, 0 ≤ x ∧ x < g.objs.length := fun x hx => by rw [← Hls.out] at hx; exact Hfar.out.inv.rng x (mem_sorted.1 hx)
  have hlsr : ∀ x, x ∈ ls ↔ Rch g x := fun x => by rw [← Hls.out, mem_sorted]; exact Hfar.out.iff x
  rw [hrs] at hM5 ⊢
  have iR := isInts_of_own (hM5.ownI 0 rfl) (by omega) (fun x hx => by have := hrsi x hx; exact ⟨by omega, by omega⟩)
  have iE := isInts_of_own (hM5.ownI 1 rfl) (by omega) (fun x hx => by have := hlsi x hx; exact ⟨by omega, by omega⟩)
  have hM6 := hM5.fresh0 3
  have Hrs := Lib.hid hrs
  have Hrsl := Lib.hid hrsl
  have Hlsl := Lib.hid hlsl
  have Hrsi := Lib.hid hrsi
  have Hlsi := Lib.hid hlsi
  have Hlsr := Lib.hid hlsr
  have HRes := Lib.hid hRes
  have HiR := Lib.hid iR
  have HiE := Lib.hid iE
  have HM6 := Lib.hid hM6
  clear hM4 hMr hrs hrsl hlsl hrsi hlsi hlsr hRes iR iE hM5 hM6
  go_wp2_with (first
    | (at_builtin
       refine Mem.wp_appIs elemInts rfl (.tmp 73) (.tmp 74) rfl HM6.out 0 rfl rfl rfl (HiE.out.later ((Below.refl _ _).alloc (Nat.le_refl _) _)) (by have := Hlsl.out; simp; omega) ?_
       intro v7 w7 hM7 hs7 hk7
       obtain ⟨a7, n7, c7, rfl⟩ := own_slice (hM7.ownI 0 rfl)
       have iR7 := isInts_of_own (hM7.ownI 1 rfl) (by have := Hrsl.out; omega) (fun x hx => by have := Hrsi.out x hx; exact ⟨by omega, by omega⟩)
       clear hs7 hk7)
    | (at_builtin
       refine Mem.wp_appIs elemInts rfl (.tmp 75) (.tmp 76) rfl hM7 0 rfl rfl rfl iR7 (by have := Hlsl.out; have := Hrsl.out; simp; omega) ?_
       intro v8 w8 hM8 hs8 hk8
       obtain ⟨a8, n8, c8, rfl⟩ := own_slice (hM8.ownI 0 rfl)
       clear hs8 hk8))
  have HM9 : Hid (Mem w.heap.size w w8 [rowI 3 (.slice a8 n8 c8) (ls ++ rs), rowI 3 (.slice ar2 rs.length cr2) rs, rowI 3 (.slice ae ls.length ce) ls, rowI 3 (.slice am g.objs.length cm) m, rowI 3 (.slice al g.objs.length cl) l, ebox w.heap.size #[.slice ao g.objs.length co, .slice ar g.roots.length cr] 25]) := Lib.hid (hM8.cast (by simp))
  clear hM7 hM8 iR7 HM6
  go_loopw [11, 13, 14, 15, 17, 80] (fun s11 s13 s14 s15 s17 s80 wr => ∃ (k : Nat) (H : List Int), k ≤ rs.length ∧ s80 = .int .i64 (k : Int) ∧ Hid (∀ x, x ∈ H ↔ x ∈ ls ∨ x ∈ rs ∨ ∃ r ∈ rs.take k, ∃ j, EG' g r j ∧ Lead (EG' g) j x) ∧ Hid (∀ x ∈ H, 0 ≤ x ∧ x < g.objs.length) ∧ H.length ≤ 48 + 24 * k ∧ Mem w.heap.size w wr [rowI 3 s11 H, rowI 3 (.slice ar2 rs.length cr2) rs, rowI 3 (.slice ae ls.length ce) ls, rowI 3 (.slice am g.objs.length cm) m, rowI 3 (.slice al g.objs.length cl) l, ebox w.heap.size #[.slice ao g.objs.length co, .slice ar g.roots.length cr] 25]) (fun _ _ _ _ _ i _ => rs.length - (intOf i).toNat)
  case atStart =>
    refine ⟨0, _, Nat.zero_le _, rfl, Lib.hid (fun x => by simp), Lib.hid (fun x hx => ?_), ?_, HM9.out⟩
    · rcases List.mem_append.1 hx with h | h
      · exact Hlsi.out x h
      · exact Hrsi.out x h
    · have := Hlsl.out; have := Hrsl.out; simp; omega
  case round =>
    clear HM9
    obtain ⟨k, H, hk, rfl, hH, hHi, hHl, hM⟩ := hrel
    by_cases hlt : k < rs.length
    · obtain ⟨r, hr⟩ := get_some _ _ hlt
      have hri := Hrsi.out r (List.mem_of_getElem? hr)
      obtain ⟨r, rfl⟩ : ∃ r2 : Nat, r = (r2 : Int) := ⟨r.toNat, by omega⟩
      obtain ⟨b9, off, cap2, hv, hb9, hn9, c9, _⟩ := HiR.out.at (Below.refl _ _) hr
      cases hv
      have iR9 := isInts_of_own (hM.ownI 1 rfl) (by have := Hrsl.out; omega) (fun x hx => by have := Hrsi.out x hx; exact ⟨by omega, by omega⟩)
      obtain ⟨b0, off0, cap0, hv, hb0, hn0, c0, _⟩ := iR9.at (Below.refl _ _) hr
      cases hv
      have HS := Lib.hid (take_succ_some _ _ _ hr)
      have hr64 : i64ok (r : Int) := ⟨by omega, by omega⟩
      have iO := isInts_one wr (r : Int) 3 hr64
      have hMa := hM.alloc_ (.cells #[.int .i64 (r : Int)] 3)
      obtain ⟨W, hW⟩ : ∃ W, wr.alloc (.cells #[.int .i64 (r : Int)] 3) = W := ⟨_, rfl⟩
      rw [hW] at iO hMa
      have Hwi := Lib.hid (within_yes g.objs.length _ [(r : Int)] W iO (by intro x hx; rw [List.mem_singleton.1 hx]; exact hri))
      have Hle := Lib.hid (leads_own g HG.out _ r W (Hg.out.later hMa.below) (by omega))
      have q0 : W.cell? ⟨w.heap.size, 0, none⟩ = some (.slice ao g.objs.length co) := by have := hMa.cell 5 rfl 0; simpa using this
      have q1 : W.cell? ⟨w.heap.size, 1, none⟩ = some (.slice ar g.roots.length cr) := by have := hMa.cell 5 rfl 1; simpa using this
      have HW := Lib.hid hW
      have HMa := Lib.hid hMa
      have hHrl := Hrsl.out
      clear hr iR9 hM hMa iO hW
      go_wp2_with fail
      rw [HW.out]
      refine Hwi.out.mono ?_
      rintro e w1 ⟨rfl, rfl⟩
      go_wp2_with fail
      refine Hle.out.mono ?_
      rintro e w5 ⟨vt, lt, dt, rfl, hFt0, hMt⟩
      have hFt := hFt0.far (fromG_good HG.out (r : Int))
      have hM2 := (HMa.out.callMem hMt).perm List.perm_append_comm
      obtain ⟨ts, hts⟩ : ∃ ts, sorted lt = ts := ⟨_, rfl⟩
      have hts24 : ts.length ≤ 24 := by rw [← hts, length_sorted]; have h9 : lt.length ≤ g.objs.length := hFt.inv.length_le; omega
      have htm : ∀ x, x ∈ ts ↔ ∃ j, EG' g (r : Int) j ∧ Lead (EG' g) j x := fun x => by rw [← hts, mem_sorted, hFt.iff, from_lead HG.out (by omega)]
      have hti : ∀ x ∈ ts, 0 ≤ x ∧ x < g.objs.length := fun x hx => by rw [← hts] at hx; exact hFt.inv.rng x (mem_sorted.1 hx)
      rw [hts] at hM2
      obtain ⟨at2, ct2, rfl⟩ := hM2.intsSlice 6 rfl
      have Hts := Lib.hid hts24
      have Htm := Lib.hid htm
      have Hti := Lib.hid hti
      have HM2 := Lib.hid hM2
      clear hFt hFt0 hMt hM2 hts hts24 htm hti HMa Hle Hwi q0 q1 HW
      go_wp2_with fail
      go_loopw [11, 17, 100] (fun s11 s17 s100 wi => ∃ q : Nat, q ≤ ts.length ∧ s100 = .int .i64 (q : Int) ∧ Mem w.heap.size w wi [rowI 3 s11 (H ++ ts.take q), rowI 3 (.slice (some ⟨b9, off, none⟩) rs.length cr2) rs, rowI 3 (.slice ae ls.length ce) ls, rowI 3 (.slice am g.objs.length cm) m, rowI 3 (.slice al g.objs.length cl) l, ebox w.heap.size #[.slice ao g.objs.length co, .slice ar g.roots.length cr] 25, rowI 3 (.slice at2 ts.length ct2) ts]) (fun _ _ i _ => ts.length - (intOf i).toNat)
      case atStart => exact ⟨0, Nat.zero_le _, rfl, HM2.out.cast (by simp)⟩
      case round =>
        obtain ⟨q, hq, rfl, hMi⟩ := hrel
        have hts24' := Hts.out
        by_cases hlt2 : q < ts.length
        · obtain ⟨y, hy⟩ := get_some _ _ hlt2
          obtain ⟨b8, off8, cap8, hv, hb8, hn8, c8, _⟩ := (isInts_of_own (hMi.ownI 6 rfl) (by have := Hts.out; omega) (fun x hx => by have := Hti.out x hx; exact ⟨by omega, by omega⟩)).at (Below.refl _ _) hy
          cases hv
          have HS2 := Lib.hid (take_succ_some _ _ _ hy)
          have hHt : (H ++ ts.take q).length ≤ 1000000 := by rw [List.length_append, List.length_take]; have := Hts.out; omega
          have HHt := Lib.hid hHt
          have HMi := Lib.hid hMi
          clear hy hMi hHt HM2
          go_wp2_with (at_builtin; refine Mem.wp_appI elemInts rfl (.tmp 104) (.tmp 106) rfl HMi.out 0 rfl rfl _ y _ _ rfl (by simp) HHt.out ?_; intro ad n1 cp w6 hn1 hM7 hs7 hk7 ha7)
          go_roundw
          case rel =>
            exact ⟨q + 1, by omega, by go_num, hM7.cast (by rw [HS2.out]; simp)⟩
          case measure => simp [intOf]; omega
        · obtain rfl : q = ts.length := by omega
          rw [List.take_length] at hMi
          have hHn : Hid (∀ x, x ∈ H ++ ts ↔ x ∈ ls ∨ x ∈ rs ∨ ∃ r2 ∈ rs.take (k + 1), ∃ j, EG' g r2 j ∧ Lead (EG' g) j x) := Lib.hid (fun x => by
            rw [List.mem_append, hH.out x, HS.out, Htm.out x]
            constructor
            · rintro ((h | h | ⟨r2, h1, h2⟩) | h)
              · exact .inl h
              · exact .inr (.inl h)
              · exact .inr (.inr ⟨r2, List.mem_append_left _ h1, h2⟩)
              · exact .inr (.inr ⟨(r : Int), List.mem_append_right _ (List.mem_singleton.2 rfl), h⟩)
            · rintro (h | h | ⟨r2, h1, h2⟩)
              · exact .inl (.inl h)
              · exact .inl (.inr (.inl h))
              · rcases List.mem_append.1 h1 with h1 | h1
                · exact .inl (.inr (.inr ⟨r2, h1, h2⟩))
                · rw [List.mem_singleton.1 h1] at h2; exact .inr h2)
          have hHin : Hid (∀ x ∈ H ++ ts, 0 ≤ x ∧ x < g.objs.length) := Lib.hid (fun x hx => by
            rcases List.mem_append.1 hx with h | h
            · exact hHi.out x h
            · exact Hti.out x h)
          have hln : (H ++ ts).length ≤ 48 + 24 * (k + 1) := by rw [List.length_append]; have := Hts.out; omega
          have HMi := Lib.hid (hMi.drop (by exact List.sublist_append_left [_, _, _, _, _, _] [_]))
          have Hln := Lib.hid hln
          clear hMi HM2 hln
          go_wp2
          go_roundw
          case rel => exact ⟨k + 1, H ++ ts, by omega, by go_num, hHn, hHin, Hln.out, HMi.out⟩
          case measure => simp [intOf]; omega
    · obtain rfl : k = rs.length := by omega
      obtain ⟨Wf, hWf⟩ : ∃ Wf, Wf = wr := ⟨_, rfl⟩
      subst hWf
      have hheld : ∀ x, x ∈ H ↔ Held g x := held_of HG.out Hlsr.out (fun x => by
        rw [hH.out x, List.take_length, Hrs.out])
      obtain ⟨aH, nH, cH, rfl⟩ := own_slice (hM.ownI 0 rfl)
      have hHl2 : H.length ≤ 1000000 := by have := Hrsl.out; omega
      have iH := isInts_of_own (hM.ownI 0 rfl) hHl2 (fun x hx => by have := hHi.out x hx; exact ⟨by omega, by omega⟩)
      have iE9 := isInts_of_own (hM.ownI 2 rfl) (by have := Hlsl.out; omega) (fun x hx => by have := Hlsi.out x hx; exact ⟨by omega, by omega⟩)
      have Hheld := Lib.hid hheld
      have HiH := Lib.hid iH
      have HiE9 := Lib.hid iE9
      have HM9 := Lib.hid hM
      clear hheld iH iE9 hM hH hHi hHl
      have hll := HL.out.1
      have hmm := HGm.out.1
      go_wp2
      clear hll hmm
      go_loopw [18] (fun s18 wi => ∃ i q : Nat, i ≤ g.objs.length ∧ s18 = .int .i64 (i : Int) ∧ wi = Wf.drewN q) (fun i _ => g.objs.length - (intOf i).toNat)
      case atStart => exact ⟨0, 0, Nat.zero_le _, rfl, rfl⟩
      case round =>
        obtain ⟨i, q, hi, rfl, hq⟩ := hrel
        by_cases hlt3 : i < g.objs.length
        · obtain ⟨li, hli⟩ := get_some l i (by rw [HL.out.1]; exact hlt3)
          obtain ⟨mi, hmi⟩ := get_some m i (by rw [HGm.out.1]; exact hlt3)
          have hl1 := least_rch HG.out HSl.out HL.out.2.2.2 i
          obtain ⟨comp, all, hR⟩ := HRes.out
          have hm1 := greatest_held HG.out HSm.out HGm.out.2.2.2 hR i
          rw [List.getD_eq_getElem?_getD, hli] at hl1
          rw [List.getD_eq_getElem?_getD, hmi] at hm1
          simp only [Option.getD_some] at hl1 hm1
          have e1 : hasB ls (i : Int) = decide ((0 : Int) < li) := by rw [Bool.eq_iff_iff, hasB_iff, decide_eq_true_eq, Hlsr.out, hl1]
          have e2 : hasB H (i : Int) = decide ((0 : Int) < mi) := by rw [Bool.eq_iff_iff, hasB_iff, decide_eq_true_eq, Hheld.out, hm1]
          have hMq := HM9.out.drewN q
          rw [← hq] at hMq
          have iL := isInts_of_own (hMq.ownI 4 rfl) (by rw [HL.out.1]; omega) (fun x hx => by
            obtain ⟨j, hj⟩ := List.getElem?_of_mem hx
            have := HL.out.2.1 j
            rw [List.getD_eq_getElem?_getD, hj] at this
            simp only [Option.getD_some] at this
            exact ⟨by omega, by omega⟩)
          have iM := isInts_of_own (hMq.ownI 3 rfl) (by rw [HGm.out.1]; omega) (fun x hx => by
            obtain ⟨j, hj⟩ := List.getElem?_of_mem hx
            have := HGm.out.2.1 j
            rw [List.getD_eq_getElem?_getD, hj] at this
            simp only [Option.getD_some] at this
            exact ⟨by omega, by omega⟩)
          obtain ⟨b1, of1, cp1, hv, hx1, _, d1, _⟩ := iL.at (Below.refl _ _) hli
          rw [HL.out.1] at hv
          cases hv
          obtain ⟨b2, of2, cp2, hv, hx2, _, d2, _⟩ := iM.at (Below.refl _ _) hmi
          rw [HGm.out.1] at hv
          cases hv
          have Q1 : Hid (∀ X, Below Wf.heap.size Wf X → Calls Try.prog 15 #[.slice ae ls.length ce, .int .i64 (i : Int)] X fun e w' => e = .returned (.bool (decide ((0 : Int) < li))) ∧ w' = X) := Lib.hid (fun X hX => by
            have h := has_any _ ls (i : Int) X (HiE9.out.later hX)
            rw [e1] at h
            exact h.mono (by rintro e w' ⟨rfl, rfl⟩; exact ⟨rfl, rfl⟩))
          have Q2 : Hid (∀ X, Below Wf.heap.size Wf X → Calls Try.prog 15 #[.slice aH nH cH, .int .i64 (i : Int)] X fun e w' => e = .returned (.bool (decide ((0 : Int) < mi))) ∧ w' = X) := Lib.hid (fun X hX => by
            have h := has_any _ H (i : Int) X (HiH.out.later hX)
            rw [e2] at h
            exact h.mono (by rintro e w' ⟨rfl, rfl⟩; exact ⟨rfl, rfl⟩))
          have hBw : Below Wf.heap.size Wf wr := by rw [hq]; exact below_drewN (Below.refl _ _) q
          have HBw := Lib.hid hBw
          have Hq := Lib.hid hq
          have hi1 : (0 : Int) ≤ (i : Int) := by omega
          have hi2 : (i : Int) < (g.objs.length : Int) := by omega
          have x1 : ∀ b : Bool, (b != b) = false := by intro b; simp
          clear hli hmi hl1 hm1 e1 e2 hMq iL iM hq hBw hR
          go_wp2
          go_quiet (first | (go_at_call 15; with_reducible exact Calls.quiet_of_same (Q1.out _ (below_drewN HBw.out _))) | (go_at_call 15; with_reducible exact Calls.quiet_of_same (Q2.out _ (below_drewN HBw.out _))) | fail)
          go_wp2
          go_roundw
          case rel => exact ⟨i + 1, _, by omega, by go_num, by rw [Hq.out, World.drewN_drewN]⟩
          case measure => simp [intOf]; omega
        · obtain rfl : i = g.objs.length := by omega
          have HBw := Lib.hid (show Below w.heap.size w wr by rw [hq]; exact (HM9.out.drewN q).below)
          clear hq
          go_wp2
          go_ret
          exact ⟨rfl, HBw.out⟩
end Go.Proofs.Ytnpbdabboecpaaa
