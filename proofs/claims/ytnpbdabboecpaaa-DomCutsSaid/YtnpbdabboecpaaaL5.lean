/- DomCuts at an object of a good graph. -/
import Derived.Test.YtnpbdabboecpaaaL2
import Derived.Test.YtnpbdabboecpaaaL4
import Derived.Test.YtnpbdabboecpaaaE5
import Derived.Test.YtnpbdabboecpaaaSo
import Derived.Test.YtnpbdabboecpaaaOn
import Derived.Test.YtnpbdabboecpaaaOpen
namespace Go.Proofs.Ytnpbdabboecpaaa
open Go.RowKit Go.Shelf

theorem Far.rch {g : G} {l dist : List Int} (h : Far g l dist) : ∀ (m : Nat) (y : Int), y ∈ l → (D (l, dist) y).toNat = m → Rch g y := by
  intro m
  induction m with
  | zero =>
    intro y hy hm
    have hlow : ∀ p ∈ l, 0 ≤ D (l, dist) p := fun p hp => by
      have h1 := h.inv.rng p hp
      have h2 := (h.inv.iff p.toNat (by omega)).2 (by rw [show ((p.toNat : Nat) : Int) = p by omega]; exact hp)
      exact h2
    rcases h.par y hy with ⟨h1, _⟩ | ⟨p, hp, _, h3⟩
    · obtain ⟨x, hx, hr, rfl⟩ := mem_targets_iff.1 h1
      exact .root hx hr (fun h => h)
    · have := hlow p hp; omega
  | succ m ih =>
    intro y hy hm
    have hlow : ∀ p ∈ l, 0 ≤ D (l, dist) p := fun p hp => by
      have h1 := h.inv.rng p hp
      have h2 := (h.inv.iff p.toNat (by omega)).2 (by rw [show ((p.toNat : Nat) : Int) = p by omega]; exact hp)
      exact h2
    rcases h.par y hy with ⟨h1, h4⟩ | ⟨p, hp, h2, h3⟩
    · omega
    · have := hlow p hp
      have h5 := ih p hp (by omega)
      obtain ⟨x, hx, hr, rfl⟩ := mem_targets_iff.1 h2
      exact .step h5 hx hr (fun h => h)
theorem Far.iff {g : G} {l dist : List Int} (h : Far g l dist) (y : Int) : y ∈ l ↔ Rch g y := ⟨fun hy => h.rch _ y hy rfl, far_rch h y⟩

set_option maxRecDepth 100000 in
set_option maxHeartbeats 4000000 in
theorem domCuts_in (g : G) (hG : Good g) (v : Value) (x : Nat) (hx : x < g.objs.length) (w : World) (hg : IsGraph w v g) :
    Calls Try.prog 4 #[v, .int .i64 (x : Int)] w fun e w' => e = .returned (.bool true) ∧ Below w.heap.size w w' := by
  have hg0 := hg
  obtain ⟨vo, vr, rfl, ho, hr⟩ := hg
  obtain ⟨ao, co, rfl, hlo⟩ := ho.slice
  obtain ⟨ar, cr, rfl, hlr⟩ := hr.slice
  have Hg := Lib.hid hg0
  have HG := Lib.hid hG
  have hn := hG.objs
  clear ho hr hg0 hG
  have hM0 := (Mem.start w).alloc #[.slice ao g.objs.length co, .slice ar g.roots.length cr] 25
  have hx0 : (0 : Int) ≤ (x : Int) := by omega
  have hx1 : (x : Int) < (g.objs.length : Int) := by omega
  go_enter Try.func4, Try.ntmps4
  go_wp2_with fail
  refine (good_yes _ g _ (Hg.out.later hM0.below) HG.out).mono ?_
  rintro e w0 ⟨rfl, hb0⟩
  have hM1 := hM0.call hb0
  have o0 : w0.cell? ⟨w.heap.size, 0, none⟩ = some (.slice ao g.objs.length co) := by have := hM1.cell 0 rfl 0; simpa using this
  have o1 : w0.cell? ⟨w.heap.size, 1, none⟩ = some (.slice ar g.roots.length cr) := by have := hM1.cell 0 rfl 1; simpa using this
  go_wp2_with fail
  refine (retained_yes g HG.out _ x hx _ (Hg.out.later hM1.below)).mono ?_
  rintro e w1 ⟨va, up, rfl, hS, hMa⟩
  have hM2 := hM1.callMem hMa
  have p0 : w1.cell? ⟨w.heap.size, 0, none⟩ = some (.slice ao g.objs.length co) := by have := hM2.cell 1 rfl 0; simpa using this
  have p1 : w1.cell? ⟨w.heap.size, 1, none⟩ = some (.slice ar g.roots.length cr) := by have := hM2.cell 1 rfl 1; simpa using this
  obtain ⟨aa, ca, rfl⟩ := hM2.intsSlice 0 rfl
  obtain ⟨a, ha⟩ : ∃ a, Dom.ret up (x : Int) g.objs.length = a := ⟨_, rfl⟩
  rw [ha] at hM2 ⊢
  have HS := Lib.hid hS
  have Ha := Lib.hid ha
  clear hS ha hMa hM1 hM0 hb0
  go_wp2_with fail
  refine (reach_any g HG.out _ w1 (Hg.out.later hM2.below)).mono ?_
  rintro e w2 ⟨vl, l, dist, rfl, hF, hMb⟩
  have hM3 := hM2.callMem hMb
  have q0 : w2.cell? ⟨w.heap.size, 0, none⟩ = some (.slice ao g.objs.length co) := by have := hM3.cell 2 rfl 0; simpa using this
  have q1 : w2.cell? ⟨w.heap.size, 1, none⟩ = some (.slice ar g.roots.length cr) := by have := hM3.cell 2 rfl 1; simpa using this
  obtain ⟨al, cl, rfl⟩ := hM3.intsSlice 0 rfl
  have Hfar := Lib.hid (hF.far HG.out)
  obtain ⟨ls, hls⟩ : ∃ ls, sorted l = ls := ⟨_, rfl⟩
  rw [hls] at hM3 ⊢
  have Hls := Lib.hid hls
  clear hF hMb hM2 hls
  go_wp2_with fail
  refine (cut_any g HG.out _ (x : Int) w2 (Hg.out.later hM3.below)).mono ?_
  rintro e w3 ⟨vc, rfl, hgr, hb3⟩
  have hM4 := hM3.call hb3
  have hGc := cut_good HG.out (x : Int)
  have hgc := hgr.here
  obtain ⟨vo2, vr2, rfl, ho2, hr2⟩ := id hgc
  obtain ⟨ao2, co2, rfl, _⟩ := ho2.slice
  obtain ⟨ar2, cr2, rfl, _⟩ := hr2.slice
  have Hgc := Lib.hid hgc
  have HGc := Lib.hid hGc
  clear hgr hgc hb3 hM3 ho2 hr2 hGc
  go_wp2_with fail
  refine (reach_any (cutG g (x : Int)) HGc.out _ w3 Hgc.out).mono ?_
  rintro e w4 ⟨vd, l2, dist2, rfl, hF2, hMc⟩
  have hM5 := hM4.callMem hMc
  obtain ⟨ad, cd, rfl⟩ := hM5.intsSlice 0 rfl
  have Hfar2 := Lib.hid (hF2.far HGc.out)
  obtain ⟨ls2, hls2⟩ : ∃ ls2, sorted l2 = ls2 := ⟨_, rfl⟩
  rw [hls2] at hM5 ⊢
  have Hls2 := Lib.hid hls2
  clear hF2 hMc hls2
  have hm1 : ∀ y, y ∈ ls ↔ Rch g y := fun y => by rw [← Hls.out, mem_sorted]; exact Hfar.out.iff y
  have hm2 : ∀ y, y ∈ ls2 ↔ Rch (cutG g (x : Int)) y := fun y => by rw [← Hls2.out, mem_sorted]; exact Hfar2.out.iff y
  have hm3 : ∀ y, y ∈ a ↔ y ∈ ls ∧ y ∉ ls2 := fun y => by rw [← Ha.out, hm1, hm2]; exact ret_cut HG.out HS.out hx0
  have hsub : ∀ y ∈ ls2, y ∈ ls := fun y hy => by
    rw [hm1]; have := (hm2 y).1 hy
    exact ((cut_rch g (x : Int) y).1 this).mono (fun z hz => hz.elim)
  have hnl : ls.Nodup := by rw [← Hls.out]; exact (List.mergeSort_perm l _).nodup_iff.2 Hfar.out.inv.nodup
  have hnl2 : ls2.Nodup := by rw [← Hls2.out]; exact (List.mergeSort_perm l2 _).nodup_iff.2 Hfar2.out.inv.nodup
  have hna : a.Nodup := by rw [← Ha.out]; exact Dom.ret_nodup _ _ _
  have hcnt := parted_len hna hnl2 hnl hm3 hsub
  have hris : a.Pairwise (· < ·) := by rw [← Ha.out]; exact Dom.ret_rising _ _ _
  have hlr : ls.length ≤ 24 := by rw [← Hls.out, length_sorted]; have h9 : l.length ≤ g.objs.length := Hfar.out.inv.length_le; omega
  have hrl : ∀ y ∈ ls, 0 ≤ y ∧ y < g.objs.length := fun y hy => by rw [← Hls.out] at hy; exact Hfar.out.inv.rng y (mem_sorted.1 hy)
  have iL2 := isInts_of_own (hM5.ownI 0 rfl) (by omega) (fun z hz => by have := hrl z (hsub z hz); exact ⟨by omega, by omega⟩)
  have iL := isInts_of_own (hM5.ownI 1 rfl) (by omega) (fun z hz => by have := hrl z hz; exact ⟨by omega, by omega⟩)
  have iA := isInts_of_own (hM5.ownI 2 rfl) (by omega) (fun z hz => by have := hrl z ((hm3 z).1 hz).1; exact ⟨by omega, by omega⟩)
  have hxx : hasB ls (x : Int) = hasB a (x : Int) := by
    rw [Bool.eq_iff_iff, hasB_iff, hasB_iff, hm1, ← Ha.out, Dom.ret_self HS.out hx0 hx1]
  obtain ⟨bb, hbb⟩ : ∃ bb, hasB a (x : Int) = bb := ⟨_, rfl⟩
  have Hxx := Lib.hid hxx
  have Hbb := Lib.hid hbb
  have HR := Lib.hid (rising_yes _ a w4 iA (fun k y z hy hz => by
    have h1 := List.getElem?_eq_some_iff.1 hy
    have h2 := List.getElem?_eq_some_iff.1 hz
    obtain ⟨h1a, rfl⟩ := h1
    obtain ⟨h2a, rfl⟩ := h2
    exact List.pairwise_iff_getElem.1 hris k (k + 1) h1a h2a (by omega)))
  have HiL := Lib.hid iL
  have HiL2 := Lib.hid iL2
  have Hm3 := Lib.hid hm3
  have HM5 := Lib.hid hM5
  have HiA := Lib.hid iA
  clear hM5 hM4 hm1 hm2 hm3 hsub hnl hnl2 hna hris hrl iL2 iL iA hxx hbb
  have hcnt2 : (a.length : Int) + (ls2.length : Int) = (ls.length : Int) := by omega
  have hw : IntKind.i64.wrap ((a.length : Int) + (ls2.length : Int)) = (ls.length : Int) := by rw [hcnt2]; rw [IntKind.wrap_i64]; omega
  go_wp2_with fail
  refine HR.out.mono ?_
  rintro e w5 ⟨rfl, hb5⟩
  have hH1 := fun z => has_any _ ls2 z w5 (HiL2.out.later hb5)
  have hH2 := fun z => has_any _ ls z w5 (HiL.out.later hb5)
  have hH3 := has_any _ a (x : Int) w5 (HiA.out.later hb5)
  have hH4 := hH2 (x : Int)
  rw [Hxx.out, Hbb.out] at hH4
  rw [Hbb.out] at hH3
  have HH1 := Lib.hid hH1
  have HH2 := Lib.hid hH2
  have HH3 := Lib.hid hH3
  have HH4 := Lib.hid hH4
  have HiA5 := Lib.hid (HiA.out.later hb5)
  have HM6 := Lib.hid (HM5.out.call hb5)
  clear hH1 hH2 hH3 hH4 hb5
  go_wp2
  go_loop [82] (fun i => ∃ k : Nat, k ≤ a.length ∧ i = .int .i64 k) (fun i => a.length - (intOf i).toNat)
  case atStart => exact ⟨0, Nat.zero_le _, rfl⟩
  case round =>
    obtain ⟨k, hk, rfl⟩ := hrel
    by_cases hlt : k < a.length
    · obtain ⟨z, hz⟩ := get_some _ _ hlt
      obtain ⟨b9, off, cap2, hv, hb9, hn9, c9, _⟩ := HiA5.out.at (Below.refl _ _) hz
      cases hv
      have hz2 := (Hm3.out z).1 (List.mem_of_getElem? hz)
      have h1 := HH1.out z
      have h2 := HH2.out z
      rw [show hasB ls2 z = false by cases hbz : hasB ls2 z with | false => rfl | true => exact absurd (hasB_iff.1 hbz) hz2.2] at h1
      rw [show hasB ls z = true from hasB_iff.2 hz2.1] at h2
      have H1 := Lib.hid h1
      have H2 := Lib.hid h2
      clear hz hz2 h1 h2
      go_wp2_with fail
      refine H1.out.mono ?_
      rintro e w6 ⟨rfl, rfl⟩
      go_wp2_with fail
      refine H2.out.mono ?_
      rintro e w6 ⟨rfl, rfl⟩
      go_wp2
      go_round
      case rel => exact ⟨k + 1, by omega, by go_num⟩
      case measure => simp [intOf]; omega
    · obtain rfl : k = a.length := by omega
      go_wp2_with fail
      refine HH4.out.mono ?_
      rintro e w6 ⟨rfl, rfl⟩
      go_wp2_with fail
      refine HH3.out.mono ?_
      rintro e w6 ⟨rfl, rfl⟩
      go_wp2
      go_ret
      exact ⟨by simp, HM6.out.below⟩

set_option maxRecDepth 100000 in
set_option maxHeartbeats 1000000 in
theorem domCuts_bad (g : G) (hG : ¬ Good g) (v : Value) (x : Int) (w : World) (hg : IsGraph w v g) :
    Calls Try.prog 4 #[v, .int .i64 x] w fun e w' => e = .returned (.bool true) ∧ Below w.heap.size w w' := by
  have hg0 := hg
  obtain ⟨vo, vr, rfl, ho, hr⟩ := hg
  obtain ⟨ao, co, rfl, hlo⟩ := ho.slice
  obtain ⟨ar, cr, rfl, hlr⟩ := hr.slice
  have Hg := Lib.hid hg0
  have HG := Lib.hid hG
  clear ho hr hg0 hG
  have hM0 := (Mem.start w).alloc #[.slice ao g.objs.length co, .slice ar g.roots.length cr] 25
  go_enter Try.func4, Try.ntmps4
  go_wp2_with fail
  refine (good_no _ g _ (Hg.out.later hM0.below) HG.out).mono ?_
  rintro e w1 ⟨rfl, hb1⟩
  have hM2 := hM0.call hb1
  have p0 : w1.cell? ⟨w.heap.size, 0, none⟩ = some (.slice ao g.objs.length co) := by have := hM2.cell 0 rfl 0; simpa using this
  have p1 : w1.cell? ⟨w.heap.size, 1, none⟩ = some (.slice ar g.roots.length cr) := by have := hM2.cell 0 rfl 1; simpa using this
  go_wp2_with fail
  refine (retained_bad g HG.out _ x _ (Hg.out.later hM2.below)).mono ?_
  rintro e w2 ⟨d, hd, rfl, hb2⟩
  have hM4 := hM2.call hb2
  have hd2 : (d != 0) = true := by simpa using hd
  go_wp2
  go_ret
  exact ⟨rfl, hM4.below⟩

set_option maxRecDepth 100000 in
set_option maxHeartbeats 1000000 in
theorem domCuts_out (g : G) (hG : Good g) (v : Value) (x : Int) (hx : x < 0 ∨ (g.objs.length : Int) ≤ x) (w : World) (hg : IsGraph w v g) :
    Calls Try.prog 4 #[v, .int .i64 x] w fun e w' => e = .returned (.bool true) ∧ Below w.heap.size w w' := by
  have hg0 := hg
  obtain ⟨vo, vr, rfl, ho, hr⟩ := hg
  obtain ⟨ao, co, rfl, hlo⟩ := ho.slice
  obtain ⟨ar, cr, rfl, hlr⟩ := hr.slice
  have Hg := Lib.hid hg0
  have HG := Lib.hid hG
  have Hx := Lib.hid hx
  clear ho hr hg0 hG
  have hM0 := (Mem.start w).alloc #[.slice ao g.objs.length co, .slice ar g.roots.length cr] 25
  have hsp : x < 0 ∨ (¬ x < 0 ∧ (g.objs.length : Int) ≤ x) := by omega
  clear hx
  rcases hsp with hs | ⟨hs, hs2⟩
  all_goals
    go_enter Try.func4, Try.ntmps4
    go_wp2_with fail
    refine (good_yes _ g _ (Hg.out.later hM0.below) HG.out).mono ?_
    rintro e w1 ⟨rfl, hb1⟩
    have hM2 := hM0.call hb1
    have p0 : w1.cell? ⟨w.heap.size, 0, none⟩ = some (.slice ao g.objs.length co) := by have := hM2.cell 0 rfl 0; simpa using this
    have p1 : w1.cell? ⟨w.heap.size, 1, none⟩ = some (.slice ar g.roots.length cr) := by have := hM2.cell 0 rfl 1; simpa using this
    go_wp2_with fail
    refine (retained_out g HG.out _ x Hx.out _ (Hg.out.later hM2.below)).mono ?_
    rintro e w2 ⟨d, hd, rfl, hb2⟩
    have hM4 := hM2.call hb2
    have hd2 : (d != 0) = true := by simpa using hd
    go_wp2
    go_ret
    exact ⟨rfl, hM4.below⟩

theorem domCuts_walk (w : World) (v u : Value) (h : ∃ g, IsGraph w v g) (h1 : ∃ x : Int, u = .int .i64 x) : Calls Try.prog 4 #[v, u] w fun e w' => e = .returned (.bool true) ∧ Below w.heap.size w w' := by
  obtain ⟨g, hg⟩ := h
  obtain ⟨x, rfl⟩ := h1
  by_cases hG : Good g
  · by_cases hx : x < 0 ∨ (g.objs.length : Int) ≤ x
    · exact domCuts_out g hG v x hx w hg
    · obtain ⟨i, rfl⟩ : ∃ i : Nat, x = (i : Int) := ⟨x.toNat, by omega⟩
      exact domCuts_in g hG v i (by omega) w hg
  · exact domCuts_bad g hG v x w hg
end Go.Proofs.Ytnpbdabboecpaaa
