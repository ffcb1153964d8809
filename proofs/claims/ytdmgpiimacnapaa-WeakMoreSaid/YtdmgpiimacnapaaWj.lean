/- WeakMore, walked. -/
import Derived.Test.YtdmgpiimacnapaaWi
import Derived.Deep.RegionHeld3
import Derived.Deep.LoopGhost
import Derived.Deep.DeepCutAuto
namespace Go.Proofs.Ytdmgpiimacnapaa
open Go.RowKit Go.Shelf

set_option maxRecDepth 100000 in
set_option maxHeartbeats 1000000 in
theorem wmore_bad (g : G) (v u : Value) (ks : List Int) (i : Int) (w : World) (hg : IsGraph w v g) (hu : IsInts w u ks) (hk : ¬ KindOf g ks) :
    Calls Try.prog 5 #[v, u, .int .i64 i] w fun e w' => e = .returned (.bool true) ∧ Below w.heap.size w w' := by
  have Hg := Lib.hid hg
  obtain ⟨vo, vr, rfl, ho, hr⟩ := hg
  obtain ⟨ao, co, rfl, hlo⟩ := ho.slice
  obtain ⟨ar, cr, rfl, hlr⟩ := hr.slice
  obtain ⟨au, cu, rfl, hlu⟩ := hu.slice
  have hM0 := (Mem.start w).alloc #[.slice ao g.objs.length co, .slice ar g.roots.length cr] 25
  have Hu := Lib.hid hu
  have Hk := Lib.hid hk
  clear ho hr hu hk
  go_enter Try.func5, Try.ntmps5
  go_wp2_with fail
  refine (kept_no g _ _ ks _ (Hg.out.later hM0.below) (Hu.out.later hM0.below) Hk.out).mono ?_
  rintro e w1 ⟨⟨c, hc, hc2, rfl⟩, hb1⟩
  have hbe := Lib.hid (hM0.call hb1).below
  go_wp2
  go_ret
  exact ⟨rfl, hbe.out⟩

set_option maxRecDepth 100000 in
set_option maxHeartbeats 1000000 in
theorem wmore_out (g : G) (v u : Value) (ks : List Int) (i : Int) (w : World) (hg : IsGraph w v g) (hroom : RoomG w v g) (hu : IsInts w u ks) (hk : KindOf g ks) (hi : i < 0 ∨ (ks.length : Int) ≤ i) :
    Calls Try.prog 5 #[v, u, .int .i64 i] w fun e w' => e = .returned (.bool true) ∧ Below w.heap.size w w' := by
  have Hg := Lib.hid hg
  obtain ⟨vo, vr, rfl, ho, hr⟩ := hg
  obtain ⟨ao, co, rfl, hlo⟩ := ho.slice
  obtain ⟨ar, cr, rfl, hlr⟩ := hr.slice
  obtain ⟨au, cu, rfl, hlu⟩ := hu.slice
  have hM0 := (Mem.start w).alloc #[.slice ao g.objs.length co, .slice ar g.roots.length cr] 25
  have Hro := Lib.hid (hroom.later Hg.out hM0.below)
  have Hu := Lib.hid hu
  have Hk := Lib.hid hk
  clear ho hr hu hk hroom
  go_enter Try.func5, Try.ntmps5
  go_wp2_with fail
  refine (kept_reads g _ _ ks _ (Hg.out.later hM0.below) Hro.out (Hu.out.later hM0.below) Hk.out).mono ?_
  rintro e w1 ⟨vl, K, rfl, hW, hl, hb1⟩
  obtain ⟨al, cl, rfl, _⟩ := hl.slice
  obtain ⟨nl, hnl⟩ : ∃ nl, (listK K).length = nl := ⟨_, rfl⟩
  rw [hnl]
  have hbe := Lib.hid (hM0.call hb1).below
  clear hW hl hnl
  by_cases h0 : i < 0
  · by_cases hn0 : nl = 0
    all_goals
      go_wp2
      go_ret
      exact ⟨rfl, hbe.out⟩
  · have h1 : (ks.length : Int) ≤ i := by omega
    by_cases hn0 : nl = 0
    all_goals
      go_wp2
      go_ret
      exact ⟨rfl, hbe.out⟩

set_option maxRecDepth 100000 in
set_option maxHeartbeats 4000000 in
theorem wmore_main (g : G) (v u : Value) (ks : List Int) (i : Nat) (w : World) (hg : IsGraph w v g) (hroom : RoomG w v g) (hu : IsInts w u ks) (hk : KindOf g ks) (hi : i < ks.length) :
    Calls Try.prog 5 #[v, u, .int .i64 (i : Int)] w fun e w' => e = .returned (.bool true) ∧ Below w.heap.size w w' := by
  have Hg := Lib.hid hg
  obtain ⟨vo, vr, rfl, ho, hr⟩ := hg
  obtain ⟨ao, co, rfl, hlo⟩ := ho.slice
  obtain ⟨ar, cr, rfl, hlr⟩ := hr.slice
  have hM0 := (Mem.start w).alloc #[.slice ao g.objs.length co, .slice ar g.roots.length cr] 25
  have hroom0 := hroom.later Hg.out hM0.below
  have Hro0 := Lib.hid hroom
  have hu0 := hu
  obtain ⟨au, cu, rfl, hlu, hux⟩ := hu
  obtain ⟨x, hx⟩ := get_some ks i hi
  obtain ⟨bu, ou, rfl, hbu, _, _⟩ := hux i x hx
  have hkl : ks.length ≤ 24 := by rw [hk.2.1]; exact hk.1.objs
  have hgl : g.objs.length ≤ 1000 := by have := hk.1.objs; omega
  have hcells : ∀ (j : Nat) (y : Int), ks[j]? = some y → bu < w.heap.size ∧ w.cell? ⟨bu, ou + j, none⟩ = some (.int .i64 y) := by
    intro j y hy
    obtain ⟨b2, o2, he, hb2, hc2, _⟩ := hux j y hy
    cases he
    exact ⟨hb2, hc2⟩
  have hok : ∀ y ∈ ks.set i 0, i64ok y := by
    intro y hy
    have := (kindOf_set hk i).2.2 y hy
    exact ⟨by omega, by omega⟩
  have Hok := Lib.hid hok
  have Hx := Lib.hid hx
  have Hcells := Lib.hid hcells
  have Hu := Lib.hid hu0
  have Hro := Lib.hid hroom0
  have Hk := Lib.hid hk
  clear ho hr hu0 hk hroom hux hcells hroom0 hx hok
  go_enter Try.func5, Try.ntmps5
  go_wp2_with fail
  refine (kept_reads g _ _ ks _ (Hg.out.later hM0.below) Hro.out (Hu.out.later hM0.below) Hk.out).mono ?_
  rintro e w1 ⟨vl, K, rfl, hW, hl, hb1⟩
  obtain ⟨al, cl, rfl, _⟩ := hl.slice
  have hM1 := hM0.call hb1
  have hMf := (Mem.start w1).fresh0 3
  have HW := Lib.hid hW
  have Hl := Lib.hid hl
  clear hW hl
  have hnews : ∀ (j : Nat) (y : Value), (ks.map (.int .i64))[j]? = some y → (w1.alloc (.cells #[] 3)).cell? ((⟨bu, ou, none⟩ : Addr).add j) = some y := by
    intro j y hj
    rw [List.getElem?_map] at hj
    obtain ⟨z, hz, rfl⟩ := Option.map_eq_some_iff.1 hj
    obtain ⟨h1, h2⟩ := Hcells.out j z hz
    have h3 := (hMf.below.cell (p := ⟨bu, ou + j, none⟩) (Nat.lt_of_lt_of_le h1 hM1.base)).trans ((hM1.below.cell (p := ⟨bu, ou + j, none⟩) h1).trans h2)
    by_cases hj0 : j = 0
    · subst hj0; simpa [Addr.add] using h3
    · simpa [Addr.add, hj0] using h3
  have hone : ∀ y ∈ ks.map (Value.int .i64), y.oneCell' = true := by
    intro y hy
    obtain ⟨z, _, rfl⟩ := List.mem_map.1 hy
    rfl
  go_wp2_with (
     at_builtin
     refine Mem.wp_append elemInts rfl (.tmp 39) (.tmp 40) rfl hMf 0 rfl rfl ⟨bu, ou, none⟩ ks.length cu (ks.map (.int .i64)) rfl (by simp) hnews hone (by simp [maxLen]; omega) (by simp; omega) ?_
     intro ad cap w2 hM2 hs2 hb2 had
     have hM2b : Mem w1.heap.size w1 w2 [rowI 3 (.slice ad ks.length cap) ks] := hM2.cast (by simp [rowI])
     obtain ⟨g2, cap2, hv, _, _, hc2, hf2⟩ := hM2b.intsAt 0 rfl (by intro e; rw [e] at hi; simp at hi)
     cases hv
     have q1 := hc2 i x Hx.out
     have q2 := hf2 i
     have hM3 := hM2b.setI 0 rfl rfl i 0
     have hM4 := hM1.callMem hM3
     obtain ⟨p0, p1⟩ := hM4.cells2 1 rfl
     have hi0 : (0 : Int) ≤ (i : Int) := by omega
     have hi1 : (i : Int) < (ks.length : Int) := by omega
     have HM3 := Lib.hid hM3
     have HM4 := Lib.hid hM4)
  clear hM2 hM2b hMf hnews hone hc2 hf2 hb2 hM3 had hM0 hM4 hM1
  go_wp2_with fail
  refine (kept_reads g _ _ (ks.set i 0) _ (Hg.out.later HM4.out.below) (Hro0.out.later Hg.out HM4.out.below) (isInts_of_own (HM4.out.ownI 0 rfl) (by simp; omega) Hok.out) (kindOf_set Hk.out i)).mono ?_
  rintro e w4 ⟨vm, K2, rfl, hW2, hm, hb4⟩
  obtain ⟨am, cm, rfl, _⟩ := hm.slice
  have hM5 := HM4.out.call hb4
  obtain ⟨p2, p3⟩ := hM5.cells2 1 rfl
  have z4 : w.heap.size < w4.heap.size := (hM5.box 1 rfl).2.1
  obtain ⟨inf, hinf, hz, hsz, hby⟩ := elemInts.info
  obtain ⟨w5, hrun, r1, r2⟩ := run_make_full (P := Try.prog) w4.drew w4.drew.heap.size 27 3 inf _ 1 elemInts.under hinf hz hsz .i64 .i64 ks.length (by rw [hby]; omega) (by simp [maxLen]; omega) (Nat.le_refl _)
  have hMk := (Mem.start w4).drew.make_own r1 r2
  have q3 : w5.cell? ⟨w.heap.size, 0, none⟩ = some (.slice ao g.objs.length co) := (hMk.below.cell (p := ⟨_, _, none⟩) z4).trans p2
  have q4 : w5.cell? ⟨w.heap.size, 1, none⟩ = some (.slice ar g.roots.length cr) := (hMk.below.cell (p := ⟨_, _, none⟩) z4).trans p3
  have hM6 := hM5.callMem hMk
  have Hkept := Lib.hid (kept_reads g _ _ (List.replicate ks.length 0) w5 (Hg.out.later hM6.below) (Hro0.out.later Hg.out hM6.below) (isInts_of_own (hMk.ownI 0 rfl) (by simp; omega) (by intro y hy; rw [(List.mem_replicate.1 hy).2]; exact ⟨by omega, by omega⟩)) (kindOf_zero Hk.out))
  have hCl : Below w1.heap.size w1 w4 := HM3.out.below.trans (hb4.mono HM3.out.below.size)
  have HW2 := Lib.hid hW2
  have HL4 := Lib.hid (Hl.out.later hCl)
  have Hm := Lib.hid hm
  have HM5 := Lib.hid hM5
  have Hbk := Lib.hid hMk.below
  have z5 : w.heap.size < w5.heap.size := Nat.lt_of_lt_of_le z4 hMk.below.size
  clear hinf hz hsz hby r1 r2 hM6 hMk hW2 hm hM5 hCl hb4 HM4 HM3 p0 p1 q1 q2
  go_wp2_with fail
  go_cut [12, 13] (fun s12 s13 W => s13 = .int .i64 0 ∧ ∃ Ka, WeakS g (List.replicate ks.length 0) Ka ∧ IsInts W s12 (listK Ka) ∧ Below w4.heap.size w4 W)
  case first =>
    go_region_held3 (fun W => W.cell? ⟨w.heap.size, 0, none⟩ = some (.slice ao g.objs.length co) ∧ W.cell? ⟨w.heap.size, 1, none⟩ = some (.slice ar g.roots.length cr))
      (first | exact ⟨by simpa using p2, by simpa using p3⟩ | exact ⟨q3, q4⟩ | exact ⟨q5, q6⟩)
      (first
        | (go_at_call 21
           refine Hkept.out.mono ?_
           rintro e w6 ⟨va, Ka, rfl, hWa, hla, hb6⟩
           have q5 := (hb6.cell (p := ⟨_, _, none⟩) z5).trans q3
           have q6 := (hb6.cell (p := ⟨_, _, none⟩) z5).trans q4))
    all_goals
      go_wp2_with fail
      go_meet
      exact ⟨rfl, Ka, hWa, hla, Hbk.out.trans (hb6.mono Hbk.out.size)⟩
  case rest =>
    obtain ⟨rfl, Ka, hWa, hla, hbW⟩ := hcut
    obtain ⟨na, hna⟩ : ∃ na, (listK Ka).length = na := ⟨_, rfl⟩
    obtain ⟨aa, ca, rfl, _⟩ := hla.slice
    rw [hna] at hla
    rw [hna]
    have hM7 := HM5.out.call hbW
    obtain ⟨s0, s1⟩ := hM7.cells2 1 rfl
    have HM7 := Lib.hid hM7
    have Hla := Lib.hid hla
    have HL7 := Lib.hid (HL4.out.later hbW)
    have Hm7 := Lib.hid (Hm.out.later hbW)
    have HWa := Lib.hid hWa
    have Hna := Lib.hid hna
    clear hla hWa hna hM7 hrun p2 p3 q3 q4 Hkept
    go_wp2_with fail
    refine (inside_yes _ _ _ _ _ HL7.out Hm7.out (HW.out.more HW2.out (kindAt_set hi))).mono ?_
    rintro e w8 ⟨rfl, rfl⟩
    go_wp2_with fail
    refine (inside_yes _ _ _ _ _ Hm7.out Hla.out (HW2.out.more HWa.out (fun x => .inr (kindAt_zero _ x)))).mono ?_
    rintro e w8 ⟨rfl, rfl⟩
    have hbe := Lib.hid HM7.out.below
    by_cases h0 : 0 < na
    · go_wp2
      go_ret
      exact ⟨rfl, hbe.out⟩
    · have Hnil := Lib.hid (List.eq_nil_of_length_eq_zero (show (listK Ka).length = 0 by rw [Hna.out]; omega))
      go_wp2_with fail
      refine (good_yes _ g _ (Hg.out.later HM7.out.below) Hk.out.1).mono ?_
      rintro e w8 ⟨rfl, hb8⟩
      have hM8 := HM7.out.call hb8
      obtain ⟨t0, t1⟩ := hM8.cells2 1 rfl
      go_wp2_with fail
      refine (reachR_any g hgl _ _ (Hg.out.later hM8.below)).mono ?_
      rintro e w9 ⟨vr, l, rfl, hR, hM9⟩
      obtain rfl := HWa.out.none Hnil.out hR
      obtain ⟨a9, c9, hv9⟩ := hM9.intsSlice 0 rfl
      subst hv9
      have hbe9 := Lib.hid (hM8.callMem hM9).below
      clear hR hM9 hM8
      go_wp2
      go_ret
      exact ⟨rfl, hbe9.out⟩
end Go.Proofs.Ytdmgpiimacnapaa
