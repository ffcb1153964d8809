/- CountAcyclic, walked. -/
import Derived.Test.YtmmcjjklmcfegaaV6
import Derived.Test.YtmmcjjklmcfegaaV2
import Derived.Test.YtmmcjjklmcfegaaW1
namespace Go.Proofs.Ytmmcjjklmcfegaa
open Tarj
open Go.RowKit Go.Shelf

set_option maxRecDepth 100000 in
set_option maxHeartbeats 8000000 in
theorem countAcyclic_good (g : G) (hG : Good g) (v : Value) (au : Option Addr) (cu : Nat) (room : Int) (hr : 1 ≤ room ∧ room ≤ 64) (ds : List Dd) (w : World) (hg : IsGraph w v g) (hu : IsTup 5 cellsD w (.slice au ds.length cu) ds) (hd : ∀ d ∈ ds, DdOk d) (hn : ds.length ≤ 100) :
    Calls Try.prog 8 #[v, .int .i64 room, .slice au ds.length cu] w fun e w' => e = .returned (.bool true) ∧ Below w.heap.size w w' := by
  have Hg := Lib.hid hg
  obtain ⟨vo, vr, rfl, ho, hr⟩ := hg
  obtain ⟨ao, co, rfl, hlo⟩ := ho.slice
  obtain ⟨ar, cr, rfl, hlr⟩ := hr.slice
  rename_i hrm
  have hM0 := (Mem.start w).alloc #[.slice ao g.objs.length co, .slice ar g.roots.length cr] 25
  obtain ⟨L, hL⟩ : ∃ L, ds.length = L := ⟨_, rfl⟩
  obtain ⟨S, hS⟩ : ∃ S, runs (cKd room).step (startC g) ds = S := ⟨_, rfl⟩
  have hi := runsC_inv hG room ds.length ds (Nat.le_refl _) hn
  rw [List.take_length, hS] at hi
  obtain ⟨hi, hi2⟩ := hi
  obtain ⟨t, ht1, ht2, ht3⟩ := count_told hG room hn
  obtain ⟨nT, hnT⟩ : ∃ nT, (theres S.1 S.1.os.length).length = nT := ⟨_, rfl⟩
  obtain ⟨nK, hnK⟩ : ∃ nK, S.1.x.gone.length = nK := ⟨_, rfl⟩
  have hP := cPlay3 g hG _ _ room hrm ds w Hg.out hu hd hn L nT nK hL (by rw [hS]; exact hnT) (by rw [hS]; exact hnK)
  unfold CPlay3 at hP
  have hlo : S.2.length = L := by rw [← hS, runs_len]; exact hL
  rw [hL] at hP
  have hold := fun h4 => runsC_old hG room hn h4 ds.length (Nat.le_refl _)
  rw [List.take_length, hS] at hold
  rw [hS] at hP ht1 ht2
  have heq : (∀ d ∈ ds, d.kind ≠ 4) → rndL g g.objs.length = [] → ∀ c, CanonS (gOf t.regs t.os) c → c.objs.length = nT := by
    intro h4 hr0 c hc
    have h1 := canon_eq ht2 ht3 hc (all_led hi (hold h4) hr0)
    rw [h1, ← hnT]
    unfold theres
    rw [List.length_map, List.take_of_length_le (thereL_len _ _)]; rfl
  obtain ⟨T1, hT1⟩ : ∃ T1, theres S.1 S.1.os.length = T1 := ⟨_, rfl⟩
  have hT100 : nT ≤ 200 := by
    have := theres_le' S.1
    rw [hnT] at this; omega
  rw [hT1] at hP hnT
  obtain ⟨O1, hO1⟩ : ∃ O1, S.2 = O1 := ⟨_, rfl⟩
  obtain ⟨G1, hG1⟩ : ∃ G1, S.1.x.gone = G1 := ⟨_, rfl⟩
  rw [hO1, hG1] at hP
  rw [hO1] at ht1 hlo
  have hrl := rndL_len g g.objs.length
  obtain ⟨RL, hRL⟩ : ∃ RL, rndL g g.objs.length = RL := ⟨_, rfl⟩
  rw [hRL] at heq hrl
  have HP := Lib.hid hP
  have HM0 := Lib.hid hM0
  have HT := Lib.hid ht1
  have Hlo := Lib.hid hlo
  have HnT := Lib.hid hnT
  have Heq := Lib.hid heq
  have HL := Lib.hid hL
  have HG := Lib.hid hG
  have HD := Lib.hid hd
  have Hu := Lib.hid hu
  have HRL := Lib.hid hRL
  rw [hL] at hn Hu ⊢
  clear hM0 ho hr hi hi2 ht1 ht2 ht3 hP hlo hold heq hT1 hO1 hG1 hnT hnK hL hS hG hd hu hrm hRL hrl
  go_enter Try.func8, Try.ntmps8
  go_wp2_with fail
  refine HP.out _ _ _ HM0.out ?_
  intro aO cO aT cT aG cG w1 hM1
  have hM1 := hM1.alloc #[.slice aO L cO, .slice aT nT cT, .slice aG nK cG] 41
  obtain ⟨W1, hW1⟩ : ∃ W1, w1.alloc (.cells #[.slice aO L cO, .slice aT nT cT, .slice aG nK cG] 41) = W1 := ⟨_, rfl⟩
  rw [hW1] at hM1
  obtain ⟨b7, hb7⟩ : ∃ b7, w1.heap.size = b7 := ⟨_, rfl⟩
  rw [hb7] at hM1
  have g0 := hM1.cell 4 rfl 0
  have g1 := hM1.cell 4 rfl 1
  have gb := (hM1.box 4 rfl).2.1
  have HRd := Lib.hid (round_yes g HG.out _ W1 (Hg.out.later hM1.below))
  have HM1 := Lib.hid hM1
  have HW1 := Lib.hid hW1
  have Hb7 := Lib.hid hb7
  clear hM1 hW1 hb7 HP HM0
  go_upto_region 2 with (fail)
  rw [HW1.out, Hb7.out]
  go_wp2_with fail
  refine HRd.out.mono ?_
  rintro e w2 ⟨vl, rfl, _, hM2⟩
  rw [HRL.out] at hM2
  obtain ⟨aR, cR, rfl⟩ := hM2.intsSlice 0 rfl
  have hM3 := HM1.out.callMem hM2
  have h0 := hM3.cell 5 rfl 0
  have h1 := hM3.cell 5 rfl 1
  have hb := (hM3.box 5 rfl).2.1
  have c0 := hM3.cell 1 rfl 0
  have cb := (hM3.box 1 rfl).2.1
  have HM3 := Lib.hid hM3
  obtain ⟨nR, hnR⟩ : ∃ nR, RL.length = nR := ⟨_, rfl⟩
  rw [hnR] at HM3 ⊢
  have HnR := Lib.hid hnR
  clear hM3 hM2 g0 g1 gb HRd HM1 HW1 Hb7 hnR
  by_cases hr0 : nR = 0
  · subst hr0
    have hRL0 : RL = [] := List.eq_nil_of_length_eq_zero HnR.out
    have HR0 := Lib.hid hRL0
    clear hRL0
    go_upto_region 6 with (fail)
    go_loopw [12, 40] (fun _ s40 wq => ∃ k : Nat, k ≤ L ∧ s40 = .int .i64 (k : Int) ∧ (∀ d ∈ ds.take k, d.kind ≠ 4) ∧ Below w2.heap.size w2 wq) (fun _ i _ => L - (intOf i).toNat)
    case atStart => exact ⟨0, Nat.zero_le _, rfl, by simp, Below.refl _ _⟩
    case round =>
      clear h0 h1 hb c0 cb
      obtain ⟨k, hk, rfl, h4, hB⟩ := hrel
      have hMr := HM3.out.call hB
      by_cases hlt : k < L
      · obtain ⟨d, hd⟩ := get_some ds k (by rw [HL.out]; exact hlt)
        obtain ⟨b, off, rfl, _, hb2, hc⟩ := Hu.out.at2 hMr.below hd
        have HS := Lib.hid (take_succ_some _ _ _ hd)
        obtain ⟨dk, dt, df, da, dn⟩ := d
        have c0 : wr.cell? ⟨b, off + k * 5, none⟩ = some (.int .i64 dk) := hc 0 _ rfl
        have c1 : wr.cell? ⟨b, off + k * 5 + 1, none⟩ = some (.int .i64 dt) := hc 1 _ rfl
        have c2 : wr.cell? ⟨b, off + k * 5 + 2, none⟩ = some (.int .i64 df) := hc 2 _ rfl
        have c3 : wr.cell? ⟨b, off + k * 5 + 3, none⟩ = some (.int .i64 da) := hc 3 _ rfl
        have c4 : wr.cell? ⟨b, off + k * 5 + 4, none⟩ = some (.int .i64 dn) := hc 4 _ rfl
        have e2 : (k : Int) < (L : Int) := by omega
        have HB := Lib.hid (hB.alloc hB.size (.cells #[.int .i64 dk, .int .i64 dt, .int .i64 df, .int .i64 da, .int .i64 dn] 58))
        have HB2 := Lib.hid (hMr.alloc_ (.cells #[.int .i64 dk, .int .i64 dt, .int .i64 df, .int .i64 da, .int .i64 dn] 58)).below
        have H4 := Lib.hid h4
        clear hd hc hB hMr h4
        by_cases hk4 : dk = 4
        · subst hk4
          go_wp2_with fail
          go_ret
          exact ⟨rfl, HB2.out⟩
        · have hne : (dk == 4) = false := by simpa using hk4
          go_wp2_with fail
          go_roundw
          case rel =>
            refine ⟨k + 1, by omega, by go_num, ?_, HB.out⟩
            rw [HS.out]
            intro d hd
            rcases List.mem_append.1 hd with hd | hd
            · exact H4.out d hd
            · rw [List.mem_singleton] at hd; rw [hd]; exact hk4
          case measure => simp [intOf]; omega
      · obtain rfl : k = L := by omega
        rw [List.take_of_length_le (by rw [HL.out]; exact Nat.le_refl _)] at h4
        have h0 := hMr.cell 5 rfl 0
        have h1 := hMr.cell 5 rfl 1
        have hb := (hMr.box 5 rfl).2.1
        have c0 := hMr.cell 1 rfl 0
        have cb := (hMr.box 1 rfl).2.1
        have hO := hMr.isTup 2 rfl (fun _ => rfl) (by have := Hlo.out; omega)
        have hTo := told_any g HG.out (.agg #[.slice ao g.objs.length co, .slice ar g.roots.length cr]) (.slice au k cu) (.slice aO k cO) (.slice none 0 0) ds O1 [] wr (Hg.out.later hMr.below) (Hu.out.later hMr.below) hO ⟨none, 0, rfl, by simp, by simp⟩ HD.out (by rw [HL.out]; exact hn) (by rw [Hlo.out, HL.out]) (by rw [HT.out])
        have HTo := Lib.hid hTo
        have HMr := Lib.hid hMr
        have H4 := Lib.hid h4
        clear hMr hO hTo h4 hB
        go_wp2_with fail
        refine HTo.out.mono ?_
        rintro e w4 ⟨v', c, rfl, hca, hgc, hb4⟩
        rw [HT.out] at hca
        have hcn := Heq.out H4.out HR0.out c hca
        obtain ⟨vo3, vr3, rfl, ho3, hr3⟩ := hgc
        obtain ⟨ao3, co3, rfl, _⟩ := ho3.slice
        obtain ⟨ar3, cr3, rfl, _⟩ := hr3.slice
        have hM5 := (HMr.out.call hb4).alloc #[.slice ao3 c.objs.length co3, .slice ar3 c.roots.length cr3] 25
        rw [hcn] at hM5 ⊢
        obtain ⟨W5, hW5⟩ : ∃ W5, w4.alloc (.cells #[.slice ao3 nT co3, .slice ar3 c.roots.length cr3] 25) = W5 := ⟨_, rfl⟩
        rw [hW5] at hM5
        obtain ⟨b13, hb13⟩ : ∃ b13, w4.heap.size = b13 := ⟨_, rfl⟩
        rw [hb13] at hM5
        have i0 := hM5.cell 0 rfl 0
        have ib := (hM5.box 0 rfl).2.1
        have j0 := hM5.cell 2 rfl 1
        have jb := (hM5.box 2 rfl).2.1
        have q2 : ((nT : Int) == (nT : Int)) = true := by simp
        have HB := Lib.hid hM5.below
        have HW5 := Lib.hid hW5
        have Hb13 := Lib.hid hb13
        clear hM5 hW5 hb13 hca hb4 ho3 hr3 h0 h1 hb c0 cb HTo
        go_upto_region 12 with (fail)
        rw [HW5.out, Hb13.out]
        go_wp2
        go_ret
        exact ⟨rfl, HB.out⟩
  · have q1 : (0 : Int) < (nR : Int) := by omega
    have q2 : decide ((0 : Int) < (nR : Int)) = true := by simpa using q1
    have q3 : decide (0 < nR) = true := by simp; omega
    have q4 : 0 < nR := by omega
    have HB := Lib.hid HM3.out.below
    go_wp2
    go_ret
    exact ⟨rfl, HB.out⟩
/-- Round, at every graph. -/
theorem round_any (g : G) (v : Value) (w : World) (hg : IsGraph w v g) :
    Calls Try.prog 31 #[v] w fun e w' => ∃ a n c x, e = .returned (.tuple #[.slice a n c, .int .i64 x]) ∧ Below w.heap.size w w' := by
  by_cases hG : Good g
  · refine (round_yes g hG v w hg).mono ?_
    rintro e w' ⟨vl, rfl, _, hM⟩
    obtain ⟨a, c, rfl⟩ := hM.intsSlice 0 rfl
    exact ⟨_, _, _, _, rfl, hM.below⟩
  · refine (round_bad g hG v w hg).mono ?_
    rintro e w' ⟨c, _, rfl, hb⟩
    exact ⟨_, _, _, _, rfl, hb⟩
set_option maxRecDepth 100000 in
set_option maxHeartbeats 2000000 in
theorem countAcyclic_bad (g : G) (v : Value) (u : Value) (room : Int) (ds : List Dd) (hk : ¬ (Good g ∧ (1 ≤ room ∧ room ≤ 64) ∧ ds.length ≤ 100)) (w : World) (hg : IsGraph w v g) (hu : IsTup 5 cellsD w u ds) :
    Calls Try.prog 8 #[v, .int .i64 room, u] w fun e w' => e = .returned (.bool true) ∧ Below w.heap.size w w' := by
  have Hg := Lib.hid hg
  obtain ⟨au, cu, rfl, _⟩ := hu.slice
  obtain ⟨vo, vr, rfl, ho, hr⟩ := hg
  obtain ⟨ao, co, rfl, hlo⟩ := ho.slice
  obtain ⟨ar, cr, rfl, hlr⟩ := hr.slice
  have hM0 := (Mem.start w).alloc #[.slice ao g.objs.length co, .slice ar g.roots.length cr] 25
  have HP1 := Lib.hid (cplay_no g _ _ room ds _ (Hg.out.later hM0.below) (hu.later hM0.below) hk)
  have HM0 := Lib.hid hM0
  clear hu hM0 ho hr hk
  go_enter Try.func8, Try.ntmps8
  go_wp2_with fail
  refine HP1.out.mono ?_
  rintro e w1 ⟨c, hc, rfl, hb1⟩
  rw [show NilC = .agg #[.slice none 0 0, .slice none 0 0, .slice none 0 0] from rfl]
  have hM1 := (HM0.out.call hb1).alloc #[.slice none 0 0, .slice none 0 0, .slice none 0 0] 41
  obtain ⟨W1, hW1⟩ : ∃ W1, w1.alloc (.cells #[.slice none 0 0, .slice none 0 0, .slice none 0 0] 41) = W1 := ⟨_, rfl⟩
  rw [hW1] at hM1
  have g0 := hM1.cell 1 rfl 0
  have g1 := hM1.cell 1 rfl 1
  have gb := (hM1.box 1 rfl).2.1
  have HRd := Lib.hid (round_any g _ W1 (Hg.out.later hM1.below))
  have HM1 := Lib.hid hM1
  have HW1 := Lib.hid hW1
  have hcn : (c != 0) = true := by rw [bne, hc]; rfl
  clear hM1 hW1 hb1
  go_upto_region 2 with (fail)
  rw [HW1.out]
  go_wp2_with fail
  refine HRd.out.mono ?_
  rintro e w2 ⟨a, n, c2, x, rfl, hb2⟩
  have HB := Lib.hid (HM1.out.call hb2).below
  clear hb2
  go_wp2
  go_ret
  exact ⟨rfl, HB.out⟩
theorem countAcyclic_walk (W : World) (v0 v1 v2 : Value) (g0 : ∃ g, IsGraph W v0 g) (g1 : ∃ x : Int, v1 = .int .i64 x ∧ i64ok x) (g2 : ∃ ds, IsTup 5 cellsD W v2 ds ∧ ∀ d ∈ ds, DdOk d) :
    Calls Try.prog 8 #[v0, v1, v2] W fun e w' => e = .returned (.bool true) ∧ Below W.heap.size W w' := by
  obtain ⟨g, hg⟩ := g0
  obtain ⟨room, rfl, _⟩ := g1
  obtain ⟨ds, hu, hd⟩ := g2
  by_cases hk : Good g ∧ (1 ≤ room ∧ room ≤ 64) ∧ ds.length ≤ 100
  · obtain ⟨a, c, rfl, _⟩ := hu.slice
    exact countAcyclic_good g hk.1 v0 a c room hk.2.1 ds W hg hu hd hk.2.2
  · exact countAcyclic_bad g v0 v2 room ds hk W hg hu
end Go.Proofs.Ytmmcjjklmcfegaa
