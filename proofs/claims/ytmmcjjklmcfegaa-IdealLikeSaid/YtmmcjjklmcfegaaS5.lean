/- IdealLike, walked. -/
import Derived.Test.YtmmcjjklmcfegaaBase5
import Derived.Test.YtmmcjjklmcfegaaS1
import Derived.Test.YtmmcjjklmcfegaaBase6
import Derived.Test.YtmmcjjklmcfegaaBase2
import Derived.Deep.CutBlock
namespace Go.Proofs.Ytmmcjjklmcfegaa
open Go.RowKit Go.Shelf

theorem iso_refl {g : G} (hG : Good g) : Iso g g (idx g.objs.length) (fun y => y) := by
  obtain ⟨ht1, ht2⟩ := good_targets hG
  refine ⟨fun x hx => ?_, fun x _ y _ h => h, (turn_id (fun _ => rfl)).symm, ht1, fun x _ => (turn_id (fun _ => rfl)).symm, fun x _ j hj => ht2 x j hj⟩
  have := mem_idx.1 hx
  omega
/-- Two graphs alike but for numbers: what Play hands back of both. -/
theorem like_plays {g h : G} {L : List Int} {p : Int → Int} (I : Iso g h L p) (hG : Good g) (ds : List Dd) (hn : ds.length ≤ 100) {c d : G}
    (hc : CanonS (gOf (runs iKd.step (startI g) ds).1.regs (runs iKd.step (startI g) ds).1.os) c) (hd : CanonS (gOf (runs iKd.step (startI h) ds).1.regs (runs iKd.step (startI h) ds).1.os) d) :
    (runs iKd.step (startI g) ds).2 = (runs iKd.step (startI h) ds).2 ∧ c = d := by
  have hl : (startI g).os.length = g.objs.length := by simp [startI]
  obtain ⟨h1, _, L', p', h2⟩ := sim_runs ds _ _ L p (sim_start I) (startI_inv hG) (by rw [hl]; have := hG.objs; omega)
  exact ⟨h1, iso_canon h2.iso hc hd⟩
theorem nilG_is (w : World) : IsGraph w NilG ⟨[], []⟩ := ⟨_, _, rfl, ⟨none, 0, rfl, by simp, by simp⟩, ⟨none, 0, rfl, by simp, by simp⟩⟩
theorem nilT_is (w : World) : IsTup 3 cellsO w (.slice none 0 0) [] := ⟨none, 0, rfl, by simp, by simp⟩
set_option maxRecDepth 100000 in
set_option maxHeartbeats 4000000 in
theorem ilike_good (g : G) (hG : Good g) (v u : Value) (ds : List Dd) (q : Int) (hq0 : 0 ≤ q) (hq1 : q ≤ 255) (w : World) (hg : IsGraph w v g) (hu : IsTup 5 cellsD w u ds) (hd : ∀ d ∈ ds, DdOk d) :
    Calls Try.prog 4 #[v, .int .u8 q, u] w fun e w' => e = .returned (.bool true) ∧ Below w.heap.size w w' := by
  have Hg := Lib.hid hg
  have HG := Lib.hid hG
  have Hu := Lib.hid hu
  have Hd := Lib.hid hd
  obtain ⟨au, cu, rfl, _⟩ := hu.slice
  obtain ⟨vo, vr, rfl, ho, hr⟩ := hg
  obtain ⟨ao, co, rfl, hlo⟩ := ho.slice
  obtain ⟨ar, cr, rfl, hlr⟩ := hr.slice
  have hM0 := (Mem.start w).alloc #[.slice ao g.objs.length co, .slice ar g.roots.length cr] 25
  have HM0 := Lib.hid hM0
  have hn24 := hG.objs
  clear ho hr hG hu hd hM0
  go_enter Try.func4, Try.ntmps4
  go_wp2_with fail
  refine (good_yes _ g _ (Hg.out.later HM0.out.below) HG.out).mono ?_
  rintro e w1 ⟨rfl, hb1⟩
  have hM1 := HM0.out.call hb1
  obtain ⟨p0, p1⟩ := hM1.cells2 0 rfl
  have HM1 := Lib.hid hM1
  have pb := (hM1.box 0 rfl).2.1
  clear hM1 hb1 HM0
  go_upto_if 35 with (fail)
  obtain ⟨w2, hw2⟩ : ∃ w2, w2 = w1.alloc (.cells #[.slice ao g.objs.length co, .slice ar g.roots.length cr] 25) := ⟨_, rfl⟩
  have hM2 := HM1.out.alloc #[.slice ao g.objs.length co, .slice ar g.roots.length cr] 25
  rw [← hw2] at hM2 ⊢
  have HM2 := Lib.hid hM2
  clear hM2 hw2
  go_cut [] (fun W' => ∃ (h : G) (vo' vr' : Value) (L : List Int) (p : Int → Int), Iso g h L p ∧ Good h ∧ Mem w.heap.size w W' [ebox w1.heap.size #[vo', vr'] 25, ebox w.heap.size #[.slice ao g.objs.length co, .slice ar g.roots.length cr] 25] ∧ IsGraph W' (.agg #[vo', vr']) h)
  case first =>
    by_cases h0 : 0 < g.objs.length
    · have hkn : q.tmod g.objs.length = ((q.toNat % g.objs.length : Nat) : Int) := by
        obtain ⟨m, rfl⟩ := Int.eq_ofNat_of_zero_le hq0
        exact Int.ofNat_tmod _ _
      have hn0 : ¬ g.objs = [] := by rintro e; rw [e] at h0; exact absurd h0 (by simp)
      have hqw : IntKind.i64.wrap q = q := by rw [IntKind.wrap_i64]; omega
      have hnp : (0 : Int) < g.objs.length := by omega
      have hlt : q.toNat % g.objs.length < g.objs.length := Nat.mod_lt _ h0
      obtain ⟨k, hk⟩ : ∃ k, q.toNat % g.objs.length = k := ⟨_, rfl⟩
      rw [hk] at hkn hlt
      clear hk
      obtain ⟨p0, p1⟩ := HM2.out.cells2 1 rfl
      go_upto_region 7 with (fail)
      go_still_tail 5, (by kernel_rfl)
      go_wp2_with fail
      refine (rotated_any g HG.out k hlt _ _ (Hg.out.later HM2.out.drew.below)).mono ?_
      rintro e w3 ⟨v', rfl, hgr, hb3⟩
      have hM3 := HM2.out.drew.call hb3
      obtain ⟨vo3, vr3, rfl, ho3, hr3⟩ := hgr.here
      obtain ⟨ao3, co3, rfl, _⟩ := ho3.slice
      obtain ⟨ar3, cr3, rfl, _⟩ := hr3.slice
      have hM4 := (hM3.setBox 0 rfl 0 (.slice ao3 (renumP g (rot g.objs.length k) (fun y => plc (rot g.objs.length k) y 0)).objs.length co3)).setBox 0 rfl 1 (.slice ar3 (renumP g (rot g.objs.length k) (fun y => plc (rot g.objs.length k) y 0)).roots.length cr3)
      have HM4 := Lib.hid hM4
      obtain ⟨s2, s3⟩ := hM3.cells2 0 rfl
      have Hgr := Lib.hid hgr
      clear hM4 ho3 hr3 hgr
      have s4 : w3.frozen? ⟨w1.heap.size, 0, none⟩ = false := hM3.free 0 rfl 0
      have s5 : w3.frozen? ⟨w1.heap.size, 1, none⟩ = false := hM3.free 0 rfl 1
      have HM3 := Lib.hid hM3
      clear hM3
      go_wp2_with fail
      go_meet
      refine ⟨_, _, _, _, _, iso_rot HG.out hlt, good_rot HG.out hlt, HM4.out, ?_⟩
      refine (Hgr.out.step (B' := w2.drew.heap.size) (Nat.le_refl _) (by simp) ?_).here
      intro b h1 h2
      have hsz2 : w1.heap.size < w2.drew.heap.size := (HM2.out.drew.box 0 rfl).2.1
      rw [heap_setCell_other _ _ _ _ (by simp only; omega), heap_setCell_other _ _ _ _ (by simp only; omega)]
    · have hnp : ¬ (0 : Int) < g.objs.length := by omega
      go_wp2_with fail
      go_meet
      exact ⟨g, _, _, _, _, iso_refl HG.out, HG.out, HM2.out, Hg.out.later HM2.out.below⟩
  case rest =>
    obtain ⟨h, vo', vr', L, p, I, hH, hM, hgh⟩ := hcut
    have HI := Lib.hid I
    have HH := Lib.hid hH
    have HM := Lib.hid hM
    have Hh := Lib.hid hgh
    clear hM hgh hH I
    by_cases hle : ds.length ≤ 100
    · obtain ⟨p0, p1⟩ := HM.out.cells2 1 rfl
      go_wp2_with fail
      refine (iplay_yes g HG.out _ _ ds _ (Hg.out.later HM.out.below) (Hu.out.later HM.out.below) Hd.out hle).mono ?_
      rintro e w3 ⟨va, va', c, rfl, hca, hga, hMa⟩
      obtain ⟨l, hl⟩ : ∃ l, (runs iKd.step (startI g) ds).2 = l := ⟨_, rfl⟩
      rw [hl] at hMa
      have hln : l.length = ds.length := by rw [← hl, runs_len]
      have hta := hMa.isTup 0 rfl (fun x => rfl) (by omega)
      obtain ⟨a3, c3, he, _⟩ := hta.slice
      rw [hln] at he
      subst he
      obtain ⟨vo3, vr3, rfl, ho3, hr3⟩ := hga.here
      obtain ⟨ao3, co3, rfl, _⟩ := ho3.slice
      obtain ⟨ar3, cr3, rfl, _⟩ := hr3.slice
      have hMb := (HM.out.call hMa.below).allocAt w3.heap.size rfl #[.slice ao3 c.objs.length co3, .slice ar3 c.roots.length cr3] 25
      obtain ⟨w4, hw4⟩ : ∃ w4, w4 = w3.alloc (.cells #[.slice ao3 c.objs.length co3, .slice ar3 c.roots.length cr3] 25) := ⟨_, rfl⟩
      have hb4 : Below w3.heap.size w3 w4 := by rw [hw4]; exact (Below.refl _ _).alloc (Nat.le_refl _) _
      rw [← hw4] at hMb
      obtain ⟨p2, p3⟩ := hMb.cells2 1 rfl
      have Hln := Lib.hid hln
      have HMb := Lib.hid hMb
      have Hta := Lib.hid hta
      have Hca := Lib.hid hca
      have Hga := Lib.hid hga.here
      have HMa := Lib.hid hMa.below
      have Hl := Lib.hid hl
      have Hb4 := Lib.hid hb4
      have Hw4 := Lib.hid hw4
      clear hln hMb hta hca hga hl hMa ho3 hr3 hb4 hw4
      go_upto_region 9 with (fail)
      rw [← Hw4.out]
      go_wp2_with fail
      refine (iplay_yes h HH.out _ _ ds _ ((Hh.out.later HMa.out).later Hb4.out) (Hu.out.later HMb.out.below) Hd.out hle).mono ?_
      rintro e w5 ⟨vb, vb', d, rfl, hcb, hgb, hMc⟩
      obtain ⟨hll, hcd⟩ := like_plays HI.out HG.out ds hle Hca.out hcb
      rw [Hl.out] at hll
      subst hcd
      rw [← hll] at hMc
      have htb := hMc.isTup 0 rfl (fun x => rfl) (by rw [Hln.out]; omega)
      obtain ⟨a5, c5, he, _⟩ := htb.slice
      rw [Hln.out] at he
      subst he
      obtain ⟨vo5, vr5, rfl, ho5, hr5⟩ := hgb.here
      obtain ⟨ao5, co5, rfl, _⟩ := ho5.slice
      obtain ⟨ar5, cr5, rfl, _⟩ := hr5.slice
      have hM6 := (HMb.out.call hMc.below).allocAt w5.heap.size rfl #[.slice ao5 c.objs.length co5, .slice ar5 c.roots.length cr5] 25
      obtain ⟨w6, hw6⟩ : ∃ w6, w6 = w5.alloc (.cells #[.slice ao5 c.objs.length co5, .slice ar5 c.roots.length cr5] 25) := ⟨_, rfl⟩
      have hb6 : Below w5.heap.size w5 w6 := by rw [hw6]; exact (Below.refl _ _).alloc (Nat.le_refl _) _
      rw [← hw6] at hM6
      have HM6 := Lib.hid hM6
      have Htb := Lib.hid htb
      have Hgb := Lib.hid hgb.here
      have HMc := Lib.hid hMc.below
      have Hb6 := Lib.hid hb6
      have Hw6 := Lib.hid hw6
      clear hM6 htb hgb hMc hll hcb ho5 hr5 hb6 hw6
      go_upto_region 10 with (fail)
      rw [← Hw6.out]
      go_wp2_with fail
      refine (outs_yes _ _ l _ ((((Hta.out.later Hb4.out).later HMc.out).later Hb6.out)) (Htb.out.later Hb6.out)).mono ?_
      rintro e w7 ⟨rfl, hb7⟩
      have hM7 := HM6.out.call hb7
      obtain ⟨q0, q1⟩ := hM7.cells2 0 rfl
      obtain ⟨q2, q3⟩ := hM7.cells2 1 rfl
      have HM7 := Lib.hid hM7
      have Hb7 := Lib.hid hb7
      clear hM7 hb7
      go_wp2_with fail
      refine (graphs_same _ _ c _ (((((Hga.out.later Hb4.out).later HMc.out).later Hb6.out)).later Hb7.out) ((Hgb.out.later Hb6.out).later Hb7.out)).mono ?_
      rintro e w8 ⟨rfl, hb8⟩
      have HM8 := Lib.hid (HM7.out.call hb8)
      clear hb8
      go_wp2_with fail
      refine bodyPost_ret (v := .bool true) (by simp [results, Try.results4, go_sem]) rfl ⟨rfl, HM8.out.below⟩
    · obtain ⟨p0, p1⟩ := HM.out.cells2 1 rfl
      go_wp2_with fail
      refine (iplay_no g _ _ ds _ (Hg.out.later HM.out.below) (Hu.out.later HM.out.below) (by omega)).mono ?_
      rintro e w3 ⟨c, hc0, hc1, rfl, hb3⟩
      rw [show NilG = .agg #[.slice none 0 0, .slice none 0 0] from rfl]
      obtain rfl := hc1 HG.out
      have hMb := (HM.out.call hb3).allocAt w3.heap.size rfl #[.slice none 0 0, .slice none 0 0] 25
      obtain ⟨w4, hw4⟩ : ∃ w4, w4 = w3.alloc (.cells #[.slice none 0 0, .slice none 0 0] 25) := ⟨_, rfl⟩
      have hb4 : Below w3.heap.size w3 w4 := by rw [hw4]; exact (Below.refl _ _).alloc (Nat.le_refl _) _
      rw [← hw4] at hMb
      obtain ⟨p2, p3⟩ := hMb.cells2 1 rfl
      have HMb := Lib.hid hMb
      have Hb3 := Lib.hid hb3
      have Hb4 := Lib.hid hb4
      have Hw4 := Lib.hid hw4
      clear hMb hb4 hw4 hc1 hb3
      go_upto_region 9 with (fail)
      rw [← Hw4.out]
      go_wp2_with fail
      refine (iplay_no h _ _ ds _ ((Hh.out.later Hb3.out).later Hb4.out) (Hu.out.later HMb.out.below) (by omega)).mono ?_
      rintro e w5 ⟨c, hc0', hc1, rfl, hb5⟩
      rw [show NilG = .agg #[.slice none 0 0, .slice none 0 0] from rfl]
      obtain rfl := hc1 HH.out
      have hM6 := (HMb.out.call hb5).allocAt w5.heap.size rfl #[.slice none 0 0, .slice none 0 0] 25
      obtain ⟨w6, hw6⟩ : ∃ w6, w6 = w5.alloc (.cells #[.slice none 0 0, .slice none 0 0] 25) := ⟨_, rfl⟩
      rw [← hw6] at hM6
      have HM6 := Lib.hid hM6
      have Hw6 := Lib.hid hw6
      clear hM6 hw6 hc1 hb5
      go_upto_region 10 with (fail)
      rw [← Hw6.out]
      go_wp2_with fail
      refine (outs_yes _ _ [] _ (nilT_is _) (nilT_is _)).mono ?_
      rintro e w7 ⟨rfl, hb7⟩
      have hM7 := HM6.out.call hb7
      obtain ⟨q0, q1⟩ := hM7.cells2 0 rfl
      obtain ⟨q2, q3⟩ := hM7.cells2 1 rfl
      have HM7 := Lib.hid hM7
      clear hM7 hb7
      go_wp2_with fail
      refine (graphs_same _ _ ⟨[], []⟩ _ (nilG_is _) (nilG_is _)).mono ?_
      rintro e w8 ⟨rfl, hb8⟩
      have HM8 := Lib.hid (HM7.out.call hb8)
      clear hb8
      go_wp2_with fail
      refine bodyPost_ret (v := .bool true) (by simp [results, Try.results4, go_sem]) rfl ⟨rfl, HM8.out.below⟩
set_option maxRecDepth 100000 in
set_option maxHeartbeats 4000000 in
theorem ilike_walk (w : World) (v x u : Value) (hv : ∃ g, IsGraph w v g) (hx : ∃ k : Nat, x = .int .u8 (k : Int) ∧ k < 256) (hu : ∃ ds, IsTup 5 cellsD w u ds ∧ ∀ d ∈ ds, DdOk d) :
    Calls Try.prog 4 #[v, x, u] w fun e w' => e = .returned (.bool true) ∧ Below w.heap.size w w' := by
  obtain ⟨g, hg⟩ := hv
  obtain ⟨qn, rfl, hqn⟩ := hx
  obtain ⟨q, hq⟩ : ∃ q : Int, q = (qn : Int) := ⟨_, rfl⟩
  rw [← hq]
  have hq0 : 0 ≤ q := by omega
  have hq1 : q ≤ 255 := by omega
  clear hq hqn
  obtain ⟨ds, hu, hd⟩ := hu
  by_cases hG : Good g
  · exact ilike_good g hG v u ds q hq0 hq1 w hg hu hd
  have Hg := Lib.hid hg
  have Hu := Lib.hid hu
  obtain ⟨au, cu, rfl, _⟩ := hu.slice
  obtain ⟨vo, vr, rfl, ho, hr⟩ := hg
  obtain ⟨ao, co, rfl, hlo⟩ := ho.slice
  obtain ⟨ar, cr, rfl, hlr⟩ := hr.slice
  have hM0 := (Mem.start w).alloc #[.slice ao g.objs.length co, .slice ar g.roots.length cr] 25
  have HM0 := Lib.hid hM0
  have HG := Lib.hid hG
  clear ho hr hG hu hd hM0
  go_enter Try.func4, Try.ntmps4
  go_wp2_with fail
  refine (good_no _ g _ (Hg.out.later HM0.out.below) HG.out).mono ?_
  rintro e w1 ⟨rfl, hb1⟩
  have hM1 := HM0.out.call hb1
  obtain ⟨p0, p1⟩ := hM1.cells2 0 rfl
  have HM1 := Lib.hid hM1
  clear hM1 hb1 HM0
  go_wp2_with fail
  refine (iplay_no g _ _ ds _ (Hg.out.later HM1.out.below) (Hu.out.later HM1.out.below) (fun h => HG.out h.1)).mono ?_
  rintro e w3 ⟨c, hc0, hc1, rfl, hb3⟩
  rw [show NilG = .agg #[.slice none 0 0, .slice none 0 0] from rfl]
  have HM3 := Lib.hid (HM1.out.call hb3)
  have hne : (c != 0) = true := by simp [bne, hc0]
  clear hb3 hc1 hc0
  go_wp2_with fail
  refine bodyPost_ret (v := .bool true) (by simp [results, Try.results4, go_sem]) rfl ⟨rfl, (HM3.out.alloc_ _).below⟩
end Go.Proofs.Ytmmcjjklmcfegaa
