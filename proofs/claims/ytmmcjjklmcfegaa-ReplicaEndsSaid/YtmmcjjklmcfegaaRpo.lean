/- ReplicaFront, walked. -/
import Derived.Test.YtmmcjjklmcfegaaBase10
import Derived.Test.YtmmcjjklmcfegaaU3
import Derived.Test.YtmmcjjklmcfegaaU4
import Derived.Deep.RegionHeld3
namespace Go.Proofs.Ytmmcjjklmcfegaa
open Go.RowKit Go.Shelf

theorem box5 {B : Nat} {w0 w : World} {L : List Ent} {C : Prop} (h : Mem B w0 w L) {b : Nat} {x y z u v : Value} {t : TypeId} (hm : ebox b #[x, y, z, u, v] t ∈ L)
    (k : w.cell? ⟨b, 0, none⟩ = some x → w.cell? ⟨b, 1, none⟩ = some y → w.cell? ⟨b, 2, none⟩ = some z → w.cell? ⟨b, 3, none⟩ = some u → w.cell? ⟨b, 4, none⟩ = some v → w.frozen? ⟨b, 0, none⟩ = false → w.frozen? ⟨b, 1, none⟩ = false → w.frozen? ⟨b, 2, none⟩ = false → w.frozen? ⟨b, 3, none⟩ = false → w.frozen? ⟨b, 4, none⟩ = false → b < w.heap.size → C) : C :=
  k (h.boxCell hm 0 rfl) (h.boxCell hm 1 rfl) (h.boxCell hm 2 rfl) (h.boxCell hm 3 rfl) (h.boxCell hm 4 rfl) (h.boxFree hm 0).1 (h.boxFree hm 1).1 (h.boxFree hm 2).1 (h.boxFree hm 3).1 (h.boxFree hm 4).1 (h.boxFree hm 0).2
theorem permP5 {a x : Ent} {L : List Ent} : (x :: a :: L).Perm (a :: x :: L) := List.Perm.swap _ _ _
def NilR : Value := .agg #[.slice none 0 0, .slice none 0 0, .int .i64 0, .int .i64 0, .int .i64 0]
set_option maxRecDepth 100000 in
set_option maxHeartbeats 2000000 in
theorem pplay_no (g : G) (v u : Value) (ds : List Dd) (w : World) (hg : IsGraph w v g) (hu : IsTup 5 cellsD w u ds) (hk : ¬ (Good g ∧ ds.length ≤ 100)) :
    Calls Try.prog 32 #[v, u] w fun e w' => ∃ c : Int, (c == 0) = false ∧ e = .returned (.tuple #[NilR, .int .i64 c]) ∧ Below w.heap.size w w' := by
  have Hg := Lib.hid hg
  obtain ⟨au, cu, rfl, _⟩ := hu.slice
  obtain ⟨vo, vr, rfl, ho, hr⟩ := hg
  obtain ⟨ao, co, rfl, hlo⟩ := ho.slice
  obtain ⟨ar, cr, rfl, hlr⟩ := hr.slice
  have hM0 := ((Mem.start w).alloc #[.slice ao g.objs.length co, .slice ar g.roots.length cr] 25).alloc #[.slice none 0 0, .slice none 0 0, .int .i64 0, .int .i64 0, .int .i64 0] 60
  simp only [World.size_alloc] at hM0
  have HM0 := Lib.hid hM0
  clear ho hr hu hM0
  by_cases hG : Good g
  · have hn2 : (100 : Int) < ds.length := by
      have : ¬ ds.length ≤ 100 := fun h => hk ⟨hG, h⟩
      omega
    have HG := Lib.hid hG
    have HC : ((1 : Int) == 0) = false := by decide
    clear hk hG
    go_enter Try.func32, Try.ntmps32
    go_wp2_with fail
    refine (gcheck_yes _ g _ (Hg.out.later HM0.out.below) HG.out).mono ?_
    rintro e w1 ⟨rfl, hb1⟩
    have hM1 := HM0.out.call hb1
    have p0 := hM1.cell 0 rfl 0
    have p1 := hM1.cell 0 rfl 1
    have p2 := hM1.cell 0 rfl 2
    have p3 := hM1.cell 0 rfl 3
    have p4 := hM1.cell 0 rfl 4
    have f0 := hM1.free 0 rfl 0
    have f1 := hM1.free 0 rfl 1
    have f2 := hM1.free 0 rfl 2
    have f3 := hM1.free 0 rfl 3
    have f4 := hM1.free 0 rfl 4
    have hM2 := ((((hM1.setBox 0 rfl 0 (.slice none 0 0)).setBox 0 rfl 1 (.slice none 0 0)).setBox 0 rfl 2 (.int .i64 0)).setBox 0 rfl 3 (.int .i64 0)).setBox 0 rfl 4 (.int .i64 0)
    have z0 := hM2.cell 0 rfl 0
    have z1 := hM2.cell 0 rfl 1
    have z2 := hM2.cell 0 rfl 2
    have z3 := hM2.cell 0 rfl 3
    have z4 := hM2.cell 0 rfl 4
    have HB := Lib.hid hM2.below
    clear hM1 hM2 hb1 HM0
    go_wp2
    exact bodyPost_ret (v := .tuple #[NilR, .int .i64 1]) (by simp [results, Try.results32, go_sem, z0, z1, z2, z3, z4, NilR]) rfl ⟨1, HC, rfl, HB.out⟩
  · have HG := Lib.hid hG
    clear hk hG
    go_enter Try.func32, Try.ntmps32
    go_wp2_with fail
    refine (gcheck_no _ g _ (Hg.out.later HM0.out.below) HG.out).mono ?_
    rintro e w1 ⟨⟨c, rfl, HC⟩, hb1⟩
    have hM1 := HM0.out.call hb1
    have p0 := hM1.cell 0 rfl 0
    have p1 := hM1.cell 0 rfl 1
    have p2 := hM1.cell 0 rfl 2
    have p3 := hM1.cell 0 rfl 3
    have p4 := hM1.cell 0 rfl 4
    have f0 := hM1.free 0 rfl 0
    have f1 := hM1.free 0 rfl 1
    have f2 := hM1.free 0 rfl 2
    have f3 := hM1.free 0 rfl 3
    have f4 := hM1.free 0 rfl 4
    have hM2 := ((((hM1.setBox 0 rfl 0 (.slice none 0 0)).setBox 0 rfl 1 (.slice none 0 0)).setBox 0 rfl 2 (.int .i64 0)).setBox 0 rfl 3 (.int .i64 0)).setBox 0 rfl 4 (.int .i64 0)
    have z0 := hM2.cell 0 rfl 0
    have z1 := hM2.cell 0 rfl 1
    have z2 := hM2.cell 0 rfl 2
    have z3 := hM2.cell 0 rfl 3
    have z4 := hM2.cell 0 rfl 4
    have HB := Lib.hid hM2.below
    clear hM1 hM2 hb1 HM0
    go_wp2
    exact bodyPost_ret (v := .tuple #[NilR, .int .i64 c]) (by simp [results, Try.results32, go_sem, z0, z1, z2, z3, z4, NilR]) rfl ⟨c, HC, rfl, HB.out⟩
/-- Play again, in any world of this call. -/
def PAgain (g : G) (ds : List Dd) (v u : Value) (w : World) (n : Nat) : Prop :=
  ∀ (X : World) (L : List Ent) (R : Ending → World → Prop), Mem w.heap.size w X L →
    (∀ aD cD aH nH cH m l w', Mem w.heap.size w w' (rowT 89 3 cellsO (.slice aD n cD) (runs pstep (startP g) ds).2 :: L) →
      R (.returned (.tuple #[.agg #[.slice aD n cD, .slice aH nH cH, .int .i64 m, .int .i64 l, .int .i64 (runs pstep (startP g) ds).1.x.times], .int .i64 0])) w') →
    Calls Try.prog 32 #[v, u] X R
theorem pAgain (g : G) (hG : Good g) (v u : Value) (ds : List Dd) (w : World) (hg : IsGraph w v g) (hu : IsTup 5 cellsD w u ds) (hd : ∀ d ∈ ds, DdOk d) (hn : ds.length ≤ 100) (n : Nat) (hnn : ds.length = n) : PAgain g ds v u w n := by
  intro X L R hM hR
  refine (pplay_yes g hG v u ds X (hg.later hM.below) (hu.later hM.below) hd hn).mono ?_
  rintro e w' ⟨s, vo, vt, hs, rfl, hM2⟩
  have hl : (runs pstep (startP g) ds).2.length = ds.length := runs_len _ _ _
  have t1 := hM2.isTup 0 rfl (fun _ => rfl) (by rw [hl]; omega)
  obtain ⟨aO, cO, rfl, _⟩ := t1.slice
  obtain ⟨aG, cG, rfl⟩ := hM2.intsSlice 1 rfl
  have hM3 := hM.callMem hM2
  subst hs
  rw [hl, hnn] at hM3 ⊢
  refine hR aO cO aG _ cG _ _ w' (hM3.drop ?_)
  exact .cons_cons _ (.cons _ (List.Sublist.refl _))
def PAny (v u : Value) (w : World) : Prop :=
  ∀ (X : World) (L : List Ent) (R : Ending → World → Prop), Mem w.heap.size w X L →
    (∀ aD nD cD aH nH cH m l t c w', Mem w.heap.size w w' L → R (.returned (.tuple #[.agg #[.slice aD nD cD, .slice aH nH cH, .int .i64 m, .int .i64 l, .int .i64 t], .int .i64 c])) w') →
    Calls Try.prog 32 #[v, u] X R
theorem pAny (g : G) (v u : Value) (ds : List Dd) (w : World) (hg : IsGraph w v g) (hu : IsTup 5 cellsD w u ds) (hd : ∀ d ∈ ds, DdOk d) : PAny v u w := by
  intro X L R hM hR
  by_cases hk : Good g ∧ ds.length ≤ 100
  · exact pAgain g hk.1 v u ds w hg hu hd hk.2 _ rfl X L R hM fun aD cD aH nH cH m l w' hM' => hR _ _ _ _ _ _ _ _ _ _ w' (hM'.drop (List.sublist_cons_self _ _))
  · refine (pplay_no g v u ds X (hg.later hM.below) (hu.later hM.below) hk).mono ?_
    rintro e w' ⟨c, _, rfl, hb⟩
    exact hR _ _ _ _ _ _ _ _ _ _ w' (hM.call hb)
set_option maxRecDepth 100000 in
set_option maxHeartbeats 4000000 in
theorem replicaFront_good (g : G) (hG : Good g) (v : Value) (au : Option Addr) (cu : Nat) (ds : List Dd) (q : Nat) (hq : q < 256) (w : World) (hg : IsGraph w v g) (hu : IsTup 5 cellsD w (.slice au ds.length cu) ds) (hcu : ds.length ≤ cu) (hd : ∀ d ∈ ds, DdOk d) (hn : ds.length ≤ 100) :
    Calls Try.prog 9 #[v, .slice au ds.length cu, .int .u8 (q : Int)] w fun e w' => e = .returned (.bool true) ∧ Below w.heap.size w w' := by
  have Hg := Lib.hid hg
  obtain ⟨vo, vr, rfl, ho, hr⟩ := hg
  obtain ⟨ao, co, rfl, hlo⟩ := ho.slice
  obtain ⟨ar, cr, rfl, hlr⟩ := hr.slice
  have hM0 := (Mem.start w).alloc #[.slice ao g.objs.length co, .slice ar g.roots.length cr] 25
  obtain ⟨L, hL⟩ : ∃ L, ds.length = L := ⟨_, rfl⟩
  obtain ⟨n, hn'⟩ : ∃ n, q % (L + 1) = n := ⟨_, rfl⟩
  have hnL : n ≤ L := by rw [← hn']; have := Nat.mod_lt q (show 0 < L + 1 by omega); omega
  have hln : (ds.take n).length = n := by rw [List.length_take]; omega
  have hun := isTup_take hu n (by omega)
  have hdn : ∀ d ∈ ds.take n, DdOk d := fun d h => hd d (List.mem_of_mem_take h)
  have HP1 := Lib.hid (pAgain g hG _ _ ds w Hg.out hu hd hn L hL)
  have HP2 := Lib.hid (pAgain g hG _ _ (ds.take n) w Hg.out hun hdn (by omega) n hln)
  have hout := runs_front pstep (startP g) ds n
  have hlo1 : (runs pstep (startP g) ds).2.length = L := by rw [runs_len]; exact hL
  have hlo2 : (runs pstep (startP g) (ds.take n)).2.length = n := by rw [runs_len]; exact hln
  have htm : (runs pstep (startP g) (ds.take n)).1.x.times ≤ (runs pstep (startP g) ds).1.x.times := by
    have := runsP_times hG (ds := ds) (by omega) n (L - n) (by omega)
    rwa [show n + (L - n) = L by omega, ← hL, List.take_length] at this
  obtain ⟨O1, hO1⟩ : ∃ O1, (runs pstep (startP g) ds).2 = O1 := ⟨_, rfl⟩
  obtain ⟨O2, hO2⟩ : ∃ O2, (runs pstep (startP g) (ds.take n)).2 = O2 := ⟨_, rfl⟩
  obtain ⟨t1, ht1⟩ : ∃ t1, (runs pstep (startP g) ds).1.x.times = t1 := ⟨_, rfl⟩
  obtain ⟨t2, ht2⟩ : ∃ t2, (runs pstep (startP g) (ds.take n)).1.x.times = t2 := ⟨_, rfl⟩
  unfold PAgain at HP1 HP2
  rw [hO1, ht1] at HP1
  rw [hO2, ht2] at HP2
  rw [hO1, hO2] at hout
  rw [ht1, ht2] at htm
  rw [hO1] at hlo1
  rw [hO2] at hlo2
  have Hout := Lib.hid hout
  have HM0 := Lib.hid hM0
  have Hlo := Lib.hid (And.intro hlo1 hlo2)
  have hmod : ((q : Int) % ((L : Int) + 1)) = (n : Int) := by rw [← hn']; simp
  have htmod : ((q : Int).tmod ((L : Int) + 1)) = (n : Int) := by rw [Int.tmod_eq_emod_of_nonneg (by omega)]; exact hmod
  have hncl : n ≤ cu := by omega
  rw [hL] at hn HP1 ⊢
  have hL0 : ¬ (L : Int) + 1 = 0 := by omega
  clear hu hd hun hdn hM0 hG hL hln hn' ho hr hcu hlo1 hlo2 hout hO1 hO2 ht1 ht2
  go_enter Try.func9, Try.ntmps9
  go_wp2_with fail
  refine HP1.out _ _ _ HM0.out ?_
  intro aO cO aT tn cT m1 l1 w1 hM1
  dsimp only
  have hM1 := hM1.alloc #[.slice aO L cO, .slice aT tn cT, .int .i64 m1, .int .i64 l1, .int .i64 t1] 60
  obtain ⟨W1, hW1⟩ : ∃ W1, w1.alloc (.cells #[.slice aO L cO, .slice aT tn cT, .int .i64 m1, .int .i64 l1, .int .i64 t1] 60) = W1 := ⟨_, rfl⟩
  rw [hW1] at hM1
  obtain ⟨b9, hb9⟩ : ∃ b9, w1.heap.size = b9 := ⟨_, rfl⟩
  rw [hb9] at hM1
  have HNz := Lib.hid hM1
  have HW1 := Lib.hid hW1
  have Hb9 := Lib.hid hb9
  clear hM1 hW1 hb9 HP1 HM0
  go_upto_region 3 with (fail)
  rw [HW1.out, Hb9.out]
  clear HW1 Hb9
  go_cut [10, 11] (fun s10 s11 W => s11 = .int .i64 0 ∧ ∃ b12 aD cD aH nH cH m2 l2, s10 = .pointer (some ⟨b12, 0, none⟩) ∧ Mem w.heap.size w W (ebox b12 #[.slice aD n cD, .slice aH nH cH, .int .i64 m2, .int .i64 l2, .int .i64 t2] 60 :: rowT 89 3 cellsO (.slice aD n cD) O2 :: ebox b9 #[.slice aO L cO, .slice aT tn cT, .int .i64 m1, .int .i64 l1, .int .i64 t1] 60 :: rowT 89 3 cellsO (.slice aO L cO) O1 :: [ebox w.heap.size #[.slice ao g.objs.length co, .slice ar g.roots.length cr] 25]))
  case first =>
    go_region_held3 (fun X => X.cell? ⟨w.heap.size, 0, none⟩ = some (.slice ao g.objs.length co) ∧ X.cell? ⟨w.heap.size, 1, none⟩ = some (.slice ar g.roots.length cr))
      (first | (refine BoxIn.both (B := w.heap.size) (w0 := w) (t := 25) ?_; apply Exists.intro; apply And.intro; (focus (repeat (first | exact hR | exact HNz.out | with_reducible apply Mem.drew | with_reducible apply Mem.alloc | with_reducible apply Mem.setBox0))); (focus (repeat (first | exact List.mem_cons_self | refine List.mem_cons_of_mem _ ?_)))) | fail)
      (first
        | (go_at_call 32
           apply HP2.out
           (focus (repeat (first | exact hR | exact HNz.out | with_reducible apply Mem.drew | with_reducible apply Mem.alloc | with_reducible apply Mem.setBox0)))
           intro aD cD aH nH cH m2 l2 w5 hR
           (first
             | (refine box5 hR (b := W1.heap.size) (x := .slice none 0 0) (y := .slice none 0 0) (z := .int .i64 0) (u := .int .i64 0) (v := .int .i64 0) (t := 60) ?_ ?_
                (focus ((repeat (first | exact List.mem_cons_self | refine List.mem_cons_of_mem _ ?_)); done))
                intro x0 x1 x2 x3 x4 y0 y1 y2 y3 y4 z0
                replace hR := Mem.perm hR permP5)
             | skip))
        | fail)
    all_goals
      go_wp2_with fail
      go_meet
      refine ⟨rfl, _, aD, cD, aH, nH, cH, m2, l2, rfl, ?_⟩
      apply mem_cps
      (focus (repeat (first | exact hR | exact HNz.out | with_reducible apply Mem.drew | with_reducible apply Mem.alloc | with_reducible apply Mem.setBox0)))
      intro hF
      exact hF
  case rest =>
    obtain ⟨rfl, b12, aD, cD, aH, nH, cH, m2, l2, rfl, hM⟩ := hcut
    clear HNz HP2
    have c0 := hM.cell 0 rfl 0
    have c4 := hM.cell 0 rfl 4
    have cb := (hM.box 0 rfl).2.1
    have d0 := hM.cell 2 rfl 0
    have d4 := hM.cell 2 rfl 4
    have db := (hM.box 2 rfl).2.1
    have hO2 := hM.isTup 1 rfl (fun _ => rfl) (by have := Hlo.out.2; omega)
    have hO1 := hM.isTup 3 rfl (fun _ => rfl) (by have := Hlo.out.1; omega)
    have kO := ownCap (hM.row 3 rfl)
    rw [Hlo.out.1] at kO
    have HPr : Hid (∀ X, Below wc.heap.size wc X → Calls Try.prog 22 #[.slice aD n cD, .slice aO L cO] X fun e w' => e = .returned (.bool true) ∧ Below X.heap.size X w') := Lib.hid fun X hX =>
      prefix_yes _ _ _ _ _ _ _ _ X (hO2.later hX) (hO1.later hX) Hout.out Hlo.out.2 Hlo.out.1 kO
    have q1 : ((L : Int) == (L : Int)) = true := by simp
    have q2 : ((n : Int) == (n : Int)) = true := by simp
    have q4 : decide (t2 ≤ t1) = true := by simpa using htm
    have HM := Lib.hid hM
    clear hM hO1 hO2 kO
    go_wp2_with fail
    refine (HPr.out _ (Below.refl _ _)).mono ?_
    rintro e w5 ⟨rfl, hb5⟩
    have hM5 := HM.out.call hb5
    have c4' := hM5.cell 0 rfl 4
    have cb' := (hM5.box 0 rfl).2.1
    have d4' := hM5.cell 2 rfl 4
    have db' := (hM5.box 2 rfl).2.1
    have HB := Lib.hid hM5.below
    clear hM5 hb5 c0 c4 cb d0 d4 db HM
    go_wp2_with fail
    go_ret
    exact ⟨rfl, HB.out⟩
set_option maxRecDepth 100000 in
set_option maxHeartbeats 4000000 in
theorem replicaFront_bad (g : G) (v : Value) (au : Option Addr) (cu : Nat) (ds : List Dd) (hk : ¬ (Good g ∧ ds.length ≤ 100)) (hbig : ds.length ≤ 17592186044416) (q : Nat) (hq : q < 256) (w : World) (hg : IsGraph w v g) (hu : IsTup 5 cellsD w (.slice au ds.length cu) ds) (hcu : ds.length ≤ cu) (hd : ∀ d ∈ ds, DdOk d) :
    Calls Try.prog 9 #[v, .slice au ds.length cu, .int .u8 (q : Int)] w fun e w' => e = .returned (.bool true) ∧ Below w.heap.size w w' := by
  have Hg := Lib.hid hg
  obtain ⟨vo, vr, rfl, ho, hr⟩ := hg
  obtain ⟨ao, co, rfl, hlo⟩ := ho.slice
  obtain ⟨ar, cr, rfl, hlr⟩ := hr.slice
  have hM0 := (Mem.start w).alloc #[.slice ao g.objs.length co, .slice ar g.roots.length cr] 25
  obtain ⟨L, hL⟩ : ∃ L, ds.length = L := ⟨_, rfl⟩
  obtain ⟨n, hn'⟩ : ∃ n, q % (L + 1) = n := ⟨_, rfl⟩
  have hnL : n ≤ L := by rw [← hn']; have := Nat.mod_lt q (show 0 < L + 1 by omega); omega
  have hun := isTup_take hu n (by omega)
  have hdn : ∀ d ∈ ds.take n, DdOk d := fun d h => hd d (List.mem_of_mem_take h)
  have HP1 := Lib.hid (pplay_no g _ _ ds _ (Hg.out.later hM0.below) (hu.later hM0.below) hk)
  have HP2 := Lib.hid (pAny g _ _ (ds.take n) w Hg.out hun hdn)
  have HM0 := Lib.hid hM0
  have hmod : ((q : Int) % ((L : Int) + 1)) = (n : Int) := by rw [← hn']; simp
  have htmod : ((q : Int).tmod ((L : Int) + 1)) = (n : Int) := by rw [Int.tmod_eq_emod_of_nonneg (by omega)]; exact hmod
  have hncl : n ≤ cu := by omega
  rw [hL] at HP1 hbig ⊢
  unfold PAny at HP2
  have hL0 : ¬ (L : Int) + 1 = 0 := by omega
  clear hu hd hun hdn hM0 hL hn' ho hr hcu hk
  go_enter Try.func9, Try.ntmps9
  go_wp2_with fail
  refine HP1.out.mono ?_
  rintro e w1 ⟨c, hc, rfl, hb1⟩
  rw [show NilR = .agg #[.slice none 0 0, .slice none 0 0, .int .i64 0, .int .i64 0, .int .i64 0] from rfl]
  have hM1 := (HM0.out.call hb1).alloc #[.slice none 0 0, .slice none 0 0, .int .i64 0, .int .i64 0, .int .i64 0] 60
  obtain ⟨W1, hW1⟩ : ∃ W1, w1.alloc (.cells #[.slice none 0 0, .slice none 0 0, .int .i64 0, .int .i64 0, .int .i64 0] 60) = W1 := ⟨_, rfl⟩
  rw [hW1] at hM1
  obtain ⟨b9, hb9⟩ : ∃ b9, w1.heap.size = b9 := ⟨_, rfl⟩
  rw [hb9] at hM1
  have HNz := Lib.hid hM1
  have HW1 := Lib.hid hW1
  have Hb9 := Lib.hid hb9
  clear hM1 hW1 hb9 HP1 HM0 hb1
  have hcn : (c != 0) = true := by rw [bne, hc]; rfl
  go_upto_region 3 with (fail)
  rw [HW1.out, Hb9.out]
  clear HW1 Hb9
  go_cut [10, 11] (fun s10 s11 W => ∃ b12 c12, s10 = .pointer (some ⟨b12, 0, none⟩) ∧ s11 = .int .i64 c12 ∧ Below w.heap.size w W)
  case first =>
    go_region_held3 (fun X => X.cell? ⟨w.heap.size, 0, none⟩ = some (.slice ao g.objs.length co) ∧ X.cell? ⟨w.heap.size, 1, none⟩ = some (.slice ar g.roots.length cr))
      (first | (refine BoxIn.both (B := w.heap.size) (w0 := w) (t := 25) ?_; apply Exists.intro; apply And.intro; (focus (repeat (first | exact hR | exact HNz.out | with_reducible apply Mem.drew | with_reducible apply Mem.alloc | with_reducible apply Mem.setBox0))); (focus (repeat (first | exact List.mem_cons_self | refine List.mem_cons_of_mem _ ?_)))) | fail)
      (first
        | (go_at_call 32
           apply HP2.out
           (focus (repeat (first | exact hR | exact HNz.out | with_reducible apply Mem.drew | with_reducible apply Mem.alloc | with_reducible apply Mem.setBox0)))
           intro aD nD cD aH nH cH m2 l2 t2 c12 w5 hR
           (first
             | (refine box5 hR (b := W1.heap.size) (x := .slice none 0 0) (y := .slice none 0 0) (z := .int .i64 0) (u := .int .i64 0) (v := .int .i64 0) (t := 60) ?_ ?_
                (focus ((repeat (first | exact List.mem_cons_self | refine List.mem_cons_of_mem _ ?_)); done))
                intro x0 x1 x2 x3 x4 y0 y1 y2 y3 y4 z0)
             | skip))
        | fail)
    all_goals
      go_wp2_with fail
      go_meet
      refine ⟨_, c12, rfl, rfl, ?_⟩
      apply Mem.below
      (focus (repeat (first | exact hR | exact HNz.out | with_reducible apply Mem.drew | with_reducible apply Mem.alloc | with_reducible apply Mem.setBox0)))
  case rest =>
    obtain ⟨b12, c12, rfl, rfl, hB⟩ := hcut
    clear HNz HP2
    have HB := Lib.hid hB
    clear hB
    go_wp2
    go_ret
    exact ⟨rfl, HB.out⟩
theorem replicaFront_walk (W : World) (v0 v1 v2 : Value) (g0 : ∃ g, IsGraph W v0 g) (g1 : ∃ l : List Dd, ((IsTup 5 cellsD W v1 l ∧ ∀ d ∈ l, DdOk d) ∧ l.length ≤ 17592186044416) ∧ ∃ a c, v1 = .slice a l.length c ∧ l.length ≤ c) (g2 : ∃ k : Nat, v2 = .int .u8 (k : Int) ∧ k < 256) :
    Calls Try.prog 9 #[v0, v1, v2] W fun e w' => e = .returned (.bool true) ∧ Below W.heap.size W w' := by
  obtain ⟨g, hg⟩ := g0
  obtain ⟨ds, ⟨⟨hu, hd⟩, hbig⟩, a, c, rfl, hc⟩ := g1
  obtain ⟨q, rfl, hq⟩ := g2
  by_cases hk : Good g ∧ ds.length ≤ 100
  · exact replicaFront_good g hk.1 v0 a c ds q hq W hg hu hc hd hk.2
  · exact replicaFront_bad g v0 a c ds hk hbig q hq W hg hu hc hd
end Go.Proofs.Ytmmcjjklmcfegaa
