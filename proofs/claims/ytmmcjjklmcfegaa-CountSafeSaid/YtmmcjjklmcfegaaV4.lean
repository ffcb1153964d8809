/- CountFront, walked. -/
import Derived.Test.YtmmcjjklmcfegaaV1
import Derived.Test.YtmmcjjklmcfegaaV2
import Derived.Test.YtmmcjjklmcfegaaV3
import Derived.Test.YtmmcjjklmcfegaaIn
import Derived.Deep.RegionHeld3
namespace Go.Proofs.Ytmmcjjklmcfegaa
open Go.RowKit Go.Shelf

/-- What Play tells where it may be played. -/
def CGood (g : G) (room : Int) (ds : List Dd) (w w' : World) (e : Ending) : Prop :=
  ∃ aO cO aT cT aG cG, e = .returned (.tuple #[.agg #[.slice aO ds.length cO, .slice aT (theres (runs (cKd room).step (startC g) ds).1 (runs (cKd room).step (startC g) ds).1.os.length).length cT, .slice aG (runs (cKd room).step (startC g) ds).1.x.gone.length cG], .int .i64 0]) ∧
    ds.length ≤ cO ∧ (runs (cKd room).step (startC g) ds).1.x.gone.length ≤ cG ∧ (runs (cKd room).step (startC g) ds).1.x.gone.length ≤ 1000 ∧ IsTup 3 cellsO w' (.slice aO ds.length cO) (runs (cKd room).step (startC g) ds).2 ∧
    IsTup 2 cellsC w' (.slice aT (theres (runs (cKd room).step (startC g) ds).1 (runs (cKd room).step (startC g) ds).1.os.length).length cT) (theres (runs (cKd room).step (startC g) ds).1 (runs (cKd room).step (startC g) ds).1.os.length) ∧
    IsInts w' (.slice aG (runs (cKd room).step (startC g) ds).1.x.gone.length cG) (runs (cKd room).step (startC g) ds).1.x.gone ∧ Below w.heap.size w w'
theorem theres_le (s : Sm Cx) : (theres s s.os.length).length ≤ s.os.length := by
  unfold theres
  rw [List.length_map, List.length_take]
  have := thereL_len s.os s.os.length
  omega
theorem cplay_good (g : G) (hG : Good g) (v u : Value) (room : Int) (hr : 1 ≤ room ∧ room ≤ 64) (ds : List Dd) (w : World) (hg : IsGraph w v g) (hu : IsTup 5 cellsD w u ds) (hd : ∀ d ∈ ds, DdOk d) (hn : ds.length ≤ 100) :
    Calls Try.prog 21 #[v, .int .i64 room, u] w fun e w' => CGood g room ds w w' e := by
  refine (cplay_yes g hG v u room hr.1 hr.2 ds w hg hu hd hn).mono ?_
  rintro e w' ⟨s, vo, vt, vg, hs, rfl, hM⟩
  have hI := runsC_inv hG room ds.length ds (Nat.le_refl _) hn
  rw [List.take_length] at hI
  have h1 := hI.2
  have h2 := hI.1.room
  rw [← hs] at h1 h2
  have hl : (runs (cKd room).step (startC g) ds).2.length = ds.length := runs_len _ _ _
  have t1 := hM.isTup 0 rfl (fun _ => rfl) (by rw [hl]; omega)
  have t2 := hM.isTup 1 rfl (fun _ => rfl) (by have := theres_le s; omega)
  have hgn := hI.1.gone
  have hln := hI.1.len
  rw [← hs] at hgn hln
  have t3 : IsInts w' vg s.x.gone := isInts_of_own (hM.row 2 rfl) (by omega) (fun x hx => by
    obtain ⟨h3, h4, _⟩ := (hgn x).1 hx
    exact ⟨by omega, by omega⟩)
  obtain ⟨aO, cO, rfl, _⟩ := t1.slice
  obtain ⟨aT, cT, rfl, _⟩ := t2.slice
  obtain ⟨aG, cG, rfl, _⟩ := t3.slice
  have k1 := ownCap (hM.row 0 rfl)
  have k3 := ownCap (hM.row 2 rfl)
  rw [hl] at t1 k1 ⊢
  subst hs
  exact ⟨aO, cO, aT, cT, aG, cG, rfl, k1, k3, by omega, t1, t2, t3, hM.below⟩
/-- At every input: three slices and an error. -/
theorem cplay_all (g : G) (v u : Value) (room : Int) (ds : List Dd) (w : World) (hg : IsGraph w v g) (hu : IsTup 5 cellsD w u ds) (hd : ∀ d ∈ ds, DdOk d) :
    Calls Try.prog 21 #[v, .int .i64 room, u] w fun e w' => ∃ aO nO cO aT nT cT aG nG cG c, e = .returned (.tuple #[.agg #[.slice aO nO cO, .slice aT nT cT, .slice aG nG cG], .int .i64 c]) ∧ Below w.heap.size w w' := by
  by_cases hk : Good g ∧ (1 ≤ room ∧ room ≤ 64) ∧ ds.length ≤ 100
  · refine (cplay_good g hk.1 v u room hk.2.1 ds w hg hu hd hk.2.2).mono ?_
    rintro e w' ⟨aO, cO, aT, cT, aG, cG, rfl, _, _, _, _, _, _, hb⟩
    exact ⟨_, _, _, _, _, _, _, _, _, _, rfl, hb⟩
  · refine (cplay_no g v u room ds w hg hu hk).mono ?_
    rintro e w' ⟨c, _, rfl, hb⟩
    exact ⟨_, _, _, _, _, _, _, _, _, _, rfl, hb⟩
/-- Play again, in any world of this call. -/
def CAgain (g : G) (room : Int) (ds : List Dd) (v u : Value) (w : World) (n nK : Nat) : Prop :=
  ∀ (X : World) (L : List Ent) (R : Ending → World → Prop), Mem w.heap.size w X L →
    (∀ aD cD aH nH cH aK cK w', Mem w.heap.size w w' (rowT 89 3 cellsO (.slice aD n cD) (runs (cKd room).step (startC g) ds).2 :: rowI 3 (.slice aK nK cK) (runs (cKd room).step (startC g) ds).1.x.gone :: L) →
      R (.returned (.tuple #[.agg #[.slice aD n cD, .slice aH nH cH, .slice aK nK cK], .int .i64 0])) w') →
    Calls Try.prog 21 #[v, .int .i64 room, u] X R
theorem cAgain (g : G) (hG : Good g) (v u : Value) (room : Int) (hr : 1 ≤ room ∧ room ≤ 64) (ds : List Dd) (w : World) (hg : IsGraph w v g) (hu : IsTup 5 cellsD w u ds) (hd : ∀ d ∈ ds, DdOk d) (hn : ds.length ≤ 100) (n nK : Nat) (hnn : ds.length = n) (hnK : (runs (cKd room).step (startC g) ds).1.x.gone.length = nK) : CAgain g room ds v u w n nK := by
  intro X L R hM hR
  refine (cplay_yes g hG v u room hr.1 hr.2 ds X (hg.later hM.below) (hu.later hM.below) hd hn).mono ?_
  rintro e w' ⟨s, vo, vt, vg, hs, rfl, hM2⟩
  have hI := runsC_inv hG room ds.length ds (Nat.le_refl _) hn
  rw [List.take_length] at hI
  have h1 := hI.2
  have h2 := hI.1.room
  rw [← hs] at h1 h2
  have hl : (runs (cKd room).step (startC g) ds).2.length = ds.length := runs_len _ _ _
  have t1 := hM2.isTup 0 rfl (fun _ => rfl) (by rw [hl]; omega)
  have t2 := hM2.isTup 1 rfl (fun _ => rfl) (by have := theres_le s; omega)
  obtain ⟨aO, cO, rfl, _⟩ := t1.slice
  obtain ⟨aT, cT, rfl, _⟩ := t2.slice
  obtain ⟨aG, cG, rfl⟩ := hM2.intsSlice 2 rfl
  have hM3 := hM.callMem hM2
  subst hs
  rw [hl, hnn] at hM3 ⊢
  rw [hnK] at hM3 ⊢
  refine hR aO cO aT _ cT aG cG w' (hM3.drop ?_)
  exact .cons_cons _ (.cons _ (List.Sublist.refl _))
theorem box3 {B : Nat} {w0 w : World} {L : List Ent} {C : Prop} (h : Mem B w0 w L) {b : Nat} {x y z : Value} {t : TypeId} (hm : ebox b #[x, y, z] t ∈ L)
    (k : w.cell? ⟨b, 0, none⟩ = some x → w.cell? ⟨b, 1, none⟩ = some y → w.cell? ⟨b, 2, none⟩ = some z → w.frozen? ⟨b, 0, none⟩ = false → w.frozen? ⟨b, 1, none⟩ = false → w.frozen? ⟨b, 2, none⟩ = false → b < w.heap.size → C) : C :=
  k (h.boxCell hm 0 rfl) (h.boxCell hm 1 rfl) (h.boxCell hm 2 rfl) (h.boxFree hm 0).1 (h.boxFree hm 1).1 (h.boxFree hm 2).1 (h.boxFree hm 0).2
theorem Mem.setBox0 {B : Nat} {w0 w : World} {L : List Ent} {b : Nat} {c : Array Value} {t : TypeId} {j : Nat} {u : Value} (h : Mem B w0 w (ebox b c t :: L)) : Mem B w0 (w.setCell ⟨b, j, none⟩ u) (ebox b (c.setIfInBounds j u) t :: L) := h.setBox 0 rfl j u
theorem permC {a b x : Ent} {L : List Ent} : (x :: a :: b :: L).Perm (a :: b :: x :: L) := (List.perm_middle (l₁ := [a, b])).symm
set_option maxRecDepth 100000 in
set_option maxHeartbeats 4000000 in
theorem countFront_good (g : G) (hG : Good g) (v : Value) (au : Option Addr) (cu : Nat) (room : Int) (hr : 1 ≤ room ∧ room ≤ 64) (ds : List Dd) (q : Nat) (hq : q < 256) (w : World) (hg : IsGraph w v g) (hu : IsTup 5 cellsD w (.slice au ds.length cu) ds) (hcu : ds.length ≤ cu) (hd : ∀ d ∈ ds, DdOk d) (hn : ds.length ≤ 100) :
    Calls Try.prog 5 #[v, .int .i64 room, .slice au ds.length cu, .int .u8 (q : Int)] w fun e w' => e = .returned (.bool true) ∧ Below w.heap.size w w' := by
  have Hg := Lib.hid hg
  obtain ⟨vo, vr, rfl, ho, hr⟩ := hg
  obtain ⟨ao, co, rfl, hlo⟩ := ho.slice
  obtain ⟨ar, cr, rfl, hlr⟩ := hr.slice
  rename_i hrm
  have hM0 := (Mem.start w).alloc #[.slice ao g.objs.length co, .slice ar g.roots.length cr] 25
  obtain ⟨L, hL⟩ : ∃ L, ds.length = L := ⟨_, rfl⟩
  obtain ⟨n, hn'⟩ : ∃ n, q % (L + 1) = n := ⟨_, rfl⟩
  have hnL : n ≤ L := by rw [← hn']; have := Nat.mod_lt q (show 0 < L + 1 by omega); omega
  have hln : (ds.take n).length = n := by rw [List.length_take]; omega
  have hun := isTup_take hu n (by omega)
  have hdn : ∀ d ∈ ds.take n, DdOk d := fun d h => hd d (List.mem_of_mem_take h)
  obtain ⟨n1, hn1⟩ : ∃ n1, (runs (cKd room).step (startC g) ds).1.x.gone.length = n1 := ⟨_, rfl⟩
  obtain ⟨n2, hn2⟩ : ∃ n2, (runs (cKd room).step (startC g) (ds.take n)).1.x.gone.length = n2 := ⟨_, rfl⟩
  have HP1 := Lib.hid (cAgain g hG _ _ room hrm ds w Hg.out hu hd hn L n1 hL hn1)
  have HP2 := Lib.hid (cAgain g hG _ _ room hrm (ds.take n) w Hg.out hun hdn (by omega) n n2 hln hn2)
  have hgone := gone_front hG room hn (n := n) (by omega)
  have hout := runs_front (cKd room).step (startC g) ds n
  have hlo1 : (runs (cKd room).step (startC g) ds).2.length = L := by rw [runs_len]; exact hL
  have hlo2 : (runs (cKd room).step (startC g) (ds.take n)).2.length = n := by rw [runs_len]; exact hln
  have hi1 := (runsC_inv hG room ds.length ds (Nat.le_refl _) hn)
  rw [List.take_length] at hi1
  have hi2 := (runsC_inv hG room n ds (by omega) (by omega))
  have hok : ∀ s : Sm Cx, InvK s ∧ s.os.length ≤ 24 + 100 → s.x.gone.length ≤ 1000 ∧ ∀ x ∈ s.x.gone, i64ok x := by
    rintro s ⟨h1, h2⟩
    refine ⟨by have := h1.room; omega, fun x hx => ?_⟩
    obtain ⟨h3, h4, _⟩ := (h1.gone x).1 hx
    exact ⟨by omega, by omega⟩
  have hok1 := hok _ ⟨hi1.1, by omega⟩
  have hok2 := hok _ ⟨hi2.1, by omega⟩
  obtain ⟨O1, hO1⟩ : ∃ O1, (runs (cKd room).step (startC g) ds).2 = O1 := ⟨_, rfl⟩
  obtain ⟨O2, hO2⟩ : ∃ O2, (runs (cKd room).step (startC g) (ds.take n)).2 = O2 := ⟨_, rfl⟩
  obtain ⟨G1, hG1⟩ : ∃ G1, (runs (cKd room).step (startC g) ds).1.x.gone = G1 := ⟨_, rfl⟩
  obtain ⟨G2, hG2⟩ : ∃ G2, (runs (cKd room).step (startC g) (ds.take n)).1.x.gone = G2 := ⟨_, rfl⟩
  unfold CAgain at HP1 HP2
  rw [hO1, hG1] at HP1
  rw [hO2, hG2] at HP2
  rw [hO1, hO2] at hout
  rw [hG1, hG2] at hgone
  rw [hO1] at hlo1
  rw [hO2] at hlo2
  rw [hG1] at hok1 hn1
  rw [hG2] at hok2 hn2
  have Hgone := Lib.hid hgone
  have Hout := Lib.hid hout
  have HM0 := Lib.hid hM0
  have Hlo := Lib.hid (And.intro hlo1 hlo2)
  have Hln := Lib.hid (And.intro hn1 hn2)
  have Hok := Lib.hid (And.intro hok1 hok2)
  have hmod : ((q : Int) % ((L : Int) + 1)) = (n : Int) := by rw [← hn']; simp
  have htmod : ((q : Int).tmod ((L : Int) + 1)) = (n : Int) := by rw [Int.tmod_eq_emod_of_nonneg (by omega)]; exact hmod
  have hncl : n ≤ cu := by omega
  rw [hL] at hn HP1 ⊢
  have hL0 : ¬ (L : Int) + 1 = 0 := by omega
  clear hu hd hun hdn hM0 hG hL hln hn' ho hr hcu hlo1 hlo2 hout hgone hok1 hok2 hok hi1 hi2 hO1 hO2 hG1 hG2 hn1 hn2
  go_enter Try.func5, Try.ntmps5
  go_wp2_with fail
  refine HP1.out _ _ _ HM0.out ?_
  intro aO cO aT tn cT aG cG w1 hM1
  dsimp only
  have hM1 := hM1.alloc #[.slice aO L cO, .slice aT tn cT, .slice aG n1 cG] 41
  obtain ⟨W1, hW1⟩ : ∃ W1, w1.alloc (.cells #[.slice aO L cO, .slice aT tn cT, .slice aG n1 cG] 41) = W1 := ⟨_, rfl⟩
  rw [hW1] at hM1
  obtain ⟨b9, hb9⟩ : ∃ b9, w1.heap.size = b9 := ⟨_, rfl⟩
  rw [hb9] at hM1
  have HNz := Lib.hid hM1
  have HW1 := Lib.hid hW1
  have Hb9 := Lib.hid hb9
  clear hM1 hW1 hb9 HP1 HM0
  go_upto_region 3 with (fail)
  rw [HW1.out, Hb9.out]
  clear HW1 Hb9
  go_cut [12, 13] (fun s12 s13 W => s13 = .int .i64 0 ∧ ∃ b12 aD cD aH nH cH aK cK, s12 = .pointer (some ⟨b12, 0, none⟩) ∧ Mem w.heap.size w W (ebox b12 #[.slice aD n cD, .slice aH nH cH, .slice aK n2 cK] 41 :: rowT 89 3 cellsO (.slice aD n cD) O2 :: rowI 3 (.slice aK n2 cK) G2 :: ebox b9 #[.slice aO L cO, .slice aT tn cT, .slice aG n1 cG] 41 :: rowT 89 3 cellsO (.slice aO L cO) O1 :: rowI 3 (.slice aG n1 cG) G1 :: [ebox w.heap.size #[.slice ao g.objs.length co, .slice ar g.roots.length cr] 25]))
  case first =>
    go_region_held3 (fun X => X.cell? ⟨w.heap.size, 0, none⟩ = some (.slice ao g.objs.length co) ∧ X.cell? ⟨w.heap.size, 1, none⟩ = some (.slice ar g.roots.length cr))
      (first | (refine BoxIn.both (B := w.heap.size) (w0 := w) (t := 25) ?_; apply Exists.intro; apply And.intro; (focus (repeat (first | exact hR | exact HNz.out | with_reducible apply Mem.drew | with_reducible apply Mem.alloc | with_reducible apply Mem.setBox0))); (focus (repeat (first | exact List.mem_cons_self | refine List.mem_cons_of_mem _ ?_)))) | fail)
      (first
        | (go_at_call 21
           apply HP2.out
           (focus (repeat (first | exact hR | exact HNz.out | with_reducible apply Mem.drew | with_reducible apply Mem.alloc | with_reducible apply Mem.setBox0)))
           intro aD cD aH nH cH aK cK w5 hR
           (first
             | (refine box3 hR (b := W1.heap.size) (x := .slice none 0 0) (y := .slice none 0 0) (z := .slice none 0 0) (t := 41) ?_ ?_
                (focus ((repeat (first | exact List.mem_cons_self | refine List.mem_cons_of_mem _ ?_)); done))
                intro x0 x1 x2 y0 y1 y2 z0
                replace hR := Mem.perm hR permC)
             | skip))
        | fail)
    all_goals
      go_wp2_with fail
      go_meet
      refine ⟨rfl, _, aD, cD, aH, nH, cH, aK, cK, rfl, ?_⟩
      apply mem_cps
      (focus (repeat (first | exact hR | exact HNz.out | with_reducible apply Mem.drew | with_reducible apply Mem.alloc | with_reducible apply Mem.setBox0)))
      intro hF
      exact hF
  case rest =>
    obtain ⟨rfl, b12, aD, cD, aH, nH, cH, aK, cK, rfl, hM⟩ := hcut
    clear HNz HP2
    have c0 := hM.cell 0 rfl 0
    have c1 := hM.cell 0 rfl 1
    have c2 := hM.cell 0 rfl 2
    have cb := (hM.box 0 rfl).2.1
    have d0 := hM.cell 3 rfl 0
    have d1 := hM.cell 3 rfl 1
    have d2 := hM.cell 3 rfl 2
    have db := (hM.box 3 rfl).2.1
    have hO2 := hM.isTup 1 rfl (fun _ => rfl) (by have := Hlo.out.2; omega)
    have hO1 := hM.isTup 4 rfl (fun _ => rfl) (by have := Hlo.out.1; omega)
    have hG2 := isInts_of_own (hM.row 2 rfl) (by have := Hok.out.2.1; omega) Hok.out.2.2
    have hG1 := isInts_of_own (hM.row 5 rfl) (by have := Hok.out.1.1; omega) Hok.out.1.2
    have kO := ownCap (hM.row 4 rfl)
    have kG := ownCap (hM.row 5 rfl)
    rw [Hlo.out.1] at kO
    rw [Hln.out.1] at kG
    have hle := Hgone.out.length_le
    rw [Hln.out.1, Hln.out.2] at hle
    have HPr : Hid (∀ X, Below wc.heap.size wc X → Calls Try.prog 22 #[.slice aD n cD, .slice aO L cO] X fun e w' => e = .returned (.bool true) ∧ Below X.heap.size X w') := Lib.hid fun X hX =>
      prefix_yes _ _ _ _ _ _ _ _ X (hO2.later hX) (hO1.later hX) Hout.out Hlo.out.2 Hlo.out.1 kO
    have HIn : Hid (∀ X, Below wc.heap.size wc X → Calls Try.prog 23 #[.slice aK n2 cK, .slice aG n2 cG] X fun e w' => e = .returned (.bool true) ∧ Below X.heap.size X w') := Lib.hid fun X hX => by
      have h1 := isInts_take (hG1.later hX) n2 (by rw [Hln.out.1]; exact hle)
      have h2 : G2 = G1.take n2 := by rw [← Hln.out.2]; exact List.prefix_iff_eq_take.1 Hgone.out
      rw [← h2] at h1
      have := refInts_any _ _ _ _ X (hG2.later hX) h1
      simpa using this
    have q1 : ((L : Int) == (L : Int)) = true := by simp
    have q2 : ((n : Int) == (n : Int)) = true := by simp
    have q3 : (n2 : Int) ≤ (n1 : Int) := by omega
    have q4 : decide ((n2 : Int) ≤ (n1 : Int)) = true := by simpa using q3
    have q5 : decide (n2 ≤ n1) = true := by simpa using hle
    have q6 : n2 ≤ cG := by omega
    have q7 : (n2 : Int) ≤ (cG : Int) := by omega
    have HB := Lib.hid hM.below
    clear hM hO1 hO2 hG1 hG2 kO kG
    go_upto_region 6 with (fail)
    go_region_held3 (fun X => (X.cell? ⟨b12, 0, none⟩ = some (.slice aD n cD) ∧ X.cell? ⟨b12, 2, none⟩ = some (.slice aK n2 cK)) ∧ X.cell? ⟨b9, 0, none⟩ = some (.slice aO L cO) ∧ X.cell? ⟨b9, 2, none⟩ = some (.slice aG n1 cG))
      (first | exact ⟨⟨((show Below wc.heap.size wc _ from (by repeat (first | exact Below.refl _ _ | assumption | refine Below.setCell ?_ (by first | exact Nat.le_refl _ | (simp; done) | (simp; omega) | (simp at *; omega)) _ | refine Below.alloc ?_ (by first | exact Nat.le_refl _ | (simp; done) | (simp; omega) | (simp at *; omega)) _ | refine Below.drew ?_))).cell (p := ⟨_, _, none⟩) cb).trans c0, ((show Below wc.heap.size wc _ from (by repeat (first | exact Below.refl _ _ | assumption | refine Below.setCell ?_ (by first | exact Nat.le_refl _ | (simp; done) | (simp; omega) | (simp at *; omega)) _ | refine Below.alloc ?_ (by first | exact Nat.le_refl _ | (simp; done) | (simp; omega) | (simp at *; omega)) _ | refine Below.drew ?_))).cell (p := ⟨_, _, none⟩) cb).trans c2⟩, ((show Below wc.heap.size wc _ from (by repeat (first | exact Below.refl _ _ | assumption | refine Below.setCell ?_ (by first | exact Nat.le_refl _ | (simp; done) | (simp; omega) | (simp at *; omega)) _ | refine Below.alloc ?_ (by first | exact Nat.le_refl _ | (simp; done) | (simp; omega) | (simp at *; omega)) _ | refine Below.drew ?_))).cell (p := ⟨_, _, none⟩) db).trans d0, ((show Below wc.heap.size wc _ from (by repeat (first | exact Below.refl _ _ | assumption | refine Below.setCell ?_ (by first | exact Nat.le_refl _ | (simp; done) | (simp; omega) | (simp at *; omega)) _ | refine Below.alloc ?_ (by first | exact Nat.le_refl _ | (simp; done) | (simp; omega) | (simp at *; omega)) _ | refine Below.drew ?_))).cell (p := ⟨_, _, none⟩) db).trans d2⟩ | fail)
      (first
        | (go_at_call 22
           with_reducible refine (HPr.out _ (by repeat (first | exact Below.refl _ _ | assumption | refine Below.setCell ?_ (by first | exact Nat.le_refl _ | (simp; done) | (simp; omega) | (simp at *; omega)) _ | refine Below.alloc ?_ (by first | exact Nat.le_refl _ | (simp; done) | (simp; omega) | (simp at *; omega)) _ | refine Below.drew ?_))).mono ?_
           rintro e w5 ⟨rfl, hb5⟩
           have hB5 : Below wc.heap.size wc w5 := by
             refine (show Below wc.heap.size wc _ → _ from fun h => h.trans (hb5.mono h.size)) ?_
             exact (by repeat (first | exact Below.refl _ _ | assumption | refine Below.setCell ?_ (by first | exact Nat.le_refl _ | (simp; done) | (simp; omega) | (simp at *; omega)) _ | refine Below.alloc ?_ (by first | exact Nat.le_refl _ | (simp; done) | (simp; omega) | (simp at *; omega)) _ | refine Below.drew ?_)))
        | (go_at_call 23
           with_reducible refine (HIn.out _ (by repeat (first | exact Below.refl _ _ | assumption | refine Below.setCell ?_ (by first | exact Nat.le_refl _ | (simp; done) | (simp; omega) | (simp at *; omega)) _ | refine Below.alloc ?_ (by first | exact Nat.le_refl _ | (simp; done) | (simp; omega) | (simp at *; omega)) _ | refine Below.drew ?_))).mono ?_
           rintro e w6 ⟨rfl, hb6⟩
           have hB6 : Below wc.heap.size wc w6 := by
             refine (show Below wc.heap.size wc _ → _ from fun h => h.trans (hb6.mono h.size)) ?_
             exact (by repeat (first | exact Below.refl _ _ | assumption | refine Below.setCell ?_ (by first | exact Nat.le_refl _ | (simp; done) | (simp; omega) | (simp at *; omega)) _ | refine Below.alloc ?_ (by first | exact Nat.le_refl _ | (simp; done) | (simp; omega) | (simp at *; omega)) _ | refine Below.drew ?_)))
        | fail)
    all_goals
      go_wp2
      go_ret
      exact ⟨rfl, HB.out.trans (hB6.mono HB.out.size)⟩
end Go.Proofs.Ytmmcjjklmcfegaa
