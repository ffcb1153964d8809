/- gen.Play where it refuses; its contracts. -/
import Derived.Test.YtmmcjjklmcfegaaGkj
import Derived.Test.YtmmcjjklmcfegaaBase2
namespace Go.Proofs.Ytmmcjjklmcfegaa
open Go.RowKit Go.Shelf

def NilGr : Value := .agg #[.slice none 0 0, .slice none 0 0, .slice none 0 0]
theorem cmpRG {room : Int} (h : ¬ (1 ≤ room ∧ room ≤ 64)) : room < 1 ∨ (¬ room < 1 ∧ 64 < room) := by omega
set_option maxRecDepth 100000 in
set_option maxHeartbeats 2000000 in
theorem gplay_no (g : G) (v u : Value) (room : Int) (ds : List Dd) (w : World) (hg : IsGraph w v g) (hu : IsTup 5 cellsD w u ds) (hk : ¬ (Good g ∧ (1 ≤ room ∧ room ≤ 64) ∧ ds.length ≤ 100)) :
    Calls Try.prog 35 #[v, .int .i64 room, u] w fun e w' => ∃ c : Int, (c == 0) = false ∧ e = .returned (.tuple #[NilGr, .int .i64 c]) ∧ Below w.heap.size w w' := by
  have Hg := Lib.hid hg
  obtain ⟨au, cu, rfl, _⟩ := hu.slice
  obtain ⟨vo, vr, rfl, ho, hr⟩ := hg
  obtain ⟨ao, co, rfl, hlo⟩ := ho.slice
  obtain ⟨ar, cr, rfl, hlr⟩ := hr.slice
  have hM0 := ((Mem.start w).alloc #[.slice ao g.objs.length co, .slice ar g.roots.length cr] 25).alloc #[.slice none 0 0, .slice none 0 0, .slice none 0 0] 68
  simp only [World.size_alloc] at hM0
  have HM0 := Lib.hid hM0
  clear ho hr hu hM0
  by_cases hG : Good g
  · by_cases hR : 1 ≤ room ∧ room ≤ 64
    · have hn2 : (100 : Int) < ds.length := by
        have : ¬ ds.length ≤ 100 := fun h => hk ⟨hG, hR, h⟩
        omega
      have hr3 : ¬ room < 1 := by omega
      have hr4 : ¬ 64 < room := by omega
      have HG := Lib.hid hG
      clear hk hG hR
      go_enter Try.func35, Try.ntmps35
      go_wp2_with fail
      refine (gcheck_yes _ g _ (Hg.out.later HM0.out.below) HG.out).mono ?_
      rintro e w1 ⟨rfl, hb1⟩
      have hM1 := HM0.out.call hb1
      have p0 := hM1.cell 0 rfl 0
      have p1 := hM1.cell 0 rfl 1
      have p2 := hM1.cell 0 rfl 2
      have f0 := hM1.free 0 rfl 0
      have f1 := hM1.free 0 rfl 1
      have f2 := hM1.free 0 rfl 2
      have hM2 := ((hM1.setBox 0 rfl 0 (.slice none 0 0)).setBox 0 rfl 1 (.slice none 0 0)).setBox 0 rfl 2 (.slice none 0 0)
      have z0 := hM2.cell 0 rfl 0
      have z1 := hM2.cell 0 rfl 1
      have z2 := hM2.cell 0 rfl 2
      have HB := Lib.hid hM2.below
      clear hM1 hM2 hb1 HM0
      go_wp2
      exact bodyPost_ret (v := .tuple #[NilGr, .int .i64 1]) (by simp [results, Try.results35, go_sem, z0, z1, z2, NilGr]) rfl ⟨1, by decide, rfl, HB.out⟩
    · have HG := Lib.hid hG
      have hrr := cmpRG hR
      clear hk hG hR
      rcases hrr with hr3 | ⟨hr3, hr4⟩
      · go_enter Try.func35, Try.ntmps35
        go_wp2_with fail
        refine (gcheck_yes _ g _ (Hg.out.later HM0.out.below) HG.out).mono ?_
        rintro e w1 ⟨rfl, hb1⟩
        have hM1 := HM0.out.call hb1
        have p0 := hM1.cell 0 rfl 0
        have p1 := hM1.cell 0 rfl 1
        have p2 := hM1.cell 0 rfl 2
        have f0 := hM1.free 0 rfl 0
        have f1 := hM1.free 0 rfl 1
        have f2 := hM1.free 0 rfl 2
        have hM2 := ((hM1.setBox 0 rfl 0 (.slice none 0 0)).setBox 0 rfl 1 (.slice none 0 0)).setBox 0 rfl 2 (.slice none 0 0)
        have z0 := hM2.cell 0 rfl 0
        have z1 := hM2.cell 0 rfl 1
        have z2 := hM2.cell 0 rfl 2
        have HB := Lib.hid hM2.below
        clear hM1 hM2 hb1 HM0
        go_wp2
        exact bodyPost_ret (v := .tuple #[NilGr, .int .i64 3]) (by simp [results, Try.results35, go_sem, z0, z1, z2, NilGr]) rfl ⟨3, by decide, rfl, HB.out⟩
      · go_enter Try.func35, Try.ntmps35
        go_wp2_with fail
        refine (gcheck_yes _ g _ (Hg.out.later HM0.out.below) HG.out).mono ?_
        rintro e w1 ⟨rfl, hb1⟩
        have hM1 := HM0.out.call hb1
        have p0 := hM1.cell 0 rfl 0
        have p1 := hM1.cell 0 rfl 1
        have p2 := hM1.cell 0 rfl 2
        have f0 := hM1.free 0 rfl 0
        have f1 := hM1.free 0 rfl 1
        have f2 := hM1.free 0 rfl 2
        have hM2 := ((hM1.setBox 0 rfl 0 (.slice none 0 0)).setBox 0 rfl 1 (.slice none 0 0)).setBox 0 rfl 2 (.slice none 0 0)
        have z0 := hM2.cell 0 rfl 0
        have z1 := hM2.cell 0 rfl 1
        have z2 := hM2.cell 0 rfl 2
        have HB := Lib.hid hM2.below
        clear hM1 hM2 hb1 HM0
        go_wp2
        exact bodyPost_ret (v := .tuple #[NilGr, .int .i64 3]) (by simp [results, Try.results35, go_sem, z0, z1, z2, NilGr]) rfl ⟨3, by decide, rfl, HB.out⟩
  · have HG := Lib.hid hG
    clear hk hG
    go_enter Try.func35, Try.ntmps35
    go_wp2_with fail
    refine (gcheck_no _ g _ (Hg.out.later HM0.out.below) HG.out).mono ?_
    rintro e w1 ⟨⟨c, rfl, hc⟩, hb1⟩
    have hM1 := HM0.out.call hb1
    have p0 := hM1.cell 0 rfl 0
    have p1 := hM1.cell 0 rfl 1
    have p2 := hM1.cell 0 rfl 2
    have f0 := hM1.free 0 rfl 0
    have f1 := hM1.free 0 rfl 1
    have f2 := hM1.free 0 rfl 2
    have hM2 := ((hM1.setBox 0 rfl 0 (.slice none 0 0)).setBox 0 rfl 1 (.slice none 0 0)).setBox 0 rfl 2 (.slice none 0 0)
    have z0 := hM2.cell 0 rfl 0
    have z1 := hM2.cell 0 rfl 1
    have z2 := hM2.cell 0 rfl 2
    have HB := Lib.hid hM2.below
    clear hM1 hM2 hb1 HM0
    go_wp2
    exact bodyPost_ret (v := .tuple #[NilGr, .int .i64 c]) (by simp [results, Try.results35, go_sem, z0, z1, z2, NilGr]) rfl ⟨c, hc, rfl, HB.out⟩
theorem ages_len (s : Sm Gx) : (ages s s.os.length).length = (thereL s.os s.os.length).length := by
  unfold ages
  rw [List.length_map, List.take_of_length_le (thereL_len _ _)]
theorem ages_mem {s : Sm Gx} {p : Int × Int} : p ∈ ages s s.os.length ↔ Lives s.os p.1 ∧ p.2 = if oA s.x.old p.1 = true then 1 else 0 := by
  unfold ages
  rw [List.take_of_length_le (thereL_len _ _), List.mem_map]
  constructor
  · rintro ⟨i, hi, rfl⟩
    exact ⟨((mem_thereL (Nat.le_refl _)).1 hi).1, rfl⟩
  · rintro ⟨h1, h2⟩
    refine ⟨p.1, (mem_thereL (Nat.le_refl _)).2 ⟨h1, (lives_rng h1).2⟩, ?_⟩
    rw [← h2]
theorem ages_fst (s : Sm Gx) : (ages s s.os.length).map Prod.fst = thereL s.os s.os.length := by
  unfold ages
  rw [List.take_of_length_le (thereL_len _ _), List.map_map]
  conv => rhs; rw [← List.map_id (thereL s.os s.os.length)]
  rfl
/-- Play, in any world of this call: all three lists. -/
def GPlay3 (room : Int) (g : G) (ds : List Dd) (v u : Value) (w : World) (n nT : Nat) : Prop :=
  ∀ (X : World) (L : List Ent) (R : Ending → World → Prop), Mem w.heap.size w X L →
    (∀ aD cD aH cH aR nR cR Rl w', (∀ p ∈ Rl, (runs (gstep room) (startG g) ds).1.x.rem p = true) → Rl.length = nR → nR ≤ 1000 →
      Mem w.heap.size w w' (rowT 89 3 cellsO (.slice aD n cD) (runs (gstep room) (startG g) ds).2 :: rowT 53 2 cellsC (.slice aH nT cH) (ages (runs (gstep room) (startG g) ds).1 (runs (gstep room) (startG g) ds).1.os.length) :: rowT 53 2 cellsC (.slice aR nR cR) Rl :: L) →
      R (.returned (.tuple #[.agg #[.slice aD n cD, .slice aH nT cH, .slice aR nR cR], .int .i64 0])) w') →
    Calls Try.prog 35 #[v, .int .i64 room, u] X R
theorem gPlay3 (room : Int) (hrm : 1 ≤ room ∧ room ≤ 64) (g : G) (hG : Good g) (v u : Value) (ds : List Dd) (w : World) (hg : IsGraph w v g) (hu : IsTup 5 cellsD w u ds) (hd : ∀ d ∈ ds, DdOk d) (hn : ds.length ≤ 100) (n nT : Nat) (hnn : ds.length = n) (hnT : (ages (runs (gstep room) (startG g) ds).1 (runs (gstep room) (startG g) ds).1.os.length).length = nT) : GPlay3 room g ds v u w n nT := by
  intro X L R hM hR
  refine (gplay_yes room hrm g hG v u ds X (hg.later hM.below) (hu.later hM.below) hd hn).mono ?_
  rintro e w' ⟨s, vo, vt, vr, Rl, hs, rfl, hr1, hr2, hM2⟩
  have hl : (runs (gstep room) (startG g) ds).2.length = ds.length := runs_len _ _ _
  have hI := runsG_inv hG hrm.1 ds.length ds (Nat.le_refl _) hn
  rw [List.take_length, ← hs] at hI
  have hal : (ages s s.os.length).length ≤ 1000 := by
    rw [ages_len]
    have := thereL_len s.os s.os.length
    have := hI.1.len
    omega
  have t1 := hM2.isTup 0 rfl (fun _ => rfl) (by rw [hl]; omega)
  have t2 := hM2.isTup 1 rfl (fun _ => rfl) (by omega)
  have t3 := hM2.isTup 2 rfl (fun _ => rfl) (by omega)
  obtain ⟨aO, cO, rfl, _⟩ := t1.slice
  obtain ⟨aT, cT, rfl, _⟩ := t2.slice
  obtain ⟨aR, cR, rfl, _⟩ := t3.slice
  have hM3 := hM.callMem hM2
  subst hs
  rw [hl, hnn] at hM3 ⊢
  rw [hnT] at hM3 ⊢
  exact hR aO cO aT cT aR _ cR Rl w' hr1 rfl hr2 hM3
/-- Play again: two lists. -/
def GAgain (room : Int) (g : G) (ds : List Dd) (v u : Value) (w : World) (n nT : Nat) : Prop :=
  ∀ (X : World) (L : List Ent) (R : Ending → World → Prop), Mem w.heap.size w X L →
    (∀ aD cD aH cH aR nR cR w', Mem w.heap.size w w' (rowT 89 3 cellsO (.slice aD n cD) (runs (gstep room) (startG g) ds).2 :: rowT 53 2 cellsC (.slice aH nT cH) (ages (runs (gstep room) (startG g) ds).1 (runs (gstep room) (startG g) ds).1.os.length) :: L) →
      R (.returned (.tuple #[.agg #[.slice aD n cD, .slice aH nT cH, .slice aR nR cR], .int .i64 0])) w') →
    Calls Try.prog 35 #[v, .int .i64 room, u] X R
theorem gAgain {room : Int} {g : G} {ds : List Dd} {v u : Value} {w : World} {n nT : Nat} (h : GPlay3 room g ds v u w n nT) : GAgain room g ds v u w n nT := by
  intro X L R hM hR
  refine h X L R hM ?_
  intro aD cD aH cH aR nR cR Rl w' _ _ _ hM'
  exact hR aD cD aH cH aR nR cR w' (hM'.drop (.cons_cons _ (.cons_cons _ (List.sublist_cons_self _ _))))
def GAny (room : Int) (v u : Value) (w : World) : Prop :=
  ∀ (X : World) (L : List Ent) (R : Ending → World → Prop), Mem w.heap.size w X L →
    (∀ aD nD cD aH nH cH aK nK cK c w', Mem w.heap.size w w' L → R (.returned (.tuple #[.agg #[.slice aD nD cD, .slice aH nH cH, .slice aK nK cK], .int .i64 c])) w') →
    Calls Try.prog 35 #[v, .int .i64 room, u] X R
theorem gAny (g : G) (v u : Value) (room : Int) (ds : List Dd) (w : World) (hg : IsGraph w v g) (hu : IsTup 5 cellsD w u ds) (hd : ∀ d ∈ ds, DdOk d) : GAny room v u w := by
  intro X L R hM hR
  by_cases hk : Good g ∧ (1 ≤ room ∧ room ≤ 64) ∧ ds.length ≤ 100
  · exact gPlay3 room hk.2.1 g hk.1 v u ds w hg hu hd hk.2.2 _ _ rfl rfl X L R hM fun aD cD aH cH aR nR cR Rl w' _ _ _ hM' => hR _ _ _ _ _ _ _ _ _ _ w' (hM'.drop (.cons _ (.cons _ (.cons _ (List.Sublist.refl _)))))
  · refine (gplay_no g v u room ds X (hg.later hM.below) (hu.later hM.below) hk).mono ?_
    rintro e w' ⟨c, _, rfl, hb⟩
    exact hR _ _ _ _ _ _ _ _ _ _ w' (hM.call hb)
/-- Who was old is old. -/
theorem ages_front {g : G} (hG : Good g) {room : Int} (h1 : 1 ≤ room) {ds : List Dd} (hn : ds.length ≤ 100) {n : Nat} (hle : n ≤ ds.length) {y z : Int × Int}
    (hy : y ∈ ages (runs (gstep room) (startG g) (ds.take n)).1 (runs (gstep room) (startG g) (ds.take n)).1.os.length) (hz : z ∈ ages (runs (gstep room) (startG g) ds).1 (runs (gstep room) (startG g) ds).1.os.length) (e : y.1 = z.1) : y.2 ≤ z.2 := by
  rw [ages_mem] at hy hz
  rw [hy.2, hz.2, ← e]
  by_cases ho : oA (runs (gstep room) (startG g) (ds.take n)).1.x.old y.1 = true
  · have h2 := runsG_old hG h1 hn n (ds.length - n) (by omega) y.1 hy.1.1 ho
    rw [show n + (ds.length - n) = ds.length by omega, List.take_length] at h2
    rw [if_pos ho, if_pos h2]; exact Int.le_refl _
  · rw [if_neg ho]
    split <;> omega
end Go.Proofs.Ytmmcjjklmcfegaa
