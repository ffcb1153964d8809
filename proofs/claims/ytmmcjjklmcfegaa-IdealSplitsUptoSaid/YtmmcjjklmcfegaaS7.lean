/- IdealSplits: what is done behind a graph. Plain; the refused ways walked. -/
import Derived.Test.YtmmcjjklmcfegaaBase5
import Derived.Test.YtmmcjjklmcfegaaS1
import Derived.Test.YtmmcjjklmcfegaaBase6
import Derived.Test.YtmmcjjklmcfegaaBeh
import Derived.Test.YtmmcjjklmcfegaaMx
import Derived.Test.YtmmcjjklmcfegaaPm
import Derived.Deep.CutBlock
import Derived.Deep.RegionHeld3
namespace Go.Proofs.Ytmmcjjklmcfegaa
open Go.RowKit Go.Shelf

/-- Both, one behind the other, tell what the second one tells of the graph behind the first one. -/
theorem split_plain {g : G} (hG : Good g) {a b : List Dd} (hn : a.length + b.length ≤ 100) {h i : G} (hh : CanonS (gOf (runs iKd.step (startI g) a).1.regs (runs iKd.step (startI g) a).1.os) h)
    (hi : CanonS (gOf (runs iKd.step (startI g) (a ++ b)).1.regs (runs iKd.step (startI g) (a ++ b)).1.os) i) :
    (runs iKd.step (startI g) (a ++ b)).2 = (runs iKd.step (startI g) a).2 ++ (runs iKd.step (startI h) b).2 ∧ (h.roots.length = 8 ∧ (h.objs.length ≤ 24 → Good h)) ∧
      ∀ k, CanonS (gOf (runs iKd.step (startI h) b).1.regs (runs iKd.step (startI h) b).1.os) k → i = k := by
  have hI := runsI_inv hG a.length a (Nat.le_refl _) (by omega)
  rw [List.take_length] at hI
  rw [runs_append] at hi ⊢
  simp only at hi ⊢
  obtain ⟨S, hS⟩ : ∃ S, (runs iKd.step (startI g) a) = S := ⟨_, rfl⟩
  rw [hS] at hI hh hi ⊢
  obtain ⟨L, p, hsim⟩ := sim_own hI.1 hh
  obtain ⟨h1, _, L', p', h2⟩ := sim_runs b S.1 (startI h) L p hsim hI.1 (by have := hI.2; omega)
  refine ⟨by rw [h1], canon_good hI.1 hh, fun k hk => iso_canon h2.iso hi hk⟩
theorem iplay_all (g : G) (v u : Value) (ds : List Dd) (w : World) (hg : IsGraph w v g) (hu : IsTup 5 cellsD w u ds) (hd : ∀ d ∈ ds, DdOk d) :
    Calls Try.prog 15 #[v, u] w fun e w' => ∃ a1 n1 c1 a2 n2 c2 a3 n3 c3 x, (¬ (Good g ∧ ds.length ≤ 100) → (x == 0) = false) ∧ e = .returned (.tuple #[.slice a1 n1 c1, .agg #[.slice a2 n2 c2, .slice a3 n3 c3], .int .i64 x]) ∧ Below w.heap.size w w' := by
  by_cases hk : Good g ∧ ds.length ≤ 100
  · refine (iplay_yes g hk.1 v u ds w hg hu hd hk.2).mono ?_
    rintro e w' ⟨vl, v', c, rfl, _, hga, hM⟩
    obtain ⟨vo3, vr3, rfl, ho3, hr3⟩ := hga.here
    obtain ⟨ao3, co3, rfl, _⟩ := ho3.slice
    obtain ⟨ar3, cr3, rfl, _⟩ := hr3.slice
    obtain ⟨a1, n1, c1, rfl⟩ := own_slice (hM.row 0 rfl)
    exact ⟨_, _, _, _, _, _, _, _, _, _, fun h => absurd hk h, rfl, hM.below⟩
  · refine (iplay_no g v u ds w hg hu hk).mono ?_
    rintro e w' ⟨c, hc, _, rfl, hb⟩
    exact ⟨_, _, _, _, _, _, _, _, _, _, fun _ => hc, rfl, hb⟩
/-- behind, and Play at what it tells, in any world of this call. -/
def CBeh (w : World) (u v : Value) (N : Nat) (ab : List Dd) : Prop :=
  ∀ (X : World) (L : List Ent) (R : Ending → World → Prop), Mem w.heap.size w X L →
    (∀ a c w', Mem w.heap.size w w' (rowT 58 5 cellsD (.slice a N c) ab :: L) → Below X.heap.size X w' → R (.returned (.slice a N c)) w') → Calls Try.prog 16 #[u, v] X R
theorem cBeh (w : World) (u v : Value) (a b : List Dd) (hu : IsTup 5 cellsD w u a) (hv : IsTup 5 cellsD w v b) (N : Nat) (hN : a.length + b.length = N) (hn : N ≤ 4000000) : CBeh w u v N (a ++ b) := by
  intro X L R hM hR
  refine (behind_any u v a b X (hu.later hM.below) (hv.later hM.below) (by omega)).mono ?_
  rintro e w' ⟨x, rfl, hM2⟩
  have hl : (a ++ b).length = N := by rw [List.length_append, hN]
  have hT := isTup_own4 (enc := cellsD) (fun _ => rfl) (hM2.row 0 rfl) (by omega)
  obtain ⟨ax, cx, rfl, _⟩ := hT.slice
  rw [hl] at hM2 ⊢
  exact hR ax cx w' (hM.callMem hM2) hM2.below
def CPlayA (w : World) (v : Value) (N : Nat) (ab : List Dd) (P : Int → Prop) : Prop :=
  ∀ (X : World) (L : List Ent) (R : Ending → World → Prop) (a : Option Addr) (c : Nat), Mem w.heap.size w X L → rowT 58 5 cellsD (.slice a N c) ab ∈ L →
    (∀ a1 n1 c1 a2 n2 c2 a3 n3 c3 x w', P x → Mem w.heap.size w w' L → R (.returned (.tuple #[.slice a1 n1 c1, .agg #[.slice a2 n2 c2, .slice a3 n3 c3], .int .i64 x])) w') → Calls Try.prog 15 #[v, .slice a N c] X R
theorem cPlayA (w : World) (g : G) (v : Value) (ab : List Dd) (N : Nat) (hg : IsGraph w v g) (hd : ∀ d ∈ ab, DdOk d) (hl : ab.length = N) (hn : N ≤ 4000000) : CPlayA w v N ab (fun x => ¬ (Good g ∧ N ≤ 100) → (x == 0) = false) := by
  intro X L R a c hM hm hR
  obtain ⟨k, hk⟩ := List.getElem?_of_mem hm
  have hT := isTup_own4 (enc := cellsD) (fun _ => rfl) (hM.row k hk) (by omega)
  refine (iplay_all g v _ ab X (hg.later hM.below) hT hd).mono ?_
  rintro e w' ⟨a1, n1, c1, a2, n2, c2, a3, n3, c3, x, hx, rfl, hb⟩
  rw [hl] at hx
  exact hR _ _ _ _ _ _ _ _ _ _ w' hx (hM.call hb)
set_option maxRecDepth 100000 in
set_option maxHeartbeats 8000000 in
/-- Where what comes first is refused, or both are too long. -/
theorem isplit_no (g : G) (v : Value) (au av : Option Addr) (cu cv : Nat) (a b : List Dd) (hk : ¬ (Good g ∧ a.length + b.length ≤ 100)) (hbig : a.length + b.length ≤ 4000000) (w : World) (hg : IsGraph w v g) (hu : IsTup 5 cellsD w (.slice au a.length cu) a) (hv : IsTup 5 cellsD w (.slice av b.length cv) b) (hda : ∀ d ∈ a, DdOk d) (hdb : ∀ d ∈ b, DdOk d) :
    Calls Try.prog 3 #[v, .slice au a.length cu, .slice av b.length cv] w fun e w' => e = .returned (.bool true) ∧ Below w.heap.size w w' := by
  have Hg := Lib.hid hg
  obtain ⟨vo, vr, rfl, ho, hr⟩ := hg
  obtain ⟨ao, co, rfl, hlo⟩ := ho.slice
  obtain ⟨ar, cr, rfl, hlr⟩ := hr.slice
  have hM0 := (Mem.start w).alloc #[.slice ao g.objs.length co, .slice ar g.roots.length cr] 25
  obtain ⟨n, hna⟩ : ∃ n, a.length = n := ⟨_, rfl⟩
  obtain ⟨m, hnb⟩ : ∃ m, b.length = m := ⟨_, rfl⟩
  obtain ⟨N, hN⟩ : ∃ N, n + m = N := ⟨_, rfl⟩
  have hB := cBeh w _ _ a b hu hv N (by omega) (by omega)
  have hdab : ∀ d ∈ a ++ b, DdOk d := fun d h => (List.mem_append.1 h).elim (hda d) (hdb d)
  have hP := cPlayA w g _ (a ++ b) N Hg.out hdab (by rw [List.length_append]; omega) (by omega)
  obtain ⟨ab, hab⟩ : ∃ ab, a ++ b = ab := ⟨_, rfl⟩
  rw [hab] at hB hP
  unfold CBeh at hB
  unfold CPlayA at hP
  rw [hna] at hu
  rw [hna, hnb] at hk hbig hB ⊢
  rw [hN] at hk hbig
  have HB := Lib.hid hB
  have HP := Lib.hid hP
  have Hna := Lib.hid hna
  have Hk := Lib.hid hk
  have Hu := Lib.hid hu
  have HM0 := Lib.hid hM0
  have HdA := Lib.hid hda
  have hN2 : (n : Int) + (m : Int) = (N : Int) := by omega
  have HN := Lib.hid hN
  by_cases hk1 : Good g ∧ n ≤ 100
  · have hc : 100 < N := by
      have : ¬ N ≤ 100 := fun h => hk ⟨hk1.1, h⟩
      omega
    have HI := Lib.hid (iplay_yes g hk1.1 _ _ a _ (Hg.out.later hM0.below) (hu.later hM0.below) hda (by omega))
    have hcI : (100 : Int) < (N : Int) := by omega
    clear hM0 ho hr hu hv hda hdb hB hP hdab hab hna hnb hk hN
    go_enter Try.func3, Try.ntmps3
    go_wp2_with fail
    refine HI.out.mono ?_
    rintro e w1 ⟨vl, v', c, rfl, _, hga, hM1⟩
    obtain ⟨vo3, vr3, rfl, ho3, hr3⟩ := hga.here
    obtain ⟨ao3, co3, rfl, _⟩ := ho3.slice
    obtain ⟨ar3, cr3, rfl, _⟩ := hr3.slice
    obtain ⟨a1, n1, c1, rfl⟩ := own_slice (hM1.row 0 rfl)
    have hM2 := (HM0.out.callMem hM1).alloc #[.slice ao3 c.objs.length co3, .slice ar3 c.roots.length cr3] 25
    obtain ⟨W1, hW1⟩ : ∃ W1, w1.alloc (.cells #[.slice ao3 c.objs.length co3, .slice ar3 c.roots.length cr3] 25) = W1 := ⟨_, rfl⟩
    rw [hW1] at hM2
    simp only [List.cons_append, List.nil_append] at hM2
    have HNz := Lib.hid hM2
    have HW1 := Lib.hid hW1
    clear hM2 hW1 hga hM1 ho3 hr3 HI HM0
    go_upto_region 2 with (fail)
    rw [HW1.out]
    clear HW1
    go_cut [10, 11, 12] (fun s10 s11 s12 W => ∃ a10 n10 c10 x, s10 = .slice a10 n10 c10 ∧ s12 = .int .i64 x ∧ (x == 0) = false ∧ Below w.heap.size w W)
    case first =>
      go_region_held3 (fun X => X.cell? ⟨w.heap.size, 0, none⟩ = some (.slice ao g.objs.length co) ∧ X.cell? ⟨w.heap.size, 1, none⟩ = some (.slice ar g.roots.length cr))
        (first | (refine BoxIn.both (B := w.heap.size) (w0 := w) (t := 25) ?_; apply Exists.intro; apply And.intro; (focus (repeat (first | exact hR | exact HNz.out | with_reducible apply Mem.drew | with_reducible apply Mem.alloc | with_reducible apply Mem.setBox0))); (focus (repeat (first | exact List.mem_cons_self | refine List.mem_cons_of_mem _ ?_)))) | (refine boxL0 (B := w.heap.size) (w0 := w) (t := 25) (y := .slice ar g.roots.length cr) ?_; apply Exists.intro; apply And.intro; (focus (repeat (first | exact hR | exact HNz.out | with_reducible apply Mem.drew | with_reducible apply Mem.alloc | with_reducible apply Mem.setBox0))); (focus (repeat (first | exact List.mem_cons_self | refine List.mem_cons_of_mem _ ?_)))) | (refine boxL1 (B := w.heap.size) (w0 := w) (t := 25) (x := .slice ao g.objs.length co) ?_; apply Exists.intro; apply And.intro; (focus (repeat (first | exact hR | exact HNz.out | with_reducible apply Mem.drew | with_reducible apply Mem.alloc | with_reducible apply Mem.setBox0))); (focus (repeat (first | exact List.mem_cons_self | refine List.mem_cons_of_mem _ ?_)))) | fail)
        (first
          | (go_at_call 16
             apply HB.out
             (focus (repeat (first | exact hR | exact HNz.out | with_reducible apply Mem.drew | with_reducible apply Mem.alloc | with_reducible apply Mem.setBox0)))
             intro ax cx w5 hR _)
          | (go_at_call 15
             apply HP.out
             (focus (repeat (first | exact hR | exact HNz.out | with_reducible apply Mem.drew | with_reducible apply Mem.alloc | with_reducible apply Mem.setBox0)))
             (focus (repeat (first | exact List.mem_cons_self | refine List.mem_cons_of_mem _ ?_)))
             intro a1 n1 c1 a2 n2 c2 a3 n3 c3 x w6 hx hR
             (first
               | (refine box2 hR (b := W1.heap.size) (x := .slice none 0 0) (y := .slice none 0 0) (t := 25) ?_ ?_
                  (focus ((repeat (first | exact List.mem_cons_self | refine List.mem_cons_of_mem _ ?_)); done))
                  intro x0 x1 y0 y1 z0
                  change Mem w.heap.size w w6 (_ :: ebox W1.heap.size #[.slice none 0 0, .slice none 0 0] 25 :: _) at hR
                  replace hR := Mem.perm hR (List.Perm.swap _ _ _))
               | (refine box2 hR (b := w5.heap.size) (x := .slice none 0 0) (y := .slice none 0 0) (t := 25) ?_ ?_
                  (focus ((repeat (first | exact List.mem_cons_self | refine List.mem_cons_of_mem _ ?_)); done))
                  intro x0 x1 y0 y1 z0
                  change Mem w.heap.size w w6 (ebox w5.heap.size #[.slice none 0 0, .slice none 0 0] 25 :: _) at hR)
               | skip))
          | fail)
      all_goals
        go_wp2_with fail
        go_meet
        refine ⟨_, _, _, x, rfl, rfl, hx (fun h => Hk.out h), ?_⟩
        apply Mem.below
        (focus (repeat (first | exact hR | exact HNz.out | with_reducible apply Mem.drew | with_reducible apply Mem.alloc | with_reducible apply Mem.setBox0)))
    case rest =>
      obtain ⟨a10, n10, c10, x, rfl, rfl, hx, hB⟩ := hcut
      clear HNz HB HP
      have hxn : (x != 0) = true := by rw [bne, hx]; rfl
      have hcd : decide ((100 : Int) < (N : Int)) = true := by simpa using hcI
      have hwr : IntKind.i64.wrap ((n : Int) + (m : Int)) = (N : Int) := by rw [hN2, IntKind.wrap_i64]; omega
      have HBb := Lib.hid hB
      clear hB
      go_wp2
      all_goals go_ret
      all_goals exact ⟨rfl, HBb.out⟩
  · have HI := Lib.hid (iplay_no g _ _ a _ (Hg.out.later hM0.below) (hu.later hM0.below) (by rw [hna]; exact hk1))
    clear hM0 ho hr hu hv hda hdb hB hP hdab hab hna hnb hk hN
    go_enter Try.func3, Try.ntmps3
    go_wp2_with fail
    refine HI.out.mono ?_
    rintro e w1 ⟨c0, hc0, _, rfl, hb1⟩
    rw [show NilG = .agg #[.slice none 0 0, .slice none 0 0] from rfl]
    have hM2 := (HM0.out.call hb1).alloc #[.slice none 0 0, .slice none 0 0] 25
    obtain ⟨W1, hW1⟩ : ∃ W1, w1.alloc (.cells #[.slice none 0 0, .slice none 0 0] 25) = W1 := ⟨_, rfl⟩
    rw [hW1] at hM2
    have HNz := Lib.hid hM2
    have HW1 := Lib.hid hW1
    clear hM2 hW1 hb1 HI HM0
    go_upto_region 2 with (fail)
    rw [HW1.out]
    clear HW1
    go_cut [10, 11, 12] (fun s10 s11 s12 W => ∃ a10 n10 c10 x, s10 = .slice a10 n10 c10 ∧ s12 = .int .i64 x ∧ Below w.heap.size w W)
    case first =>
      go_region_held3 (fun X => X.cell? ⟨w.heap.size, 0, none⟩ = some (.slice ao g.objs.length co) ∧ X.cell? ⟨w.heap.size, 1, none⟩ = some (.slice ar g.roots.length cr))
        (first | (refine BoxIn.both (B := w.heap.size) (w0 := w) (t := 25) ?_; apply Exists.intro; apply And.intro; (focus (repeat (first | exact hR | exact HNz.out | with_reducible apply Mem.drew | with_reducible apply Mem.alloc | with_reducible apply Mem.setBox0))); (focus (repeat (first | exact List.mem_cons_self | refine List.mem_cons_of_mem _ ?_)))) | fail)
        (first
          | (go_at_call 16
             apply HB.out
             (focus (repeat (first | exact hR | exact HNz.out | with_reducible apply Mem.drew | with_reducible apply Mem.alloc | with_reducible apply Mem.setBox0)))
             intro ax cx w5 hR _)
          | (go_at_call 15
             apply HP.out
             (focus (repeat (first | exact hR | exact HNz.out | with_reducible apply Mem.drew | with_reducible apply Mem.alloc | with_reducible apply Mem.setBox0)))
             (focus (repeat (first | exact List.mem_cons_self | refine List.mem_cons_of_mem _ ?_)))
             intro a1 n1 c1 a2 n2 c2 a3 n3 c3 x w6 hx hR
             (first
               | (refine box2 hR (b := W1.heap.size) (x := .slice none 0 0) (y := .slice none 0 0) (t := 25) ?_ ?_
                  (focus ((repeat (first | exact List.mem_cons_self | refine List.mem_cons_of_mem _ ?_)); done))
                  intro x0 x1 y0 y1 z0
                  change Mem w.heap.size w w6 (_ :: ebox W1.heap.size #[.slice none 0 0, .slice none 0 0] 25 :: _) at hR
                  replace hR := Mem.perm hR (List.Perm.swap _ _ _))
               | (refine box2 hR (b := w5.heap.size) (x := .slice none 0 0) (y := .slice none 0 0) (t := 25) ?_ ?_
                  (focus ((repeat (first | exact List.mem_cons_self | refine List.mem_cons_of_mem _ ?_)); done))
                  intro x0 x1 y0 y1 z0
                  change Mem w.heap.size w w6 (ebox w5.heap.size #[.slice none 0 0, .slice none 0 0] 25 :: _) at hR)
               | skip))
          | fail)
      all_goals
        go_wp2_with fail
        go_meet
        refine ⟨_, _, _, x, rfl, rfl, ?_⟩
        apply Mem.below
        (focus (repeat (first | exact hR | exact HNz.out | with_reducible apply Mem.drew | with_reducible apply Mem.alloc | with_reducible apply Mem.setBox0)))
    case rest =>
      obtain ⟨a10, n10, c10, x, rfl, rfl, hB⟩ := hcut
      clear HNz HB HP
      have hxn : (c0 != 0) = true := by rw [bne, hc0]; rfl
      have HBb := Lib.hid hB
      clear hB
      go_wp2
      go_ret
      exact ⟨rfl, HBb.out⟩
end Go.Proofs.Ytmmcjjklmcfegaa
