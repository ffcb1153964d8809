/- CountFront, walked at every input. -/
import Derived.Test.YtmmcjjklmcfegaaV4
import Derived.Test.YtmmcjjklmcfegaaS6
namespace Go.Proofs.Ytmmcjjklmcfegaa
open Go.RowKit Go.Shelf

def CAny (room : Int) (v u : Value) (w : World) : Prop :=
  ∀ (X : World) (L : List Ent) (R : Ending → World → Prop), Mem w.heap.size w X L →
    (∀ aD nD cD aH nH cH aK nK cK c w', Mem w.heap.size w w' L → R (.returned (.tuple #[.agg #[.slice aD nD cD, .slice aH nH cH, .slice aK nK cK], .int .i64 c])) w') →
    Calls Try.prog 21 #[v, .int .i64 room, u] X R
theorem cAny (g : G) (v u : Value) (room : Int) (ds : List Dd) (w : World) (hg : IsGraph w v g) (hu : IsTup 5 cellsD w u ds) (hd : ∀ d ∈ ds, DdOk d) : CAny room v u w := by
  intro X L R hM hR
  refine (cplay_all g v u room ds X (hg.later hM.below) (hu.later hM.below) hd).mono ?_
  rintro e w' ⟨aD, nD, cD, aH, nH, cH, aK, nK, cK, c, rfl, hb⟩
  exact hR _ _ _ _ _ _ _ _ _ _ _ (hM.call hb)
set_option maxRecDepth 100000 in
set_option maxHeartbeats 4000000 in
theorem countFront_bad (g : G) (v : Value) (au : Option Addr) (cu : Nat) (room : Int) (ds : List Dd) (hk : ¬ (Good g ∧ (1 ≤ room ∧ room ≤ 64) ∧ ds.length ≤ 100)) (hbig : ds.length ≤ 17592186044416) (q : Nat) (hq : q < 256) (w : World) (hg : IsGraph w v g) (hu : IsTup 5 cellsD w (.slice au ds.length cu) ds) (hcu : ds.length ≤ cu) (hd : ∀ d ∈ ds, DdOk d) :
    Calls Try.prog 5 #[v, .int .i64 room, .slice au ds.length cu, .int .u8 (q : Int)] w fun e w' => e = .returned (.bool true) ∧ Below w.heap.size w w' := by
  have Hg := Lib.hid hg
  obtain ⟨vo, vr, rfl, ho, hr⟩ := hg
  obtain ⟨ao, co, rfl, hlo⟩ := ho.slice
  obtain ⟨ar, cr, rfl, hlr⟩ := hr.slice
  have hM0 := (Mem.start w).alloc #[.slice ao g.objs.length co, .slice ar g.roots.length cr] 25
  obtain ⟨L, hL⟩ : ∃ L, ds.length = L := ⟨_, rfl⟩
  obtain ⟨n, hn'⟩ : ∃ n, q % (L + 1) = n := ⟨_, rfl⟩
  have hnL : n ≤ L := by rw [← hn']; have := Nat.mod_lt q (show 0 < L + 1 by omega); omega
  have hun := isTup_take hu n (by omega)
  have hdn : ∀ d ∈ ds.take n, DdOk d := fun d h => hd d (List.mem_of_mem_take h)
  have HP1 := Lib.hid (cplay_no g _ _ room ds _ (Hg.out.later hM0.below) (hu.later hM0.below) hk)
  have HP2 := Lib.hid (cAny g _ _ room (ds.take n) w Hg.out hun hdn)
  have HM0 := Lib.hid hM0
  have hmod : ((q : Int) % ((L : Int) + 1)) = (n : Int) := by rw [← hn']; simp
  have htmod : ((q : Int).tmod ((L : Int) + 1)) = (n : Int) := by rw [Int.tmod_eq_emod_of_nonneg (by omega)]; exact hmod
  have hncl : n ≤ cu := by omega
  rw [hL] at HP1 hbig ⊢
  unfold CAny at HP2
  have hL0 : ¬ (L : Int) + 1 = 0 := by omega
  clear hu hd hun hdn hM0 hL hn' ho hr hcu hk
  go_enter Try.func5, Try.ntmps5
  go_wp2_with fail
  refine HP1.out.mono ?_
  rintro e w1 ⟨c, hc, rfl, hb1⟩
  rw [show NilC = .agg #[.slice none 0 0, .slice none 0 0, .slice none 0 0] from rfl]
  have hM1 := (HM0.out.call hb1).alloc #[.slice none 0 0, .slice none 0 0, .slice none 0 0] 41
  obtain ⟨W1, hW1⟩ : ∃ W1, w1.alloc (.cells #[.slice none 0 0, .slice none 0 0, .slice none 0 0] 41) = W1 := ⟨_, rfl⟩
  rw [hW1] at hM1
  obtain ⟨b9, hb9⟩ : ∃ b9, w1.heap.size = b9 := ⟨_, rfl⟩
  rw [hb9] at hM1
  have HNz := Lib.hid hM1
  have HW1 := Lib.hid hW1
  have Hb9 := Lib.hid hb9
  clear hM1 hW1 hb9 HP1 HM0 hb1
  have hcn : (c != 0) = true := by rw [bne, hc]; rfl
  go_upto_region 3 with (fail)
  rw [HW1.out, Hb9.out]
  clear HW1 Hb9
  go_cut [12, 13] (fun s12 s13 W => ∃ b12 c12, s12 = .pointer (some ⟨b12, 0, none⟩) ∧ s13 = .int .i64 c12 ∧ Below w.heap.size w W)
  case first =>
    go_region_held3 (fun X => X.cell? ⟨w.heap.size, 0, none⟩ = some (.slice ao g.objs.length co) ∧ X.cell? ⟨w.heap.size, 1, none⟩ = some (.slice ar g.roots.length cr))
      (first | (refine BoxIn.both (B := w.heap.size) (w0 := w) (t := 25) ?_; apply Exists.intro; apply And.intro; (focus (repeat (first | exact hR | exact HNz.out | with_reducible apply Mem.drew | with_reducible apply Mem.alloc | with_reducible apply Mem.setBox0))); (focus (repeat (first | exact List.mem_cons_self | refine List.mem_cons_of_mem _ ?_)))) | fail)
      (first
        | (go_at_call 21
           apply HP2.out
           (focus (repeat (first | exact hR | exact HNz.out | with_reducible apply Mem.drew | with_reducible apply Mem.alloc | with_reducible apply Mem.setBox0)))
           intro aD nD cD aH nH cH aK nK cK c12 w5 hR
           (first
             | (refine box3 hR (b := W1.heap.size) (x := .slice none 0 0) (y := .slice none 0 0) (z := .slice none 0 0) (t := 41) ?_ ?_
                (focus ((repeat (first | exact List.mem_cons_self | refine List.mem_cons_of_mem _ ?_)); done))
                intro x0 x1 x2 y0 y1 y2 z0)
             | skip))
        | fail)
    all_goals
      go_wp2_with fail
      go_meet
      refine ⟨_, c12, rfl, rfl, ?_⟩
      apply Mem.below
      (focus (repeat (first | exact hR | exact HNz.out | with_reducible apply Mem.drew | with_reducible apply Mem.alloc | with_reducible apply Mem.setBox0)))
  case rest =>
    obtain ⟨b12, c12, rfl, rfl, hB⟩ := hcut
    clear HNz HP2
    have HB := Lib.hid hB
    clear hB
    go_wp2
    go_ret
    exact ⟨rfl, HB.out⟩
theorem countFront_walk (W : World) (v0 v1 v2 v3 : Value) (g0 : ∃ g, IsGraph W v0 g) (g1 : ∃ x : Int, v1 = .int .i64 x ∧ i64ok x) (g2 : ∃ l : List Dd, ((IsTup 5 cellsD W v2 l ∧ ∀ d ∈ l, DdOk d) ∧ l.length ≤ 17592186044416) ∧ ∃ a c, v2 = .slice a l.length c ∧ l.length ≤ c) (g3 : ∃ k : Nat, v3 = .int .u8 (k : Int) ∧ k < 256) :
    Calls Try.prog 5 #[v0, v1, v2, v3] W fun e w' => e = .returned (.bool true) ∧ Below W.heap.size W w' := by
  obtain ⟨g, hg⟩ := g0
  obtain ⟨room, rfl, _⟩ := g1
  obtain ⟨ds, ⟨⟨hu, hd⟩, hbig⟩, a, c, rfl, hc⟩ := g2
  obtain ⟨q, rfl, hq⟩ := g3
  by_cases hk : Good g ∧ (1 ≤ room ∧ room ≤ 64) ∧ ds.length ≤ 100
  · exact countFront_good g hk.1 v0 a c room hk.2.1 ds q hq W hg hu hc hd hk.2.2
  · exact countFront_bad g v0 a c room ds hk hbig q hq W hg hu hc hd
end Go.Proofs.Ytmmcjjklmcfegaa
