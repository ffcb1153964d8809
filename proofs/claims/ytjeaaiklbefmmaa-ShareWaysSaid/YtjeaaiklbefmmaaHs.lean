/- ShareWays, walked. -/
import Derived.Test.YtjeaaiklbefmmaaHz
namespace Go.Proofs.Ytjeaaiklbefmmaa
open Go.RowKit Go.Shelf

set_option maxRecDepth 100000 in
set_option maxHeartbeats 4000000 in
theorem sways_good (g : G) (hG : Good g) (v : Value) (root : Int) (u : Value) (way : List Int) (w : World) (hg : IsGraph w v g) (hu : IsInts w u way) :
    Calls Try.prog 14 #[v, .int .i64 root, u] w fun e w' => e = .returned (.bool true) ∧ Below w.heap.size w w' := by
  have Hg := Lib.hid hg
  obtain ⟨vo, vr, rfl, ho, hr⟩ := hg
  obtain ⟨ao, co, rfl, hlo⟩ := ho.slice
  obtain ⟨ar, cr, rfl, hlr⟩ := hr.slice
  have Hu := Lib.hid hu
  have hn := hG.objs
  clear ho hr hu
  have hM0 := (Mem.start w).alloc #[.slice ao g.objs.length co, .slice ar g.roots.length cr] 25
  go_enter Try.func14, Try.ntmps14
  go_wp2_with fail
  refine (good_yes _ g _ (Hg.out.later hM0.below) hG).mono ?_
  rintro e w1 ⟨rfl, hb1⟩
  have hM1 := hM0.call hb1
  obtain ⟨p0, p1⟩ := hM1.cells2 0 rfl
  go_wp2_with fail
  refine (share_any g hG _ _ (Hg.out.later hM1.below)).mono ?_
  rintro e w2 ⟨vh, vl, m, rfl, hA, hgr, hl, hb2⟩
  have hM2 := hM1.call hb2
  have HC := Lib.hid hgr
  obtain ⟨s, hs⟩ : ∃ s, lots m g.objs.length = s := ⟨_, rfl⟩
  have hL := lots_ok hA g.objs.length
  rw [hs] at hL hl HC
  obtain ⟨h, hh⟩ : ∃ h, quo g s = h := ⟨_, rfl⟩
  have hwy := atG_q hG hA hL root way
  rw [hh] at hwy HC
  obtain ⟨vco, vcr, rfl, hco, hcr⟩ := HC.out
  obtain ⟨a5, c5, rfl, _⟩ := hco.slice
  obtain ⟨a6, c6, rfl, _⟩ := hcr.slice
  obtain ⟨a7, c7, hv7, _⟩ := hl.slice
  rw [hL.len] at hv7
  subst hv7
  have HL := Lib.hid hL
  have Hl := Lib.hid hl
  clear hgr hco hcr hA hs hL hl hh
  obtain ⟨q0, q1⟩ := hM2.cells2 0 rfl
  have hsz2 : w.heap.size < w2.heap.size := (hM2.box 0 rfl).2.1
  have hM3 := hM2.alloc #[.slice a5 h.objs.length c5, .slice a6 h.roots.length c6] 25
  obtain ⟨A, hA⟩ : ∃ A, atG g root way = A := ⟨_, rfl⟩
  rw [hA] at hwy
  obtain ⟨r, hr⟩ : ∃ r, (atV A).ref = r := ⟨_, rfl⟩
  obtain ⟨n, hn⟩ : ∃ n, (atV A).n = n := ⟨_, rfl⟩
  obtain ⟨is, hs⟩ : ∃ s, A.isSome = s := ⟨_, rfl⟩
  obtain ⟨n', hn'⟩ : ∃ n', (atV (A.map (turnV (lotOf s)))).n = n' := ⟨_, rfl⟩
  have a1 : ∀ e, atE (atG g root way) e → e = .returned (.tuple #[.agg #[.bool r, .int .i64 n], .bool is]) := by
    intro e he; rw [hA] at he; unfold atE at he; rw [hr, hn, hs] at he; exact he
  have a2 : ∀ e, atE (atG h root way) e → e = .returned (.tuple #[.agg #[.bool r, .int .i64 n'], .bool is]) := by
    intro e he; rw [hwy.1] at he; unfold atE at he; rw [atV_map_ref, hr, hn', Option.isSome_map, hs] at he; exact he
  have hfalse : r = false → n' = n := by
    intro h0
    rw [← hn, ← hn']
    cases A with
    | none => rfl
    | some x =>
      simp only [atV, Option.map_some, Option.getD_some] at hr ⊢
      unfold turnV
      rw [if_neg (by rw [hr, h0]; simp)]
  have htrue : r = true → (0 ≤ n ∧ n < g.objs.length) ∧ n' = lotOf s n := by
    intro h0
    rw [← hn, ← hn']
    cases A with
    | none => rw [← hr] at h0; cases h0
    | some x =>
      simp only [atV, Option.map_some, Option.getD_some] at hr ⊢
      have hx : x.ref = true := by rw [hr, h0]
      refine ⟨ref_in hG (hwy.2 x rfl) hx, ?_⟩
      unfold turnV
      rw [if_pos hx]
  have A1 := Lib.hid a1
  have A2 := Lib.hid a2
  have HF := Lib.hid hfalse
  have HT := Lib.hid htrue
  clear a1 a2 hfalse htrue hr hn hs hn' hA hwy
  go_wp2_with fail
  refine (at_any g _ root _ way _ (Hg.out.later hM3.below) (Hu.out.later hM3.below)).mono ?_
  rintro e w3 ⟨he, hb3⟩
  obtain rfl := A1.out e he
  have hM4 := hM3.call hb3
  obtain ⟨r0, r1⟩ := hM4.cells2 0 rfl
  obtain ⟨r2, r3⟩ := hM4.cells2 1 rfl
  have s0 : w.heap.size < w3.heap.size := (hM4.box 1 rfl).2.1
  have s1 : w2.heap.size < w3.heap.size := (hM4.box 0 rfl).2.1
  have hM5 := hM4.alloc #[.bool r, .int .i64 n] 35
  have hC3 : Below w2.heap.size w2 (w3.alloc (.cells #[.bool r, .int .i64 n] 35)) := (((Below.refl _ w2).alloc (Nat.le_refl _) _).trans (hb3.mono (by simp))).alloc (by omega) _
  go_wp2_with fail
  refine (at_any h _ root _ way _ (HC.out.later hC3) (Hu.out.later hM5.below)).mono ?_
  rintro e w4 ⟨he2, hb4⟩
  obtain rfl := A2.out e he2
  have hM6 := hM5.call hb4
  have hC4 := hC3.trans (hb4.mono (by simp; omega))
  obtain ⟨t0, t1⟩ := hM6.cells2 0 rfl
  have s2 : w.heap.size < w4.heap.size := (hM6.box 2 rfl).2.1
  have s3 : w2.heap.size < w4.heap.size := (hM6.box 1 rfl).2.1
  have s4 : w3.heap.size < w4.heap.size := (hM6.box 0 rfl).2.1
  have hM7 := hM6.alloc #[.bool r, .int .i64 n'] 35
  have hb7 := hM7.below
  have hbe : ∀ k, Below w.heap.size w ((w4.alloc (.cells #[.bool r, .int .i64 n'] 35)).drewN k) := fun k => below_drewN hb7 k
  have Hbe := Lib.hid hbe
  have Hb7 := Lib.hid hb7
  have Hl4 := Lib.hid (Hl.out.later (hC4.alloc (o := .cells #[.bool r, .int .i64 n'] 35) (by omega)))
  clear hM0 hM1 hM2 hM3 hM4 hM5 hM6 hM7 hbe hb7 hb1 hb2 hb3 hb4 he he2 hC3 hC4 p0 p1 q0 q1 r0 r1 r2 r3
  cases r with
  | false =>
    obtain rfl := HF.out rfl
    cases is <;> (go_wp2; go_ret; exact ⟨rfl, Hb7.out⟩)
  | true =>
    obtain ⟨⟨h0, h1⟩, h2⟩ := HT.out rfl
    obtain ⟨q, rfl⟩ : ∃ q : Nat, n = (q : Int) := ⟨n.toNat, by omega⟩
    have hq : q < g.objs.length := by omega
    obtain ⟨z, hz⟩ := get_some s.2 q (by rw [HL.out.len]; exact hq)
    have hz2 : n' = z := by rw [h2]; unfold lotOf; rw [Int.toNat_natCast, List.getD_eq_getElem?_getD, hz]; rfl
    subst hz2
    obtain ⟨bz, oz, cz, hv, hbz, hnz, d1, _⟩ := Hl4.out.at (Below.refl _ _) hz
    rw [HL.out.len] at hv
    cases hv
    clear hz h2 h0 h1
    cases is
    all_goals
      go_wp2
      go_quiet (fail)
      go_wp2
      go_ret
      exact ⟨rfl, Hbe.out _⟩

theorem sways_walk (w : World) (v rv u : Value) (h : ∃ g, IsGraph w v g) (hr : IsI rv) (hu : ∃ l, IsInts w u l) :
    Calls Try.prog 14 #[v, rv, u] w fun e w' => e = .returned (.bool true) ∧ Below w.heap.size w w' := by
  obtain ⟨g, hg⟩ := h
  obtain ⟨root, rfl⟩ := hr
  obtain ⟨way, hu⟩ := hu
  by_cases hG : Good g
  · exact sways_good g hG v root u way w hg hu
  · have hg0 := hg
    obtain ⟨vo, vr, rfl, ho, hr⟩ := hg
    obtain ⟨ao, co, rfl, hlo⟩ := ho.slice
    obtain ⟨ar, cr, rfl, hlr⟩ := hr.slice
    have Hg := Lib.hid hg0
    have HG := Lib.hid hG
    clear ho hr hg0 hG hu
    have hM0 := (Mem.start w).alloc #[.slice ao g.objs.length co, .slice ar g.roots.length cr] 25
    go_enter Try.func14, Try.ntmps14
    go_wp2_with fail
    refine (good_no _ g _ (Hg.out.later hM0.below) HG.out).mono ?_
    rintro e w1 ⟨rfl, hb⟩
    have hM1 := hM0.call hb
    obtain ⟨p0, p1⟩ := hM1.cells2 0 rfl
    go_wp2_with fail
    refine (refused_yes _ g _ (Hg.out.later hM1.below) HG.out).mono ?_
    rintro e w2 ⟨rfl, hb2⟩
    have hM2 := hM1.call hb2
    go_wp2
    go_ret
    exact ⟨rfl, hM2.below⟩
end Go.Proofs.Ytjeaaiklbefmmaa
