/- ideal.Play where it refuses; at every input. -/
import Derived.Test.YtmmcjjklmcfegaaS0
namespace Go.Proofs.Ytmmcjjklmcfegaa
open Go.RowKit Go.Shelf

def NilG : Value := .agg #[.slice none 0 0, .slice none 0 0]
set_option maxRecDepth 100000 in
set_option maxHeartbeats 2000000 in
theorem iplay_no (g : G) (v u : Value) (ds : List Dd) (w : World) (hg : IsGraph w v g) (hu : IsTup 5 cellsD w u ds) (hk : ¬ (Good g ∧ ds.length ≤ 100)) :
    Calls Try.prog 15 #[v, u] w fun e w' => ∃ c : Int, (c == 0) = false ∧ (Good g → c = 1) ∧ e = .returned (.tuple #[.slice none 0 0, NilG, .int .i64 c]) ∧ Below w.heap.size w w' := by
  have Hg := Lib.hid hg
  obtain ⟨au, cu, rfl, _⟩ := hu.slice
  obtain ⟨vo, vr, rfl, ho, hr⟩ := hg
  obtain ⟨ao, co, rfl, hlo⟩ := ho.slice
  obtain ⟨ar, cr, rfl, hlr⟩ := hr.slice
  have hM0 := ((Mem.start w).alloc #[.slice ao g.objs.length co, .slice ar g.roots.length cr] 25).alloc #[.slice none 0 0, .slice none 0 0] 25
  simp only [World.size_alloc] at hM0
  have HM0 := Lib.hid hM0
  clear ho hr hu hM0
  by_cases hG : Good g
  · have hn2 : (100 : Int) < ds.length := by
      have : ¬ ds.length ≤ 100 := fun h => hk ⟨hG, h⟩
      omega
    have HG := Lib.hid hG
    clear hk hG
    go_enter Try.func15, Try.ntmps15
    go_wp2_with fail
    refine (gcheck_yes _ g _ (Hg.out.later HM0.out.below) HG.out).mono ?_
    rintro e w1 ⟨rfl, hb1⟩
    have hM1 := HM0.out.call hb1
    have p0 := hM1.cell 0 rfl 0
    have p1 := hM1.cell 0 rfl 1
    have f0 := hM1.free 0 rfl 0
    have f1 := hM1.free 0 rfl 1
    have hM2 := (hM1.setBox 0 rfl 0 (.slice none 0 0)).setBox 0 rfl 1 (.slice none 0 0)
    have z0 := hM2.cell 0 rfl 0
    have z1 := hM2.cell 0 rfl 1
    have HB := Lib.hid hM2.below
    clear hM1 hM2 hb1 HM0
    go_wp2
    exact bodyPost_ret (v := .tuple #[.slice none 0 0, NilG, .int .i64 1]) (by simp [results, Try.results15, go_sem, z0, z1, NilG]) rfl ⟨1, by decide, fun _ => rfl, rfl, HB.out⟩
  · have HG := Lib.hid hG
    clear hk hG
    go_enter Try.func15, Try.ntmps15
    go_wp2_with fail
    refine (gcheck_no _ g _ (Hg.out.later HM0.out.below) HG.out).mono ?_
    rintro e w1 ⟨⟨c, rfl, hc⟩, hb1⟩
    have hM1 := HM0.out.call hb1
    have p0 := hM1.cell 0 rfl 0
    have p1 := hM1.cell 0 rfl 1
    have f0 := hM1.free 0 rfl 0
    have f1 := hM1.free 0 rfl 1
    have hM2 := (hM1.setBox 0 rfl 0 (.slice none 0 0)).setBox 0 rfl 1 (.slice none 0 0)
    have z0 := hM2.cell 0 rfl 0
    have z1 := hM2.cell 0 rfl 1
    have HB := Lib.hid hM2.below
    clear hM1 hM2 hb1 HM0
    go_wp2
    exact bodyPost_ret (v := .tuple #[.slice none 0 0, NilG, .int .i64 c]) (by simp [results, Try.results15, go_sem, z0, z1, NilG]) rfl ⟨c, hc, fun h => (HG.out h).elim, rfl, HB.out⟩
/-- Two lists of what was told, compared. -/
theorem ot_ne {a b : Ot} (h : a ≠ b) : ¬ (a.code = b.code ∧ a.ref = b.ref ∧ a.n = b.n) := by
  rintro ⟨h1, h2, h3⟩
  obtain ⟨a1, a2, a3⟩ := a
  obtain ⟨b1, b2, b3⟩ := b
  simp only at h1 h2 h3
  subst h1 h2 h3
  exact h rfl
set_option maxRecDepth 100000 in
set_option maxHeartbeats 2000000 in
theorem outs_yes (u v : Value) (l : List Ot) (w : World) (hu : IsTup 3 cellsO w u l) (hv : IsTup 3 cellsO w v l) :
    Calls Try.prog 17 #[u, v] w fun e w' => e = .returned (.bool true) ∧ Below w.heap.size w w' := by
  have Hu := Lib.hid hu
  have Hv := Lib.hid hv
  obtain ⟨au, cu, rfl, _⟩ := hu.slice
  obtain ⟨av, cv, rfl, _⟩ := hv.slice
  clear hu hv
  go_enter Try.func17, Try.ntmps17
  go_wp2
  go_loopw [5] (fun i wr => ∃ k : Nat, k ≤ l.length ∧ i = .int .i64 k ∧ Below w.heap.size w wr) (fun i _ => l.length - (intOf i).toNat)
  case atStart => exact ⟨0, Nat.zero_le _, rfl, Below.refl _ _⟩
  case round =>
    obtain ⟨k, hk, rfl, hB⟩ := hrel
    by_cases hlt : k < l.length
    · obtain ⟨o, ho⟩ := get_some _ _ hlt
      obtain ⟨b, off, cap, hv1, _, hb1, hc1⟩ := Hu.out.at hB ho
      cases hv1
      obtain ⟨b', off', cap', hv2, _, hb2, hc2⟩ := Hv.out.at hB ho
      cases hv2
      obtain ⟨oc, orf, on⟩ := o
      have c0 : wr.cell? ⟨b, off + k * 3, none⟩ = some (.int .i64 oc) := hc1 0 _ rfl
      have c1 : wr.cell? ⟨b, off + k * 3 + 1, none⟩ = some (.bool orf) := hc1 1 _ rfl
      have c2 : wr.cell? ⟨b, off + k * 3 + 2, none⟩ = some (.int .i64 on) := hc1 2 _ rfl
      have d0 : wr.cell? ⟨b', off' + k * 3, none⟩ = some (.int .i64 oc) := hc2 0 _ rfl
      have d1 : wr.cell? ⟨b', off' + k * 3 + 1, none⟩ = some (.bool orf) := hc2 1 _ rfl
      have d2 : wr.cell? ⟨b', off' + k * 3 + 2, none⟩ = some (.int .i64 on) := hc2 2 _ rfl
      have e1 : (k : Int) < l.length := by omega
      have HB := Lib.hid hB
      clear ho hc1 hc2 hB
      go_wp2
      go_quiet (fail)
      go_wp2
      go_roundw
      case rel => exact ⟨k + 1, by omega, by go_num, below_drewN HB.out _⟩
      case measure => simp [intOf]; omega
    · obtain rfl : k = l.length := by omega
      have HB := Lib.hid hB
      clear hB
      go_wp2
      go_ret
      exact ⟨rfl, HB.out⟩
end Go.Proofs.Ytmmcjjklmcfegaa
