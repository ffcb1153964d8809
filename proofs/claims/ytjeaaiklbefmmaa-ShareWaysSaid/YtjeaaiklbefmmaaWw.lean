/- GraphWays, walked. -/
import Derived.Test.YtjeaaiklbefmmaaWy
namespace Go.Proofs.Ytjeaaiklbefmmaa
open Go.RowKit Go.Shelf

set_option maxRecDepth 100000 in
set_option maxHeartbeats 8000000 in
theorem ways_good (g : G) (hG : Good g) (v : Value) (root : Int) (u x : Value) (wa wb : List Int) (w : World) (hg : IsGraph w v g) (hu : IsInts w u wa) (hx : IsInts w x wb) :
    Calls Try.prog 5 #[v, .int .i64 root, u, x] w fun e w' => e = .returned (.bool true) ∧ Below w.heap.size w w' := by
  have Hg := Lib.hid hg
  obtain ⟨vo, vr, rfl, ho, hr⟩ := hg
  obtain ⟨ao, co, rfl, hlo⟩ := ho.slice
  obtain ⟨ar, cr, rfl, hlr⟩ := hr.slice
  have Hu := Lib.hid hu
  have Hx := Lib.hid hx
  clear ho hr hu hx
  have hM0 := (Mem.start w).alloc #[.slice ao g.objs.length co, .slice ar g.roots.length cr] 25
  go_enter Try.func5, Try.ntmps5
  go_wp2_with fail
  refine (good_yes _ g _ (Hg.out.later hM0.below) hG).mono ?_
  rintro e w1 ⟨rfl, hb1⟩
  have hM1 := hM0.call hb1
  obtain ⟨p0, p1⟩ := hM1.cells2 0 rfl
  go_wp2_with fail
  refine (canon_any g hG _ _ (Hg.out.later hM1.below)).mono ?_
  rintro e w2 ⟨vc, c, rfl, hc, hgr, hb2⟩
  have hM2 := hM1.call hb2
  have HC := Lib.hid hgr.here
  obtain ⟨vco, vcr, rfl, hco, hcr⟩ := hgr.here
  obtain ⟨a5, c5, rfl, _⟩ := hco.slice
  obtain ⟨a6, c6, rfl, _⟩ := hcr.slice
  obtain ⟨l, dist, hF, hcl⟩ := hc
  have Hfar := Lib.hid (hF.far hG)
  have Hcl := Lib.hid hcl
  clear hgr hco hcr hF hcl
  obtain ⟨q0, q1⟩ := hM2.cells2 0 rfl
  have hsz2 : w.heap.size < w2.heap.size := (hM2.box 0 rfl).2.1
  have hM3 := hM2.alloc #[.slice a5 c.objs.length c5, .slice a6 c.roots.length c6] 25
  obtain ⟨A, hA⟩ : ∃ A, atG g root wa = A := ⟨_, rfl⟩
  obtain ⟨B, hB⟩ : ∃ B, atG g root wb = B := ⟨_, rfl⟩
  have hAc := atG_c Hfar.out root wa
  have hBc := atG_c Hfar.out root wb
  rw [← Hcl.out, hA] at hAc
  rw [← Hcl.out, hB] at hBc
  have HA := Lib.hid hA
  have HB := Lib.hid hB
  have HAc := Lib.hid hAc
  have HBc := Lib.hid hBc
  clear hA hB hAc hBc
  obtain ⟨r, hr⟩ : ∃ r, (atV A).ref = r := ⟨_, rfl⟩
  obtain ⟨n, hn⟩ : ∃ n, (atV A).n = n := ⟨_, rfl⟩
  obtain ⟨s, hs⟩ : ∃ s, A.isSome = s := ⟨_, rfl⟩
  obtain ⟨n', hn'⟩ : ∃ n', (atV (A.map (turnV (at_ l l.length)))).n = n' := ⟨_, rfl⟩
  obtain ⟨rb, hrb⟩ : ∃ r, (atV B).ref = r := ⟨_, rfl⟩
  obtain ⟨m, hm⟩ : ∃ n, (atV B).n = n := ⟨_, rfl⟩
  obtain ⟨sb, hsb⟩ : ∃ s, B.isSome = s := ⟨_, rfl⟩
  obtain ⟨m', hm'⟩ : ∃ n', (atV (B.map (turnV (at_ l l.length)))).n = n' := ⟨_, rfl⟩
  have EA : Hid (Ends g l A r s n n') := Lib.hid ⟨hr, hn, hs, hn'⟩
  have EB : Hid (Ends g l B rb sb m m') := Lib.hid ⟨hrb, hm, hsb, hm'⟩
  have a1 : ∀ e, atE (atG g root wa) e → e = .returned (.tuple #[.agg #[.bool r, .int .i64 n], .bool s]) := by
    intro e he; rw [HA.out] at he; unfold atE at he; rw [hr, hn, hs] at he; exact he
  have a2 : ∀ e, atE (atG c root wa) e → e = .returned (.tuple #[.agg #[.bool r, .int .i64 n'], .bool s]) := by
    intro e he; rw [HAc.out.1] at he; unfold atE at he; rw [atV_map_ref, hr, hn', Option.isSome_map, hs] at he; exact he
  have a3 : ∀ e, atE (atG g root wb) e → e = .returned (.tuple #[.agg #[.bool rb, .int .i64 m], .bool sb]) := by
    intro e he; rw [HB.out] at he; unfold atE at he; rw [hrb, hm, hsb] at he; exact he
  have a4 : ∀ e, atE (atG c root wb) e → e = .returned (.tuple #[.agg #[.bool rb, .int .i64 m'], .bool sb]) := by
    intro e he; rw [HBc.out.1] at he; unfold atE at he; rw [atV_map_ref, hrb, hm', Option.isSome_map, hsb] at he; exact he
  have A1 := Lib.hid a1
  have A2 := Lib.hid a2
  have A3 := Lib.hid a3
  have A4 := Lib.hid a4
  clear a1 a2 a3 a4 hr hn hs hn' hrb hm hsb hm'
  go_wp2_with fail
  refine (at_any g _ root _ wa _ (Hg.out.later hM3.below) (Hu.out.later hM3.below)).mono ?_
  rintro e w3 ⟨he, hb3⟩
  obtain rfl := A1.out e he
  have hM4 := hM3.call hb3
  obtain ⟨r0, r1⟩ := hM4.cells2 0 rfl
  obtain ⟨r2, r3⟩ := hM4.cells2 1 rfl
  have s0 : w.heap.size < w3.heap.size := (hM4.box 1 rfl).2.1
  have s1 : w2.heap.size < w3.heap.size := (hM4.box 0 rfl).2.1
  have hM5 := hM4.alloc #[.bool r, .int .i64 n] 35
  have hC3 : Below w2.heap.size w2 (w3.alloc (.cells #[.bool r, .int .i64 n] 35)) := (((Below.refl _ w2).alloc (Nat.le_refl _) _).trans (hb3.mono (by simp))).alloc (by omega) _
  go_wp2_with fail
  refine (at_any c _ root _ wa _ (HC.out.later hC3) (Hu.out.later hM5.below)).mono ?_
  rintro e w4 ⟨he2, hb4⟩
  obtain rfl := A2.out e he2
  have hM6 := hM5.call hb4
  have hC4 := hC3.trans (hb4.mono (by simp; omega))
  obtain ⟨t0, t1⟩ := hM6.cells2 1 rfl
  obtain ⟨t2, t3⟩ := hM6.cells2 2 rfl
  have s2 : w.heap.size < w4.heap.size := (hM6.box 2 rfl).2.1
  have s3 : w2.heap.size < w4.heap.size := (hM6.box 1 rfl).2.1
  have s4 : w3.heap.size < w4.heap.size := (hM6.box 0 rfl).2.1
  have hM7 := hM6.alloc #[.bool r, .int .i64 n'] 35
  go_wp2_with fail
  refine (at_any g _ root _ wb _ (Hg.out.later hM7.below) (Hx.out.later hM7.below)).mono ?_
  rintro e w5 ⟨he3, hb5⟩
  obtain rfl := A3.out e he3
  have hM8 := hM7.call hb5
  have hC5 := (hC4.alloc (o := .cells #[.bool r, .int .i64 n'] 35) (by omega)).trans (hb5.mono (by simp; omega))
  obtain ⟨u0, u1⟩ := hM8.cells2 2 rfl
  obtain ⟨u2, u3⟩ := hM8.cells2 3 rfl
  have s5 : w.heap.size < w5.heap.size := (hM8.box 3 rfl).2.1
  have s6 : w2.heap.size < w5.heap.size := (hM8.box 2 rfl).2.1
  have s7 : w3.heap.size < w5.heap.size := (hM8.box 1 rfl).2.1
  have s8 : w4.heap.size < w5.heap.size := (hM8.box 0 rfl).2.1
  have hM9 := hM8.alloc #[.bool rb, .int .i64 m] 35
  have hC6 := hC5.alloc (o := .cells #[.bool rb, .int .i64 m] 35) (by omega)
  go_wp2_with fail
  refine (at_any c _ root _ wb _ (HC.out.later hC6) (Hx.out.later hM9.below)).mono ?_
  rintro e w6 ⟨he4, hb6⟩
  obtain rfl := A4.out e he4
  have hM10 := hM9.call hb6
  obtain ⟨x0, x1⟩ := hM10.cells2 0 rfl
  obtain ⟨x2, x3⟩ := hM10.cells2 1 rfl
  obtain ⟨x4, x5⟩ := hM10.cells2 2 rfl
  have y0 : w3.heap.size < w6.heap.size := (hM10.box 2 rfl).2.1
  have y1 : w4.heap.size < w6.heap.size := (hM10.box 1 rfl).2.1
  have y2 : w5.heap.size < w6.heap.size := (hM10.box 0 rfl).2.1
  have hfin := (hM10.alloc_ (.cells #[.bool rb, .int .i64 m'] 35)).below
  clear hM0 hM1 hM2 hM3 hM4 hM5 hM6 hM7 hM8 hM9 hM10 he he2 he3 he4 hC3 hC4 hC5 hC6 hb1 hb2 hb3 hb4 hb5 hb6 p0 p1 q0 q1 r0 r1 r2 r3 t0 t1 t2 t3 u0 u1 u2 u3
  cases r with
  | false =>
    obtain rfl := EA.out.num
    cases rb with
    | false =>
      obtain rfl := EB.out.num
      cases s <;> cases sb <;> (go_wp2; go_ret; exact ⟨rfl, hfin⟩)
    | true => cases s <;> cases sb <;> (go_wp2; go_ret; exact ⟨rfl, hfin⟩)
  | true =>
    cases rb with
    | false =>
      obtain rfl := EB.out.num
      cases s <;> cases sb <;> (go_wp2; go_ret; exact ⟨rfl, hfin⟩)
    | true =>
      obtain ⟨hnl, hn2⟩ := EA.out.ref HAc.out.2
      obtain ⟨hml, hm2⟩ := EB.out.ref HBc.out.2
      have hinj := at_inj Hfar.out.inv.nodup hnl hml
      rw [← hn2, ← hm2] at hinj
      clear hn2 hm2 hnl hml
      by_cases hnm : n = m
      · have hnm' := hinj.2 hnm
        clear hinj
        subst hnm hnm'
        cases s <;> cases sb <;> (go_wp2; go_ret; exact ⟨rfl, hfin⟩)
      · have hnm' : ¬ n' = m' := fun h => hnm (hinj.1 h)
        clear hinj
        cases s <;> cases sb <;> (go_wp2; go_ret; first | exact ⟨rfl, hfin⟩ | exact ⟨by show Ending.returned (.bool ((n == m) == (n' == m'))) = _; rw [show (n == m) = false by simpa using hnm, show (n' == m') = false by simpa using hnm']; rfl, hfin⟩)

def IsI (v : Value) : Prop := ∃ m : Int, v = .int .i64 m
set_option maxRecDepth 100000 in
open Go.ChangeShapes Go.WideShapes Go.Joins in
theorem open_intV {H : Type} {enc : TypeId × Value → H} {W : World} {base : Nat} {v : Value} {d : DataW H} {p : List MemPlace}
    (hv : Value.okWide Try.prog W .any base 3 v) (h : DataW.Trod enc Try.prog W 0 (fun _ => true) true 3 v d p) : IsI v := by
  obtain ⟨x, rfl, rfl, rfl, wx⟩ := open_int Try.underlying3 hv h
  exact ⟨_, rfl⟩

set_option maxRecDepth 100000 in
open Go.WideShapes in
theorem open_intsV {H : Type} {enc : TypeId × Value → H} {W : World} {base : Nat} {v : Value} {d : DataW H} {p : List MemPlace}
    (hv : Value.okWide Try.prog W .any base 27 v) (h : DataW.Trod enc Try.prog W 0 (fun _ => true) true 27 v d p) : ∃ l, IsInts W v l := by
  obtain ⟨a, len, cap, rfl⟩ := okWide_slice Try.underlying27 hv
  obtain ⟨n, hn⟩ := h
  obtain ⟨u, l, e, hu⟩ := open_ints hn
  obtain rfl := (List.cons.inj e).1
  exact ⟨l, hu⟩

theorem ways_walk (w : World) (v rv u x : Value) (h : ∃ g, IsGraph w v g) (hr : IsI rv) (hu : ∃ l, IsInts w u l) (hx : ∃ l, IsInts w x l) :
    Calls Try.prog 5 #[v, rv, u, x] w fun e w' => e = .returned (.bool true) ∧ Below w.heap.size w w' := by
  obtain ⟨g, hg⟩ := h
  obtain ⟨root, rfl⟩ := hr
  obtain ⟨wa, hu⟩ := hu
  obtain ⟨wb, hx⟩ := hx
  by_cases hG : Good g
  · exact ways_good g hG v root u x wa wb w hg hu hx
  · have hg0 := hg
    obtain ⟨vo, vr, rfl, ho, hr⟩ := hg
    obtain ⟨ao, co, rfl, hlo⟩ := ho.slice
    obtain ⟨ar, cr, rfl, hlr⟩ := hr.slice
    have Hg := Lib.hid hg0
    have HG := Lib.hid hG
    clear ho hr hg0 hG hu hx
    have hM0 := (Mem.start w).alloc #[.slice ao g.objs.length co, .slice ar g.roots.length cr] 25
    go_enter Try.func5, Try.ntmps5
    go_wp2_with fail
    refine (good_no _ g _ (Hg.out.later hM0.below) HG.out).mono ?_
    rintro e w1 ⟨rfl, hb⟩
    have hM1 := hM0.call hb
    obtain ⟨p0, p1⟩ := hM1.cells2 0 rfl
    go_wp2_with fail
    refine (refused_yes _ g _ (Hg.out.later hM1.below) HG.out).mono ?_
    rintro e w2 ⟨rfl, hb2⟩
    have hM2 := hM1.call hb2
    go_wp2
    go_ret
    exact ⟨rfl, hM2.below⟩
end Go.Proofs.Ytjeaaiklbefmmaa
