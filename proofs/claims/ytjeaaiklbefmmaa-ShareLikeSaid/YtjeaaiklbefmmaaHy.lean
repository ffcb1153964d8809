/- ShareLike, walked. -/
import Derived.Test.YtjeaaiklbefmmaaHx
import Derived.Test.YtjeaaiklbefmmaaIn
namespace Go.Proofs.Ytjeaaiklbefmmaa
open Go.RowKit Go.Shelf

/-- What Told says at the least: a code that is 0 just if it may be asked. -/
def ToldCode (g : G) (p : Int × Int) (w w' : World) (e : Ending) : Prop := ∃ (vl : Value) (is : Bool) (c : Int), e = .returned (.tuple #[vl, .bool is, .int .i64 c]) ∧ ((c != 0) = true ∨ (Good g ∧ inO g p)) ∧ Below w.heap.size w w'
theorem told_code (g : G) (v : Value) (a b : Int) (w : World) (hg : IsGraph w v g) :
    Calls Try.prog 36 #[v, .int .i64 a, .int .i64 b] w fun e w' => ToldCode g (a, b) w w' e := by
  by_cases hG : Good g
  · by_cases hab : inO g (a, b)
    · obtain ⟨⟨h1, h2⟩, h3, h4⟩ := hab
      simp only at h1 h2 h3 h4
      obtain ⟨i, rfl⟩ : ∃ i : Nat, a = (i : Int) := ⟨a.toNat, by omega⟩
      obtain ⟨j, rfl⟩ : ∃ j : Nat, b = (j : Int) := ⟨b.toNat, by omega⟩
      refine (told_yes g hG v i j w hg (by omega) (by omega)).mono ?_
      rintro e w' ⟨m, vl, l, _, _, rfl, _, hM⟩
      exact ⟨_, _, _, rfl, .inr ⟨hG, inO_mk h1 h2 h3 h4⟩, hM.below⟩
    · refine (told_off g hG v a b w hg hab).mono ?_
      rintro e w' ⟨rfl, hb⟩
      exact ⟨_, _, _, rfl, .inl rfl, hb⟩
  · refine (told_no g v a b w hg hG).mono ?_
    rintro e w' ⟨⟨c, hc, rfl⟩, hb⟩
    exact ⟨_, _, _, rfl, .inl (by simp [bne, hc]), hb⟩
theorem ints_three {a b c : Int} (ha : i64ok a) (hb : i64ok b) (hc : i64ok c) (w : World) : IsInts (w.alloc (.cells #[.int .i64 a, .int .i64 b, .int .i64 c] 3)) (.slice (some ⟨w.heap.size, 0, none⟩) 3 3) [a, b, c] :=
  isInts_new w [a, b, c] 3 #[.int .i64 a, .int .i64 b, .int .i64 c] rfl (by simp) (by intro x hx; simp at hx; rcases hx with rfl | rfl | rfl <;> assumption)

set_option maxRecDepth 100000 in
set_option maxHeartbeats 4000000 in
theorem slike_bad (g : G) (v : Value) (a b c : Int) (w : World) (hg : IsGraph w v g) (ha : i64ok a) (hb : i64ok b) (hc : i64ok c) (hbad : ¬ (Good g ∧ inO g (a, b) ∧ inO g (b, c))) :
    Calls Try.prog 13 #[v, .int .i64 a, .int .i64 b, .int .i64 c] w fun e w' => e = .returned (.bool true) ∧ Below w.heap.size w w' := by
  have Hg := Lib.hid hg
  obtain ⟨vo, vr, rfl, ho, hr⟩ := hg
  obtain ⟨ao, co, rfl, hlo⟩ := ho.slice
  obtain ⟨ar, cr, rfl, hlr⟩ := hr.slice
  have Hbad := Lib.hid hbad
  have Ha := Lib.hid ha
  have Hb := Lib.hid hb
  have Hc := Lib.hid hc
  clear ho hr hbad ha hb hc
  have hM0 := (Mem.start w).alloc #[.slice ao g.objs.length co, .slice ar g.roots.length cr] 25
  go_enter Try.func13, Try.ntmps13
  go_wp2_with fail
  refine (told_code g _ a b _ (Hg.out.later hM0.below)).mono ?_
  rintro e w1 ⟨vl1, is1, c1, rfl, h1, hb1⟩
  have hM1 := hM0.call hb1
  obtain ⟨p0, p1⟩ := hM1.cells2 0 rfl
  have H1 := Lib.hid h1
  clear h1
  go_wp2_with fail
  refine (told_code g _ b a _ (Hg.out.later hM1.below)).mono ?_
  rintro e w2 ⟨vl2, is2, c2, rfl, h2, hb2⟩
  have hM2 := hM1.call hb2
  obtain ⟨p2, p3⟩ := hM2.cells2 0 rfl
  clear h2
  go_wp2_with fail
  refine (told_code g _ b c _ (Hg.out.later hM2.below)).mono ?_
  rintro e w3 ⟨vl3, is3, c3, rfl, h3, hb3⟩
  have hM3 := hM2.call hb3
  obtain ⟨p4, p5⟩ := hM3.cells2 0 rfl
  have H3 := Lib.hid h3
  clear h3
  go_wp2_with fail
  refine (told_code g _ a c _ (Hg.out.later hM3.below)).mono ?_
  rintro e w4 ⟨vl4, is4, c4, rfl, h4, hb4⟩
  have hM4 := hM3.call hb4
  obtain ⟨p6, p7⟩ := hM4.cells2 0 rfl
  clear h4
  have hor : (c1 != 0) = true ∨ (c3 != 0) = true := by
    rcases H1.out with h | h
    · exact .inl h
    · rcases H3.out with h' | h'
      · exact .inr h'
      · exact (Hbad.out ⟨h.1, h.2, h'.2⟩).elim
  have HM4 := Lib.hid hM4
  clear hM0 hM1 hM2 hM3 hM4 hb1 hb2 hb3 hb4 p0 p1 p2 p3 p4 p5
  by_cases hG : Good g
  · go_wp2_with fail
    refine (good_yes _ g _ (Hg.out.later HM4.out.below) hG).mono ?_
    rintro e w5 ⟨rfl, hb5⟩
    have hM5 := HM4.out.call hb5
    obtain ⟨q0, q1⟩ := hM5.cells2 0 rfl
    have hout : ∃ x ∈ [a, b, c], x < 0 ∨ (g.objs.length : Int) ≤ x := by
      by_cases hab : inO g (a, b)
      · have : ¬ inO g (b, c) := fun h => Hbad.out ⟨hG, hab, h⟩
        obtain ⟨x, hx, h⟩ := out_of this
        exact ⟨x, by simp at hx ⊢; exact .inr hx, h⟩
      · obtain ⟨x, hx, h⟩ := out_of hab
        exact ⟨x, by simp at hx ⊢; rcases hx with rfl | rfl <;> simp, h⟩
    go_wp2_with fail
    refine (within_off g.objs.length _ [a, b, c] _ (ints_three Ha.out Hb.out Hc.out w5) hout).mono ?_
    rintro e w6 ⟨rfl, rfl⟩
    have hbe := Lib.hid (hM5.alloc_ (.cells #[.int .i64 a, .int .i64 b, .int .i64 c] 3)).below
    clear hM5 hb5 hout
    by_cases hc1 : (c1 != 0) = true
    · clear hor
      go_wp2
      go_ret
      exact ⟨rfl, hbe.out⟩
    · have hc3 : (c3 != 0) = true := hor.resolve_left hc1
      have hc1' : (c1 != 0) = false := by simpa using hc1
      clear hor hc1
      go_wp2
      go_ret
      exact ⟨rfl, hbe.out⟩
  · have HG := Lib.hid hG
    clear hG
    go_wp2_with fail
    refine (good_no _ g _ (Hg.out.later HM4.out.below) HG.out).mono ?_
    rintro e w5 ⟨rfl, hb5⟩
    have hbe := Lib.hid (HM4.out.call hb5).below
    clear hb5
    by_cases hc1 : (c1 != 0) = true
    · clear hor
      go_wp2
      go_ret
      exact ⟨rfl, hbe.out⟩
    · have hc3 : (c3 != 0) = true := hor.resolve_left hc1
      have hc1' : (c1 != 0) = false := by simpa using hc1
      clear hor hc1
      go_wp2
      go_ret
      exact ⟨rfl, hbe.out⟩

/-- The two ways told of two objects, named in either order, are one. -/
theorem ways_swap {g : G} {m m' : Int × Int → Option Nat} (h : Apart g m) (h' : Apart g m') {a b : Int} {l l' : List Int} (hW : WayS g m ((m (a, b)).getD 0) (a, b) l) (hW' : WayS g m' ((m' (b, a)).getD 0) (b, a) l') : l = l' ∧ (m' (b, a)).isSome = (m (a, b)).isSome := by
  obtain rfl := h.unique h'
  rw [h.symm b a] at hW' ⊢
  exact ⟨WayS.swap h hW hW', rfl⟩

set_option maxRecDepth 100000 in
set_option maxHeartbeats 4000000 in
theorem slike_good (g : G) (hG : Good g) (v : Value) (a b c : Nat) (w : World) (hg : IsGraph w v g) (ha : a < g.objs.length) (hb : b < g.objs.length) (hc : c < g.objs.length) :
    Calls Try.prog 13 #[v, .int .i64 a, .int .i64 b, .int .i64 c] w fun e w' => e = .returned (.bool true) ∧ Below w.heap.size w w' := by
  have Hg := Lib.hid hg
  obtain ⟨vo, vr, rfl, ho, hr⟩ := hg
  obtain ⟨ao, co, rfl, hlo⟩ := ho.slice
  obtain ⟨ar, cr, rfl, hlr⟩ := hr.slice
  have Ho := Lib.hid ho
  have hn := hG.objs
  clear ho hr
  have hM0 := (Mem.start w).alloc #[.slice ao g.objs.length co, .slice ar g.roots.length cr] 25
  go_enter Try.func13, Try.ntmps13
  go_wp2_with fail
  refine (told_yes g hG _ a b _ (Hg.out.later hM0.below) ha hb).mono ?_
  rintro e w1 ⟨m, vl, l, hA, hW, rfl, hl, hm1⟩
  have hM1 := hM0.callMem hm1
  obtain ⟨al, cl, hvl⟩ := hM1.intsSlice 0 rfl
  subst hvl
  obtain ⟨p0, p1⟩ := hM1.cells2 1 rfl
  obtain ⟨ab, hab⟩ : ∃ ab, (m ((a : Int), (b : Int))).isSome = ab := ⟨_, rfl⟩
  rw [hab]
  have Hab := Lib.hid hab
  have HA := Lib.hid hA
  have HW := Lib.hid hW
  clear hm1 hab hA hW
  go_wp2_with fail
  refine (told_yes g hG _ b a _ (Hg.out.later hM1.below) hb ha).mono ?_
  rintro e w2 ⟨m2, vl2, l2, hA2, hW2, rfl, hl2, hm2⟩
  obtain ⟨e1, e2⟩ := ways_swap HA.out hA2 HW.out hW2
  rw [e2, Hab.out]
  subst e1
  have hM2 := hM1.callMem hm2
  obtain ⟨al2, cl2, hvl⟩ := hM2.intsSlice 0 rfl
  subst hvl
  obtain ⟨p2, p3⟩ := hM2.cells2 2 rfl
  clear hm2 hA2 hW2 e2
  go_wp2_with fail
  refine (told_yes g hG _ b c _ (Hg.out.later hM2.below) hb hc).mono ?_
  rintro e w3 ⟨m3, vl3, l3, hA3, hW3, rfl, hl3, hm3⟩
  obtain rfl := HA.out.unique hA3
  have hM3 := hM2.call hm3.below
  obtain ⟨al3, cl3, hvl⟩ := hm3.intsSlice 0 rfl
  subst hvl
  obtain ⟨bc, hbc⟩ : ∃ bc, (m ((b : Int), (c : Int))).isSome = bc := ⟨_, rfl⟩
  rw [hbc]
  have Hbc := Lib.hid hbc
  obtain ⟨p4, p5⟩ := hM3.cells2 2 rfl
  clear hm3 hA3 hW3 hbc
  go_wp2_with fail
  refine (told_yes g hG _ a c _ (Hg.out.later hM3.below) ha hc).mono ?_
  rintro e w4 ⟨m4, vl4, l4, hA4, hW4, rfl, hl4, hm4⟩
  obtain rfl := HA.out.unique hA4
  have hM4 := hM3.call hm4.below
  obtain ⟨al4, cl4, hvl⟩ := hm4.intsSlice 0 rfl
  subst hvl
  obtain ⟨ac, hac⟩ : ∃ ac, (m ((a : Int), (c : Int))).isSome = ac := ⟨_, rfl⟩
  rw [hac]
  have Hac := Lib.hid hac
  obtain ⟨p6, p7⟩ := hM4.cells2 2 rfl
  clear hm4 hA4 hW4 hac
  go_wp2_with fail
  refine (good_yes _ g _ (Hg.out.later hM4.below) hG).mono ?_
  rintro e w5 ⟨rfl, hb5⟩
  have hM5 := hM4.call hb5
  obtain ⟨q0, q1⟩ := hM5.cells2 2 rfl
  go_wp2_with fail
  refine (within_yes g.objs.length _ [(a : Int), (b : Int), (c : Int)] _ (ints_three ⟨by omega, by omega⟩ ⟨by omega, by omega⟩ ⟨by omega, by omega⟩ w5) (by intro x hx; simp at hx; rcases hx with rfl | rfl | rfl <;> exact ⟨by omega, by omega⟩)).mono ?_
  rintro e w6 ⟨rfl, rfl⟩
  have hM6 := hM5.alloc_ (.cells #[.int .i64 (a : Int), .int .i64 (b : Int), .int .i64 (c : Int)] 3)
  have z0 : w.heap.size < w5.heap.size := (hM5.box 2 rfl).2.1
  go_wp2_with fail
  refine (refInts_any _ _ l l _ (hM6.waysI 1 rfl hl HW.out.mem) (hM6.waysI 0 rfl hl HW.out.mem)).mono ?_
  rintro e w7 ⟨rfl, hb7⟩
  rw [decide_eq_true (rfl : l = l)]
  have hM7 := hM6.call hb7
  obtain ⟨q2, q3⟩ := hM7.cells2 2 rfl
  have hbe : ∀ n, Below w.heap.size w (w7.drewN n) := fun n => below_drewN hM7.below n
  have Hbe := Lib.hid hbe
  have hbe0 := Lib.hid hM7.below
  obtain ⟨oa, hoa⟩ := get_some _ _ ha
  obtain ⟨ob, hob⟩ := get_some _ _ hb
  obtain ⟨bo, oo, _, ua, hv, hbo, hz1, c1, hua⟩ := Ho.out.at hM7.below hoa
  cases hv
  obtain ⟨_, _, _, ub, hv, _, _, c2, hub⟩ := Ho.out.at hM7.below hob
  cases hv
  obtain ⟨aua, cua, rfl, _⟩ := hua.slice
  obtain ⟨aub, cub, rfl, _⟩ := hub.slice
  have hfa : fieldsAt g (a : Int) = oa := by unfold fieldsAt; rw [Int.toNat_natCast, List.getD_eq_getElem?_getD, hoa]; rfl
  have hfb : fieldsAt g (b : Int) = ob := by unfold fieldsAt; rw [Int.toNat_natCast, List.getD_eq_getElem?_getD, hob]; rfl
  have hin : inO g ((a : Int), (b : Int)) := inO_mk (by omega) (by omega) (by omega) (by omega)
  have hlen : ab = false → oa.length = ob.length := by
    intro h
    have h2 := Hab.out
    rw [h, Option.isSome_eq_false_iff, Option.isNone_iff_eq_none] at h2
    have h3 := HA.out.len hG hin h2
    rw [hfa, hfb] at h3
    exact h3
  have htr : ac = true → ab = true ∨ bc = true := by
    intro h
    obtain ⟨j, hj⟩ := Option.isSome_iff_exists.1 (Hac.out.trans h)
    have h2 := HA.out.trans hG j (a : Int) (b : Int) (c : Int) (by omega) (by omega) hj
    rw [Hab.out, Hbc.out] at h2
    exact h2
  have hpos : ab = true → ¬ l.length = 0 := by
    intro h
    obtain ⟨j, hj⟩ := Option.isSome_iff_exists.1 (Hab.out.trans h)
    have h1 := (HA.out.has _ _ hj).1
    have h2 := HW.out.len
    rw [hj, Option.getD_some] at h2
    omega
  have Hlen := Lib.hid hlen
  have Htr := Lib.hid htr
  have Hpos := Lib.hid hpos
  clear hlen htr hpos hfa hfb hin hoa hob hua hub hbe hM0 hM1 hM2 hM3 hM4 hM5 hM6 hM7 hb5 hb7 p0 p1 p2 p3 p4 p5 p6 p7 q0 q1
  cases ab with
  | true =>
    have hl0 := Hpos.out rfl
    have hl1 : ((l.length : Int) == 0) = false := by simp; exact fun h => hl0 (by rw [h]; rfl)
    clear hl0
    rcases hoo : ((oa.length : Int) == (ob.length : Int)) with _ | _
    all_goals
      cases bc <;> cases ac
      all_goals
        go_wp2
        go_quiet (fail)
        go_wp2
        go_ret
        exact ⟨rfl, Hbe.out _⟩
  | false =>
    have hoo : ((oa.length : Int) == (ob.length : Int)) = true := by rw [Hlen.out rfl]; simp
    cases bc <;> cases ac
    case false.true => rcases Htr.out rfl with h | h <;> cases h
    all_goals
      go_wp2
      go_quiet (fail)
      go_wp2
      go_ret
      exact ⟨rfl, Hbe.out _⟩

theorem slike_walk (w : World) (v a b c : Value) (h : ∃ g, IsGraph w v g) (ha : IsK a) (hb : IsK b) (hc : IsK c) :
    Calls Try.prog 13 #[v, a, b, c] w fun e w' => e = .returned (.bool true) ∧ Below w.heap.size w w' := by
  obtain ⟨g, hg⟩ := h
  obtain ⟨a, rfl, ha⟩ := ha
  obtain ⟨b, rfl, hb⟩ := hb
  obtain ⟨c, rfl, hc⟩ := hc
  by_cases hbad : Good g ∧ inO g (a, b) ∧ inO g (b, c)
  · obtain ⟨hG, ⟨⟨h1, h2⟩, h3, h4⟩, _, h5, h6⟩ := hbad
    simp only at h1 h2 h3 h4 h5 h6
    obtain ⟨i, rfl⟩ : ∃ i : Nat, a = (i : Int) := ⟨a.toNat, by omega⟩
    obtain ⟨j, rfl⟩ : ∃ j : Nat, b = (j : Int) := ⟨b.toNat, by omega⟩
    obtain ⟨k, rfl⟩ : ∃ k : Nat, c = (k : Int) := ⟨c.toNat, by omega⟩
    exact slike_good g hG v i j k w hg (by omega) (by omega) (by omega)
  · exact slike_bad g v a b c w hg ha hb hc hbad
end Go.Proofs.Ytjeaaiklbefmmaa
