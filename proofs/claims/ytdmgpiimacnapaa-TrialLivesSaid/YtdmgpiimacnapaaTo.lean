/- TrialLives, walked. -/
import Derived.Test.YtdmgpiimacnapaaTi
import Derived.Test.YtdmgpiimacnapaaLd
import Derived.Test.YtdmgpiimacnapaaDr
import Derived.Test.YtdmgpiimacnapaaOi
namespace Go.Proofs.Ytdmgpiimacnapaa
open Go.RowKit Go.Shelf

theorem isInts_lit (w : World) (x : Int) (t : TypeId) (hx : i64ok x) : IsInts (w.alloc (.cells #[.int .i64 x] t)) (.slice (some ⟨w.heap.size, 0, none⟩) 1 1) [x] := by
  refine ⟨some ⟨w.heap.size, 0, none⟩, 1, rfl, by simp, ?_⟩
  intro k y hk
  cases k with
  | zero => simp at hk; subst hk; exact ⟨w.heap.size, 0, rfl, by simp, by simp, hx⟩
  | succ k => simp at hk
theorem isInts_nil (w : World) : IsInts w (.slice none 0 0) [] := ⟨none, 0, rfl, by simp, by simp⟩
theorem TrialS.farR {g : G} {fr L lr : List Int} (h : TrialS g fr L) (hR : ReachR g lr) : ∀ x ∈ lr, x ∉ L := by
  intro x hx
  have h0 := hR.rng x hx
  have := hR.sound x hx (fun y => (y : Int) ∉ L) ⟨fun j _ hj hl => h.noroot _ hl (mem_targets (x := ⟨true, j⟩) (refersB_iff.1 hj) rfl), fun i j hi _ hn hr hl => hn (h.refs _ hl i hi (mem_targets (x := ⟨true, j⟩) (refersB_iff.1 hr) rfl))⟩
  rwa [show ((x.toNat : Nat) : Int) = x by omega] at this
theorem TrialS.reach_none {g : G} (hG : Good g) {L lr : List Int} (h : TrialS g lr L) (hR : ReachR g lr) : L = [] := by
  refine List.eq_nil_iff_forall_not_mem.2 fun x hx => ?_
  refine h.farR hR x ?_ hx
  refine (h.sub x hx (fun y => y ∈ lr ∧ 0 ≤ y) ?_ fun y hy => ⟨hy, (hR.rng y hy).1⟩).1
  rintro i ⟨hi, hi0⟩ j hj
  have hj2 := target_in hG hj
  have hi2 := hR.rng i hi
  obtain ⟨k, rfl⟩ : ∃ k : Nat, j = (k : Int) := ⟨j.toNat, by omega⟩
  obtain ⟨a, rfl⟩ : ∃ a : Nat, i = (a : Int) := ⟨i.toNat, by omega⟩
  exact ⟨hR.closed.2 a k (by omega) (by omega) hi (refersB_iff.2 (of_targets hj)), by omega⟩
theorem TrialS.nil_none {g : G} {L : List Int} (h : TrialS g [] L) : L = [] :=
  List.eq_nil_iff_forall_not_mem.2 fun x hx => h.sub x hx (fun _ => False) (fun _ h => h.elim) (by simp)
/-- All that an object found of itself is led to by lies ahead of it. -/
theorem TrialS.leads {g : G} {x : Int} {L l dist : List Int} (h : TrialS g [x] L) (hF : Far (fromG g x) l dist) : ∀ y ∈ L, y = x ∨ y ∈ l := by
  intro y hy
  refine h.sub y hy (fun y => y = x ∨ y ∈ l) ?_ (by simp)
  rintro i (rfl | hi) j hj
  · exact .inr (hF.root j hj).1
  · exact .inr (hF.closed i hi j hj).1
set_option maxRecDepth 100000 in
set_option maxHeartbeats 4000000 in
theorem tlives_good (g : G) (v : Value) (i : Nat) (w : World) (hg : IsGraph w v g) (hG : Good g) (hi : i < g.objs.length) :
    Calls Try.prog 11 #[v, .int .i64 (i : Int)] w fun e w' => e = .returned (.bool true) ∧ Below w.heap.size w w' := by
  have Hg := Lib.hid hg
  obtain ⟨vo, vr, rfl, ho, hr⟩ := hg
  obtain ⟨ao, co, rfl, hlo⟩ := ho.slice
  obtain ⟨ar, cr, rfl, hlr⟩ := hr.slice
  have hM0 := (Mem.start w).alloc #[.slice ao g.objs.length co, .slice ar g.roots.length cr] 25
  have hn := hG.objs
  have Ho := Lib.hid ho
  have Hr := Lib.hid hr
  have HG := Lib.hid hG
  have hx64 : i64ok (i : Int) := ⟨by omega, by omega⟩
  have Hx64 := Lib.hid hx64
  have Hone : Hid (TrialOk g [(i : Int)]) := Lib.hid ⟨hG, by simp, by intro x hx; simp at hx; omega⟩
  clear ho hr hG hx64
  go_enter Try.func11, Try.ntmps11
  go_wp2_with fail
  refine (good_yes _ g _ (Hg.out.later hM0.below) HG.out).mono ?_
  rintro e w1 ⟨rfl, hb1⟩
  have hM1 := hM0.call hb1
  obtain ⟨p0, p1⟩ := hM1.cells2 0 rfl
  have hM2 := hM1.alloc_ (.cells #[.int .i64 (i : Int)] 3)
  obtain ⟨p2, p3⟩ := hM2.cells2 0 rfl
  have z2 : w.heap.size < (w1.alloc (.cells #[.int .i64 (i : Int)] 3)).heap.size := (hM2.box 0 rfl).2.1
  go_wp2_with fail
  refine (within_yes g.objs.length _ [(i : Int)] _ (isInts_lit w1 _ _ Hx64.out) (fun x hx => Hone.out.2.2 x hx)).mono ?_
  rintro e w3 ⟨rfl, rfl⟩
  obtain ⟨W, hW⟩ : ∃ W, w1.alloc (.cells #[.int .i64 (i : Int)] 3) = W := ⟨_, rfl⟩
  rw [hW] at hM2 p2 p3 z2 ⊢
  clear hM0 hb1 hM1 p0 p1
  have Hr1 := Lib.hid (reachR_any g (by omega) _ _ ((Hg.out.later hM2.below).later ((Below.refl _ W).drew)))
  have HM2 := Lib.hid hM2
  clear hM2
  go_wp2_with fail
  go_cut [7, 8] (fun s7 s8 W' => s8 = .int .i64 0 ∧ ∃ L lr, ReachR g lr ∧ TrialS g lr L ∧ IsInts W' s7 L ∧ Below W.heap.size W W')
  case first =>
    go_region_held3 (fun X => X.cell? ⟨w.heap.size, 0, none⟩ = some (.slice ao g.objs.length co) ∧ X.cell? ⟨w.heap.size, 1, none⟩ = some (.slice ar g.roots.length cr))
      (first | exact ⟨by simpa using p2, by simpa using p3⟩ | exact ⟨q5, q6⟩ | exact ⟨q7, q8⟩)
      (first
        | (go_at_call 27
           refine Hr1.out.mono ?_
           rintro e w6 ⟨vl, lr, rfl, hR, hM4⟩
           have hb9 : Below W.heap.size W w6 := ((Below.refl _ W).drew).trans hM4.below
           have q5 := (hb9.cell (p := ⟨_, _, none⟩) z2).trans p2
           have q6 := (hb9.cell (p := ⟨_, _, none⟩) z2).trans p3
           have hI : IsInts w6 vl lr := isInts_of_own (hM4.ownI 0 rfl) (by have := rising_le hR.rising hR.rng; omega) (fun x hx => by have := hR.rng x hx; exact ⟨by omega, by omega⟩)
           have HI := Lib.hid hI
           have HR := Lib.hid hR
           have Htr := Lib.hid (trial_reads g _ vl lr w6 (Hg.out.later (HM2.out.below.trans (hb9.mono HM2.out.base))) hI ⟨HG.out, (by have := rising_le hR.rising hR.rng; omega), hR.rng⟩)
           clear hI hR hM4)
        | (go_at_call 31
           refine Htr.out.mono ?_
           rintro e w7 ⟨vt, L, rfl, hT, hIT, hb7⟩
           have q7 := (hb7.cell (p := ⟨_, _, none⟩) (Nat.lt_of_lt_of_le z2 hb9.size)).trans q5
           have q8 := (hb7.cell (p := ⟨_, _, none⟩) (Nat.lt_of_lt_of_le z2 hb9.size)).trans q6))
    all_goals
      go_wp2_with fail
      go_meet
      exact ⟨rfl, L, lr, HR.out, hT, hIT, hb9.trans (hb7.mono hb9.size)⟩
  case rest =>
    obtain ⟨rfl, L, lr, hR, hT, hIT, hbW⟩ := hcut
    obtain rfl := hT.reach_none HG.out hR
    obtain ⟨aL, cL, rfl, _⟩ := hIT.slice
    have hM4 := HM2.out.call hbW
    obtain ⟨q0, q1⟩ := hM4.cells2 0 rfl
    have HR := Lib.hid hR
    have HM4 := Lib.hid hM4
    clear hIT hR hT hM4 hbW Hr1 p2 p3
    go_wp2_with fail
    refine (trial_reads g _ _ [] _ (Hg.out.later HM4.out.below) (isInts_nil _) ⟨HG.out, by simp, by simp⟩).mono ?_
    rintro e w5 ⟨vt, L2, rfl, hT2, hI2, hb5⟩
    obtain rfl := hT2.nil_none
    obtain ⟨aL2, cL2, rfl, _⟩ := hI2.slice
    have hM5 := HM4.out.call hb5
    obtain ⟨q2, q3⟩ := hM5.cells2 0 rfl
    have hM6 := hM5.alloc_ (.cells #[.int .i64 (i : Int)] 3)
    have HM6 := Lib.hid hM6
    clear hT2 hI2 hM5 hM6 hb5
    go_wp2_with fail
    refine (trial_reads g _ _ [(i : Int)] _ (Hg.out.later HM6.out.below) (isInts_lit _ _ _ Hx64.out) Hone.out).mono ?_
    rintro e w6 ⟨vo2, own, rfl, hT, hI, hb6⟩
    obtain ⟨aO, cO, rfl, _⟩ := hI.slice
    have hM7 := HM6.out.call hb6
    obtain ⟨q4, q5⟩ := hM7.cells2 0 rfl
    have HT := Lib.hid hT
    have HI := Lib.hid hI
    have HM7 := Lib.hid hM7
    clear hT hI hM7 hb6
    go_wp2_with fail
    refine (leads_any g HG.out _ i _ (Hg.out.later HM7.out.below) hi).mono ?_
    rintro e w8 ⟨vl, l, dist, rfl, hF, hIl, hb8⟩
    obtain ⟨al, cl, rfl, _⟩ := hIl.slice
    have hM8 := HM7.out.call hb8
    obtain ⟨q6, q7⟩ := hM8.cells2 0 rfl
    have HF := Lib.hid hF
    have HIl := Lib.hid hIl
    have HI8 := Lib.hid (HI.out.later hb8)
    have HM8 := Lib.hid hM8
    obtain ⟨h0, hh0⟩ : ∃ t, refersB g.roots (i : Int) = t := ⟨_, rfl⟩
    have hrf := refers_any (.slice ar g.roots.length cr) g.roots (i : Int) _ (Hr.out.later hM8.below)
    rw [hh0] at hrf
    have Hrf := Lib.hid hrf
    have Hh0 : Hid ((i : Int) ∈ own → h0 = false) := Lib.hid (fun hm => by
      cases h0 with
      | false => rfl
      | true => exact (HT.out.noroot _ hm (mem_targets (x := ⟨true, i⟩) (refersB_iff.1 hh0) rfl)).elim)
    clear hF hIl hM8 hb8 hrf hh0 q0 q1 q2 q3 q4 q5 HI
    go_wp2_with fail
    refine Hrf.out.mono ?_
    rintro e w9 ⟨rfl, hb9⟩
    have hM9 := HM8.out.call hb9
    obtain ⟨q0, q1⟩ := hM9.cells2 0 rfl
    have hB9 := Lib.hid hb9
    clear q6 q7 hM9 hb9 Hrf
    go_wp2
    go_loopw [15, 91] (fun s15 jv wr => ∃ (j : Nat) (t : Bool), j ≤ g.objs.length ∧ jv = .int .i64 j ∧ s15 = .bool t ∧ ((i : Int) ∈ own → t = false) ∧ Below w8.heap.size w8 wr) (fun _ jv _ => g.objs.length - (intOf jv).toNat)
    case atStart => exact ⟨0, h0, Nat.zero_le _, rfl, rfl, Hh0.out, hB9.out⟩
    case round =>
      clear q0 q1
      obtain ⟨j, t, hj, rfl, rfl, ht, hB⟩ := hrel
      have hM := HM8.out.call hB
      obtain ⟨q0, q1⟩ := hM.cells2 0 rfl
      have zw : w.heap.size < wr.heap.size := (hM.box 0 rfl).2.1
      have Ht := Lib.hid ht
      have HB := Lib.hid hB
      clear ht hB
      by_cases hlj : j < g.objs.length
      · obtain ⟨ob, hob⟩ := get_some _ _ hlj
        obtain ⟨b, off, cap2, uo, hv, hb, hb2, d1, huo⟩ := Ho.out.at hM.below hob
        cases hv
        obtain ⟨au2, cu2, rfl, hlu2⟩ := huo.slice
        have hb8 : Below wr.heap.size wr (wr.alloc (.cells #[.slice au2 ob.length cu2] 52)) := (Below.refl _ _).alloc (Nat.le_refl _) _
        have hR := refers_any (.slice au2 ob.length cu2) ob (i : Int) _ ((huo.later hM.below).later hb8)
        have hfo : fieldsAt g (j : Int) = ob := by unfold fieldsAt; rw [Int.toNat_natCast, List.getD_eq_getElem?_getD, hob]; rfl
        have hin : refersB ob (i : Int) = true → (i : Int) ∈ own → (j : Int) = (i : Int) ∨ (j : Int) ∈ l := fun h hm =>
          HT.out.leads HF.out _ (HT.out.refs _ hm j hlj (by rw [hfo]; exact mem_targets (x := ⟨true, i⟩) (refersB_iff.1 h) rfl))
        have Hin := Lib.hid hin
        obtain ⟨r, hr⟩ : ∃ t, refersB ob (i : Int) = t := ⟨_, rfl⟩
        rw [hr] at hR
        have Hrr := Lib.hid hr
        have HR2 := Lib.hid hR
        have HB8 := Lib.hid (HB.out.trans (hb8.mono HB.out.size))
        clear hob huo hb8 hR hfo hin hr hM
        go_wp2_with fail
        refine HR2.out.mono ?_
        rintro e w10 ⟨rfl, hb10⟩
        have hB10 := HB8.out.trans (hb10.mono HB8.out.size)
        have HB10 := Lib.hid hB10
        clear hb10 hB10
        cases r with
        | false =>
          go_wp2
          go_roundw
          case rel => exact ⟨j + 1, t, by omega, by go_num, rfl, Ht.out, HB10.out⟩
          case measure => simp [intOf]; omega
        | true =>
          by_cases hji : j = i
          · subst hji
            have hne : ((j : Int) != (j : Int)) = false := by simp
            go_wp2
            go_roundw
            case rel => exact ⟨j + 1, t, by omega, by go_num, rfl, Ht.out, HB10.out⟩
            case measure => simp [intOf]; omega
          · have hne : ((j : Int) != (i : Int)) = true := by simp; omega
            have hne2 : ((j : Int) == (i : Int)) = false := by simp; omega
            have Hmem : Hid ((i : Int) ∈ own → (j : Int) ∈ sorted l) := Lib.hid (fun hm => by
              rcases Hin.out Hrr.out hm with h | h
              · exact absurd (by omega) hji
              · exact mem_sorted.2 h)
            have hH := has_any _ (sorted l) (j : Int) w10 (HIl.out.later HB10.out)
            obtain ⟨q, hq⟩ : ∃ t, hasB (sorted l) (j : Int) = t := ⟨_, rfl⟩
            rw [hq] at hH
            have Hq : Hid ((i : Int) ∈ own → q = true) := Lib.hid (fun hm => by rw [← hq]; unfold hasB; rw [decide_eq_true_eq]; exact Hmem.out hm)
            have HH := Lib.hid hH
            clear hH hq
            go_wp2_with fail
            refine HH.out.mono ?_
            rintro e w11 ⟨rfl, rfl⟩
            cases q with
            | true =>
              go_wp2
              go_roundw
              case rel => exact ⟨j + 1, t, by omega, by go_num, rfl, Ht.out, HB10.out⟩
              case measure => simp [intOf]; omega
            | false =>
              go_wp2
              go_roundw
              case rel => exact ⟨j + 1, true, by omega, by go_num, rfl, fun hm => (by have := Hq.out hm; cases this), HB10.out⟩
              case measure => simp [intOf]; omega
      · obtain rfl : j = g.objs.length := by omega
        have hH := has_any _ own (i : Int) wr (HI8.out.later HB.out)
        obtain ⟨q, hq⟩ : ∃ t, hasB own (i : Int) = t := ⟨_, rfl⟩
        rw [hq] at hH
        have HH := Lib.hid hH
        have Hq : Hid (q = true → (i : Int) ∈ own) := Lib.hid (fun h => by rw [h] at hq; unfold hasB at hq; exact of_decide_eq_true hq)
        have HM := Lib.hid hM
        clear hH hq hM
        go_wp2_with fail
        refine HH.out.mono ?_
        rintro e w11 ⟨rfl, rfl⟩
        cases q with
        | false =>
          have HB2 := Lib.hid HM.out.below
          go_wp2
          go_ret
          exact ⟨rfl, HB2.out⟩
        | true =>
          have hm := Hq.out rfl
          obtain rfl := Ht.out hm
          have Hm := Lib.hid hm
          clear hm
          go_wp2_with fail
          refine (reachR_any g (by omega) _ _ (Hg.out.later HM.out.below)).mono ?_
          rintro e w12 ⟨vr3, lr3, rfl, hR3, hM12⟩
          have hI3 : IsInts w12 vr3 lr3 := isInts_of_own (hM12.ownI 0 rfl) (by have := rising_le hR3.rising hR3.rng; omega) (fun x hx => by have := hR3.rng x hx; exact ⟨by omega, by omega⟩)
          have hH := has_any _ lr3 (i : Int) w12 hI3
          rw [show hasB lr3 (i : Int) = false from by unfold hasB; rw [decide_eq_false_iff_not]; exact fun h => HT.out.farR hR3 _ h Hm.out] at hH
          have HH := Lib.hid hH
          have HB2 := Lib.hid (HM.out.call hM12.below).below
          clear hH hI3 hR3 hM12
          go_wp2_with fail
          refine HH.out.mono ?_
          rintro e w13 ⟨rfl, rfl⟩
          go_wp2
          go_ret
          exact ⟨rfl, HB2.out⟩

set_option maxRecDepth 100000 in
set_option maxHeartbeats 1000000 in
theorem tlives_bad (g : G) (v : Value) (x : Int) (w : World) (hg : IsGraph w v g) (hx : i64ok x) (hk : ¬ TrialOk g [x]) :
    Calls Try.prog 11 #[v, .int .i64 x] w fun e w' => e = .returned (.bool true) ∧ Below w.heap.size w w' := by
  have Hg := Lib.hid hg
  obtain ⟨vo, vr, rfl, ho, hr⟩ := hg
  obtain ⟨ao, co, rfl, hlo⟩ := ho.slice
  obtain ⟨ar, cr, rfl, hlr⟩ := hr.slice
  have hM0 := (Mem.start w).alloc #[.slice ao g.objs.length co, .slice ar g.roots.length cr] 25
  have Hk := Lib.hid hk
  have Hx := Lib.hid hx
  clear ho hr hk hx
  by_cases hG : Good g
  · have HG := Lib.hid hG
    have Hno : Hid (¬ ∀ y ∈ [x], 0 ≤ y ∧ y < (g.objs.length : Int)) := Lib.hid (fun h => Hk.out ⟨hG, by simp, h⟩)
    clear hG
    go_enter Try.func11, Try.ntmps11
    go_wp2_with fail
    refine (good_yes _ g _ (Hg.out.later hM0.below) HG.out).mono ?_
    rintro e w1 ⟨rfl, hb1⟩
    have hM1 := hM0.call hb1
    obtain ⟨p0, p1⟩ := hM1.cells2 0 rfl
    have hM2 := hM1.alloc_ (.cells #[.int .i64 x] 3)
    obtain ⟨p2, p3⟩ := hM2.cells2 0 rfl
    go_wp2_with fail
    refine (within_either g.objs.length _ [x] _ (isInts_lit w1 _ _ Hx.out)).mono ?_
    rintro e w3 ⟨t, rfl, ht, rfl⟩
    obtain rfl : t = false := by
      cases t with
      | false => rfl
      | true => exact (Hno.out (ht.1 rfl)).elim
    obtain ⟨W, hW⟩ : ∃ W, w1.alloc (.cells #[.int .i64 x] 3) = W := ⟨_, rfl⟩
    rw [hW] at hM2 p2 p3 ⊢
    have hM3 := hM2.alloc_ (.cells #[.int .i64 x] 3)
    have HM3 := Lib.hid hM3
    clear ht hW hM2 hM1 p0 p1
    go_wp2_with fail
    refine (trial_no g _ _ [x] _ (Hg.out.later HM3.out.below) (isInts_lit _ _ _ Hx.out) Hk.out).mono ?_
    rintro e w4 ⟨c, hc, rfl, hb4⟩
    have hbe := Lib.hid (HM3.out.call hb4).below
    go_wp2
    go_ret
    exact ⟨by simp, hbe.out⟩
  · have HG := Lib.hid hG
    clear hG
    go_enter Try.func11, Try.ntmps11
    go_wp2_with fail
    refine (good_no _ g _ (Hg.out.later hM0.below) HG.out).mono ?_
    rintro e w1 ⟨rfl, hb1⟩
    have hM1 := hM0.call hb1
    obtain ⟨p0, p1⟩ := hM1.cells2 0 rfl
    have hM3 := hM1.alloc_ (.cells #[.int .i64 x] 3)
    have HM3 := Lib.hid hM3
    go_wp2_with fail
    refine (trial_no g _ _ [x] _ (Hg.out.later HM3.out.below) (isInts_lit _ _ _ Hx.out) Hk.out).mono ?_
    rintro e w4 ⟨c, hc, rfl, hb4⟩
    have hbe := Lib.hid (HM3.out.call hb4).below
    go_wp2
    go_ret
    exact ⟨by simp, hbe.out⟩
theorem tlives_walk (w : World) (v u : Value) (h : ∃ g, IsGraph w v g) (hu : ∃ x : Int, u = .int .i64 x ∧ i64ok x) :
    Calls Try.prog 11 #[v, u] w fun e w' => e = .returned (.bool true) ∧ Below w.heap.size w w' := by
  obtain ⟨g, hg⟩ := h
  obtain ⟨x, rfl, hx⟩ := hu
  by_cases hk : TrialOk g [x]
  · have h1 := hk.2.2 x (by simp)
    obtain ⟨i, rfl⟩ : ∃ i : Nat, x = (i : Int) := ⟨x.toNat, by omega⟩
    exact tlives_good g v i w hg hk.1 (by omega)
  · exact tlives_bad g v x w hg hx hk
end Go.Proofs.Ytdmgpiimacnapaa
