/- TrialMore, walked. -/
import Derived.Test.YtdmgpiimacnapaaMf
import Derived.Test.YtdmgpiimacnapaaAp
import Derived.Test.YtdmgpiimacnapaaOi
import Derived.Deep.RegionHeld3
import Derived.Deep.DeepCutAuto
namespace Go.Proofs.Ytdmgpiimacnapaa
open Go.RowKit Go.Shelf

theorem TrialS.count {g : G} {fr L l dist : List Int} (hG : Good g) (h : TrialS g fr L) (hall : ∀ i : Nat, i < g.objs.length → (i : Int) ∈ fr) (hF : Far g l dist) : L.length + (sorted l).length = g.objs.length := by
  have h1 : (L ++ sorted l).Perm (uptoL g.objs.length) := by
    refine (List.perm_ext_iff_of_nodup (nodup_two (nodup_of_rising h.rising) (nodup_of_rising (sorted_lt hF.inv.nodup)) (fun x hx hs => h.far hG hF x (mem_sorted.1 hs) hx)) ?_).2 ?_
    · exact nodup_of_rising (by unfold uptoL; rw [List.pairwise_map]; exact List.pairwise_lt_range.imp (by intro a b h; omega))
    · intro x
      rw [mem_uptoL]
      constructor
      · intro hx
        rcases List.mem_append.1 hx with h2 | h2
        · exact h.rng x h2
        · exact hF.inv.rng x (mem_sorted.1 h2)
      · rintro ⟨h0, h2⟩
        obtain ⟨i, rfl⟩ : ∃ i : Nat, x = (i : Int) := ⟨x.toNat, by omega⟩
        by_cases hm : (i : Int) ∈ l
        · exact List.mem_append_right _ (mem_sorted.2 hm)
        · exact List.mem_append_left _ (h.all hall hF i (by omega) hm)
  have := h1.length_eq
  rw [List.length_append, uptoL_len] at this
  exact this
set_option maxRecDepth 100000 in
set_option maxHeartbeats 4000000 in
theorem tmore_good (g : G) (v u x : Value) (a b : List Int) (w : World) (hg : IsGraph w v g) (hu : IsInts w u a) (hx : IsInts w x b) (hG : Good g) (hl : a.length + b.length ≤ 24)
    (ha : ∀ x ∈ a, 0 ≤ x ∧ x < (g.objs.length : Int)) (hb : ∀ x ∈ b, 0 ≤ x ∧ x < (g.objs.length : Int)) :
    Calls Try.prog 10 #[v, u, x] w fun e w' => e = .returned (.bool true) ∧ Below w.heap.size w w' := by
  have Hg := Lib.hid hg
  obtain ⟨vo, vr, rfl, ho, hr⟩ := hg
  obtain ⟨ao, co, rfl, hlo⟩ := ho.slice
  obtain ⟨ar, cr, rfl, hlr⟩ := hr.slice
  have Hu := Lib.hid hu
  have Hx := Lib.hid hx
  obtain ⟨au, cu, rfl, hlu⟩ := hu.slice
  obtain ⟨ax, cx, rfl, hlx⟩ := hx.slice
  have hM0 := (Mem.start w).alloc #[.slice ao g.objs.length co, .slice ar g.roots.length cr] 25
  have hn := hG.objs
  have HG := Lib.hid hG
  have Ha := Lib.hid ha
  have Hb := Lib.hid hb
  have Hka : Hid (TrialOk g a) := Lib.hid ⟨hG, by omega, ha⟩
  have Hkab : Hid (TrialOk g (([] ++ a) ++ b)) := Lib.hid ⟨hG, by simp; omega, by intro x hx; simp at hx; rcases hx with h | h; exact ha x h; exact hb x h⟩
  clear ho hr hu hx hG ha hb
  go_enter Try.func10, Try.ntmps10
  go_wp2_with fail
  refine (good_yes _ g _ (Hg.out.later hM0.below) HG.out).mono ?_
  rintro e w1 ⟨rfl, hb1⟩
  have hM1 := hM0.call hb1
  obtain ⟨p0, p1⟩ := hM1.cells2 0 rfl
  go_wp2_with fail
  refine (within_yes g.objs.length _ _ _ (Hu.out.later hM1.below) Ha.out).mono ?_
  rintro e w2 ⟨rfl, rfl⟩
  go_wp2_with fail
  refine (within_yes g.objs.length _ _ _ (Hx.out.later hM1.below) Hb.out).mono ?_
  rintro e w2 ⟨rfl, rfl⟩
  go_wp2_with fail
  refine (trial_reads g _ _ a _ (Hg.out.later hM1.below) (Hu.out.later hM1.below) Hka.out).mono ?_
  rintro e w3 ⟨vl, L, rfl, hT, hI, hb3⟩
  obtain ⟨aL, cL, rfl, _⟩ := hI.slice
  have hM3 := hM1.call hb3
  obtain ⟨p2, p3⟩ := hM3.cells2 0 rfl
  have z3 : w.heap.size < w3.heap.size := (hM3.box 0 rfl).2.1
  have HT := Lib.hid hT
  have HI := Lib.hid hI
  have HM3 := Lib.hid hM3
  have HMf : Hid (Mem w3.heap.size w3 ((w3.alloc (.cells #[] 3)).drew) [rowI 3 (.slice (some ⟨w3.heap.size, 0, none⟩) 0 0) []]) := Lib.hid ((Mem.start w3).fresh0 3).drew
  have q3 : ((w3.alloc (.cells #[] 3)).drew).cell? ⟨w.heap.size, 0, none⟩ = some (.slice ao g.objs.length co) := (HMf.out.below.cell (p := ⟨_, _, none⟩) z3).trans p2
  have q4 : ((w3.alloc (.cells #[] 3)).drew).cell? ⟨w.heap.size, 1, none⟩ = some (.slice ar g.roots.length cr) := (HMf.out.below.cell (p := ⟨_, _, none⟩) z3).trans p3
  clear hM0 hM1 hM3 hb1 hb3 hT hI p0 p1
  go_wp2_with fail
  go_cut [9, 10] (fun s9 s10 W' => s10 = .int .i64 0 ∧ ∃ M, TrialS g (([] ++ a) ++ b) M ∧ IsInts W' s9 M ∧ Below w3.heap.size w3 W')
  case first =>
    go_region_held3 (fun X => X.cell? ⟨w.heap.size, 0, none⟩ = some (.slice ao g.objs.length co) ∧ X.cell? ⟨w.heap.size, 1, none⟩ = some (.slice ar g.roots.length cr))
      (first | exact ⟨by simpa using p2, by simpa using p3⟩ | exact ⟨q3, q4⟩ | exact ⟨q5, q6⟩ | exact ⟨q7, q8⟩ | exact ⟨q9, q10⟩)
      (first
        | (refine Mem.step_appIs elemInts rfl (.tmp 50) (.tmp 51) rfl HMf.out 0 rfl rfl rfl (Hu.out.later (HM3.out.below.trans (HMf.out.below.mono HM3.out.base))) (by simp; omega) ?_
           intro v5 w5 hM5 hs5 hk5
           have q5 := (hM5.below.cell (p := ⟨_, _, none⟩) z3).trans p2
           have q6 := (hM5.below.cell (p := ⟨_, _, none⟩) z3).trans p3
           have HM5 := Lib.hid hM5
           clear hM5)
        | (refine Mem.step_appIs elemInts rfl (.tmp 52) (.tmp 53) rfl HM5.out 0 rfl rfl rfl (Hx.out.later (HM3.out.below.trans (HM5.out.below.mono HM3.out.base))) (by simp; omega) ?_
           intro v6 w6 hM6 hs6 hk6
           have q7 := (hM6.below.cell (p := ⟨_, _, none⟩) z3).trans p2
           have q8 := (hM6.below.cell (p := ⟨_, _, none⟩) z3).trans p3
           have hI6 : IsInts w6 v6 (([] ++ a) ++ b) := isInts_of_own (hM6.ownI 0 rfl) (by simp; omega) (fun x hx => by have := Hkab.out.2.2 x hx; exact ⟨by omega, by omega⟩)
           have Htr := Lib.hid (trial_reads g _ v6 _ w6 (Hg.out.later (HM3.out.below.trans (hM6.below.mono HM3.out.base))) hI6 Hkab.out)
           have hb6 := hM6.below
           clear hM6 hI6)
        | (go_at_call 31
           refine Htr.out.mono ?_
           rintro e w7 ⟨vt, M, rfl, hT, hIT, hb7⟩
           have q9 := (hb7.cell (p := ⟨_, _, none⟩) (Nat.lt_of_lt_of_le z3 hb6.size)).trans q7
           have q10 := (hb7.cell (p := ⟨_, _, none⟩) (Nat.lt_of_lt_of_le z3 hb6.size)).trans q8))
    all_goals
      go_wp2_with fail
      go_meet
      exact ⟨rfl, M, hT, hIT, hb6.trans (hb7.mono hb6.size)⟩
  case rest =>
    obtain ⟨rfl, M, hTM, hIM, hbW⟩ := hcut
    obtain ⟨aM, cM, rfl, _⟩ := hIM.slice
    have hM4 := HM3.out.call hbW
    obtain ⟨q0, q1⟩ := hM4.cells2 0 rfl
    have z4 : w.heap.size < wc.heap.size := (hM4.box 0 rfl).2.1
    have HTM := Lib.hid hTM
    have HIM := Lib.hid hIM
    have HI4 := Lib.hid (HI.out.later hbW)
    have HM4 := Lib.hid hM4
    have Hmk := Lib.hid (masked_full g.objs.length hn wc.drew)
    clear hTM hIM hM4 hbW q3 q4 p2 p3 HI HMf
    go_wp2_with fail
    go_cut [11, 12] (fun s11 s12 W' => s12 = .int .i64 0 ∧ ∃ A, TrialS g (uptoL g.objs.length) A ∧ IsInts W' s11 A ∧ Below wc.heap.size wc W')
    case first =>
      go_region_held3 (fun X => X.cell? ⟨w.heap.size, 0, none⟩ = some (.slice ao g.objs.length co) ∧ X.cell? ⟨w.heap.size, 1, none⟩ = some (.slice ar g.roots.length cr))
        (first | exact ⟨by simpa using q0, by simpa using q1⟩ | exact ⟨q5, q6⟩ | exact ⟨q7, q8⟩)
        (first
          | (go_at_call 25
             refine Hmk.out.mono ?_
             rintro e w6 ⟨vm, rfl, hM6⟩
             have hb9 : Below wc.heap.size wc w6 := ((Below.refl _ wc).drew).trans hM6.below
             have q5 := (hb9.cell (p := ⟨_, _, none⟩) z4).trans q0
             have q6 := (hb9.cell (p := ⟨_, _, none⟩) z4).trans q1
             have hI6 : IsInts w6 vm (uptoL g.objs.length) := isInts_rising hM6 0 rfl (by rw [uptoL_len]; omega) (fun x hx => by have := mem_uptoL.1 hx; omega)
             have Htr := Lib.hid (trial_reads g _ vm _ w6 (Hg.out.later (HM4.out.below.trans (hb9.mono HM4.out.base))) hI6 ⟨HG.out, by rw [uptoL_len]; exact hn, fun x hx => mem_uptoL.1 hx⟩)
             clear hM6 hI6)
          | (go_at_call 31
             refine Htr.out.mono ?_
             rintro e w7 ⟨vt, A, rfl, hT, hIT, hb7⟩
             have q7 := (hb7.cell (p := ⟨_, _, none⟩) (Nat.lt_of_lt_of_le z4 hb9.size)).trans q5
             have q8 := (hb7.cell (p := ⟨_, _, none⟩) (Nat.lt_of_lt_of_le z4 hb9.size)).trans q6))
      all_goals
        go_wp2_with fail
        go_meet
        exact ⟨rfl, A, hT, hIT, hb9.trans (hb7.mono hb9.size)⟩
    case rest =>
      obtain ⟨rfl, A, hTA, hIA, hbW2⟩ := hcut
      obtain ⟨NA, hNA⟩ : ∃ n, A.length = n := ⟨_, rfl⟩
      obtain ⟨aA, cA, rfl, _⟩ := hIA.slice
      rw [hNA]
      have hM5 := HM4.out.call hbW2
      obtain ⟨r0, r1⟩ := hM5.cells2 0 rfl
      have HTA := Lib.hid hTA
      have HIA := Lib.hid hIA
      have HI5 := Lib.hid (HI4.out.later hbW2)
      have HIM5 := Lib.hid (HIM.out.later hbW2)
      have HM5 := Lib.hid hM5
      have HNA := Lib.hid hNA
      clear hTA hIA hM5 hbW2 q0 q1 HIM HI4 Hmk hNA
      go_wp2_with fail
      refine (reach_any g HG.out _ _ (Hg.out.later HM5.out.below)).mono ?_
      rintro e w8 ⟨vr2, l, dist, rfl, hF, hM8⟩
      have hrl := isInts_reach HG.out hF 0 hM8 rfl
      obtain ⟨NR, hNR⟩ : ∃ n, (sorted l).length = n := ⟨_, rfl⟩
      obtain ⟨ar2, cr2, rfl, _⟩ := hrl.slice
      rw [hNR]
      have hsum := HTA.out.count HG.out (fun i hi => mem_uptoL.2 ⟨by omega, by omega⟩) (hF.far HG.out)
      rw [hNR, HNA.out] at hsum
      have hM9 := HM5.out.callMem hM8
      obtain ⟨r2, r3⟩ := hM9.cells2 1 rfl
      have hs1 : (NA : Int) + (NR : Int) = (g.objs.length : Int) := by omega
      have hs2 : ((NA : Int) + (NR : Int) == (g.objs.length : Int)) = true := by simpa using hs1
      have hs3 : NA ≤ 24 := by omega
      have hs4 : NR ≤ 24 := by omega
      have HB := Lib.hid hM9.below
      have Hin1 := Lib.hid (inside_yes _ _ _ _ _ (HI5.out.later hM8.below) (HIM5.out.later hM8.below) (HT.out.more HTM.out (fun y hy => TS.of_mem (by simp [hy]))))
      have hIA8 := HIA.out.later hM8.below
      have hin2 := inside_yes _ _ _ _ _ (HIM5.out.later hM8.below) hIA8 (HTM.out.more HTA.out (fun y hy => TS.of_mem (mem_uptoL.2 (Hkab.out.2.2 y hy))))
      rw [HNA.out] at hin2
      have Hin2 := Lib.hid hin2
      clear hM9 hM8 hrl hF hsum hNR hs1 hIA8 hin2
      go_wp2_with fail
      refine Hin1.out.mono ?_
      rintro e w10 ⟨rfl, rfl⟩
      go_wp2_with fail
      refine Hin2.out.mono ?_
      rintro e w11 ⟨rfl, rfl⟩
      go_wp2
      go_ret
      exact ⟨rfl, HB.out⟩

set_option maxRecDepth 100000 in
set_option maxHeartbeats 1000000 in
theorem tmore_bad (g : G) (v u x : Value) (a b : List Int) (w : World) (hg : IsGraph w v g) (hu : IsInts w u a) (hx : IsInts w x b) (hla : a.length ≤ 17592186044416) (hlb : b.length ≤ 17592186044416)
    (hk : ¬ (Good g ∧ a.length + b.length ≤ 24 ∧ (∀ x ∈ a, 0 ≤ x ∧ x < (g.objs.length : Int)) ∧ (∀ x ∈ b, 0 ≤ x ∧ x < (g.objs.length : Int)))) :
    Calls Try.prog 10 #[v, u, x] w fun e w' => e = .returned (.bool true) ∧ Below w.heap.size w w' := by
  have Hg := Lib.hid hg
  obtain ⟨vo, vr, rfl, ho, hr⟩ := hg
  obtain ⟨ao, co, rfl, hlo⟩ := ho.slice
  obtain ⟨ar, cr, rfl, hlr⟩ := hr.slice
  have Hu := Lib.hid hu
  have Hx := Lib.hid hx
  obtain ⟨au, cu, rfl, hlu⟩ := hu.slice
  obtain ⟨ax, cx, rfl, hlx⟩ := hx.slice
  have hM0 := (Mem.start w).alloc #[.slice ao g.objs.length co, .slice ar g.roots.length cr] 25
  have Hk := Lib.hid hk
  clear ho hr hu hx hk
  by_cases hG : Good g
  · have HG := Lib.hid hG
    clear hG
    go_enter Try.func10, Try.ntmps10
    go_wp2_with fail
    refine (good_yes _ g _ (Hg.out.later hM0.below) HG.out).mono ?_
    rintro e w1 ⟨rfl, hb1⟩
    have hM1 := hM0.call hb1
    obtain ⟨p0, p1⟩ := hM1.cells2 0 rfl
    by_cases hl : a.length + b.length ≤ 24
    · have Hl := Lib.hid hl
      go_wp2_with fail
      refine (within_either g.objs.length _ a _ (Hu.out.later hM1.below)).mono ?_
      rintro e w3 ⟨t, rfl, ht, rfl⟩
      have Ht := Lib.hid ht
      clear ht
      cases t with
      | false =>
        go_wp2
        go_ret
        exact ⟨rfl, hM1.below⟩
      | true =>
        have Hno : Hid (¬ ∀ y ∈ b, 0 ≤ y ∧ y < (g.objs.length : Int)) := Lib.hid (fun h => Hk.out ⟨HG.out, Hl.out, Ht.out.1 rfl, h⟩)
        go_wp2_with fail
        refine (within_either g.objs.length _ b _ (Hx.out.later hM1.below)).mono ?_
        rintro e w3 ⟨t, rfl, ht, rfl⟩
        obtain rfl : t = false := by
          cases t with
          | false => rfl
          | true => exact (Hno.out (ht.1 rfl)).elim
        clear ht
        go_wp2
        go_ret
        exact ⟨rfl, hM1.below⟩
    · have hz : decide (24 < (a.length : Int) + (b.length : Int)) = true := by simp; omega
      go_wp2
      go_ret
      exact ⟨rfl, hM1.below⟩
  · have HG := Lib.hid hG
    clear hG
    go_enter Try.func10, Try.ntmps10
    go_wp2_with fail
    refine (good_no _ g _ (Hg.out.later hM0.below) HG.out).mono ?_
    rintro e w1 ⟨rfl, hb1⟩
    have hM1 := hM0.call hb1
    go_wp2
    go_ret
    exact ⟨rfl, hM1.below⟩
theorem tmore_walk (w : World) (v u x : Value) (h : ∃ g, IsGraph w v g) (hu : ∃ l, IsInts w u l ∧ l.length ≤ 17592186044416) (hx : ∃ l, IsInts w x l ∧ l.length ≤ 17592186044416) :
    Calls Try.prog 10 #[v, u, x] w fun e w' => e = .returned (.bool true) ∧ Below w.heap.size w w' := by
  obtain ⟨g, hg⟩ := h
  obtain ⟨a, hu, hla⟩ := hu
  obtain ⟨b, hx, hlb⟩ := hx
  by_cases hk : Good g ∧ a.length + b.length ≤ 24 ∧ (∀ x ∈ a, 0 ≤ x ∧ x < (g.objs.length : Int)) ∧ (∀ x ∈ b, 0 ≤ x ∧ x < (g.objs.length : Int))
  · exact tmore_good g v u x a b w hg hu hx hk.1 hk.2.1 hk.2.2.1 hk.2.2.2
  · exact tmore_bad g v u x a b w hg hu hx hla hlb hk
end Go.Proofs.Ytdmgpiimacnapaa
