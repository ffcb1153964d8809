/- LastMore, walked. -/
import Derived.Test.YtdmgpiimacnapaaLy
import Derived.Test.YtdmgpiimacnapaaAp
import Derived.Deep.RegionHeld3
import Derived.Deep.DeepCutAuto
namespace Go.Proofs.Ytdmgpiimacnapaa
open Go.RowKit Go.Shelf

set_option maxRecDepth 100000 in
set_option maxHeartbeats 4000000 in
theorem lmore_good (g : G) (v u x : Value) (a b : List Int) (w : World) (hg : IsGraph w v g) (hu : IsInts w u a) (hx : IsInts w x b) (hG : Good g) (hl : a.length + b.length ≤ 24)
    (ha : ∀ x ∈ a, 0 ≤ x ∧ x < (g.objs.length : Int)) (hb : ∀ x ∈ b, 0 ≤ x ∧ x < (g.objs.length : Int)) :
    Calls Try.prog 12 #[v, u, x] w fun e w' => e = .returned (.bool true) ∧ Below w.heap.size w w' := by
  have Hg := Lib.hid hg
  obtain ⟨vo, vr, rfl, ho, hr⟩ := hg
  obtain ⟨ao, co, rfl, hlo⟩ := ho.slice
  obtain ⟨ar, cr, rfl, hlr⟩ := hr.slice
  have Hu := Lib.hid hu
  have Hx := Lib.hid hx
  obtain ⟨au, cu, rfl, hlu⟩ := hu.slice
  obtain ⟨ax, cx, rfl, hlx⟩ := hx.slice
  have hM0 := (Mem.start w).alloc #[.slice ao g.objs.length co, .slice ar g.roots.length cr] 25
  have hn := hG.objs
  have HG := Lib.hid hG
  have Ha := Lib.hid ha
  have Hb := Lib.hid hb
  have Hka : Hid (LastOk g a) := Lib.hid ⟨hG, by omega, ha⟩
  have Hkab : Hid (LastOk g (([] ++ a) ++ b)) := Lib.hid ⟨hG, by simp; omega, by intro x hx; simp at hx; rcases hx with h | h; exact ha x h; exact hb x h⟩
  clear ho hr hu hx hG ha hb
  go_enter Try.func12, Try.ntmps12
  go_wp2_with fail
  refine (good_yes _ g _ (Hg.out.later hM0.below) HG.out).mono ?_
  rintro e w1 ⟨rfl, hb1⟩
  have hM1 := hM0.call hb1
  obtain ⟨p0, p1⟩ := hM1.cells2 0 rfl
  go_wp2_with fail
  refine (within_yes g.objs.length _ _ _ (Hu.out.later hM1.below) Ha.out).mono ?_
  rintro e w2 ⟨rfl, rfl⟩
  go_wp2_with fail
  refine (within_yes g.objs.length _ _ _ (Hx.out.later hM1.below) Hb.out).mono ?_
  rintro e w2 ⟨rfl, rfl⟩
  go_wp2_with fail
  refine (last_yes g _ _ a _ (Hg.out.later hM1.below) (Hu.out.later hM1.below) Hka.out).mono ?_
  rintro e w3 ⟨vR, vS, R, S, rfl, hL, hIR, hIS, hb3⟩
  obtain ⟨aR, cR, rfl, _⟩ := hIR.slice
  obtain ⟨aS, cS, rfl, _⟩ := hIS.slice
  have hM3 := hM1.call hb3
  obtain ⟨p2, p3⟩ := hM3.cells2 0 rfl
  have z3 : w.heap.size < w3.heap.size := (hM3.box 0 rfl).2.1
  have HL := Lib.hid hL
  have HIR := Lib.hid hIR
  have HIS := Lib.hid hIS
  have HM3 := Lib.hid hM3
  have HMf : Hid (Mem w3.heap.size w3 ((w3.alloc (.cells #[] 3)).drew) [rowI 3 (.slice (some ⟨w3.heap.size, 0, none⟩) 0 0) []]) := Lib.hid ((Mem.start w3).fresh0 3).drew
  have q3 : ((w3.alloc (.cells #[] 3)).drew).cell? ⟨w.heap.size, 0, none⟩ = some (.slice ao g.objs.length co) := (HMf.out.below.cell (p := ⟨_, _, none⟩) z3).trans p2
  have q4 : ((w3.alloc (.cells #[] 3)).drew).cell? ⟨w.heap.size, 1, none⟩ = some (.slice ar g.roots.length cr) := (HMf.out.below.cell (p := ⟨_, _, none⟩) z3).trans p3
  clear hM0 hM1 hM3 hb1 hb3 hL hIR hIS p0 p1
  go_wp2_with fail
  go_cut [10, 11, 12] (fun s10 s11 s12 W' => s12 = .int .i64 0 ∧ ∃ Q T, LastS g (([] ++ a) ++ b) Q T ∧ IsInts W' s10 Q ∧ IsInts W' s11 T ∧ Below w3.heap.size w3 W')
  case first =>
    go_region_held3 (fun X => X.cell? ⟨w.heap.size, 0, none⟩ = some (.slice ao g.objs.length co) ∧ X.cell? ⟨w.heap.size, 1, none⟩ = some (.slice ar g.roots.length cr))
      (first | exact ⟨by simpa using p2, by simpa using p3⟩ | exact ⟨q3, q4⟩ | exact ⟨q5, q6⟩ | exact ⟨q7, q8⟩ | exact ⟨q9, q10⟩)
      (first
        | (refine Mem.step_appIs elemInts rfl (.tmp 53) (.tmp 54) rfl HMf.out 0 rfl rfl rfl (Hu.out.later (HM3.out.below.trans (HMf.out.below.mono HM3.out.base))) (by simp; omega) ?_
           intro v5 w5 hM5 hs5 hk5
           have q5 := (hM5.below.cell (p := ⟨_, _, none⟩) z3).trans p2
           have q6 := (hM5.below.cell (p := ⟨_, _, none⟩) z3).trans p3
           have HM5 := Lib.hid hM5
           clear hM5)
        | (refine Mem.step_appIs elemInts rfl (.tmp 55) (.tmp 56) rfl HM5.out 0 rfl rfl rfl (Hx.out.later (HM3.out.below.trans (HM5.out.below.mono HM3.out.base))) (by simp; omega) ?_
           intro v6 w6 hM6 hs6 hk6
           have q7 := (hM6.below.cell (p := ⟨_, _, none⟩) z3).trans p2
           have q8 := (hM6.below.cell (p := ⟨_, _, none⟩) z3).trans p3
           have hI6 : IsInts w6 v6 (([] ++ a) ++ b) := isInts_of_own (hM6.ownI 0 rfl) (by simp; omega) (fun x hx => by have := Hkab.out.2.2 x hx; exact ⟨by omega, by omega⟩)
           have Htr := Lib.hid (last_yes g _ v6 _ w6 (Hg.out.later (HM3.out.below.trans (hM6.below.mono HM3.out.base))) hI6 Hkab.out)
           have hb6 := hM6.below
           clear hM6 hI6)
        | (go_at_call 35
           refine Htr.out.mono ?_
           rintro e w7 ⟨vQ, vT, Q, T, rfl, hT, hIQ, hIT, hb7⟩
           have q9 := (hb7.cell (p := ⟨_, _, none⟩) (Nat.lt_of_lt_of_le z3 hb6.size)).trans q7
           have q10 := (hb7.cell (p := ⟨_, _, none⟩) (Nat.lt_of_lt_of_le z3 hb6.size)).trans q8))
    all_goals
      go_wp2_with fail
      go_meet
      exact ⟨rfl, Q, T, hT, hIQ, hIT, hb6.trans (hb7.mono hb6.size)⟩
  case rest =>
    obtain ⟨rfl, Q, T, hLT, hIQ, hIT, hbW⟩ := hcut
    obtain ⟨aQ, cQ, rfl, _⟩ := hIQ.slice
    obtain ⟨aT, cT, rfl, _⟩ := hIT.slice
    have hM4 := HM3.out.call hbW
    obtain ⟨q0, q1⟩ := hM4.cells2 0 rfl
    have HLT := Lib.hid hLT
    have HIQ := Lib.hid hIQ
    have HIT := Lib.hid hIT
    have HR4 := Lib.hid (HIR.out.later hbW)
    have HS4 := Lib.hid (HIS.out.later hbW)
    have HU4 := Lib.hid (Hu.out.later hM4.below)
    have HM4 := Lib.hid hM4
    have Hsub : Hid (∀ y ∈ a, y ∈ ([] ++ a) ++ b) := Lib.hid (fun y hy => by simp [hy])
    clear hLT hIQ hIT hM4 hbW q3 q4 p2 p3 HIR HIS HMf
    go_wp2_with fail
    refine (inside_yes _ _ _ _ _ HS4.out HIT.out (HL.out.more HLT.out Hsub.out)).mono ?_
    rintro e w5 ⟨rfl, rfl⟩
    go_wp2_with fail
    refine (inside_yes _ _ _ _ _ HR4.out HS4.out HL.out.in).mono ?_
    rintro e w5 ⟨rfl, rfl⟩
    go_wp2
    go_loop [82] (fun iv => ∃ k : Nat, k ≤ Q.length ∧ iv = .int .i64 k) (fun iv => Q.length - (intOf iv).toNat)
    case atStart => exact ⟨0, Nat.zero_le _, rfl⟩
    case round =>
      obtain ⟨k, hk, rfl⟩ := hrel
      by_cases hlt : k < Q.length
      · obtain ⟨y, hy⟩ := get_some _ _ hlt
        obtain ⟨by_, oy, cy, hv, hby, hny, c1, _⟩ := HIQ.out.at (Below.refl _ _) hy
        cases hv
        have hmem := List.mem_of_getElem? hy
        obtain ⟨t, ht⟩ := dec_iff (y ∈ a)
        have H1 := Lib.hid (has_said _ a y wc HU4.out t ht)
        have Hs : Hid (t = true → y ∈ R) := Lib.hid (fun h => HL.out.ready_less HLT.out Hsub.out y hmem (ht.1 h))
        clear hy hmem ht
        go_wp2_with fail
        refine H1.out.mono ?_
        rintro e w6 ⟨rfl, rfl⟩
        cases t with
        | false =>
          go_wp2
          go_round
          case rel => exact ⟨k + 1, by omega, by go_num⟩
          case measure => simp [intOf]; omega
        | true =>
          have H2 := Lib.hid (has_said _ R y wc HR4.out true ⟨fun _ => Hs.out rfl, fun _ => rfl⟩)
          go_wp2_with fail
          refine H2.out.mono ?_
          rintro e w6 ⟨rfl, rfl⟩
          go_wp2
          go_round
          case rel => exact ⟨k + 1, by omega, by go_num⟩
          case measure => simp [intOf]; omega
      · obtain rfl : k = Q.length := by omega
        go_wp2
        go_loopw [98] (fun iv wr => ∃ k : Nat, k ≤ a.length ∧ iv = .int .i64 k ∧ Below wc.heap.size wc wr) (fun iv _ => a.length - (intOf iv).toNat)
        case atStart => exact ⟨0, Nat.zero_le _, rfl, Below.refl _ _⟩
        case round =>
          clear q0 q1
          obtain ⟨k, hk, rfl, hB⟩ := hrel
          have hM := HM4.out.call hB
          obtain ⟨p0, p1⟩ := hM.cells2 0 rfl
          have z0 : w.heap.size < wr.heap.size := (hM.box 0 rfl).2.1
          have HB := Lib.hid hB
          have HM := Lib.hid hM
          by_cases hlt : k < a.length
          · obtain ⟨y, hy⟩ := get_some _ _ hlt
            obtain ⟨by_, oy, cy, hv, hby, hny, c1, _⟩ := HU4.out.at hB hy
            cases hv
            have hmem := List.mem_of_getElem? hy
            have Hmem := Lib.hid hmem
            have Hy0 := Lib.hid (Ha.out y hmem)
            clear hy hmem hB hM
            go_wp2_with fail
            refine (reachR_any g (by omega) _ _ (Hg.out.later HM.out.below)).mono ?_
            rintro e w6 ⟨vr3, lr3, rfl, hR3, hM12⟩
            have hI3 : IsInts w6 vr3 lr3 := isInts_of_own (hM12.ownI 0 rfl) (by have := rising_le hR3.rising hR3.rng; omega) (fun x hx => by have := hR3.rng x hx; exact ⟨by omega, by omega⟩)
            obtain ⟨t, ht⟩ := dec_iff (y ∈ lr3)
            have H1 := Lib.hid (has_said _ lr3 y w6 hI3 t ht)
            have Hs : Hid (t = false → y ∈ S) := Lib.hid (fun h => HL.out.has Hy0.out Hmem.out (fun hr => by have := ht.2 ((hR3.reachP HG.out y).2 hr); rw [h] at this; cases this))
            have HB6 := Lib.hid (HB.out.trans (hM12.below.mono HB.out.size))
            clear hI3 ht hR3 hM12
            go_wp2_with fail
            refine H1.out.mono ?_
            rintro e w7 ⟨rfl, rfl⟩
            cases t with
            | true =>
              go_wp2
              go_roundw
              case rel => exact ⟨k + 1, by omega, by go_num, HB6.out⟩
              case measure => simp [intOf]; omega
            | false =>
              have H2 := Lib.hid (has_said _ S y w6 (HS4.out.later HB6.out) true ⟨fun _ => Hs.out rfl, fun _ => rfl⟩)
              go_wp2_with fail
              refine H2.out.mono ?_
              rintro e w8 ⟨rfl, rfl⟩
              go_wp2
              go_roundw
              case rel => exact ⟨k + 1, by omega, by go_num, HB6.out⟩
              case measure => simp [intOf]; omega
          · obtain rfl : k = a.length := by omega
            have hbe := Lib.hid HM.out.below
            clear hB hM
            go_wp2
            go_ret
            exact ⟨rfl, hbe.out⟩

set_option maxRecDepth 100000 in
set_option maxHeartbeats 1000000 in
theorem lmore_bad (g : G) (v u x : Value) (a b : List Int) (w : World) (hg : IsGraph w v g) (hu : IsInts w u a) (hx : IsInts w x b) (hla : a.length ≤ 17592186044416) (hlb : b.length ≤ 17592186044416)
    (hk : ¬ (Good g ∧ a.length + b.length ≤ 24 ∧ (∀ x ∈ a, 0 ≤ x ∧ x < (g.objs.length : Int)) ∧ (∀ x ∈ b, 0 ≤ x ∧ x < (g.objs.length : Int)))) :
    Calls Try.prog 12 #[v, u, x] w fun e w' => e = .returned (.bool true) ∧ Below w.heap.size w w' := by
  have Hg := Lib.hid hg
  obtain ⟨vo, vr, rfl, ho, hr⟩ := hg
  obtain ⟨ao, co, rfl, hlo⟩ := ho.slice
  obtain ⟨ar, cr, rfl, hlr⟩ := hr.slice
  have Hu := Lib.hid hu
  have Hx := Lib.hid hx
  obtain ⟨au, cu, rfl, hlu⟩ := hu.slice
  obtain ⟨ax, cx, rfl, hlx⟩ := hx.slice
  have hM0 := (Mem.start w).alloc #[.slice ao g.objs.length co, .slice ar g.roots.length cr] 25
  have Hk := Lib.hid hk
  clear ho hr hu hx hk
  by_cases hG : Good g
  · have HG := Lib.hid hG
    clear hG
    go_enter Try.func12, Try.ntmps12
    go_wp2_with fail
    refine (good_yes _ g _ (Hg.out.later hM0.below) HG.out).mono ?_
    rintro e w1 ⟨rfl, hb1⟩
    have hM1 := hM0.call hb1
    obtain ⟨p0, p1⟩ := hM1.cells2 0 rfl
    by_cases hl : a.length + b.length ≤ 24
    · have Hl := Lib.hid hl
      go_wp2_with fail
      refine (within_either g.objs.length _ a _ (Hu.out.later hM1.below)).mono ?_
      rintro e w3 ⟨t, rfl, ht, rfl⟩
      have Ht := Lib.hid ht
      clear ht
      cases t with
      | false =>
        go_wp2
        go_ret
        exact ⟨rfl, hM1.below⟩
      | true =>
        have Hno : Hid (¬ ∀ y ∈ b, 0 ≤ y ∧ y < (g.objs.length : Int)) := Lib.hid (fun h => Hk.out ⟨HG.out, Hl.out, Ht.out.1 rfl, h⟩)
        go_wp2_with fail
        refine (within_either g.objs.length _ b _ (Hx.out.later hM1.below)).mono ?_
        rintro e w3 ⟨t, rfl, ht, rfl⟩
        obtain rfl : t = false := by
          cases t with
          | false => rfl
          | true => exact (Hno.out (ht.1 rfl)).elim
        clear ht
        go_wp2
        go_ret
        exact ⟨rfl, hM1.below⟩
    · have hz : decide (24 < (a.length : Int) + (b.length : Int)) = true := by simp; omega
      go_wp2
      go_ret
      exact ⟨rfl, hM1.below⟩
  · have HG := Lib.hid hG
    clear hG
    go_enter Try.func12, Try.ntmps12
    go_wp2_with fail
    refine (good_no _ g _ (Hg.out.later hM0.below) HG.out).mono ?_
    rintro e w1 ⟨rfl, hb1⟩
    have hM1 := hM0.call hb1
    go_wp2
    go_ret
    exact ⟨rfl, hM1.below⟩
theorem lmore_walk (w : World) (v u x : Value) (h : ∃ g, IsGraph w v g) (hu : ∃ l, IsInts w u l ∧ l.length ≤ 17592186044416) (hx : ∃ l, IsInts w x l ∧ l.length ≤ 17592186044416) :
    Calls Try.prog 12 #[v, u, x] w fun e w' => e = .returned (.bool true) ∧ Below w.heap.size w w' := by
  obtain ⟨g, hg⟩ := h
  obtain ⟨a, hu, hla⟩ := hu
  obtain ⟨b, hx, hlb⟩ := hx
  by_cases hk : Good g ∧ a.length + b.length ≤ 24 ∧ (∀ x ∈ a, 0 ≤ x ∧ x < (g.objs.length : Int)) ∧ (∀ x ∈ b, 0 ≤ x ∧ x < (g.objs.length : Int))
  · exact lmore_good g v u x a b w hg hu hx hk.1 hk.2.1 hk.2.2.1 hk.2.2.2
  · exact lmore_bad g v u x a b w hg hu hx hla hlb hk
end Go.Proofs.Ytdmgpiimacnapaa
