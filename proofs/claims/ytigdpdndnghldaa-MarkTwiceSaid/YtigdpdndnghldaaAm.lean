/- mark.Sweep and MarkSwept, walked. -/
import Derived.Test.YtigdpdndnghldaaAl
namespace Go.Proofs.Ytigdpdndnghldaa
open Go.RowKit Go.Shelf

attribute [local go_sem ↓] Go.wp_at_zero Go.wp_at_succ
theorem enter_sweep1 : ∀ args w, (callFunc 41 args).run Try.prog w = .ok (.enter 41 args) w := fun _ _ => rfl
set_option maxRecDepth 100000 in
set_option maxHeartbeats 1000000 in
theorem sweep_yes (vw vr : Value) (ws rs : List Int) (os : List Ob) (w : World) (hw : IsW w vw ws) (hr : IsW w vr rs) (hS : Sound ws rs os) :
    Calls Try.prog 17 #[.agg #[vw, vr]] w fun e w' => ∃ r, e = .returned (.tuple #[r, .int .i64 0]) ∧ Mem w.heap.size w w' [rowT 31 2 encB r (swp os)] := by
  have Hw := Lib.hid hw
  obtain ⟨aw, cw, rfl, hmw⟩ := hw.slice
  obtain ⟨ar, cr, rfl, hmr⟩ := hr.slice
  have hM0 := (Mem.start w).alloc #[.slice aw ws.length cw, .slice ar rs.length cr] 24
  have HC := Lib.hid (acheck_any _ _ ws rs _ (hw.later hM0.below) (hr.later hM0.below))
  have HM0 := Lib.hid hM0
  have HS := Lib.hid hS
  clear hw hr hM0 hS
  go_enter Try.func17, Try.ntmps17
  go_wp2_with fail
  refine HC.out.mono ?_
  rintro e w2 ⟨c, rfl, hb, hcase⟩
  rcases hcase with ⟨rfl, _⟩ | ⟨_, hn⟩
  · have hM2 := ((HM0.out.call hb).nilT 31 2 encB).alloc #[.slice none 0 0] 26
    obtain ⟨b5, hb5⟩ : ∃ b5, w2.heap.size = b5 := ⟨_, rfl⟩
    obtain ⟨W3, hW3⟩ : ∃ W3, w2.alloc (.cells #[.slice none 0 0] 26) = W3 := ⟨_, rfl⟩
    have cA : w2.cell? ⟨w.heap.size, 0, none⟩ = some (.slice aw ws.length cw) := by have := (HM0.out.call hb).cell 0 rfl 0; simpa using this
    have zA : w.heap.size < w2.heap.size := ((HM0.out.call hb).box 0 rfl).2.1
    rw [hb5, hW3] at hM2
    have HWk := Lib.hid (walk_any 41 #[.pointer (some ⟨b5, 0, none⟩)] (ownSw b5) w W3 [ebox w.heap.size #[.slice aw ws.length cw, .slice ar rs.length cr] 24] (.slice none 0 0) _ ws Hw.out HS.out.words enter_sweep1 hM2
      (fun os x n fs k L' wr hP hP2 hh hfl hM => sweep1_any w wr b5 ws HS.out.words os x n fs k L' hP (hP.fields hP2).2.2 hh hfl hM))
    have HW3 := Lib.hid hW3
    have Hb5 := Lib.hid hb5
    clear hM2 hb hW3 hb5 HC HM0
    go_wp2_with fail
    rw [Hb5.out, HW3.out]
    refine HWk.out.mono ?_
    rintro e w6 hcase
    rcases hcase with ⟨os2, lv, hL2, rfl, hM⟩ | ⟨hno, _⟩
    · obtain rfl := HS.out.laid.unique hL2
      have c0 : w6.cell? ⟨b5, 0, none⟩ = some lv := by have := hM.cell 0 rfl 0; simpa using this
      have z0 : b5 < w6.heap.size := (hM.box 0 rfl).2.1
      have HM := Lib.hid (hM.drop (L' := [rowT 31 2 encB lv (swp os)]) (.cons _ (.cons_cons _ (List.nil_sublist _))))
      clear hM HWk HW3 Hb5 cA zA
      go_wp2
      go_ret2
      exact ⟨lv, rfl, HM.out⟩
    · exact absurd HS.out.laid (hno os)
  · exact absurd HS.out (hn os)
theorem rise_at {os : List Ob} {l : List (Int × Int)} (h : SwInv os l) {i : Nat} {p : Int × Int} (hp : l[i]? = some p) :
    1 ≤ p.2 ∧ 0 ≤ p.1 ∧ p.1 + p.2 ≤ (flat os).length := h.each p (List.mem_of_getElem? hp)
theorem sumL_take {l : List (Int × Int)} {k : Nat} {p : Int × Int} (h : l[k]? = some p) : sumL (l.take (k + 1)) = sumL (l.take k) + p.2 := by
  rw [take_succ_some _ _ _ h, sumL_append]; simp [sumL]
def markS (h : Int) : Int := if markB h = true then 1 + h % 256 else 0
theorem sumM_hdrs {os : List Ob} (h : ∀ o ∈ os, GoodO o) : ((hdrs os).map markS).sum = sumM os := by
  unfold hdrs sumM
  rw [List.map_map]
  congr 1
  refine List.map_congr_left fun o ho => ?_
  have := (h o ho).2
  unfold markS
  simp only [Function.comp]
  rw [this]
theorem sumL_nonneg : ∀ l : List (Int × Int), (∀ p ∈ l, 1 ≤ p.2) → 0 ≤ sumL l
  | [], _ => by simp [sumL]
  | p :: l, h => by
    have h1 := sumL_nonneg l (fun q hq => h q (List.mem_cons_of_mem _ hq))
    have h2 := h p List.mem_cons_self
    simp [sumL] at h1 ⊢; omega
theorem sum_nonneg : ∀ l : List Int, (∀ x ∈ l, 0 ≤ x) → 0 ≤ l.sum
  | [], _ => by simp
  | x :: l, h => by
    have h1 := sum_nonneg l (fun q hq => h q (List.mem_cons_of_mem _ hq))
    have h2 := h x List.mem_cons_self
    rw [List.sum_cons]; omega
theorem sumM_nonneg (os : List Ob) : 0 ≤ sumM os := by
  refine sum_nonneg _ fun x hx => ?_
  obtain ⟨o, _, rfl⟩ := List.mem_map.1 hx
  split <;> omega
theorem sumL_part {os : List Ob} {l : List (Int × Int)} (h : SwInv os l) (k : Nat) : 0 ≤ sumL (l.take k) ∧ sumL (l.take k) ≤ (flat os).length := by
  have h1 := sumL_nonneg (l.take k) (fun p hp => (h.each p (List.mem_of_mem_take hp)).1)
  have h2 := sumL_nonneg (l.drop k) (fun p hp => (h.each p (List.mem_of_mem_drop hp)).1)
  have h3 := h.all
  have h4 := sumM_nonneg os
  rw [← List.take_append_drop k l, sumL_append] at h3
  omega
theorem markS_part (l : List Int) (k : Nat) : 0 ≤ ((l.take k).map markS).sum ∧ ((l.take k).map markS).sum ≤ (l.map markS).sum := by
  have hp : ∀ m : List Int, 0 ≤ (m.map markS).sum := fun m => sum_nonneg _ fun x hx => by
    obtain ⟨o, _, rfl⟩ := List.mem_map.1 hx
    unfold markS; split <;> omega
  refine ⟨hp _, ?_⟩
  have h2 := hp (l.drop k)
  have h3 : (l.map markS).sum = ((l.take k).map markS).sum + ((l.drop k).map markS).sum := by
    rw [← List.sum_append, ← List.map_append, List.take_append_drop]
  omega
theorem markS_take {l : List Int} {k : Nat} {h : Int} (hh : l[k]? = some h) : ((l.take (k + 1)).map markS).sum = ((l.take k).map markS).sum + markS h := by
  rw [take_succ_some _ _ _ hh, List.map_append, List.sum_append]; simp
set_option maxRecDepth 100000 in
set_option maxHeartbeats 4000000 in
theorem markSwept_walk (vw vr : Value) (ws rs : List Int) (w : World) (hw : IsW w vw ws) (hr : IsW w vr rs) :
    Calls Try.prog 3 #[.agg #[vw, vr]] w fun e w' => e = .returned (.bool true) ∧ Below w.heap.size w w' := by
  have Hw := Lib.hid hw
  have Hr := Lib.hid hr
  obtain ⟨aw, cw, rfl, hmw⟩ := hw.slice
  obtain ⟨ar, cr, rfl, hmr⟩ := hr.slice
  have hM0 := (Mem.start w).alloc #[.slice aw ws.length cw, .slice ar rs.length cr] 24
  have HC := Lib.hid (sound_any _ _ ws rs _ (hw.later hM0.below) (hr.later hM0.below))
  have HM0 := Lib.hid hM0
  clear hw hr hM0
  go_enter Try.func3, Try.ntmps3
  go_wp2_with fail
  refine HC.out.mono ?_
  rintro e w2 ⟨hb, hcase⟩
  have hM2 := HM0.out.call hb
  have c0 : w2.cell? ⟨w.heap.size, 0, none⟩ = some (.slice aw ws.length cw) := by have := hM2.cell 0 rfl 0; simpa using this
  have c1 : w2.cell? ⟨w.heap.size, 1, none⟩ = some (.slice ar rs.length cr) := by have := hM2.cell 0 rfl 1; simpa using this
  have z0 : w.heap.size < w2.heap.size := (hM2.box 0 rfl).2.1
  have HM2 := Lib.hid hM2
  clear hb hM2 HC HM0
  rcases hcase with ⟨rfl, os, hS⟩ | ⟨rfl, hn⟩
  · have HS := Lib.hid hS
    have HSw := Lib.hid (sweep_yes _ _ ws rs os w2 (Hw.out.later HM2.out.below) (Hr.out.later HM2.out.below) hS)
    clear hS
    go_wp2_with fail
    refine HSw.out.mono ?_
    rintro e w3 ⟨r, rfl, hM3⟩
    have hI := swp_inv os
    have hfl : (flat os).length = ws.length := by rw [HS.out.laid.1]
    have hws := HS.out.words
    have hfew := hI.few
    have hcnt := HS.out.laid.count
    obtain ⟨l, hl⟩ : ∃ l, swp os = l := ⟨_, rfl⟩
    rw [hl] at hM3 hI hfew
    have hM4 := HM2.out.callMem hM3
    obtain ⟨c, hc⟩ : ∃ c, l.length = c := ⟨_, rfl⟩
    obtain ⟨al, cl, hv, _⟩ := (hM4.isTup 0 rfl encB_len (by omega)).slice
    rw [hc] at hv
    subst hv
    have HM4 := Lib.hid hM4
    have HI := Lib.hid hI
    have Hc := Lib.hid hc
    have Hfl := Lib.hid hfl
    have hc256 : c ≤ 256 := by omega
    have Hbn : Hid (∀ p ∈ l, 1 ≤ p.2 ∧ 0 ≤ p.1 ∧ p.1 + p.2 ≤ ws.length) := Lib.hid (fun p hp => by have := hI.each p hp; omega)
    have Hsl : Hid (∀ k, 0 ≤ sumL (l.take k) ∧ sumL (l.take k) ≤ 256) := Lib.hid (fun k => by have := sumL_part hI k; omega)
    clear hM3 hM4 hI hl hc hfl HM2 HSw hfew hcnt c0 c1 z0
    go_wp2
    go_loopw [5, 6] (fun s i wr => ∃ k : Nat, k ≤ c ∧ i = .int .i64 k ∧ s = .int .i64 (sumL (l.take k)) ∧ Mem w.heap.size w wr [rowT 31 2 encB (.slice al c cl) l, ebox w.heap.size #[.slice aw ws.length cw, .slice ar rs.length cr] 24]) (fun _ i _ => c - (intOf i).toNat)
    case atStart => exact ⟨0, Nat.zero_le _, rfl, rfl, HM4.out⟩
    case round =>
      clear HM4
      obtain ⟨k, hk, rfl, rfl, hM⟩ := hrel
      by_cases hlt : k < c
      · obtain ⟨p, hp⟩ := get_some l k (by rw [Hc.out]; exact hlt)
        obtain ⟨b, off, cap2, hv, _, hb1, hcc⟩ := (hM.isTup 0 rfl encB_len (by rw [Hc.out]; omega)).at (Below.refl _ _) hp
        rw [Hc.out] at hv
        cases hv
        have d0 := hcc 0 _ rfl
        have d1 := hcc 1 _ rfl
        rw [Nat.add_zero] at d0
        obtain ⟨pb1, pb2, pb3⟩ := Hbn.out p (List.mem_of_getElem? hp)
        have hS1 := Hsl.out k
        have Hst := Lib.hid (sumL_take hp)
        obtain ⟨S, hSe⟩ : ∃ S, sumL (l.take k) = S := ⟨_, rfl⟩
        rw [hSe] at hS1 Hst ⊢
        have e1 : decide (p.2 < 1) = false := decide_eq_false (by omega)
        have e2 : decide (p.1 < 0) = false := decide_eq_false (by omega)
        obtain ⟨hS0, hS2⟩ := hS1
        have HMn : Hid (∀ nq, Mem w.heap.size w (wr.drewN nq) [rowT 31 2 encB (.slice (some ⟨b, off, none⟩) c cl) l, ebox w.heap.size #[.slice aw ws.length cw, .slice ar rs.length cr] 24]) := Lib.hid (fun nq => hM.drewN nq)
        rcases Nat.eq_zero_or_pos k with hk0 | hk0
        · have e3 : decide ((0 : Int) < (k : Int)) = false := decide_eq_false (by omega)
          have e9 : ¬ 0 < k := by omega
          clear hM hcc hp hSe hk0
          go_wp2
          go_quiet (fail)
          have y1 : (wr.drewN nq).cell? ⟨b, off + k * 2 + 1, none⟩ = some (.int .i64 p.2) := by simpa using d1
          have zz := hb1
          have hM2 := HMn.out nq
          obtain ⟨W2, hW2⟩ : ∃ W2, wr.drewN nq = W2 := ⟨_, rfl⟩
          rw [hW2] at hM2 y1 ⊢
          have HM2 := Lib.hid hM2
          clear hM2 hW2 HMn d0 d1
          go_wp2
          go_roundw
          case rel => exact ⟨k + 1, by omega, by go_num, by rw [Hst.out], HM2.out⟩
          case measure => simp [intOf]; omega
        · obtain ⟨j, rfl⟩ : ∃ j, k = j + 1 := ⟨k - 1, by omega⟩
          obtain ⟨q, hq⟩ := get_some l j (by rw [Hc.out]; omega)
          obtain ⟨b', off', cap3, hv, _, hb2, hcq⟩ := (hM.isTup 0 rfl encB_len (by rw [Hc.out]; omega)).at (Below.refl _ _) hq
          rw [Hc.out] at hv
          cases hv
          have g0 := hcq 0 _ rfl
          have g1 := hcq 1 _ rfl
          rw [Nat.add_zero] at g0
          have hr1 := HI.out.rise j q p hq hp
          obtain ⟨qb1, qb2, qb3⟩ := Hbn.out q (List.mem_of_getElem? hq)
          obtain ⟨K, hK⟩ : ∃ K, j + 1 = K := ⟨_, rfl⟩
          rw [hK] at d0 d1 hlt hk Hst ⊢
          have e3 : decide ((0 : Int) < (K : Int)) = true := decide_eq_true (by omega)
          have e9 : 0 < K := by omega
          have e4 : IntKind.i64.wrap ((K : Int) - 1) = (j : Int) := by rw [IntWalk.i64_in _ (by omega)]; omega
          have e5 : j < c := by omega
          have e6 : (j : Int) < (c : Int) := by omega
          have e7 : IntKind.i64.wrap (q.1 + q.2) = q.1 + q.2 := IntWalk.i64_in _ (by omega)
          have e8 : decide (q.1 + q.2 ≥ p.1) = false := decide_eq_false (by omega)
          clear hM hcc hcq hp hq hSe hK hr1
          go_wp2
          go_quiet (fail)
          have y1 : (wr.drewN nq).cell? ⟨b, off + K * 2 + 1, none⟩ = some (.int .i64 p.2) := by simpa using d1
          have zz := hb1
          have hM2 := HMn.out nq
          obtain ⟨W2, hW2⟩ : ∃ W2, wr.drewN nq = W2 := ⟨_, rfl⟩
          rw [hW2] at hM2 y1 ⊢
          have HM2 := Lib.hid hM2
          clear hM2 hW2 HMn d0 d1
          go_wp2
          go_roundw
          case rel => exact ⟨K + 1, by omega, by go_num, by rw [Hst.out], HM2.out⟩
          case measure => simp [intOf]; omega
      · obtain rfl : k = c := by omega
        rw [show l.take k = l by rw [← Hc.out, List.take_length]]
        have hS1 := Hsl.out k
        rw [show l.take k = l by rw [← Hc.out, List.take_length]] at hS1
        have hall := HI.out.all
        rw [Hfl.out, ← sumM_hdrs HS.out.laid.2] at hall
        obtain ⟨S, hSe⟩ : ∃ S, sumL l = S := ⟨_, rfl⟩
        rw [hSe] at hS1 hall ⊢
        have c0 : wr.cell? ⟨w.heap.size, 0, none⟩ = some (.slice aw ws.length cw) := by have := hM.cell 1 rfl 0; simpa using this
        have c1 : wr.cell? ⟨w.heap.size, 1, none⟩ = some (.slice ar rs.length cr) := by have := hM.cell 1 rfl 1; simpa using this
        have z0 : w.heap.size < wr.heap.size := (hM.box 1 rfl).2.1
        have HM := Lib.hid (hM.drop (List.sublist_cons_self _ _))
        have HH := Lib.hid (heads_any (.slice aw ws.length cw) (.slice ar rs.length cr) ws os wr (Hw.out.later hM.below) ⟨_, _, _, rfl⟩ HS.out.laid hws)
        obtain ⟨hS0, hS2⟩ := hS1
        have Hall := Lib.hid hall
        clear hM hSe hall
        go_wp2_with fail
        refine HH.out.mono ?_
        rintro e w6 ⟨r, rfl, hM6⟩
        have hM7 := HM.out.callMem hM6
        obtain ⟨n, hn⟩ : ∃ n, (hdrs os).length = n := ⟨_, rfl⟩
        have hn256 : n ≤ 256 := by
          have := HS.out.laid.count
          rw [← hn]; unfold hdrs; rw [List.length_map]; omega
        obtain ⟨ah, ch, hv, _⟩ := (hM7.isTup 0 rfl encH_len (by omega)).slice
        rw [hn] at hv
        subst hv
        have HM7 := Lib.hid hM7
        have Hn := Lib.hid hn
        clear hM6 hM7 hn HM HH c0 c1 z0
        go_wp2
        go_loopw [5, 76] (fun s i wr => ∃ k : Nat, k ≤ n ∧ i = .int .i64 k ∧ s = .int .i64 (S + (((hdrs os).take k).map markS).sum) ∧ Mem w.heap.size w wr [rowT 35 3 encH (.slice ah n ch) (hdrs os), ebox w.heap.size #[.slice aw ws.length cw, .slice ar rs.length cr] 24]) (fun _ i _ => n - (intOf i).toNat)
        case atStart => exact ⟨0, Nat.zero_le _, rfl, by simp, HM7.out⟩
        case round =>
          clear HM7
          obtain ⟨k2, hk2, rfl, rfl, hM⟩ := hrel
          have hmp := markS_part (hdrs os) k2
          have hall := Hall.out
          by_cases hlt2 : k2 < n
          · obtain ⟨h, hh⟩ := get_some (hdrs os) k2 (by rw [Hn.out]; exact hlt2)
            obtain ⟨b, off, cap2, hv, _, hb1, hcc⟩ := (hM.isTup 0 rfl encH_len (by rw [Hn.out]; omega)).at (Below.refl _ _) hh
            rw [Hn.out] at hv
            cases hv
            have d0 := hcc 0 _ rfl
            have d1 := hcc 1 _ rfl
            have d2 := hcc 2 _ rfl
            rw [Nat.add_zero] at d0
            have Hst := Lib.hid (markS_take hh)
            obtain ⟨s, hse⟩ : ∃ s, (((hdrs os).take k2).map markS).sum = s := ⟨_, rfl⟩
            rw [hse] at hmp Hst ⊢
            have hms : markS h = if (h / 256 % 2 == 1) = true then 1 + h % 256 else 0 := rfl
            rw [hms] at Hst
            have hl0 : 0 ≤ h % 256 := by omega
            have hl1 : h % 256 < 256 := by omega
            obtain ⟨hl, hhl⟩ : ∃ hl, h % 256 = hl := ⟨_, rfl⟩
            obtain ⟨mb, hmb⟩ : ∃ mb, (h / 256 % 2 == 1) = mb := ⟨_, rfl⟩
            rw [hhl] at d0 Hst hl0 hl1
            rw [hmb] at d1 Hst
            have hs256 : s ≤ 300 := by omega
            have hs0 : 0 ≤ s := hmp.1
            have HMx := Lib.hid (hM.alloc_ (.cells #[.int .i64 hl, .bool mb, .int .i64 (h / 512 % 8)] 35))
            clear hM hcc hh hse hms hhl hmb hmp hall
            cases mb with
            | true =>
              go_wp2
              go_roundw
              case rel => exact ⟨k2 + 1, by omega, by go_num, by rw [Hst.out, if_pos rfl]; go_num, HMx.out⟩
              case measure => simp [intOf]; omega
            | false =>
              go_wp2
              go_roundw
              case rel => exact ⟨k2 + 1, by omega, by go_num, by rw [Hst.out, if_neg (by decide)]; go_num, HMx.out⟩
              case measure => simp [intOf]; omega
          · obtain rfl : k2 = n := by omega
            rw [show (hdrs os).take k2 = hdrs os by rw [← Hn.out, List.take_length], hall]
            have c0 : wr.cell? ⟨w.heap.size, 0, none⟩ = some (.slice aw ws.length cw) := by have := hM.cell 1 rfl 0; simpa using this
            have z0 : w.heap.size < wr.heap.size := (hM.box 1 rfl).2.1
            have HB := Lib.hid hM.below
            clear hM hmp hall
            go_wp2
            go_ret
            exact ⟨rfl, HB.out⟩
  · have HU := Lib.hid (unsound_any _ _ ws rs w2 (Hw.out.later HM2.out.below) (Hr.out.later HM2.out.below) hn)
    clear hn
    go_wp2_with fail
    refine HU.out.mono ?_
    rintro e w3 ⟨rfl, hb3⟩
    have HB := Lib.hid (HM2.out.call hb3).below
    clear hb3
    go_wp2
    go_ret
    exact ⟨rfl, HB.out⟩
end Go.Proofs.Ytigdpdndnghldaa
