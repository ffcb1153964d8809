/- ArenaOnly, walked. -/
import Derived.Test.YtigdpdndnghldaaBj
import Derived.Test.YtigdpdndnghldaaAo
import Derived.Deep.QuietTactic
namespace Go.Proofs.Ytigdpdndnghldaa
open Go.RowKit Go.Shelf

theorem plain_w64 {ws : List Int} {os : List Ob} (hL : Laid ws os) (hw : ∀ x ∈ ws, w64 x) : ∀ x ∈ flat (plainOs os), w64 x := by
  intro x hx
  obtain ⟨o, ho, hx⟩ := List.mem_flatMap.1 hx
  obtain ⟨o', ho', rfl⟩ := List.mem_map.1 ho
  obtain ⟨k, hk⟩ := List.getElem?_of_mem ho'
  have hg := hL.good hk
  rcases List.mem_cons.1 hx with rfl | hx
  · exact (headP o'.2.length hg.2.2).2.2
  · exact hw x (fieldsOf_mem hL x (List.mem_flatMap.2 ⟨o', ho', hx⟩))

set_option maxRecDepth 100000 in
set_option maxHeartbeats 4000000 in
theorem arenaOnly_walk (vw vr : Value) (ws rs : List Int) (w : World) (hw : IsW w vw ws) (hr : IsW w vr rs) :
    Calls Try.prog 6 #[.agg #[vw, vr]] w fun e w' => e = .returned (.bool true) ∧ Below w.heap.size w w' := by
  have Hw := Lib.hid hw
  have Hr := Lib.hid hr
  obtain ⟨aw, cw, rfl, hmw⟩ := hw.slice
  obtain ⟨ar, cr, rfl, hmr⟩ := hr.slice
  have hM0 := (Mem.start w).alloc #[.slice aw ws.length cw, .slice ar rs.length cr] 24
  have HC := Lib.hid (sound_any _ _ ws rs _ (hw.later hM0.below) (hr.later hM0.below))
  have HM0 := Lib.hid hM0
  clear hw hr hM0
  go_enter Try.func6, Try.ntmps6
  go_wp2_with fail
  refine HC.out.mono ?_
  rintro e w2 ⟨hb, hcase⟩
  have hM2 := HM0.out.call hb
  have c0 : w2.cell? ⟨w.heap.size, 0, none⟩ = some (.slice aw ws.length cw) := by have := hM2.cell 0 rfl 0; simpa using this
  have c1 : w2.cell? ⟨w.heap.size, 1, none⟩ = some (.slice ar rs.length cr) := by have := hM2.cell 0 rfl 1; simpa using this
  have z0 : w.heap.size < w2.heap.size := (hM2.box 0 rfl).2.1
  have HM2 := Lib.hid hM2
  clear hb hM2 HC HM0
  rcases hcase with ⟨rfl, os, hS⟩ | ⟨rfl, hn⟩
  · have HS := Lib.hid hS
    have HRd := Lib.hid (aread_yes _ _ ws rs os w2 (Hw.out.later HM2.out.below) (Hr.out.later HM2.out.below) hS)
    have hws := hS.words
    have hrs := hS.roots
    have hcnt := hS.laid.count
    have H64 : Hid (∀ x ∈ allW rs os, w64 x) := Lib.hid (fun x hx => by
      rcases List.mem_append.1 hx with h | h
      · exact Hr.out.all x h
      · exact Hw.out.all x (fieldsOf_mem hS.laid x h))
    obtain ⟨n, hn⟩ : ∃ n, os.length = n := ⟨_, rfl⟩
    rw [hn] at hcnt
    have Hn := Lib.hid hn
    clear hS hn
    go_wp2_with fail
    refine HRd.out.mono ?_
    rintro e w4 ⟨gv, rfl, hG, hb4⟩
    have hg4 := hG.here
    obtain ⟨g, hge⟩ : ∃ g, readG os rs = g := ⟨_, rfl⟩
    rw [hge] at hg4
    have ho1 : g.objs.length = n := by rw [← hge]; show (os.map _).length = n; rw [List.length_map, Hn.out]
    have hr1 : g.roots.length = rs.length := by rw [← hge]; show (rs.map _).length = _; rw [List.length_map]
    have Hg4 := Lib.hid hg4
    obtain ⟨vo, vr2, rfl, hO, hR⟩ := hg4
    obtain ⟨ao, co, rfl, _⟩ := hO.slice
    obtain ⟨ar2, cr2, rfl, _⟩ := hR.slice
    rw [ho1, hr1] at Hg4 ⊢
    have hM4 := (HM2.out.call hb4).alloc #[.slice ao n co, .slice ar2 rs.length cr2] 42
    obtain ⟨bG, hbG⟩ : ∃ bG, w4.heap.size = bG := ⟨_, rfl⟩
    have hbx : Below w4.heap.size w4 (w4.alloc (.cells #[.slice ao n co, .slice ar2 rs.length cr2] 42)) := (Below.refl _ _).alloc (Nat.le_refl _) _
    have HLy := Lib.hid (lay_any _ g _ (Hg4.out.later hbx))
    rw [hbG] at hM4
    have HM4 := Lib.hid hM4
    have HbG := Lib.hid hbG
    have Hge := Lib.hid hge
    clear hO hR hr1 hG hb4 hM4 hbG hbx hge HRd c0 c1 z0 HM2
    go_wp2_with fail
    rw [HbG.out]
    refine HLy.out.mono ?_
    rintro e w5 hcase
    rcases hcase with ⟨hGd, wv, rv, rfl, hM5⟩ | ⟨hGd, wv, rv, c, rfl, ⟨a1, n1, k1, rfl⟩, ⟨a2, n2, k2, rfl⟩, hc, hb⟩
    · have hb5 := hM5.below
      have hlr := lay_read HS.out H64.out
      rw [Hge.out] at hlr
      have hMo := hM5.ownW 0 rfl
      have hMr := hM5.ownW 1 rfl
      rw [hlr.1] at hMo
      rw [hlr.2] at hMr
      obtain ⟨ps, hps⟩ : ∃ ps, plainOs os = ps := ⟨_, rfl⟩
      have hpl : (flat ps).length = ws.length := by rw [← hps, plain_flat, ← HS.out.laid.1]
      rw [show (os.map fun o => (headW o.2.length 0 false, o.2)) = ps from hps] at hMo
      have hall : ∀ x ∈ flat ps, w64 x := by
        rw [← hps]; exact plain_w64 HS.out.laid (fun x hx => Hw.out.all x hx)
      have hWv := isW_of_own hMo (by omega) hall
      have hRv := isW_of_own hMr (by omega) (fun x hx => Hr.out.all x hx)
      obtain ⟨av, cv, rfl, _⟩ := hWv.slice
      obtain ⟨au, cu, rfl, _⟩ := hRv.slice
      rw [hpl]
      have d0 : w5.cell? ⟨w.heap.size, 0, none⟩ = some (.slice aw ws.length cw) := by have := (HM4.out.call hb5).cell 1 rfl 0; simpa using this
      have y0 : w.heap.size < w5.heap.size := ((HM4.out.call hb5).box 1 rfl).2.1
      have hM6 := (HM4.out.call hb5).alloc #[.slice av ws.length cv, .slice au rs.length cu] 24
      obtain ⟨bB, hbB⟩ : ∃ bB, w5.heap.size = bB := ⟨_, rfl⟩
      have hbx5 : Below w5.heap.size w5 (w5.alloc (.cells #[.slice av ws.length cv, .slice au rs.length cu] 24)) := (Below.refl _ _).alloc (Nat.le_refl _) _
      obtain ⟨W6, hW6⟩ : ∃ W6, w5.alloc (.cells #[.slice av ws.length cv, .slice au rs.length cu] 24) = W6 := ⟨_, rfl⟩
      rw [hW6] at hbx5
      rw [hbB, hW6] at hM6
      have HSt := Lib.hid (rStarts_any _ ws W6 (Hw.out.later hM6.below) hws)
      have HWv := Lib.hid (hWv.later hbx5)
      have HRv := Lib.hid (hRv.later hbx5)
      have HM6 := Lib.hid hM6
      have Hpl := Lib.hid hpl
      have Hps := Lib.hid hps
      have HW6 := Lib.hid hW6
      have HbB := Lib.hid hbB
      clear hM5 hb5 hlr hMo hMr hps hpl hall hWv hRv hM6 hbB hbx5 hW6 HLy hGd Hg4 HM4 ho1
      go_wp2_with fail
      rw [HbB.out, HW6.out]
      refine HSt.out.mono ?_
      rintro e w7 hcase
      rcases hcase with ⟨os', r, hL', rfl, hM7⟩ | ⟨hno, _⟩
      · obtain rfl := HS.out.laid.unique hL'
        have hMx := HM6.out.call hM7.below
        have hr7 := isInts_of_own (hM7.ownI 0 rfl) (by rw [starts_len, Hn.out]; omega) (starts_64 HS.out.laid (by have := HS.out.words; omega))
        obtain ⟨ar7, cr7, rfl, _⟩ := hr7.slice
        have HWo := Lib.hid (words_any _ _ rs rs w7 (HRv.out.later hM7.below) (Hr.out.later hMx.below) (by omega))
        have e0 : w7.cell? ⟨w.heap.size, 0, none⟩ = some (.slice aw ws.length cw) := by have := hMx.cell 2 rfl 0; simpa using this
        have e1 : w7.cell? ⟨w.heap.size, 1, none⟩ = some (.slice ar rs.length cr) := by have := hMx.cell 2 rfl 1; simpa using this
        have e2 : w7.cell? ⟨bB, 0, none⟩ = some (.slice av ws.length cv) := by have := hMx.cell 0 rfl 0; simpa using this
        have e3 : w7.cell? ⟨bB, 1, none⟩ = some (.slice au rs.length cu) := by have := hMx.cell 0 rfl 1; simpa using this
        have z1 : w.heap.size < w7.heap.size := (hMx.box 2 rfl).2.1
        have z2 : bB < w7.heap.size := (hMx.box 0 rfl).2.1
        have q1 : ((ws.length : Int) != (ws.length : Int)) = false := by simp
        have HWv7 := Lib.hid (HWv.out.later hM7.below)
        have Hwv7 := Lib.hid (Hw.out.later hMx.below)
        have Hr7 := Lib.hid hr7
        have HMx := Lib.hid hMx
        have HL := Lib.hid hL'
        clear hM7 hMx hL' hr7 d0 y0 HWv HRv HSt HM6
        go_wp2_with fail
        refine HWo.out.mono ?_
        rintro e w8 ⟨rfl, q0, rfl⟩
        clear HWo
        go_wp2
        go_loopw [9] (fun i wr => ∃ k : Nat, k ≤ ws.length ∧ i = .int .i64 k ∧ ∃ q, wr = w7.drewN q) (fun i _ => ws.length - (intOf i).toNat)
        case atStart => exact ⟨0, Nat.zero_le _, rfl, _, rfl⟩
        case round =>
          obtain ⟨k, hk, rfl, q, hq⟩ := hrel
          have hBr : Below w7.heap.size w7 wr := by rw [hq]; exact below_drewN (Below.refl _ _) q
          have hMr := HMx.out.call hBr
          have f0 : wr.cell? ⟨w.heap.size, 0, none⟩ = some (.slice aw ws.length cw) := by have := hMr.cell 2 rfl 0; simpa using this
          have f2 : wr.cell? ⟨bB, 0, none⟩ = some (.slice av ws.length cv) := by have := hMr.cell 0 rfl 0; simpa using this
          have y1 : w.heap.size < wr.heap.size := (hMr.box 2 rfl).2.1
          have y2 : bB < wr.heap.size := (hMr.box 0 rfl).2.1
          have Hq := Lib.hid hq
          clear hMr hq
          by_cases hlt : k < ws.length
          · obtain ⟨x, hx⟩ := get_some ws k hlt
            obtain ⟨y, hy⟩ := get_some (flat ps) k (by rw [Hpl.out]; exact hlt)
            obtain ⟨b, off, cap2, hv, hb, _, c1, _⟩ := Hwv7.out.at hBr hx
            cases hv
            obtain ⟨b', off', cap2', hv', hb', _, d1, _⟩ := HWv7.out.at hBr hy
            rw [Hpl.out] at hv'
            cases hv'
            by_cases hin : (k : Int) ∈ starts os
            · have Q : Hid (∀ p, Calls Try.prog 26 #[.slice ar7 (starts os).length cr7, .int .i64 k] (wr.drewN p) fun e w' => e = .returned (.bool true) ∧ w' = wr.drewN p) := Lib.hid (fun p => by
                refine (has_yes _ (starts os) k _ (Hr7.out.later (below_drewN hBr _)) hin).mono ?_
                rintro e w' ⟨rfl, rfl⟩; exact ⟨rfl, rfl⟩)
              clear hin hx hy
              go_wp2
              go_quiet (with_reducible exact Calls.quiet_of_same (Q.out _))
              go_wp2
              go_roundw
              case rel => exact ⟨k + 1, by omega, by go_num, _, by rw [Hq.out, World.drewN_drewN]⟩
              case measure => simp [intOf]; omega
            · have Q : Hid (∀ p, Calls Try.prog 26 #[.slice ar7 (starts os).length cr7, .int .i64 k] (wr.drewN p) fun e w' => e = .returned (.bool false) ∧ w' = wr.drewN p) := Lib.hid (fun p => by
                refine (has_no _ (starts os) k _ (Hr7.out.later (below_drewN hBr _)) hin).mono ?_
                rintro e w' ⟨rfl, rfl⟩; exact ⟨rfl, rfl⟩)
              have hxy : x = y := by
                have h1 := plain_same os (by rw [← HL.out.1]; exact hlt) hin
                rw [Hps.out, hy, ← HL.out.1, hx] at h1
                exact (Option.some.inj h1).symm
              subst hxy
              have q2 : (x != x) = false := by simp
              clear hin hx hy
              go_wp2
              go_quiet (with_reducible exact Calls.quiet_of_same (Q.out _))
              go_wp2
              go_roundw
              case rel => exact ⟨k + 1, by omega, by go_num, _, by rw [Hq.out, World.drewN_drewN]⟩
              case measure => simp [intOf]; omega
          · obtain rfl : k = ws.length := by omega
            have HB := Lib.hid (HMx.out.call hBr).below
            clear hBr
            go_wp2
            go_ret
            exact ⟨rfl, HB.out⟩
      · exact absurd HS.out.laid (hno _)
    · have hbig : ¬ n ≤ 24 := fun h => hGd (by rw [← Hge.out]; exact read_good HS.out H64.out (by rw [Hn.out]; exact h))
      have hMx := HM4.out.call hb
      have q1 : (c != 0) = true := by simpa using hc
      have e0 : w5.cell? ⟨bG, 0, none⟩ = some (.slice ao n co) := by have := hMx.cell 0 rfl 0; simpa using this
      have ez : bG < w5.heap.size := (hMx.box 0 rfl).2.1
      have q2 : decide ((n : Int) > 24) = true := decide_eq_true (by omega)
      have HB := Lib.hid (hMx.alloc_ (.cells #[.slice a1 n1 k1, .slice a2 n2 k2] 24)).below
      clear hMx hb hc hGd HLy
      go_wp2
      go_ret
      exact ⟨rfl, HB.out⟩
  · have HU := Lib.hid (unsound_any _ _ ws rs w2 (Hw.out.later HM2.out.below) (Hr.out.later HM2.out.below) hn)
    clear hn
    go_wp2_with fail
    refine HU.out.mono ?_
    rintro e w3 ⟨rfl, hb3⟩
    have HB := Lib.hid (HM2.out.call hb3).below
    clear hb3
    go_wp2
    go_ret
    exact ⟨rfl, HB.out⟩
end Go.Proofs.Ytigdpdndnghldaa
