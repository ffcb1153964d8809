/- arena.Starts; ArenaCovers, walked. -/
import Derived.Test.YtigdpdndnghldaaBa
namespace Go.Proofs.Ytigdpdndnghldaa
open Go.RowKit Go.Shelf

set_option maxRecDepth 100000 in
set_option maxHeartbeats 1000000 in
theorem astarts_yes (vw vr : Value) (ws rs : List Int) (os : List Ob) (w : World) (hw : IsW w vw ws) (hr : IsW w vr rs) (hS : Sound ws rs os) :
    Calls Try.prog 19 #[.agg #[vw, vr]] w fun e w' => ∃ r, e = .returned (.tuple #[r, .int .i64 0]) ∧ Mem w.heap.size w w' [rowI 3 r (starts os)] := by
  have Hw := Lib.hid hw
  obtain ⟨aw, cw, rfl, hmw⟩ := hw.slice
  obtain ⟨ar, cr, rfl, hmr⟩ := hr.slice
  have hM0 := (Mem.start w).alloc #[.slice aw ws.length cw, .slice ar rs.length cr] 24
  have HC := Lib.hid (acheck_any _ _ ws rs _ (hw.later hM0.below) (hr.later hM0.below))
  have HM0 := Lib.hid hM0
  have HS := Lib.hid hS
  clear hw hr hM0 hS
  go_enter Try.func19, Try.ntmps19
  go_wp2_with fail
  refine HC.out.mono ?_
  rintro e w2 ⟨c, rfl, hb, hcase⟩
  rcases hcase with ⟨rfl, _⟩ | ⟨_, hno⟩
  · have hM2 := HM0.out.call hb
    have c0 : w2.cell? ⟨w.heap.size, 0, none⟩ = some (.slice aw ws.length cw) := by have := hM2.cell 0 rfl 0; simpa using this
    have c1 : w2.cell? ⟨w.heap.size, 1, none⟩ = some (.slice ar rs.length cr) := by have := hM2.cell 0 rfl 1; simpa using this
    have z0 : w.heap.size < w2.heap.size := (hM2.box 0 rfl).2.1
    have HB := Lib.hid (begins_any (.slice aw ws.length cw) (.slice ar rs.length cr) ws os w2 (Hw.out.later hM2.below) ⟨_, _, _, rfl⟩ HS.out.laid HS.out.words)
    have HM2 := Lib.hid hM2
    clear hb hM2 HC HM0
    go_wp2_with fail
    refine HB.out.mono ?_
    rintro e w3 ⟨sv, rfl, hM3⟩
    have HM3 := Lib.hid ((HM2.out.callMem hM3).drop (L' := [rowI 3 sv (starts os)]) (.cons_cons _ (List.nil_sublist _)))
    clear hM3
    go_wp2
    go_ret2
    exact ⟨sv, rfl, HM3.out⟩
  · exact absurd HS.out (hno os)
set_option maxRecDepth 100000 in
set_option maxHeartbeats 2000000 in
theorem arenaCovers_walk (vw vr : Value) (ws rs : List Int) (w : World) (hw : IsW w vw ws) (hr : IsW w vr rs) :
    Calls Try.prog 4 #[.agg #[vw, vr]] w fun e w' => e = .returned (.bool true) ∧ Below w.heap.size w w' := by
  have Hw := Lib.hid hw
  have Hr := Lib.hid hr
  obtain ⟨aw, cw, rfl, hmw⟩ := hw.slice
  obtain ⟨ar, cr, rfl, hmr⟩ := hr.slice
  have hM0 := (Mem.start w).alloc #[.slice aw ws.length cw, .slice ar rs.length cr] 24
  have HC := Lib.hid (sound_any _ _ ws rs _ (hw.later hM0.below) (hr.later hM0.below))
  have HM0 := Lib.hid hM0
  clear hw hr hM0
  go_enter Try.func4, Try.ntmps4
  go_wp2_with fail
  refine HC.out.mono ?_
  rintro e w2 ⟨hb, hcase⟩
  have hM2 := HM0.out.call hb
  have c0 : w2.cell? ⟨w.heap.size, 0, none⟩ = some (.slice aw ws.length cw) := by have := hM2.cell 0 rfl 0; simpa using this
  have c1 : w2.cell? ⟨w.heap.size, 1, none⟩ = some (.slice ar rs.length cr) := by have := hM2.cell 0 rfl 1; simpa using this
  have z0 : w.heap.size < w2.heap.size := (hM2.box 0 rfl).2.1
  have HM2 := Lib.hid hM2
  clear hb hM2 HC HM0
  rcases hcase with ⟨rfl, os, hS⟩ | ⟨rfl, hn⟩
  · have HS := Lib.hid hS
    have HSt := Lib.hid (astarts_yes _ _ ws rs os w2 (Hw.out.later HM2.out.below) (Hr.out.later HM2.out.below) hS)
    clear hS
    go_wp2_with fail
    refine HSt.out.mono ?_
    rintro e w3 ⟨sv, rfl, hM3⟩
    have hM4 := HM2.out.callMem hM3
    have hws := HS.out.words
    have hcnt := HS.out.laid.count
    have h64 := starts_64 HS.out.laid (by omega)
    obtain ⟨n, hn⟩ : ∃ n, os.length = n := ⟨_, rfl⟩
    obtain ⟨as3, c3, hv, _⟩ := (isInts_of_own (hM4.ownI 0 rfl) (by rw [starts_len]; omega) h64).slice
    rw [starts_len, hn] at hv
    subst hv
    have d0 : w3.cell? ⟨w.heap.size, 0, none⟩ = some (.slice aw ws.length cw) := by have := hM4.cell 1 rfl 0; simpa using this
    have d1 : w3.cell? ⟨w.heap.size, 1, none⟩ = some (.slice ar rs.length cr) := by have := hM4.cell 1 rfl 1; simpa using this
    have y0 : w.heap.size < w3.heap.size := (hM4.box 1 rfl).2.1
    have HRd := Lib.hid (aread_yes _ _ ws rs os w3 (Hw.out.later hM4.below) (Hr.out.later hM4.below) HS.out)
    have HM4 := Lib.hid hM4
    have Hn := Lib.hid hn
    have H64 := Lib.hid h64
    rw [hn] at hcnt
    clear hM3 hM4 hn h64 HM2 HSt c0 c1 z0
    go_wp2_with fail
    refine HRd.out.mono ?_
    rintro e w4 ⟨gv, rfl, hG, hb4⟩
    obtain ⟨vo, vr2, rfl, hO, hR⟩ := hG.here
    obtain ⟨ao, co, rfl, _⟩ := hO.slice
    obtain ⟨ar2, cr2, rfl, _⟩ := hR.slice
    have ho1 : (readG os rs).objs.length = n := by show (os.map _).length = n; rw [List.length_map, Hn.out]
    have hr1 : (readG os rs).roots.length = rs.length := by show (rs.map _).length = _; rw [List.length_map]
    rw [ho1, hr1]
    have hM4 := (HM4.out.call hb4).alloc #[.slice ao n co, .slice ar2 rs.length cr2] 42
    have hMa := HM4.out.call hb4
    have g0 : w4.cell? ⟨w.heap.size, 0, none⟩ = some (.slice aw ws.length cw) := by have := hMa.cell 1 rfl 0; simpa using this
    have g1 : w4.cell? ⟨w.heap.size, 1, none⟩ = some (.slice ar rs.length cr) := by have := hMa.cell 1 rfl 1; simpa using this
    have gz : w.heap.size < w4.heap.size := (hMa.box 1 rfl).2.1
    obtain ⟨bG, hbG⟩ : ∃ bG, w4.heap.size = bG := ⟨_, rfl⟩
    obtain ⟨W4, hW4⟩ : ∃ W4, w4.alloc (.cells #[.slice ao n co, .slice ar2 rs.length cr2] 42) = W4 := ⟨_, rfl⟩
    have hO4 : IsObjs W4 (.slice ao (readG os rs).objs.length co) (readG os rs).objs := by
      have hb : Below w4.heap.size w4 W4 := by rw [← hW4]; exact (Below.refl _ _).alloc (Nat.le_refl _) _
      exact hO.later hb
    rw [hbG, hW4] at hM4
    have HO := Lib.hid hO4
    have HM5 := Lib.hid hM4
    have HW4 := Lib.hid hW4
    have HbG := Lib.hid hbG
    clear hO hR ho1 hr1 hG hb4 hM4 hMa hW4 hbG hO4 HM4 HRd d0 d1 y0
    go_wp2
    rw [HbG.out, HW4.out]
    go_loopw [7, 8] (fun s i wr => ∃ k : Nat, k ≤ n ∧ i = .int .i64 k ∧ s = .int .i64 (place os k) ∧ Below W4.heap.size W4 wr) (fun _ i _ => n - (intOf i).toNat)
    case atStart => exact ⟨0, Nat.zero_le _, rfl, rfl, Below.refl _ _⟩
    case round =>
      obtain ⟨k, hk, rfl, rfl, hB⟩ := hrel
      have hMr := HM5.out.call hB
      have hpk := place_mono (os := os) (show k ≤ os.length by rw [Hn.out]; exact hk)
      rw [place_all, ← HS.out.laid.1] at hpk
      by_cases hlt : k < n
      · have hko : k < os.length := by rw [Hn.out]; exact hlt
        obtain ⟨o, ho⟩ := get_some os k hko
        obtain ⟨b, off, cap', hv, _, hb3, d1, _⟩ := (isInts_of_own (hMr.ownI 1 rfl) (by rw [starts_len, Hn.out]; omega) H64.out).at (Below.refl _ _) (starts_get hko)
        rw [starts_len, Hn.out] at hv
        cases hv
        have hobj : (readG os rs).objs[k]? = some (o.2.map (valG os)) := by show (os.map _)[k]? = _; rw [List.getElem?_map, ho]; rfl
        obtain ⟨b2, off2, cap2, u, hv, _, hb5, d2, hu⟩ := HO.out.at hB hobj
        rw [show (readG os rs).objs.length = n by show (os.map _).length = n; rw [List.length_map, Hn.out]] at hv
        cases hv
        obtain ⟨au, cu, rfl, _⟩ := hu.slice
        rw [List.length_map] at d2
        have e0 : wr.cell? ⟨bG, 0, none⟩ = some (.slice (some ⟨b2, off2, none⟩) n co) := by have := hMr.cell 0 rfl 0; simpa using this
        have ez : bG < wr.heap.size := (hMr.box 0 rfl).2.1
        have hg := HS.out.laid.good ho
        have hft := HS.out.laid.fit ho
        have Hpl := Lib.hid (place_succ ho)
        obtain ⟨m, hm⟩ : ∃ m, o.2.length = m := ⟨_, rfl⟩
        obtain ⟨p, hp⟩ : ∃ p, place os k = p := ⟨_, rfl⟩
        rw [hm] at d2 Hpl hft
        rw [hp] at d1 Hpl hft hpk ⊢
        have e1 : ((p : Int) != (p : Int)) = false := by simp
        have hm4 : m ≤ 4 := by have := hg.2.2; omega
        have HB := Lib.hid hB
        clear hMr hobj hu hg hm hp hB ho
        go_wp2
        go_roundw
        case rel => exact ⟨k + 1, by omega, by go_num, by rw [Hpl.out]; go_num, HB.out⟩
        case measure => simp [intOf]; omega
      · obtain rfl : k = n := by omega
        have hpa : place os k = ws.length := by rw [← Hn.out, place_all, ← HS.out.laid.1]
        rw [hpa]
        have e0 : wr.cell? ⟨w.heap.size, 0, none⟩ = some (.slice aw ws.length cw) := by have := hMr.cell 2 rfl 0; simpa using this
        have ez : w.heap.size < wr.heap.size := (hMr.box 2 rfl).2.1
        have HB := Lib.hid hMr.below
        clear hMr hpk hpa hB
        go_wp2
        go_ret
        exact ⟨rfl, HB.out⟩
  · have HU := Lib.hid (unsound_any _ _ ws rs w2 (Hw.out.later HM2.out.below) (Hr.out.later HM2.out.below) hn)
    clear hn
    go_wp2_with fail
    refine HU.out.mono ?_
    rintro e w3 ⟨rfl, hb3⟩
    have HB := Lib.hid (HM2.out.call hb3).below
    clear hb3
    go_wp2
    go_ret
    exact ⟨rfl, HB.out⟩
end Go.Proofs.Ytigdpdndnghldaa
