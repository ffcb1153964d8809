/- ragpickerref.Read, walked. -/
import Derived.Test.YtgdodbdipbomfaaBs
import Derived.Test.YtgdodbdipbomfaaAc
import Derived.StillTailTactics
import Derived.Deep.RegionLaw
import Derived.Deep.DrawnRows
namespace Go.Proofs.Ytgdodbdipbomfaa
open Go.RowKit Go.Shelf

attribute [local go_sem ↓] Go.wp_at_zero Go.wp_at_succ
set_option maxRecDepth 100000 in
set_option maxHeartbeats 4000000 in
theorem rread_yes (vw vr : Value) (ws rs : List Int) (os : List Ob) (w : World) (hw : IsW w vw ws) (hr : IsW w vr rs) (hS : Sound ws rs os) :
    Calls Try.prog 17 #[.agg #[vw, vr]] w fun e w' => ∃ v, e = .returned v ∧ Graft w.heap.size w' v (readG os rs) ∧ Below w.heap.size w w' := by
  have Hw := Lib.hid hw
  have Hr := Lib.hid hr
  obtain ⟨aw, cw, rfl, hmw⟩ := hw.slice
  obtain ⟨ar, cr, rfl, hmr⟩ := hr.slice
  have hM0 := (((Mem.start w).alloc #[.slice aw ws.length cw, .slice ar rs.length cr] 24).allocAt (w.heap.size + 1) (by simp) #[.slice none 0 0, .slice none 0 0] 36)
  have hws := hS.words
  have hrs := hS.roots
  have HSt := Lib.hid (rStarts_any _ ws _ (hw.later hM0.below) hws)
  have HM0 := Lib.hid hM0
  have HS := Lib.hid hS
  clear hw hr hM0 hS
  go_enter Try.func17, Try.ntmps17
  go_wp2_with fail
  refine HSt.out.mono ?_
  rintro e w3 hcase
  rcases hcase with ⟨os', sv, hL', rfl, hM3⟩ | ⟨hno, _⟩
  · obtain rfl := HS.out.laid.unique hL'
    obtain ⟨as3, n3, c3, rfl⟩ := own_slice (hM3.row 0 rfl)
    have hM4 := HM0.out.callMem hM3
    have hcnt := HS.out.laid.count
    have h64 := starts_64 HS.out.laid (by omega)
    have d0 : w3.cell? ⟨w.heap.size, 1, none⟩ = some (.slice ar rs.length cr) := by have := hM4.cell 2 rfl 1; simpa using this
    have zz0 : w.heap.size < w3.heap.size := (hM4.box 2 rfl).2.1
    have hos : os.length ≤ 256 := by omega
    have HR1 := Lib.hid (unpacked_any w3 (.slice ar rs.length cr) (.slice as3 n3 c3) rs os (Hr.out.later hM4.below) (isInts_of_own (hM4.ownI 0 rfl) (by rw [starts_len]; omega) h64) hos (by omega) (fun x hx => HS.out.refs x (List.mem_append_left _ hx)))
    have HM4 := Lib.hid hM4
    have H64 := Lib.hid h64
    clear hM3 hM4 h64 HM0 HSt hcnt hL'
    go_wp2_with fail
    refine HR1.out.mono ?_
    rintro e w5 ⟨vR, rfl, hM5⟩
    obtain ⟨aR, nR, cR, rfl⟩ := hM5.isSlice 0 rfl
    have hM6 := HM4.out.callMem hM5
    have hM7 := (hM6.alloc #[.slice none 0 0, .slice aR nR cR] 36)
    obtain ⟨bG, hbG⟩ : ∃ bG, w5.heap.size = bG := ⟨_, rfl⟩
    obtain ⟨W7, hW7⟩ : ∃ W7, w5.alloc (.cells #[.slice none 0 0, .slice aR nR cR] 36) = W7 := ⟨_, rfl⟩
    rw [hbG, hW7] at hM7
    have hcnt := starts_len os
    obtain ⟨_, _, hv, _⟩ := (isInts_of_own (hM6.ownI 1 rfl) (by omega) H64.out).slice
    obtain ⟨N, hN⟩ : ∃ N, os.length = N := ⟨_, rfl⟩
    rw [hcnt, hN] at hv
    obtain rfl : n3 = N := by injection hv
    have hM8 : Mem w.heap.size w W7 ([ebox bG #[.slice none 0 0, .slice aR nR cR] 36, erow 64 1 (.slice none 0 0) 0 (([] : Rws).map (·.1)), rowV 96 (.slice aR nR cR) (rs.map (valG os)), rowI 3 (.slice as3 n3 c3) (starts os), ebox (w.heap.size + 1) #[.slice none 0 0, .slice none 0 0] 36, ebox w.heap.size #[.slice aw ws.length cw, .slice ar rs.length cr] 24] ++ rowsE []) :=
      (hM7.nil 64 1).pick0 [1, 0, 2, 3, 4, 5] (by decide) rfl
    have HM8 := Lib.hid hM8
    have HW7 := Lib.hid hW7
    have HbG := Lib.hid hbG
    have HN := Lib.hid hN
    rw [hN] at hos
    clear hM5 hM6 hM7 hM8 hW7 hbG HM4 HR1 d0 zz0 hcnt hN
    go_wp2
    rw [HbG.out, HW7.out]
    go_loopw [21] (fun i wr => ∃ (k : Nat) (vO : Value) (rows : Rws), k ≤ n3 ∧ i = .int .i64 k ∧ rows.map (·.2) = (os.take k).map (fun o => o.2.map (valG os)) ∧
      Mem w.heap.size w wr ([ebox bG #[vO, .slice aR nR cR] 36, erow 64 1 vO k (rows.map (·.1)), rowV 96 (.slice aR nR cR) (rs.map (valG os)), rowI 3 (.slice as3 n3 c3) (starts os), ebox (w.heap.size + 1) #[.slice none 0 0, .slice none 0 0] 36, ebox w.heap.size #[.slice aw ws.length cw, .slice ar rs.length cr] 24] ++ rowsE rows)) (fun i _ => n3 - (intOf i).toNat)
    case atStart => exact ⟨0, _, [], Nat.zero_le _, rfl, rfl, HM8.out⟩
    case round =>
      clear HM8
      obtain ⟨k, vO, rows, hk, rfl, hrows, hM⟩ := hrel
      by_cases hlt : k < n3
      · have hko : k < os.length := by rw [HN.out]; exact hlt
        obtain ⟨o, ho⟩ := get_some os k hko
        obtain ⟨b, off, cap', hv, _, hb3, d1, _⟩ := (isInts_of_own (hM.ownI 3 rfl) (by rw [starts_len, HN.out]; omega) H64.out).at (Below.refl _ _) (starts_get hko)
        rw [starts_len, HN.out] at hv
        cases hv
        have hhd := HS.out.laid.head ho
        have hg := HS.out.laid.good ho
        have hft := HS.out.laid.fit ho
        have hMd := hM.drew
        have s0 : wr.drew.cell? ⟨bG, 0, none⟩ = some vO := by have := hMd.cell 0 rfl 0; simpa using this
        have s1 : wr.drew.cell? ⟨w.heap.size, 0, none⟩ = some (.slice aw ws.length cw) := by have := hMd.cell 5 rfl 0; simpa using this
        have z1 : w.heap.size < wr.drew.heap.size := (hMd.box 5 rfl).2.1
        have zG : bG < wr.drew.heap.size := (hMd.box 0 rfl).2.1
        have HFd := Lib.hid (rFields_any (.slice aw ws.length cw) ws o.2 (place os k) o.2.length o.1 wr.drew (Hw.out.later hMd.below) hhd hg.1 hg.2.1.symm rfl (fun j x hx => HS.out.laid.field ho hx) hws)
        have HX := Lib.hid (show (os.take (k + 1)).map (fun o => o.2.map (valG os)) = (os.take k).map (fun o => o.2.map (valG os)) ++ [o.2.map (valG os)] by rw [take_succ_some _ _ _ ho, List.map_append]; rfl)
        have Hof : Hid (∀ x ∈ o.2, RefOk os x) := Lib.hid (fun x hx => HS.out.refs x (List.mem_append_right _ (List.mem_flatMap.2 ⟨o, List.mem_of_getElem? ho, hx⟩)))
        have Ho64 : Hid (∀ x ∈ o.2, w64 x) := Lib.hid (fun x hx => Hw.out.all x (fieldsOf_mem HS.out.laid x (List.mem_flatMap.2 ⟨o, List.mem_of_getElem? ho, hx⟩)))
        have hol := hg.2.2
        have HMd := Lib.hid hMd
        have Hrows := Lib.hid hrows
        obtain ⟨p, hp⟩ : ∃ p, place os k = p := ⟨_, rfl⟩
        rw [hp] at d1 HFd
        have hk1000 : k ≤ 1000000 := by omega
        have Hol : Hid (o.2.length ≤ 300) := Lib.hid (by omega)
        clear hM hMd hhd hg hft ho hrows hp hol
        go_wp2
        go_region_law (first
          | (refine Mem.step_app1 elemObjs rfl (.tmp 26) (.tmp 34) rfl hM5 1 rfl rfl _ #[.slice aV nV cV] _ _ rfl rfl rfl rfl (by decide) hk1000 ?_
             intro ad cp w6 hM6 hs6 hk6
             have u0 : w6.cell? ⟨bG, 0, none⟩ = some vO := by have := hM6.cell 0 rfl 0; simpa using this
             have u1 : w6.frozen? ⟨bG, 0, none⟩ = false := hM6.free 0 rfl 0)
          | (go_simp
             refine HFd.out.mono ?_
             rintro e w3 ⟨vF, rfl, hMF⟩
             have hIF := isW_of_own (hMF.ownW 0 rfl) (by have := Hol.out; omega) Ho64.out
             obtain ⟨aF, cF, rfl, _⟩ := hIF.slice
             have hM3 := HMd.out.call hMF.below
             have HR := Lib.hid (unpacked_any w3 _ (.slice (some ⟨b, off, none⟩) n3 c3) o.2 os hIF (isInts_of_own (hM3.ownI 3 rfl) (by rw [starts_len, HN.out]; omega) H64.out) (by rw [HN.out]; exact hos) Hol.out Hof.out)
             have y0 : w3.cell? ⟨bG, 0, none⟩ = some vO := by have := hM3.cell 0 rfl 0; simpa using this
             have yG : bG < w3.heap.size := (hM3.box 0 rfl).2.1)
          | (go_simp
             refine HR.out.mono ?_
             rintro e w4 ⟨vv, rfl, hM4⟩
             obtain ⟨aV, nV, cV, rfl⟩ := hM4.isSlice 0 rfl
             have hM5 := (hM3.callMem hM4).rowsSnoc
             have t0 : w4.cell? ⟨bG, 0, none⟩ = some vO := by have := hM5.cell 0 rfl 0; simpa using this
             have t1 : bG < w4.heap.size := (hM5.box 0 rfl).2.1))
        all_goals
          go_wp2
          go_roundw
          case rel =>
            refine ⟨k + 1, .slice ad (k + 1) cp, rows ++ [(.slice aV nV cV, o.2.map (valG os))], by omega, by go_num, ?_, ?_⟩
            · rw [HX.out, List.map_append, Hrows.out]; rfl
            · exact (hM6.setBox 0 rfl 0 (.slice ad (k + 1) cp)).cast (by simp)
          case measure => simp [intOf]; omega
      · obtain rfl : k = n3 := by omega
        rw [show os.take k = os by rw [← HN.out, List.take_length]] at hrows
        obtain ⟨aO, nO, cO, rfl⟩ := hM.isSlice 1 rfl
        have s0 : wr.cell? ⟨bG, 0, none⟩ = some (.slice aO nO cO) := by have := hM.cell 0 rfl 0; simpa using this
        have s1 : wr.cell? ⟨bG, 1, none⟩ = some (.slice aR nR cR) := by have := hM.cell 0 rfl 1; simpa using this
        have zG : bG < wr.heap.size := (hM.box 0 rfl).2.1
        have s2 : wr.cell? ⟨w.heap.size + 1, 0, none⟩ = some (.slice none 0 0) := by have := hM.cell 4 rfl 0; simpa using this
        have s3 : wr.cell? ⟨w.heap.size + 1, 1, none⟩ = some (.slice none 0 0) := by have := hM.cell 4 rfl 1; simpa using this
        have s4 : wr.frozen? ⟨w.heap.size + 1, 0, none⟩ = false := hM.free 4 rfl 0
        have s5 : wr.frozen? ⟨w.heap.size + 1, 1, none⟩ = false := hM.free 4 rfl 1
        have s6 : w.heap.size + 1 < wr.heap.size := (hM.box 4 rfl).2.1
        have hM6 := (hM.setBox 4 rfl 0 (.slice aO nO cO)).setBox 4 rfl 1 (.slice aR nR cR)
        have Hrows := Lib.hid hrows
        have HM6 := Lib.hid hM6
        clear hM hM6 hrows
        go_wp2
        obtain ⟨W6, hW6⟩ : ∃ W6, W6 = (wr.setCell ⟨w.heap.size + 1, 0, none⟩ (.slice aO nO cO)).setCell ⟨w.heap.size + 1, 1, none⟩ (.slice aR nR cR) := ⟨_, rfl⟩
        have hM7 := HM6.out
        rw [← hW6] at hM7 ⊢
        have r0 : W6.cell? ⟨w.heap.size + 1, 0, none⟩ = some (.slice aO nO cO) := by have := hM7.cell 4 rfl 0; simpa using this
        have r1 : W6.cell? ⟨w.heap.size + 1, 1, none⟩ = some (.slice aR nR cR) := by have := hM7.cell 4 rfl 1; simpa using this
        refine bodyPost_ret (v := .agg #[.slice aO nO cO, .slice aR nR cR]) (by simp [results, Try.results17, go_sem, r0, r1]) rfl ⟨_, rfl, ?_, hM7.below⟩
        intro W' hs' hb'
        have hM9 := hM7.move hs' hb'
        have hM8 : Mem w.heap.size W' W' (rowsE rows) := hM9.drop (List.sublist_append_right [_, _, _, _, _, _] _)
        have hv64 : ∀ x ∈ allW rs os, i64ok (valG os x).n := fun x hx => valG_64 os (by rw [HN.out]; omega) x (by
          rcases List.mem_append.1 hx with h | h
          · exact Hr.out.all x h
          · exact Hw.out.all x (fieldsOf_mem HS.out.laid x h))
        refine ⟨_, _, rfl, ?_, ?_⟩
        · have hlen : rows.length = k := by have := congrArg List.length Hrows.out; rw [List.length_map, List.length_map, HN.out] at this; exact this
          have h2 := isObjs_of_own (hM9.row 1 rfl) (by omega) (fun r hr => hM8.isValsM (e := 96) (List.mem_map.2 ⟨r, hr, rfl⟩) ?_ ?_)
          · rw [Hrows.out] at h2; exact h2
          · have h3 : r.2 ∈ rows.map (·.2) := List.mem_map.2 ⟨r, hr, rfl⟩
            rw [Hrows.out] at h3
            obtain ⟨o, ho, he⟩ := List.mem_map.1 h3
            obtain ⟨i, hi⟩ := List.mem_iff_getElem?.1 ho
            rw [← he, List.length_map]; have := (HS.out.laid.good hi).2.2; omega
          · have h3 : r.2 ∈ rows.map (·.2) := List.mem_map.2 ⟨r, hr, rfl⟩
            rw [Hrows.out] at h3
            obtain ⟨o, ho, he⟩ := List.mem_map.1 h3
            intro y hy
            rw [← he] at hy
            obtain ⟨z, hz, rfl⟩ := List.mem_map.1 hy
            exact hv64 z (List.mem_append_right _ (List.mem_flatMap.2 ⟨o, ho, hz⟩))
        · refine hM9.isVals 2 rfl (by show (rs.map (valG os)).length ≤ 1000000; rw [List.length_map]; omega) ?_
          intro y hy
          obtain ⟨z, hz, rfl⟩ := List.mem_map.1 hy
          exact hv64 z (List.mem_append_left _ hz)
  · exact absurd HS.out.laid (hno os)
end Go.Proofs.Ytgdodbdipbomfaa
