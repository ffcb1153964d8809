/- ragpickerref.turned, Renumber, walked. -/
import Derived.Test.YtgdodbdipbomfaaBase3
import Derived.StillTailTactics
import Derived.Deep.RegionLaw
import Derived.Deep.DrawnRows
namespace Go.Proofs.Ytgdodbdipbomfaa
open Go.RowKit Go.Shelf

set_option maxRecDepth 100000 in
set_option maxHeartbeats 1000000 in
theorem turned_any (w : World) (vs : Value) (l : List V) (u : Value) (li : List Int) (hl : IsVals w vs l) (hu : IsInts w u li) (hlen : l.length ≤ 1000) :
    Calls Try.prog 91 #[vs, u] w fun e w' => ∃ v', e = .returned v' ∧ Mem w.heap.size w w' [rowV 96 v' (l.map (turnV (fun y => plc li y 0)))] := by
  obtain ⟨a, cap, rfl, _⟩ := hl.slice
  obtain ⟨a', cap', rfl, _⟩ := hu.slice
  have Hl := Lib.hid hl
  have Hu := Lib.hid hu
  clear hl hu
  have hM0 := (Mem.start w).nilV 96
  go_enter Try.func91, Try.ntmps91
  go_wp2
  go_loopw [5, 10] (fun v i wr => ∃ k : Nat, k ≤ l.length ∧ i = .int .i64 k ∧ Mem w.heap.size w wr [rowV 96 v ((l.take k).map (turnV (fun y => plc li y 0)))]) (fun _ i _ => l.length - (intOf i).toNat)
  case atStart => exact ⟨0, Nat.zero_le _, rfl, hM0⟩
  case round =>
    obtain ⟨k, hk, rfl, hM⟩ := hrel
    by_cases hlt : k < l.length
    · obtain ⟨y, hx⟩ := get_some _ _ hlt
      obtain ⟨bl, off, cap2, hv, hb, hn, c1, c2, hi⟩ := Hl.out.at hM.below hx
      cases hv
      have HS := Lib.hid (take_succ_some _ _ _ hx)
      have htl : ((l.take k).map (turnV (fun y => plc li y 0))).length ≤ 1000000 := by rw [List.length_map]; have := take_len_le l k; omega
      have HM := Lib.hid hM
      have Htl := Lib.hid htl
      obtain ⟨r, m⟩ := y
      clear hx hM htl hi
      cases r
      · go_wp2_with (at_builtin; refine Mem.wp_appV elemVals rfl (.tmp 21) (.tmp 23) rfl (HM.out.alloc_ _) 0 rfl rfl _ ⟨false, m⟩ _ _ rfl (by simp) Htl.out ?_; intro ad n1 cp w1 hn1 hM3 hs1 hk1 ha1)
        go_roundw
        case rel => exact ⟨k + 1, by omega, by go_num, hM3.cast (by rw [HS.out]; simp [turnV])⟩
        case measure => simp [intOf]; omega
      · go_wp2_with fail
        refine (place_any _ li m _ (Hu.out.later (HM.out.alloc_ _).below)).mono ?_
        rintro e w1 ⟨rfl, rfl⟩
        go_wp2_with (at_builtin; refine Mem.wp_appV elemVals rfl (.tmp 21) (.tmp 23) rfl (HM.out.alloc_ _) 0 rfl rfl _ ⟨true, plc li m 0⟩ _ _ rfl (by simp) Htl.out ?_; intro ad n1 cp w1 hn1 hM3 hs1 hk1 ha1)
        go_roundw
        case rel => exact ⟨k + 1, by omega, by go_num, hM3.cast (by rw [HS.out]; simp [turnV])⟩
        case measure => simp [intOf]; omega
    · obtain rfl : k = l.length := by omega
      rw [List.take_length] at hM
      go_wp2
      go_ret
      exact ⟨_, rfl, hM⟩

theorem fits_len {g : G} (hG : Fits g) (x : Int) : (fieldsAt g x).length ≤ 1000 := by
  unfold fieldsAt
  rw [List.getD_eq_getElem?_getD]
  cases h : g.objs[x.toNat]? with
  | none => simp
  | some o => exact hG.fields o (List.mem_of_getElem? h)
theorem turnF_ok {g : G} (hG : Fits g) (l : List Int) (hl : l.length ≤ 1000) {v : V} (hv : v ∈ allV g) : i64ok (turnV (fun y => plc l y 0) v).n := by
  have h := hG.vals v hv
  obtain ⟨r, n⟩ := v
  cases r
  · exact h
  · simp only [turnV, if_true]
    have := plc_rng l n 0
    exact ⟨by omega, by omega⟩

set_option maxRecDepth 100000 in
set_option maxHeartbeats 4000000 in
theorem renumF_any (g : G) (hG : Fits g) (v : Value) (u : Value) (l : List Int) (w : World) (hg : IsGraph w v g) (hu : IsInts w u l) (hl : l.length ≤ 1000) (hr : ∀ x ∈ l, 0 ≤ x ∧ x < (g.objs.length : Int)) :
    Calls Try.prog 67 #[v, u] w fun e w' => ∃ v', e = .returned v' ∧ Graft w.heap.size w' v' (renumP g l (fun y => plc l y 0)) ∧ Below w.heap.size w w' := by
  obtain ⟨vo, vr, rfl, ho, hro⟩ := hg
  obtain ⟨ao, co, rfl, hlo⟩ := ho.slice
  obtain ⟨ar, cr, rfl, hlr⟩ := hro.slice
  obtain ⟨au, cu, rfl, hlu⟩ := hu.slice
  have Ho := Lib.hid ho
  have Hro := Lib.hid hro
  have Hu := Lib.hid hu
  have HR := Lib.hid hr
  clear ho hro hu hr
  have hM0 := ((Mem.start w).alloc #[.slice ao g.objs.length co, .slice ar g.roots.length cr] 36).allocAt (w.heap.size + 1) (by simp) #[.slice none 0 0, .slice none 0 0] 36
  go_enter Try.func67, Try.ntmps67
  go_wp2_with fail
  refine (turned_any _ _ g.roots _ l (Hro.out.later hM0.below) (Hu.out.later hM0.below) (by have := hG.roots; omega)).mono ?_
  rintro e w1 ⟨vR, rfl, hM1⟩
  obtain ⟨aR, nR, cR, rfl⟩ := hM1.isSlice 0 rfl
  have hM2 := hM0.callMem hM1
  obtain ⟨q, hq⟩ : ∃ q : Int → Int, (fun y => plc l y 0) = q := ⟨_, rfl⟩
  rw [hq] at hM2
  have hM3 := hM2.alloc #[.slice none 0 0, .slice aR nR cR] 36
  have hM4 : Mem w.heap.size w (w1.alloc (.cells #[.slice none 0 0, .slice aR nR cR] 36)) ([ebox w1.heap.size #[.slice none 0 0, .slice aR nR cR] 36, erow 64 1 (.slice none 0 0) 0 [], rowV 96 (.slice aR nR cR) (g.roots.map (turnV q)), ebox (w.heap.size + 1) #[.slice none 0 0, .slice none 0 0] 36, ebox w.heap.size #[.slice ao g.objs.length co, .slice ar g.roots.length cr] 36] ++ rowsE []) :=
    (hM3.nil 64 1).pick0 [1, 0, 2, 3, 4] (by decide) rfl
  have Hq := Lib.hid hq
  clear hM1 hM2 hM3 hq
  go_wp2
  go_loopw [15] (fun i wr => ∃ (k : Nat) (vO : Value) (rows : Rws), k ≤ l.length ∧ i = .int .i64 k ∧ rows.map (·.2) = (l.take k).map (fun x => (fieldsAt g x).map (turnV q)) ∧
    Mem w.heap.size w wr ([ebox w1.heap.size #[vO, .slice aR nR cR] 36, erow 64 1 vO k (rows.map (·.1)), rowV 96 (.slice aR nR cR) (g.roots.map (turnV q)), ebox (w.heap.size + 1) #[.slice none 0 0, .slice none 0 0] 36, ebox w.heap.size #[.slice ao g.objs.length co, .slice ar g.roots.length cr] 36] ++ rowsE rows))
    (fun i _ => l.length - (intOf i).toNat)
  case atStart => exact ⟨0, _, [], Nat.zero_le _, rfl, rfl, hM4⟩
  case round =>
    obtain ⟨k, vO, rows, hk, rfl, hrows, hM⟩ := hrel
    by_cases hlt : k < l.length
    · obtain ⟨x, hx⟩ := get_some _ _ hlt
      obtain ⟨bx, ox, cap2, hv, hb, hn, c1, hxi⟩ := Hu.out.at hM.below hx
      cases hv
      obtain ⟨hx0, hx1⟩ := HR.out x (List.mem_of_getElem? hx)
      obtain ⟨i, rfl⟩ : ∃ i : Nat, x = (i : Int) := ⟨x.toNat, by omega⟩
      have hi : i < g.objs.length := by omega
      obtain ⟨ob, hob⟩ := get_some _ _ hi
      obtain ⟨bo, oo, cap3, uo, hv2, hbo, hn3, c2, huo⟩ := Ho.out.at hM.below hob
      cases hv2
      obtain ⟨af, cf, rfl, hlf⟩ := huo.slice
      have s0 : wr.cell? ⟨w1.heap.size, 0, none⟩ = some vO := by have := hM.cell 0 rfl 0; simpa using this
      have s1 : wr.cell? ⟨w.heap.size, 0, none⟩ = some (.slice (some ⟨bo, oo, none⟩) g.objs.length co) := by have := hM.cell 4 rfl 0; simpa using this
      have Huo := Lib.hid (huo.later hM.below)
      have Hul := Lib.hid (Hu.out.later hM.below)
      have HM := Lib.hid hM
      have Hob := Lib.hid hob
      have Hx := Lib.hid hx
      have Hrows := Lib.hid hrows
      have hfl := hG.fields ob (List.mem_of_getElem? hob)
      clear hM hob hx hrows huo
      have hk1000 : k ≤ 1000000 := by omega
      have hgo : ob.length ≤ 1000 := by omega
      go_wp2
      go_region_law (first
        | (refine Mem.step_app1 elemObjs rfl (.tmp 20) (.tmp 30) rfl hM5 1 rfl rfl _ #[.slice aV nV cV] _ _ rfl rfl rfl rfl (by decide) hk1000 ?_
           intro ad cp w6 hM6 hs6 hk6
           have u0 : w6.cell? ⟨w1.heap.size, 0, none⟩ = some vO := by have := hM6.cell 0 rfl 0; simpa using this
           have u1 : w6.frozen? ⟨w1.heap.size, 0, none⟩ = false := hM6.free 0 rfl 0)
        | (go_simp
           refine (turned_any wr.drew _ ob _ l Huo.out Hul.out hgo).mono ?_
           rintro e w4 ⟨vv, rfl, hM4⟩
           rw [Hq.out] at hM4
           obtain ⟨aV, nV, cV, rfl⟩ := hM4.isSlice 0 rfl
           have hM5 := (HM.out.drew.callMem hM4).rowsSnoc
           have t0 : w4.cell? ⟨w1.heap.size, 0, none⟩ = some vO := by have := hM5.cell 0 rfl 0; simpa using this
           have t1 : w1.heap.size < w4.heap.size := (hM5.box 0 rfl).2.1))
      all_goals
        go_wp2
        go_roundw
        case rel =>
          refine ⟨k + 1, .slice ad (k + 1) cp, rows ++ [(.slice aV nV cV, ob.map (turnV q))], by omega, by go_num, ?_, ?_⟩
          · rw [take_succ_some _ _ _ Hx.out, List.map_append, List.map_append, Hrows.out]
            simp only [List.map_cons, List.map_nil]
            congr 2
            unfold fieldsAt
            rw [Int.toNat_natCast, List.getD_eq_getElem?_getD, Hob.out]; rfl
          · exact (hM6.setBox 0 rfl 0 (.slice ad (k + 1) cp)).cast (by simp)
        case measure => simp [intOf]; omega
    · obtain rfl : k = l.length := by omega
      rw [List.take_length] at hrows
      obtain ⟨aO, nO, cO, rfl⟩ := hM.isSlice 1 rfl
      have s0 : wr.cell? ⟨w1.heap.size, 0, none⟩ = some (.slice aO nO cO) := by have := hM.cell 0 rfl 0; simpa using this
      have s1 : wr.cell? ⟨w1.heap.size, 1, none⟩ = some (.slice aR nR cR) := by have := hM.cell 0 rfl 1; simpa using this
      have s2 : wr.cell? ⟨w.heap.size + 1, 0, none⟩ = some (.slice none 0 0) := by have := hM.cell 3 rfl 0; simpa using this
      have s3 : wr.cell? ⟨w.heap.size + 1, 1, none⟩ = some (.slice none 0 0) := by have := hM.cell 3 rfl 1; simpa using this
      have s4 : wr.frozen? ⟨w.heap.size + 1, 0, none⟩ = false := hM.free 3 rfl 0
      have s5 : wr.frozen? ⟨w.heap.size + 1, 1, none⟩ = false := hM.free 3 rfl 1
      have s6 : w.heap.size + 1 < wr.heap.size := (hM.box 3 rfl).2.1
      have hM6 := (hM.setBox 3 rfl 0 (.slice aO nO cO)).setBox 3 rfl 1 (.slice aR nR cR)
      have Hrows := Lib.hid hrows
      have HM6 := Lib.hid hM6
      clear hM hM6 hrows
      go_wp2
      obtain ⟨W6, hW6⟩ : ∃ W6, W6 = (wr.setCell ⟨w.heap.size + 1, 0, none⟩ (.slice aO nO cO)).setCell ⟨w.heap.size + 1, 1, none⟩ (.slice aR nR cR) := ⟨_, rfl⟩
      have hM7 := HM6.out
      rw [← hW6] at hM7 ⊢
      have r0 : W6.cell? ⟨w.heap.size + 1, 0, none⟩ = some (.slice aO nO cO) := by have := hM7.cell 3 rfl 0; simpa using this
      have r1 : W6.cell? ⟨w.heap.size + 1, 1, none⟩ = some (.slice aR nR cR) := by have := hM7.cell 3 rfl 1; simpa using this
      refine bodyPost_ret (v := .agg #[.slice aO nO cO, .slice aR nR cR]) (by simp [results, Try.results67, go_sem, r0, r1]) rfl ⟨_, rfl, ?_, hM7.below⟩
      intro W' hs' hb'
      have hM9 := hM7.move hs' hb'
      have hM8 : Mem w.heap.size W' W' (rowsE rows) := hM9.drop (List.sublist_append_right [_, _, _, _, _] _)
      refine ⟨_, _, rfl, ?_, ?_⟩
      · have hlen : rows.length = l.length := by have := congrArg List.length Hrows.out; simpa using this
        have h2 := isObjs_of_own (hM9.row 1 rfl) (by omega) (fun r hr => hM8.isValsM (e := 96) (List.mem_map.2 ⟨r, hr, rfl⟩) ?_ ?_)
        · rw [Hrows.out, ← Hq.out] at h2; exact h2
        · have h3 : r.2 ∈ rows.map (·.2) := List.mem_map.2 ⟨r, hr, rfl⟩
          rw [Hrows.out] at h3
          obtain ⟨x, _, he⟩ := List.mem_map.1 h3
          rw [← he, List.length_map]; have := fits_len hG x; omega
        · have h3 : r.2 ∈ rows.map (·.2) := List.mem_map.2 ⟨r, hr, rfl⟩
          rw [Hrows.out] at h3
          obtain ⟨x, _, he⟩ := List.mem_map.1 h3
          intro y hy
          rw [← he] at hy
          obtain ⟨z, hz, rfl⟩ := List.mem_map.1 hy
          rw [← Hq.out]
          exact turnF_ok hG l hl (fields_in g x z hz)
      · have h2 := hM9.isVals 2 rfl (by rw [List.length_map]; have := hG.roots; omega) (by
          intro y hy
          obtain ⟨z, hz, rfl⟩ := List.mem_map.1 hy
          rw [← Hq.out]
          exact turnF_ok hG l hl (roots_in g z hz))
        rw [← Hq.out] at h2; exact h2

end Go.Proofs.Ytgdodbdipbomfaa
