/- cut, walked. -/
import Derived.Test.YtnpbdabboecpaaaL1
import Derived.Test.YtnpbdabboecpaaaL3
import Derived.Test.YtnpbdabboecpaaaGr
namespace Go.Proofs.Ytnpbdabboecpaaa
open Go.RowKit Go.Shelf

theorem cutV_ok {g : G} (hG : Good g) (v : Int) {x : V} (hx : x ∈ allV g) : i64ok (cutV v x).n := by
  unfold cutV
  split
  · exact ⟨by decide, by decide⟩
  · have h := hG.vals x hx
    have hn := hG.objs
    unfold badC at h
    obtain ⟨r, m⟩ := x
    cases r
    · simp only [Bool.false_eq_true, if_false] at h
      split at h
      · cases h
      · simp only; exact ⟨by omega, by omega⟩
    · simp only [if_true] at h
      split at h
      · cases h
      · simp only; exact ⟨by omega, by omega⟩

set_option maxRecDepth 100000 in
set_option maxHeartbeats 4000000 in
theorem cut_any (g : G) (hG : Good g) (v : Value) (x : Int) (w : World) (hg : IsGraph w v g) :
    Calls Try.prog 17 #[v, .int .i64 x] w fun e w' => ∃ v', e = .returned v' ∧ Graft w.heap.size w' v' (cutG g x) ∧ Below w.heap.size w w' := by
  obtain ⟨vo, vr, rfl, ho, hro⟩ := hg
  obtain ⟨ao, co, rfl, hlo⟩ := ho.slice
  obtain ⟨ar, cr, rfl, hlr⟩ := hro.slice
  have Ho := Lib.hid ho
  have Hro := Lib.hid hro
  clear ho hro
  have hn := hG.objs
  have hM0 := (((Mem.start w).alloc #[.slice ao g.objs.length co, .slice ar g.roots.length cr] 25).allocAt (w.heap.size + 1) (by simp) #[.int .i64 x] 3).allocAt (w.heap.size + 1 + 1) (by simp) #[.slice none 0 0, .slice none 0 0] 25
  have p0 := hM0.cell 1 rfl 0
  have hlt3 := (hM0.box 1 rfl).2.1
  have HM0 := Lib.hid hM0
  have hlt3B : w.heap.size + 1 < (((w.alloc (.cells #[.slice ao g.objs.length co, .slice ar g.roots.length cr] 25)).alloc (.cells #[.int .i64 x] 3)).alloc (.cells #[.slice none 0 0, .slice none 0 0] 25)).heap.size := by simp
  go_enter Try.func17, Try.ntmps17
  go_wp2_with fail
  refine (cut1_any _ _ g.roots (w.heap.size + 1) x (Hro.out.later HM0.out.below) (by simpa using p0) hlt3B (by have := hG.roots; omega)).mono ?_
  rintro e w1 ⟨vR, rfl, hM1⟩
  obtain ⟨aR, nR, cR, rfl⟩ := hM1.isSlice 0 rfl
  have hM2 := HM0.out.callMem hM1
  have hM3 := hM2.alloc #[.slice none 0 0, .slice aR nR cR] 25
  have hM4 : Mem w.heap.size w (w1.alloc (.cells #[.slice none 0 0, .slice aR nR cR] 25)) ([ebox w1.heap.size #[.slice none 0 0, .slice aR nR cR] 25, erow 50 1 (.slice none 0 0) 0 [], rowV 60 (.slice aR nR cR) (g.roots.map (cutV x)), ebox (w.heap.size + 1 + 1) #[.slice none 0 0, .slice none 0 0] 25, ebox (w.heap.size + 1) #[.int .i64 x] 3, ebox w.heap.size #[.slice ao g.objs.length co, .slice ar g.roots.length cr] 25] ++ rowsE []) :=
    (hM3.nil 50 1).pick0 [1, 0, 2, 3, 4, 5] (by decide) rfl
  clear hM1 hM2 hM3 hM0 p0 hlt3 hlt3B HM0
  have q0 := hM4.cell 5 rfl 0
  have q1 := hM4.cell 5 rfl 1
  have q2 := (hM4.box 5 rfl).2.1
  go_wp2
  go_loopw [18] (fun i wr => ∃ (k : Nat) (vO : Value) (rows : Rws), k ≤ g.objs.length ∧ i = .int .i64 k ∧ rows.map (·.2) = (g.objs.take k).map (fun o => o.map (cutV x)) ∧
    Mem w.heap.size w wr ([ebox w1.heap.size #[vO, .slice aR nR cR] 25, erow 50 1 vO k (rows.map (·.1)), rowV 60 (.slice aR nR cR) (g.roots.map (cutV x)), ebox (w.heap.size + 1 + 1) #[.slice none 0 0, .slice none 0 0] 25, ebox (w.heap.size + 1) #[.int .i64 x] 3, ebox w.heap.size #[.slice ao g.objs.length co, .slice ar g.roots.length cr] 25] ++ rowsE rows))
    (fun i _ => g.objs.length - (intOf i).toNat)
  case atStart => exact ⟨0, _, [], Nat.zero_le _, rfl, rfl, hM4⟩
  case round =>
    obtain ⟨k, vO, rows, hk, rfl, hrows, hM⟩ := hrel
    by_cases hlt : k < g.objs.length
    · obtain ⟨ob, hob⟩ := get_some _ _ hlt
      obtain ⟨bo, oo, cap3, uo, hv2, hbo, hn3, c2, huo⟩ := Ho.out.at hM.below hob
      cases hv2
      obtain ⟨af, cf, rfl, hlf⟩ := huo.slice
      have s0 : wr.cell? ⟨w1.heap.size, 0, none⟩ = some vO := by have := hM.cell 0 rfl 0; simpa using this
      have s2 : wr.cell? ⟨w.heap.size + 1, 0, none⟩ = some (.int .i64 x) := by have := hM.cell 4 rfl 0; simpa using this
      have s3 : w.heap.size + 1 < wr.heap.size := (hM.box 4 rfl).2.1
      have hM0 := hM.alloc_ (.cells #[.slice af ob.length cf] 50)
      have huo2 := huo.later hM0.below.drew
      have s4 : w1.heap.size < wr.heap.size := (hM.box 0 rfl).2.1
      obtain ⟨bw, hbw⟩ : ∃ bw, wr.heap.size = bw := ⟨_, rfl⟩
      obtain ⟨W0, hW0⟩ : ∃ W0, wr.alloc (.cells #[.slice af ob.length cf] 50) = W0 := ⟨_, rfl⟩
      have e0 : W0.cell? ⟨w1.heap.size, 0, none⟩ = some vO := by have := hM0.cell 0 rfl 0; rw [← hW0]; simpa using this
      have e1 : W0.cell? ⟨bw, 0, none⟩ = some (.slice af ob.length cf) := by rw [← hW0, ← hbw]; simp
      have e2 : W0.cell? ⟨w.heap.size + 1, 0, none⟩ = some (.int .i64 x) := by have := hM0.cell 4 rfl 0; rw [← hW0]; simpa using this
      have e3 : w.heap.size + 1 < W0.heap.size := by rw [← hW0]; simp; omega
      rw [hW0] at hM0 huo2
      have hN := hM0.drew
      have Huo := Lib.hid huo2
      have HM := Lib.hid hM0
      have Hob := Lib.hid hob
      have Hrows := Lib.hid hrows
      have HW0 := Lib.hid hW0
      have Hbw := Lib.hid hbw
      have hfl := hG.fields ob (List.mem_of_getElem? hob)
      clear hM hob hrows huo huo2 hM0 hW0 hbw
      have hk1000 : k ≤ 1000000 := by omega
      have hgo : ob.length ≤ 1000 := by omega
      go_wp2
      rw [HW0.out, Hbw.out]
      go_region_law (first
        | (refine Mem.step_app1 elemObjs rfl (.tmp 23) (.tmp 29) rfl hM5 1 rfl rfl _ #[.slice aV nV cV] _ _ rfl rfl rfl rfl (by decide) hk1000 ?_
           intro ad cp w6 hM6 hs6 hk6
           have u0 : w6.cell? ⟨w1.heap.size, 0, none⟩ = some vO := by have := hM6.cell 0 rfl 0; simpa using this
           have u1 : w6.frozen? ⟨w1.heap.size, 0, none⟩ = false := hM6.free 0 rfl 0)
        | (go_simp
           refine (cut1_any W0.drew _ ob _ x Huo.out e2 e3 hgo).mono ?_
           rintro e w4 ⟨vv, rfl, hM4⟩
           obtain ⟨aV, nV, cV, rfl⟩ := hM4.isSlice 0 rfl
           have hM5 := (HM.out.drew.callMem hM4).rowsSnoc
           have t0 : w4.cell? ⟨w1.heap.size, 0, none⟩ = some vO := by have := hM5.cell 0 rfl 0; simpa using this
           have t1 : w1.heap.size < w4.heap.size := (hM5.box 0 rfl).2.1))
      all_goals
        go_wp2
        go_roundw
        case rel =>
          refine ⟨k + 1, .slice ad (k + 1) cp, rows ++ [(.slice aV nV cV, ob.map (cutV x))], by omega, by go_num, ?_, ?_⟩
          · rw [take_succ_some _ _ _ Hob.out, List.map_append, List.map_append, Hrows.out]; rfl
          · exact (hM6.setBox 0 rfl 0 (.slice ad (k + 1) cp)).cast (by simp)
        case measure => simp [intOf]; omega
    · obtain rfl : k = g.objs.length := by omega
      rw [List.take_length] at hrows
      obtain ⟨aO, nO, cO, rfl⟩ := hM.isSlice 1 rfl
      have s0 : wr.cell? ⟨w1.heap.size, 0, none⟩ = some (.slice aO nO cO) := by have := hM.cell 0 rfl 0; simpa using this
      have s1 : wr.cell? ⟨w1.heap.size, 1, none⟩ = some (.slice aR nR cR) := by have := hM.cell 0 rfl 1; simpa using this
      have s2 : wr.cell? ⟨w.heap.size + 1 + 1, 0, none⟩ = some (.slice none 0 0) := by have := hM.cell 3 rfl 0; simpa using this
      have s3 : wr.cell? ⟨w.heap.size + 1 + 1, 1, none⟩ = some (.slice none 0 0) := by have := hM.cell 3 rfl 1; simpa using this
      have s4 : wr.frozen? ⟨w.heap.size + 1 + 1, 0, none⟩ = false := hM.free 3 rfl 0
      have s5 : wr.frozen? ⟨w.heap.size + 1 + 1, 1, none⟩ = false := hM.free 3 rfl 1
      have s6 : w.heap.size + 1 + 1 < wr.heap.size := (hM.box 3 rfl).2.1
      have hM6 := (hM.setBox 3 rfl 0 (.slice aO nO cO)).setBox 3 rfl 1 (.slice aR nR cR)
      have Hrows := Lib.hid hrows
      have HM6 := Lib.hid hM6
      clear hM hM6 hrows
      go_wp2
      obtain ⟨W6, hW6⟩ : ∃ W6, W6 = (wr.setCell ⟨w.heap.size + 1 + 1, 0, none⟩ (.slice aO nO cO)).setCell ⟨w.heap.size + 1 + 1, 1, none⟩ (.slice aR nR cR) := ⟨_, rfl⟩
      have hM7 := HM6.out
      rw [← hW6] at hM7 ⊢
      have r0 : W6.cell? ⟨w.heap.size + 1 + 1, 0, none⟩ = some (.slice aO nO cO) := by have := hM7.cell 3 rfl 0; simpa using this
      have r1 : W6.cell? ⟨w.heap.size + 1 + 1, 1, none⟩ = some (.slice aR nR cR) := by have := hM7.cell 3 rfl 1; simpa using this
      refine bodyPost_ret (v := .agg #[.slice aO nO cO, .slice aR nR cR]) (by simp [results, Try.results17, go_sem, r0, r1]) rfl ⟨_, rfl, ?_, hM7.below⟩
      intro W' hs' hb'
      have hM9 := hM7.move hs' hb'
      have hM8 : Mem w.heap.size W' W' (rowsE rows) := hM9.drop (List.sublist_append_right [_, _, _, _, _, _] _)
      refine ⟨_, _, rfl, ?_, ?_⟩
      · have hlen : rows.length = g.objs.length := by have := congrArg List.length Hrows.out; simpa using this
        have h2 := isObjs_of_own (hM9.row 1 rfl) (by omega) (fun r hr => hM8.isValsM (e := 60) (List.mem_map.2 ⟨r, hr, rfl⟩) ?_ ?_)
        · rw [Hrows.out] at h2; exact h2
        · have h3 : r.2 ∈ rows.map (·.2) := List.mem_map.2 ⟨r, hr, rfl⟩
          rw [Hrows.out] at h3
          obtain ⟨o, ho, he⟩ := List.mem_map.1 h3
          rw [← he, List.length_map]; have := hG.fields o ho; omega
        · have h3 : r.2 ∈ rows.map (·.2) := List.mem_map.2 ⟨r, hr, rfl⟩
          rw [Hrows.out] at h3
          obtain ⟨o, ho, he⟩ := List.mem_map.1 h3
          intro y hy
          rw [← he] at hy
          obtain ⟨z, hz, rfl⟩ := List.mem_map.1 hy
          exact cutV_ok hG x (List.mem_append_right _ (List.mem_flatten.2 ⟨o, ho, hz⟩))
      · exact hM9.isVals 2 rfl (by show (g.roots.map (cutV x)).length ≤ _; rw [List.length_map]; have := hG.roots; omega) (by
          intro y hy
          obtain ⟨z, hz, rfl⟩ := List.mem_map.1 hy
          exact cutV_ok hG x (List.mem_append_left _ hz))
end Go.Proofs.Ytnpbdabboecpaaa
