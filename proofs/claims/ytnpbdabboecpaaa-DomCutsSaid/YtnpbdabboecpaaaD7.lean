/- grow, walked. -/
import Derived.Test.YtnpbdabboecpaaaD8
import Derived.Test.YtnpbdabboecpaaaE0
import Derived.Test.YtnpbdabboecpaaaD9
import Derived.Deep.RegionHeld3
import Derived.Deep.LoopGhost
import Derived.Deep.DeepCutAuto
import Derived.Deep.CutRange
namespace Go.Proofs.Ytnpbdabboecpaaa
open Go.RowKit Go.Shelf

attribute [local go_sem] Oper.semAt_some

set_option linter.unusedSimpArgs false in
set_option maxRecDepth 100000 in
set_option maxHeartbeats 4000000 in
theorem grow_main (g : G) (hG : Good g) (v : Value) (w : World) (hg : IsGraph w v g) :
    CallsIn Fence.wide 10 Try.prog 32 #[v] w fun e w' => ∃ (bt : Nat) (vo vr vu : Value) (up : List Int), e = .returned (.pointer (some ⟨bt, 0, none⟩)) ∧ Dom.GrowS g up ∧ Mem w.heap.size w w' [ebox bt #[vo, vr, vu] 53, rowI 3 vu up] := by
  have Hg := Lib.hid hg
  obtain ⟨vo, vr, rfl, ho, hr⟩ := hg
  obtain ⟨ao, co, rfl, hlo⟩ := ho.slice
  obtain ⟨ar, cr, rfl, hlr⟩ := hr.slice
  have Ho := Lib.hid ho
  have Hr := Lib.hid hr
  have hn := hG.objs
  have HG := Lib.hid hG
  clear ho hr hG
  refine callsIn_of_wp_marks Try.func32 rfl trivial ?_ rfl
  simp only [Try.ntmps32, List.size_toArray, List.length_cons, List.length_nil, Nat.reduceAdd, Nat.reduceSub, Array.replicate_succ, Array.replicate_zero, List.push_toArray, List.append_toArray, List.nil_append, List.cons_append]
  have hN := (Mem.start w).alloc #[.slice ao g.objs.length co, .slice ar g.roots.length cr] 25
  gi_wp2_with fail
  refine wpIn_wide.2 ?_
  go_cut [4] from 19 to 27 (fun s4 W => ∃ (bt gR : Nat) (vF vU : Value) (F : List Int), s4 = .pointer (some ⟨bt, 0, none⟩) ∧ PostR g F ∧ Mem w.heap.size w W [ebox bt #[vF, .slice (some ⟨gR, 0, none⟩) g.objs.length g.objs.length, vU] 53, rowI 3 vF F, rowI 3 (.slice (some ⟨gR, 0, none⟩) g.objs.length g.objs.length) (List.replicate g.objs.length 0), rowI 3 vU (List.replicate g.objs.length (-2)), ebox w.heap.size #[.slice ao g.objs.length co, .slice ar g.roots.length cr] 25])
  case first =>
    obtain ⟨Wz, hWz⟩ : ∃ Wz, w.alloc (.cells #[.slice ao g.objs.length co, .slice ar g.roots.length cr] 25) = Wz := ⟨_, rfl⟩
    rw [hWz] at hN ⊢
    clear hWz
    have hN0 := hN
    replace hN := hN.drew
    obtain ⟨mk, hmk, hmo⟩ := make_fun elemInts g.objs.length (by omega)
    have HK := Lib.hid (hmo w.heap.size w)
    have HKA : Hid (∀ (W : World) (c : Array Value) (t : TypeId) (L : List Ent), Mem w.heap.size w (W.alloc (.cells c t)) L → Mem w.heap.size w (mk (W.alloc (.cells c t))) (rowI 3 (.slice (some ⟨W.heap.size + 1, 0, none⟩) g.objs.length g.objs.length) (List.replicate g.objs.length 0) :: L)) :=
      Lib.hid (fun W c t L h => by have := hmo w.heap.size w _ _ h; simpa using this)
    have HKD : Hid (∀ (W : World) (c : Array Value) (t : TypeId) (L : List Ent), Mem w.heap.size w (W.alloc (.cells c t)).drew L → Mem w.heap.size w (mk (W.alloc (.cells c t)).drew) (rowI 3 (.slice (some ⟨W.heap.size + 1, 0, none⟩) g.objs.length g.objs.length) (List.replicate g.objs.length 0) :: L)) :=
      Lib.hid (fun W c t L h => by have := hmo w.heap.size w _ _ h; simpa using this)
    have hi2 : i64ok (-2) := ⟨by omega, by omega⟩
    clear hmo
    go_region_held3 (fun W => W.cell? ⟨w.heap.size, 0, none⟩ = some (.slice ao g.objs.length co) ∧ W.cell? ⟨w.heap.size, 1, none⟩ = some (.slice ar g.roots.length cr))
      ((first | exact ⟨hN.boxCell (by repeat (first | exact List.mem_cons_self | refine List.mem_cons_of_mem _ ?_)) 0 rfl, hN.boxCell (by repeat (first | exact List.mem_cons_self | refine List.mem_cons_of_mem _ ?_)) 1 rfl⟩ | exact ⟨(hN.alloc #[.int .i64 (-2)] 3).boxCell (by repeat (first | exact List.mem_cons_self | refine List.mem_cons_of_mem _ ?_)) 0 rfl, (hN.alloc #[.int .i64 (-2)] 3).boxCell (by repeat (first | exact List.mem_cons_self | refine List.mem_cons_of_mem _ ?_)) 1 rfl⟩ | exact ⟨(hN0.alloc #[.int .i64 (-2)] 3).drew.boxCell (by repeat (first | exact List.mem_cons_self | refine List.mem_cons_of_mem _ ?_)) 0 rfl, (hN0.alloc #[.int .i64 (-2)] 3).drew.boxCell (by repeat (first | exact List.mem_cons_self | refine List.mem_cons_of_mem _ ?_)) 1 rfl⟩ | exact ⟨(HK.out _ _ hN).boxCell (by repeat (first | exact List.mem_cons_self | refine List.mem_cons_of_mem _ ?_)) 0 rfl, (HK.out _ _ hN).boxCell (by repeat (first | exact List.mem_cons_self | refine List.mem_cons_of_mem _ ?_)) 1 rfl⟩ | exact ⟨((HK.out _ _ hN).alloc #[.int .i64 (-2)] 3).boxCell (by repeat (first | exact List.mem_cons_self | refine List.mem_cons_of_mem _ ?_)) 0 rfl, ((HK.out _ _ hN).alloc #[.int .i64 (-2)] 3).boxCell (by repeat (first | exact List.mem_cons_self | refine List.mem_cons_of_mem _ ?_)) 1 rfl⟩ | exact ⟨(HKA.out _ _ _ _ (hN.alloc #[.int .i64 (-2)] 3)).boxCell (by repeat (first | exact List.mem_cons_self | refine List.mem_cons_of_mem _ ?_)) 0 rfl, (HKA.out _ _ _ _ (hN.alloc #[.int .i64 (-2)] 3)).boxCell (by repeat (first | exact List.mem_cons_self | refine List.mem_cons_of_mem _ ?_)) 1 rfl⟩ | exact ⟨(HKD.out _ _ _ _ (hN0.alloc #[.int .i64 (-2)] 3).drew).boxCell (by repeat (first | exact List.mem_cons_self | refine List.mem_cons_of_mem _ ?_)) 0 rfl, (HKD.out _ _ _ _ (hN0.alloc #[.int .i64 (-2)] 3).drew).boxCell (by repeat (first | exact List.mem_cons_self | refine List.mem_cons_of_mem _ ?_)) 1 rfl⟩ | exact ⟨(hN.alloc_ _).boxCell (by repeat (first | exact List.mem_cons_self | refine List.mem_cons_of_mem _ ?_)) 0 rfl, (hN.alloc_ _).boxCell (by repeat (first | exact List.mem_cons_self | refine List.mem_cons_of_mem _ ?_)) 1 rfl⟩ | exact ⟨((HK.out _ _ hN).alloc_ _).boxCell (by repeat (first | exact List.mem_cons_self | refine List.mem_cons_of_mem _ ?_)) 0 rfl, ((HK.out _ _ hN).alloc_ _).boxCell (by repeat (first | exact List.mem_cons_self | refine List.mem_cons_of_mem _ ?_)) 1 rfl⟩ | fail))
      (first | (go_at_call 49; with_reducible refine (postF_any g HG.out _ _ (Hg.out.later hN.below)).mono ?_; rintro e wp ⟨vl, F, rfl, hF, hMp⟩; obtain ⟨al, cl, rfl⟩ := hMp.intsSlice 0 rfl; replace hN := hN.callMem hMp; simp only [List.cons_append, List.nil_append] at hN) | (go_at_call 49; with_reducible refine (postF_any g HG.out _ _ (Hg.out.later (hN.alloc #[.int .i64 (-2)] 3).below)).mono ?_; rintro e wp ⟨vl, F, rfl, hF, hMp⟩; obtain ⟨al, cl, rfl⟩ := hMp.intsSlice 0 rfl; replace hN := (hN.alloc #[.int .i64 (-2)] 3).callMem hMp; simp only [List.cons_append, List.nil_append] at hN) | (go_at_call 49; with_reducible refine (postF_any g HG.out _ _ (Hg.out.later (hN0.alloc #[.int .i64 (-2)] 3).drew.below)).mono ?_; rintro e wp ⟨vl, F, rfl, hF, hMp⟩; obtain ⟨al, cl, rfl⟩ := hMp.intsSlice 0 rfl; replace hN := (hN0.alloc #[.int .i64 (-2)] 3).drew.callMem hMp; simp only [List.cons_append, List.nil_append] at hN) | (go_at_call 49; with_reducible refine (postF_any g HG.out _ _ (Hg.out.later (HK.out _ _ hN).below)).mono ?_; rintro e wp ⟨vl, F, rfl, hF, hMp⟩; obtain ⟨al, cl, rfl⟩ := hMp.intsSlice 0 rfl; replace hN := (HK.out _ _ hN).callMem hMp; simp only [List.cons_append, List.nil_append] at hN) | (go_at_call 49; with_reducible refine (postF_any g HG.out _ _ (Hg.out.later ((HK.out _ _ hN).alloc #[.int .i64 (-2)] 3).below)).mono ?_; rintro e wp ⟨vl, F, rfl, hF, hMp⟩; obtain ⟨al, cl, rfl⟩ := hMp.intsSlice 0 rfl; replace hN := ((HK.out _ _ hN).alloc #[.int .i64 (-2)] 3).callMem hMp; simp only [List.cons_append, List.nil_append] at hN) | (go_at_call 49; with_reducible refine (postF_any g HG.out _ _ (Hg.out.later (HKA.out _ _ _ _ (hN.alloc #[.int .i64 (-2)] 3)).below)).mono ?_; rintro e wp ⟨vl, F, rfl, hF, hMp⟩; obtain ⟨al, cl, rfl⟩ := hMp.intsSlice 0 rfl; replace hN := (HKA.out _ _ _ _ (hN.alloc #[.int .i64 (-2)] 3)).callMem hMp; simp only [List.cons_append, List.nil_append] at hN) | (go_at_call 49; with_reducible refine (postF_any g HG.out _ _ (Hg.out.later (HKD.out _ _ _ _ (hN0.alloc #[.int .i64 (-2)] 3).drew).below)).mono ?_; rintro e wp ⟨vl, F, rfl, hF, hMp⟩; obtain ⟨al, cl, rfl⟩ := hMp.intsSlice 0 rfl; replace hN := (HKD.out _ _ _ _ (hN0.alloc #[.int .i64 (-2)] 3).drew).callMem hMp; simp only [List.cons_append, List.nil_append] at hN) | (go_at_call 50; with_reducible refine (repeat_any _ (-2) g.objs.length (by omega) _ (hN.boxInts (by repeat (first | exact List.mem_cons_self | refine List.mem_cons_of_mem _ ?_)) hi2)).mono ?_; rintro e wq ⟨vu, rfl, hMq⟩; obtain ⟨au2, cu2, hvu⟩ := hMq.intsSlice 0 rfl; rw [List.length_replicate] at hvu; subst hvu; replace hN := hN.callMem hMq; simp only [List.cons_append, List.nil_append] at hN) | (go_at_call 50; with_reducible refine (repeat_any _ (-2) g.objs.length (by omega) _ ((hN.alloc #[.int .i64 (-2)] 3).boxInts (by repeat (first | exact List.mem_cons_self | refine List.mem_cons_of_mem _ ?_)) hi2)).mono ?_; rintro e wq ⟨vu, rfl, hMq⟩; obtain ⟨au2, cu2, hvu⟩ := hMq.intsSlice 0 rfl; rw [List.length_replicate] at hvu; subst hvu; replace hN := (hN.alloc #[.int .i64 (-2)] 3).callMem hMq; simp only [List.cons_append, List.nil_append] at hN) | (go_at_call 50; with_reducible refine (repeat_any _ (-2) g.objs.length (by omega) _ ((hN0.alloc #[.int .i64 (-2)] 3).drew.boxInts (by repeat (first | exact List.mem_cons_self | refine List.mem_cons_of_mem _ ?_)) hi2)).mono ?_; rintro e wq ⟨vu, rfl, hMq⟩; obtain ⟨au2, cu2, hvu⟩ := hMq.intsSlice 0 rfl; rw [List.length_replicate] at hvu; subst hvu; replace hN := (hN0.alloc #[.int .i64 (-2)] 3).drew.callMem hMq; simp only [List.cons_append, List.nil_append] at hN) | (go_at_call 50; with_reducible refine (repeat_any _ (-2) g.objs.length (by omega) _ ((HK.out _ _ hN).boxInts (by repeat (first | exact List.mem_cons_self | refine List.mem_cons_of_mem _ ?_)) hi2)).mono ?_; rintro e wq ⟨vu, rfl, hMq⟩; obtain ⟨au2, cu2, hvu⟩ := hMq.intsSlice 0 rfl; rw [List.length_replicate] at hvu; subst hvu; replace hN := (HK.out _ _ hN).callMem hMq; simp only [List.cons_append, List.nil_append] at hN) | (go_at_call 50; with_reducible refine (repeat_any _ (-2) g.objs.length (by omega) _ (((HK.out _ _ hN).alloc #[.int .i64 (-2)] 3).boxInts (by repeat (first | exact List.mem_cons_self | refine List.mem_cons_of_mem _ ?_)) hi2)).mono ?_; rintro e wq ⟨vu, rfl, hMq⟩; obtain ⟨au2, cu2, hvu⟩ := hMq.intsSlice 0 rfl; rw [List.length_replicate] at hvu; subst hvu; replace hN := ((HK.out _ _ hN).alloc #[.int .i64 (-2)] 3).callMem hMq; simp only [List.cons_append, List.nil_append] at hN) | (go_at_call 50; with_reducible refine (repeat_any _ (-2) g.objs.length (by omega) _ ((HKA.out _ _ _ _ (hN.alloc #[.int .i64 (-2)] 3)).boxInts (by repeat (first | exact List.mem_cons_self | refine List.mem_cons_of_mem _ ?_)) hi2)).mono ?_; rintro e wq ⟨vu, rfl, hMq⟩; obtain ⟨au2, cu2, hvu⟩ := hMq.intsSlice 0 rfl; rw [List.length_replicate] at hvu; subst hvu; replace hN := (HKA.out _ _ _ _ (hN.alloc #[.int .i64 (-2)] 3)).callMem hMq; simp only [List.cons_append, List.nil_append] at hN) | (go_at_call 50; with_reducible refine (repeat_any _ (-2) g.objs.length (by omega) _ ((HKD.out _ _ _ _ (hN0.alloc #[.int .i64 (-2)] 3).drew).boxInts (by repeat (first | exact List.mem_cons_self | refine List.mem_cons_of_mem _ ?_)) hi2)).mono ?_; rintro e wq ⟨vu, rfl, hMq⟩; obtain ⟨au2, cu2, hvu⟩ := hMq.intsSlice 0 rfl; rw [List.length_replicate] at hvu; subst hvu; replace hN := (HKD.out _ _ _ _ (hN0.alloc #[.int .i64 (-2)] 3).drew).callMem hMq; simp only [List.cons_append, List.nil_append] at hN) | fail)
    all_goals
      go_wp2_with fail
      go_meet
      first
        | exact ⟨_, _, _, _, F, rfl, hF, (hN.alloc _ _).pick0 [0, 3, 4, 1, 5] (by decide) rfl⟩
        | exact ⟨_, _, _, _, F, rfl, hF, (hN.alloc _ _).pick0 [0, 4, 3, 1, 5] (by decide) rfl⟩
        | exact ⟨_, _, _, _, F, rfl, hF, (hN.alloc _ _).pick0 [0, 4, 2, 1, 5] (by decide) rfl⟩
        | exact ⟨_, _, _, _, F, rfl, hF, (hN.alloc _ _).pick0 [0, 2, 4, 1, 5] (by decide) rfl⟩
        | exact ⟨_, _, _, _, F, rfl, hF, (hN.alloc _ _).pick0 [0, 2, 3, 1, 5] (by decide) rfl⟩
        | exact ⟨_, _, _, _, F, rfl, hF, (hN.alloc _ _).pick0 [0, 3, 2, 1, 5] (by decide) rfl⟩
        | exact ⟨_, _, _, _, F, rfl, hF, ((HK.out _ _ hN).alloc _ _).pick0 [0, 4, 1, 2, 5] (by decide) rfl⟩
        | exact ⟨_, _, _, _, F, rfl, hF, ((HK.out _ _ hN).alloc _ _).pick0 [0, 3, 1, 2, 5] (by decide) rfl⟩
        | fail
  case rest =>
    clear hN
    obtain ⟨bt, gR, vF, vU, F, rfl, hF, hM⟩ := hcut
    obtain ⟨K, new, hFn, hS⟩ := hF
    have hord := Dom.ord_ok HG.out hS
    rw [← hFn] at hord
    have Hord := Lib.hid hord
    clear hS hFn hord
    obtain ⟨aF, cF, rfl⟩ := hM.intsSlice 1 rfl
    obtain ⟨gF, hgF⟩ : ∃ gF, wc.heap.size = gF := ⟨_, rfl⟩
    gi_wp2_with (gi_at_make; refine Mem.in_makeR elemRows rfl _ _ rfl hM g.objs.length rfl rfl (by omega) ?_; intro w1 hM1 hb1; rw [hgF] at hM1 ⊢; have z1 : bt < w1.heap.size := (hM1.box 1 rfl).2.1; have q0 : w1.cell? ⟨bt, 0, none⟩ = some (.slice aF F.length cF) := (by have := hM1.cell 1 rfl 0; simpa using this))
    have hM2 := (hM1.alloc #[.slice (some ⟨gF, 0, none⟩) g.objs.length g.objs.length] 31).nils g.objs.length
    have hM3 : Mem w.heap.size w (w1.alloc (.cells #[.slice (some ⟨gF, 0, none⟩) g.objs.length g.objs.length] 31)) (gl g.objs.length bt gR w.heap.size w1.heap.size gF (.slice aF F.length cF) vU (.slice ao g.objs.length co) (.slice ar g.roots.length cr) F (List.replicate g.objs.length 0) (List.replicate g.objs.length (-2)) (List.replicate g.objs.length (.slice none 0 0, [])) []) := by
      have h := hM2.perm (L' := [_, _, _, _, _, _, _] ++ rowsI _) List.perm_append_comm
      have e : (List.replicate g.objs.length ((.slice none 0 0 : Value), ([] : List Int))).map (·.1) = List.replicate g.objs.length (.slice none 0 0) := by simp
      unfold gl
      rw [e, List.append_nil]
      exact h.pick (A' := [_, _, _, _, _, _, _]) [2, 3, 4, 5, 6, 0, 1] (by decide) rfl
    clear hM2 hM1 hM hb1 hgF
    have hfr : (List.replicate g.objs.length ((.slice none 0 0 : Value), ([] : List Int))).map (·.2) = Dom.frmTo g (F.take 0) := by simp [Dom.frmTo_nil]
    refine loop_marks [6, 7, 35, 36, 37, 38, 39, 40, 41, 42, 43, 44, 45, 46, 47, 48, 49, 50, 51, 52, 53, 65] (fun m u Ds W => ∃ (k : Nat) (rk : List Int) (fs : List (Value × List Int)), m = F.length - k ∧ k ≤ F.length ∧ u 35 = .int .i64 (k : Int) ∧ fs.map (·.2) = Dom.frmTo g (F.take k) ∧ rk.length = g.objs.length ∧ (∀ (j : Nat) (x : Int), j < k → F[j]? = some x → rk[x.toNat]? = some (j : Int)) ∧
        Mem w.heap.size w W (gl g.objs.length bt gR w.heap.size w1.heap.size gF (.slice aF F.length cF) vU (.slice ao g.objs.length co) (.slice ar g.roots.length cr) F rk (List.replicate g.objs.length (-2)) fs (Ds.map edef)))
        (Ds0 := []) rfl F.length ⟨0, _, _, rfl, Nat.zero_le _, rfl, hfr, by simp, fun j x h => absurd h (Nat.not_lt_zero _), hM3⟩ ?_
    clear hM3 hfr
    rintro m u Ds W ⟨k, rk, fs, rfl, hk, hu, hfs, hrk, hrkv, hM⟩
    have hFl : F.length ≤ 24 := by
      have h3 := Hord.out.nodup.length_le_of_subset (l₂ := (List.range g.objs.length).map fun k : Nat => (k : Int)) fun y hy => by
        have h4 := Hord.out.range y hy
        exact List.mem_map.2 ⟨y.toNat, List.mem_range.2 (by omega), by omega⟩
      have h5 : F.length ≤ g.objs.length := by simpa using h3
      omega
    simp only [setAll, List.foldl_cons, List.foldl_nil, List.setIfInBounds_toArray, List.set_cons_succ, List.set_cons_zero, hu]
    have Hfs := Lib.hid hfs
    have Hrk := Lib.hid hrk
    have Hrkv := Lib.hid hrkv
    clear hfs hrk hrkv hu
    by_cases hlt : k < F.length
    · obtain ⟨x, hx⟩ := get_some _ _ hlt
      obtain ⟨gL, cL, hvL, hgL, hgL2, hcL, _⟩ := hM.intsAt 1 rfl (by rintro e; rw [e] at hx; simp at hx)
      cases hvL
      have c1 := hcL k x hx
      obtain ⟨hx0, hxn⟩ := Hord.out.range x (List.mem_of_getElem? hx)
      obtain ⟨i, rfl⟩ : ∃ i : Nat, x = (i : Int) := ⟨x.toNat, by omega⟩
      have hi : i < g.objs.length := by omega
      obtain ⟨ob, hob⟩ := get_some _ _ hi
      obtain ⟨b, off, cap2, uo, hv, hb, hn2, c2, huo⟩ := Ho.out.at hM.below hob
      cases hv
      obtain ⟨au, cu, rfl, hlu⟩ := huo.slice
      have zt : bt < W.heap.size := (hM.box 0 rfl).2.1
      have zg : w.heap.size < W.heap.size := (hM.box 4 rfl).2.1
      have zt2 : bt < W.heap.size + 1 := by omega
      have zg2 : w.heap.size < W.heap.size + 1 := by omega
      have zb2 : b < W.heap.size + 1 := by omega
      have c3 : W.cell? ⟨bt, 1, none⟩ = some (.slice (some ⟨gR, 0, none⟩) g.objs.length g.objs.length) := by have := hM.cell 0 rfl 1; simpa using this
      have c4 : W.cell? ⟨w.heap.size, 0, none⟩ = some (.slice (some ⟨b, off, none⟩) g.objs.length co) := by have := hM.cell 4 rfl 0; simpa using this
      obtain ⟨Wa, hWa⟩ : ∃ Wa, W.alloc (.cells #[.int .i64 (i : Int)] 3) = Wa := ⟨_, rfl⟩
      have hMa := hM.alloc #[.int .i64 (i : Int)] 3
      rw [hWa] at hMa
      have HWa := Lib.hid hWa
      obtain ⟨bi, hbi⟩ : ∃ bi, W.heap.size = bi := ⟨_, rfl⟩
      rw [hbi] at hMa
      have Hbi := Lib.hid hbi
      have d3 : Wa.cell? ⟨bt, 1, none⟩ = some (.slice (some ⟨gR, 0, none⟩) g.objs.length g.objs.length) := by have := hMa.cell 1 rfl 1; simpa using this
      have d7 : Wa.cell? ⟨bi, 0, none⟩ = some (.int .i64 (i : Int)) := by have := hMa.cell 0 rfl 0; simpa using this
      have hM4 := (hMa.setI 3 rfl (by exact Hrk.out) i (k : Int)).drew
      obtain ⟨yk, hyk⟩ := get_some rk i (by rw [Hrk.out]; exact hi)
      obtain ⟨d5, f5⟩ := hMa.drew.intAt 3 rfl hyk
      obtain ⟨W5, hW5⟩ : ∃ W5, (Wa.setCell ⟨gR, i, none⟩ (.int .i64 (k : Int))).drew = W5 := ⟨_, rfl⟩
      rw [hW5] at hM4
      have HW5 := Lib.hid hW5
      have e3 : W5.cell? ⟨bt, 1, none⟩ = some (.slice (some ⟨gR, 0, none⟩) g.objs.length g.objs.length) := by have := hM4.cell 1 rfl 1; simpa using this
      have e4 : W5.cell? ⟨w.heap.size, 0, none⟩ = some (.slice (some ⟨b, off, none⟩) g.objs.length co) := by have := hM4.cell 5 rfl 0; simpa using this
      have e7 : W5.cell? ⟨bi, 0, none⟩ = some (.int .i64 (i : Int)) := by have := hM4.cell 0 rfl 0; simpa using this
      obtain ⟨b', off', cap2', uo', hv', hb', hn2', c2', huo'⟩ := Ho.out.at hM4.below hob
      cases hv'
      obtain ⟨au', cu', rfl, _⟩ := huo'.slice
      have HM := Lib.hid hM
      have HM4 := Lib.hid hM4
      have Hx := Lib.hid hx
      have Hob := Lib.hid hob
      have Huo := Lib.hid huo'
      clear hM hM4 hcL hx hob huo huo' hyk hWa hbi hW5 hMa
      gi_wp2
      rw [HWa.out, Hbi.out]
      refine wpIn_wide.2 ?_
      go_still_tail 7, (by kernel_rfl)
      go_wp2_with fail
      rw [HW5.out]
      gi_wp2_with fail
      refine ⟨trivial, (targets_opaque _ _ _ _ _).mono ?_⟩
      rintro e w4 ⟨Bs2, rfl, hb4, hBs2, hcs2⟩
      have hM9 : Mem w.heap.size w w4 (gl g.objs.length bt gR w.heap.size w1.heap.size gF (.slice (some ⟨gL, 0, none⟩) F.length cF) vU (.slice (some ⟨b, off, none⟩) g.objs.length co) (.slice ar g.roots.length cr) F (rk.set i (k : Int)) (List.replicate g.objs.length (-2)) fs (ebox bi #[.int .i64 (i : Int)] 3 :: Ds.map edef)) := by
        have h := HM4.out.call hb4
        exact Mem.tailDef (A := [_, _, _, _, _, _, _] ++ rowsI fs) h
      clear HM4 HM
      have hDs : ∀ D ∈ Ds, D < w4.heap.size := hM9.defs_lt (fun D hD => List.mem_cons_of_mem _ (List.mem_cons_of_mem _ (List.mem_cons_of_mem _ (List.mem_cons_of_mem _ (List.mem_cons_of_mem _ (List.mem_cons_of_mem _ (List.mem_cons_of_mem _ (List.mem_append_right _ (List.mem_cons_of_mem _ (List.mem_map.2 ⟨D, hD, rfl⟩))))))))))
      have hbase := hM9.base
      have hfo : fieldsAt g (i : Int) = ob := by unfold fieldsAt; rw [List.getD_eq_getElem?_getD, Int.toNat_natCast, Hob.out]; rfl
      have hob4 : ob.length ≤ 4 := HG.out.fields ob (List.mem_of_getElem? Hob.out)
      have Hfo := Lib.hid hfo
      have hf0 : fs.map (·.2) = Dom.pushAll (Dom.frmTo g (F.take k)) (([] : List (Tg ob)).map (·.1)) (i : Int) := Hfs.out
      clear hfo
      gi_wp2
      refine range_slot (by omega) (gf := 56) (lb := #[.pointer (some ⟨Bs2, 0, none⟩)]) rfl (enters_of Try.func56 (by kernel_rfl) rfl)
        (targets_stops _ (by omega) Bs2 ob _ w Huo.out w4 hM9.below hBs2 hcs2) hbase
        (fun pre W => ∃ fs1 : List (Value × List Int), fs1.map (·.2) = Dom.pushAll (Dom.frmTo g (F.take k)) (pre.map (·.1)) (i : Int) ∧ Mem w.heap.size w W (gl g.objs.length bt gR w.heap.size w1.heap.size gF (.slice (some ⟨gL, 0, none⟩) F.length cF) vU (.slice (some ⟨b, off, none⟩) g.objs.length co) (.slice ar g.roots.length cr) F (rk.set i (k : Int)) (List.replicate g.objs.length (-2)) fs1 (ebox bi #[.int .i64 (i : Int)] 3 :: Ds.map edef)))
        (fun _ _ _ => False) ?own (fun _ => ownFrom_false _) ⟨fs, hf0, hM9⟩ 8 (fun x => .int .i64 x.1) ?assign ?body ?done ?stop
      case own =>
        refine ownFrom_ex fun fs1 => ownFrom_and (p := fun pre : List (Tg ob) => fs1.map (·.2) = Dom.pushAll (Dom.frmTo g (F.take k)) (pre.map (·.1)) (i : Int)) ?_
        exact ownFrom_mem _ hbase (fun _ => gl_calm _ (calm_cons (ebox_calm _ _ _ _) (calm_defs _ hDs)))
      case assign =>
        intro l x W Kk hK
        simp only [laid]
        gi_wp2
        exact hK
      case stop => rintro D c pre W hD hpre hf hK; exact hf.elim
      case body =>
        rintro lb pre ⟨x, hx⟩ W6 hsz ⟨fs1, hf1, hM⟩ hlen
        have hxin := Dom.target_in HG.out (i := (i : Int)) (t := x) (by rw [Hfo.out]; exact hx)
        obtain ⟨j, rfl⟩ : ∃ j : Nat, x = (j : Int) := ⟨x.toNat, by omega⟩
        have hj : j < g.objs.length := by omega
        obtain ⟨pl, hpl⟩ : ∃ pl : List Int, pre.map (·.1) = pl := ⟨_, rfl⟩
        have hpll : pl.length = pre.length := by rw [← hpl, List.length_map]
        rw [hpl] at hf1
        have hl1 : fs1.length = g.objs.length := by
          have h := congrArg List.length hf1
          rw [List.length_map, Dom.pushAll_len, (Dom.frmTo_spec HG.out (x := 0) (j := 0) (Int.le_refl _) _).1] at h
          exact h
        obtain ⟨⟨vj, lj⟩, hr⟩ := get_some fs1 j (by omega)
        have hljd : (Dom.pushAll (Dom.frmTo g (F.take k)) pl (i : Int)).getD j [] = lj := by
          rw [← hf1, List.getD_eq_getElem?_getD, List.getElem?_map, hr]; rfl
        have hlj : lj.length ≤ 1000 := by
          have h1 := Dom.pushAll_row pl (i : Int) j (Dom.frmTo g (F.take k))
          have h2 := Dom.frmTo_row HG.out j _ (F.take k) rfl
          rw [hljd] at h1
          rw [List.length_take] at h2
          omega
        have hfin : ∀ v : Value, (fs1.set j (v, lj ++ [(i : Int)])).map (·.2) = Dom.pushAll (Dom.frmTo g (F.take k)) ((pre ++ [(⟨(j : Int), hx⟩ : Tg ob)]).map (·.1)) (i : Int) := by
          intro v
          rw [List.map_append, hpl]
          show _ = Dom.pushAll _ (pl ++ [(j : Int)]) _
          rw [Dom.pushAll_snoc, List.map_set, hf1]
          unfold Dom.push1
          rw [Int.toNat_natCast, hljd]
        obtain ⟨aj, cj, hvj⟩ := hM.intsSlice (j + 7) (gl_row hr)
        simp only at hvj
        subst hvj
        have hbf := hM.cell 5 rfl 0
        have hbi2 := hM.cell (fs1.length + 7) gl_top 0
        obtain ⟨hrc, hrf, hrz⟩ := hM.rowCell 6 rfl (j := j) (x := .slice aj lj.length cj) (by rw [List.getElem?_map, hr]; rfl)
        simp only [laid]
        obtain ⟨Wd, hWd⟩ : ∃ Wd, W6.drew = Wd := ⟨_, rfl⟩
        have hMd := hM.drew
        have hkd : KeepsOthers W6 Wd := by rw [← hWd]; exact KeepsOthers.drew _
        rw [hWd] at hMd
        have u0 : Wd.cell? ⟨w1.heap.size, 0, none⟩ = some (.slice (some ⟨gF, 0, none⟩) g.objs.length g.objs.length) := by have := hMd.cell 5 rfl 0; simpa using this
        have u1 : Wd.cell? ⟨bi, 0, none⟩ = some (.int .i64 (i : Int)) := by have := hMd.cell (fs1.length + 7) gl_top 0; simpa using this
        obtain ⟨u2, _, _⟩ := hMd.rowCell 6 rfl (j := j) (x := .slice aj lj.length cj) (by rw [List.getElem?_map, hr]; rfl)
        have hj0 : (0 : Int) ≤ (j : Int) := by omega
        have hj1 : (j : Int) < (g.objs.length : Int) := by omega
        gi_wp2
        refine region_round_held (S := fun W => W.cell? ⟨w1.heap.size, 0, none⟩ = some (.slice (some ⟨gF, 0, none⟩) g.objs.length g.objs.length) ∧ W.cell? ⟨bi, 0, none⟩ = some (.int .i64 (i : Int))) (by kernel_rfl) (by kernel_rfl) (by rintro ⟨a, w, h⟩; exact h) ?_ (fun hHeld => ?_)
        · rw [hWd]; exact ⟨u0, u1⟩
        rw [hWd] at hHeld ⊢
        refine wpAnyH_take (i := 0) (v := ?_) rfl (by kernel_rfl) (by kernel_rfl) (by kernel_rfl) (fun _ _ _ h => h) (Or.inl ⟨by rfl, ?_⟩) (by assumption) ?_
        rotate_left
        · (intro w hSw; obtain ⟨s0, s1⟩ := hSw; go_simp; try with_reducible rfl)
        try dsimp only
        try simp only [Act.put, List.setIfInBounds_toArray, List.set_cons_zero, List.set_cons_succ]
        refine wpAnyH_take (i := 1) (v := ?_) rfl (by kernel_rfl) (by kernel_rfl) (by kernel_rfl) (fun _ _ _ h => h) (Or.inl ⟨by rfl, ?_⟩) (by assumption) ?_
        rotate_left
        · (intro w hSw; obtain ⟨s0, s1⟩ := hSw; go_simp; try with_reducible rfl)
        try dsimp only
        try simp only [Act.put, List.setIfInBounds_toArray, List.set_cons_zero, List.set_cons_succ]
        refine wpAnyH_take (i := 2) (v := ?_) rfl (by kernel_rfl) (by kernel_rfl) (by kernel_rfl) (fun _ _ _ h => h) (Or.inl ⟨by rfl, ?_⟩) (by assumption) ?_
        rotate_left
        · (intro w hSw; obtain ⟨s0, s1⟩ := hSw; go_simp; try with_reducible rfl)
        try dsimp only
        try simp only [Act.put, List.setIfInBounds_toArray, List.set_cons_zero, List.set_cons_succ]
        refine wpAnyH_take (i := 3) (v := ?_) rfl (by kernel_rfl) (by kernel_rfl) (by kernel_rfl) (fun _ _ _ h => h) (Or.inl ⟨by rfl, ?_⟩) (by assumption) ?_
        rotate_left
        · (intro w hSw; obtain ⟨s0, s1⟩ := hSw; go_simp; try with_reducible rfl)
        try dsimp only
        try simp only [Act.put, List.setIfInBounds_toArray, List.set_cons_zero, List.set_cons_succ]
        refine wpAnyH_take (i := 4) (v := ?_) rfl (by kernel_rfl) (by kernel_rfl) (by kernel_rfl) (fun _ _ _ h => h) (Or.inl ⟨by rfl, ?_⟩) (by assumption) ?_
        rotate_left
        · (intro w hSw; obtain ⟨s0, s1⟩ := hSw; go_simp; try with_reducible rfl)
        try dsimp only
        try simp only [Act.put, List.setIfInBounds_toArray, List.set_cons_zero, List.set_cons_succ]
        refine wpAnyH_take (i := 6) (v := ?_) rfl (by kernel_rfl) (by kernel_rfl) (by kernel_rfl) (fun _ _ _ h => h) (Or.inl ⟨by rfl, ?_⟩) (by assumption) ?_
        rotate_left
        · (intro w hSw; obtain ⟨s0, s1⟩ := hSw; go_simp; try with_reducible rfl)
        try dsimp only
        try simp only [Act.put, List.setIfInBounds_toArray, List.set_cons_zero, List.set_cons_succ]
        have v0 : (Wd.alloc (.cells #[.int .i64 (i : Int)] 3)).cell? ⟨w1.heap.size, 0, none⟩ = some (.slice (some ⟨gF, 0, none⟩) g.objs.length g.objs.length) := by have := (hMd.alloc_ (.cells #[.int .i64 (i : Int)] 3)).cell 5 rfl 0; simpa using this
        have v1 : (Wd.alloc (.cells #[.int .i64 (i : Int)] 3)).cell? ⟨bi, 0, none⟩ = some (.int .i64 (i : Int)) := by have := (hMd.alloc_ (.cells #[.int .i64 (i : Int)] 3)).cell (fs1.length + 7) gl_top 0; simpa using this
        have v2 : (Wd.alloc (.cells #[.int .i64 (i : Int)] 3)).cell? ⟨gF, j, none⟩ = some (.slice aj lj.length cj) := ((hMd.alloc_ (.cells #[.int .i64 (i : Int)] 3)).rowCell 6 rfl (j := j) (x := .slice aj lj.length cj) (by rw [List.getElem?_map, hr]; rfl)).1
        have zf : gF < Wd.heap.size := (hMd.rowCell 6 rfl (j := j) (x := .slice aj lj.length cj) (by rw [List.getElem?_map, hr]; rfl)).2.2
        refine wpAnyH_ready (rs := [5, 7]) (by kernel_rfl) (by simp) ?_
        refine AllReadyH.cons rfl (fun K hK => ?_) (AllReadyH.cons rfl (fun K hK => ?_) AllReadyH.nil)
        · go_simp
          refine hK.out _ _ ⟨u0, u1⟩ (fun hHeld1 => ?_)
          clear hK K
          (try dsimp only); (try simp only [Act.put, List.setIfInBounds_toArray, List.set_cons_zero, List.set_cons_succ])
          refine wpAnyH_ready (rs := [7]) (by kernel_rfl) (by simp) ?_
          refine AllReadyH.cons rfl (fun K hK => ?_) AllReadyH.nil
          go_simp
          refine hK.out _ _ ⟨v0, v1⟩ (fun hHeld2 => ?_)
          clear hK K
          (try dsimp only); (try simp only [Act.put, List.setIfInBounds_toArray, List.set_cons_zero, List.set_cons_succ])
          refine wpAnyH_ready (rs := [8]) (by kernel_rfl) (by simp) ?_
          refine AllReadyH.cons rfl (fun K hK => ?_) AllReadyH.nil
          refine Mem.step_appI' elemInts rfl (.tmp 60) (.tmp 62) rfl (hMd.alloc_ _) (j + 7) (gl_row hr) rfl Wd.heap.size 1 (i : Int) rfl (by simp) (by simp only []; omega) ?_
          intro ad n1 cp W8 hM8 hs8 hk8
          refine hK.out _ _ ⟨(by have := hM8.boxCell (b := w1.heap.size) (List.mem_iff_getElem?.2 ⟨5, rfl⟩) 0 rfl; exact this), (by have := hM8.boxCell (b := bi) (List.mem_iff_getElem?.2 ⟨fs1.length + 7, by rw [List.getElem?_set_ne (by omega)]; exact gl_top⟩) 0 rfl; exact this)⟩ (fun hHeld2 => ?_)
          clear hK K
          (try dsimp only); (try simp only [Act.put, List.setIfInBounds_toArray, List.set_cons_zero, List.set_cons_succ])
          refine wpAnyH_take (i := 9) (v := ?_) rfl (by kernel_rfl) (by kernel_rfl) (by kernel_rfl) (fun _ _ _ h => h) (Or.inl ⟨by rfl, ?_⟩) (by assumption) ?_
          rotate_left
          · (intro w hSw; obtain ⟨s0, s1⟩ := hSw; go_simp; try with_reducible rfl)
          try dsimp only
          try simp only [Act.put, List.setIfInBounds_toArray, List.set_cons_zero, List.set_cons_succ]
          have g6 := (hM8.rowCell 6 rfl (j := j) (x := .slice aj lj.length cj) (by rw [List.getElem?_map, hr]; rfl))
          obtain ⟨g60, g61, _⟩ := g6
          have hM9b := hM8.setR 6 rfl (by rw [List.length_map]; exact hl1) j (.slice ad n1 cp)
          rw [gl_set (by rw [hl1]; exact hj)] at hM9b
          refine wpAnyH_ready (rs := [10]) (by kernel_rfl) (by simp) ?_
          refine AllReadyH.cons rfl (fun K hK => ?_) AllReadyH.nil
          go_simp
          refine hK.out _ _ ⟨(by have := hM9b.cell 5 rfl 0; simpa using this), (by have := hM9b.boxCell (b := bi) (List.mem_iff_getElem?.2 ⟨(fs1.set j (.slice ad n1 cp, lj ++ [(i : Int)])).length + 7, gl_top⟩) 0 rfl; exact this)⟩ (fun hHeld3 => ?_)
          clear hK K
          refine wpAnyH_done (by kernel_rfl) ?_ _
          have hko8 : KeepsOthers (Wd.alloc (.cells #[.int .i64 (i : Int)] 3)) W8 := ⟨hs8, (hMd.alloc_ _).keeps (j + 7) (gl_row hr) hs8 hk8⟩
          have hkW := ((hkd.trans (KeepsOthers.alloc _ _)).trans hko8).trans (KeepsOthers.setCell W8 ⟨gF, j, none⟩ (.slice ad n1 cp))
          have hbW := below_between hM.below hM9b.below hkW.size
          try gi_wp2
          exact ⟨hkW.from _, hbW, fs1.set j (.slice ad n1 cp, lj ++ [(i : Int)]), hfin _, hM9b⟩
        · go_simp
          refine hK.out _ _ ⟨v0, v1⟩ (fun hHeld1 => ?_)
          clear hK K
          (try dsimp only); (try simp only [Act.put, List.setIfInBounds_toArray, List.set_cons_zero, List.set_cons_succ])
          refine wpAnyH_ready (rs := [5]) (by kernel_rfl) (by simp) ?_
          refine AllReadyH.cons rfl (fun K hK => ?_) AllReadyH.nil
          go_simp
          refine hK.out _ _ ⟨v0, v1⟩ (fun hHeld2 => ?_)
          clear hK K
          (try dsimp only); (try simp only [Act.put, List.setIfInBounds_toArray, List.set_cons_zero, List.set_cons_succ])
          refine wpAnyH_ready (rs := [8]) (by kernel_rfl) (by simp) ?_
          refine AllReadyH.cons rfl (fun K hK => ?_) AllReadyH.nil
          refine Mem.step_appI' elemInts rfl (.tmp 60) (.tmp 62) rfl (hMd.alloc_ _) (j + 7) (gl_row hr) rfl Wd.heap.size 1 (i : Int) rfl (by simp) (by simp only []; omega) ?_
          intro ad n1 cp W8 hM8 hs8 hk8
          refine hK.out _ _ ⟨(by have := hM8.boxCell (b := w1.heap.size) (List.mem_iff_getElem?.2 ⟨5, rfl⟩) 0 rfl; exact this), (by have := hM8.boxCell (b := bi) (List.mem_iff_getElem?.2 ⟨fs1.length + 7, by rw [List.getElem?_set_ne (by omega)]; exact gl_top⟩) 0 rfl; exact this)⟩ (fun hHeld2 => ?_)
          clear hK K
          (try dsimp only); (try simp only [Act.put, List.setIfInBounds_toArray, List.set_cons_zero, List.set_cons_succ])
          refine wpAnyH_take (i := 9) (v := ?_) rfl (by kernel_rfl) (by kernel_rfl) (by kernel_rfl) (fun _ _ _ h => h) (Or.inl ⟨by rfl, ?_⟩) (by assumption) ?_
          rotate_left
          · (intro w hSw; obtain ⟨s0, s1⟩ := hSw; go_simp; try with_reducible rfl)
          try dsimp only
          try simp only [Act.put, List.setIfInBounds_toArray, List.set_cons_zero, List.set_cons_succ]
          have g6 := (hM8.rowCell 6 rfl (j := j) (x := .slice aj lj.length cj) (by rw [List.getElem?_map, hr]; rfl))
          obtain ⟨g60, g61, _⟩ := g6
          have hM9b := hM8.setR 6 rfl (by rw [List.length_map]; exact hl1) j (.slice ad n1 cp)
          rw [gl_set (by rw [hl1]; exact hj)] at hM9b
          refine wpAnyH_ready (rs := [10]) (by kernel_rfl) (by simp) ?_
          refine AllReadyH.cons rfl (fun K hK => ?_) AllReadyH.nil
          go_simp
          refine hK.out _ _ ⟨(by have := hM9b.cell 5 rfl 0; simpa using this), (by have := hM9b.boxCell (b := bi) (List.mem_iff_getElem?.2 ⟨(fs1.set j (.slice ad n1 cp, lj ++ [(i : Int)])).length + 7, gl_top⟩) 0 rfl; exact this)⟩ (fun hHeld3 => ?_)
          clear hK K
          refine wpAnyH_done (by kernel_rfl) ?_ _
          have hko8 : KeepsOthers (Wd.alloc (.cells #[.int .i64 (i : Int)] 3)) W8 := ⟨hs8, (hMd.alloc_ _).keeps (j + 7) (gl_row hr) hs8 hk8⟩
          have hkW := ((hkd.trans (KeepsOthers.alloc _ _)).trans hko8).trans (KeepsOthers.setCell W8 ⟨gF, j, none⟩ (.slice ad n1 cp))
          have hbW := below_between hM.below hM9b.below hkW.size
          try gi_wp2
          exact ⟨hkW.from _, hbW, fs1.set j (.slice ad n1 cp, lj ++ [(i : Int)]), hfin _, hM9b⟩
      case done =>
        rintro D2 xs W6 hD2 hxs ⟨fs1, hf1, hM⟩ hK2
        rw [hxs] at hf1
        have hM10 := hM.addDef' (D := D2) (by omega) hK2 (gl_calm _ (calm_cons (ebox_calm _ _ _ _) (calm_defs _ (fun D hD => by have := hDs D hD; omega))))
        have HM10 := Lib.hid hM10
        clear hM hM10
        have Hf1 := Lib.hid hf1
        clear hf1
        gi_wp2
        refine ⟨F.length - (k + 1), D2 :: Ds, by omega, rfl, rfl, k + 1, rk.set i (k : Int), fs1, rfl, by omega, rfl, ?_, by rw [List.length_set]; exact Hrk.out, ?_, ?_⟩
        · rw [Hf1.out, take_succ_some _ _ _ Hx.out, Dom.frmTo_snoc, Hfo.out]
        · intro y x hy hyx
          have hxr := Hord.out.range x (List.mem_of_getElem? hyx)
          rw [List.getElem?_set]
          by_cases hyk : y = k
          · subst hyk
            rw [Hx.out] at hyx
            cases hyx
            rw [Int.toNat_natCast, if_pos rfl, if_pos (by rw [Hrk.out]; exact hi)]
          · have hne : i ≠ x.toNat := by
              intro e
              have hxi : x = (i : Int) := by omega
              rw [hxi] at hyx
              have := (List.getElem?_inj (by omega : y < F.length) Hord.out.nodup).1 (hyx.trans Hx.out.symm)
              exact hyk this
            rw [if_neg hne]
            exact Hrkv.out y x (by omega) hyx
        · exact gl_tail (HM10.out.drop (List.Sublist.cons_cons _ gl_drop))
    · obtain rfl : k = F.length := by omega
      have hfs := Hfs.out
      rw [List.take_length] at hfs
      have q1 : W.cell? ⟨w.heap.size, 1, none⟩ = some (.slice ar g.roots.length cr) := by have := hM.cell 4 rfl 1; simpa using this
      have HM := Lib.hid hM
      have Hf := Lib.hid hfs
      clear hM hfs Hfs
      gi_wp2_with fail
      refine ⟨trivial, (targets_opaque _ _ _ _ _).mono ?_⟩
      rintro e w4 ⟨Bs2, rfl, hb4, hBs2, hcs2⟩
      have hM9 := HM.out.call hb4
      clear HM
      have hDs : ∀ D ∈ Ds, D < w4.heap.size := hM9.defs_lt (fun D hD => List.mem_cons_of_mem _ (List.mem_cons_of_mem _ (List.mem_cons_of_mem _ (List.mem_cons_of_mem _ (List.mem_cons_of_mem _ (List.mem_cons_of_mem _ (List.mem_cons_of_mem _ (List.mem_append_right _ (List.mem_map.2 ⟨D, hD, rfl⟩)))))))))
      have hbase := hM9.base
      have hrt : g.roots.length ≤ 8 := HG.out.roots
      have hf0 : fs.map (·.2) = Dom.pushAll (Dom.frmTo g F) (([] : List (Tg g.roots)).map (·.1)) (-1) := Hf.out
      gi_wp2
      refine range_slot (by omega) (gf := 56) (lb := #[.pointer (some ⟨Bs2, 0, none⟩)]) rfl (enters_of Try.func56 (by kernel_rfl) rfl)
        (targets_stops _ (by omega) Bs2 g.roots _ w Hr.out w4 hM9.below hBs2 hcs2) hbase
        (fun pre W => ∃ fs1 : List (Value × List Int), fs1.map (·.2) = Dom.pushAll (Dom.frmTo g F) (pre.map (·.1)) (-1) ∧ Mem w.heap.size w W (gl g.objs.length bt gR w.heap.size w1.heap.size gF (.slice aF F.length cF) vU (.slice ao g.objs.length co) (.slice ar g.roots.length cr) F rk (List.replicate g.objs.length (-2)) fs1 (Ds.map edef)))
        (fun _ _ _ => False) ?own2 (fun _ => ownFrom_false _) ⟨fs, hf0, hM9⟩ 9 (fun x => .int .i64 x.1) ?assign2 ?body2 ?done2 ?stop2
      case own2 =>
        refine ownFrom_ex fun fs1 => ownFrom_and (p := fun pre : List (Tg g.roots) => fs1.map (·.2) = Dom.pushAll (Dom.frmTo g F) (pre.map (·.1)) (-1)) ?_
        exact ownFrom_mem _ hbase (fun _ => gl_calm _ (calm_defs _ hDs))
      case assign2 =>
        intro l x W Kk hK
        simp only [laid]
        gi_wp2
        exact hK
      case stop2 => rintro D c pre W hD hpre hf hK; exact hf.elim
      case body2 =>
        rintro lb pre ⟨x, hx⟩ W6 hsz ⟨fs1, hf1, hM⟩ hlen
        have hxin := Dom.root_in HG.out hx
        obtain ⟨j, rfl⟩ : ∃ j : Nat, x = (j : Int) := ⟨x.toNat, by omega⟩
        have hj : j < g.objs.length := by omega
        obtain ⟨pl, hpl⟩ : ∃ pl : List Int, pre.map (·.1) = pl := ⟨_, rfl⟩
        have hpll : pl.length = pre.length := by rw [← hpl, List.length_map]
        rw [hpl] at hf1
        have hl1 : fs1.length = g.objs.length := by
          have h := congrArg List.length hf1
          rw [List.length_map, Dom.pushAll_len, (Dom.frmTo_spec HG.out (x := 0) (j := 0) (Int.le_refl _) _).1] at h
          exact h
        obtain ⟨⟨vj, lj⟩, hr⟩ := get_some fs1 j (by omega)
        have hljd : (Dom.pushAll (Dom.frmTo g F) pl (-1)).getD j [] = lj := by
          rw [← hf1, List.getD_eq_getElem?_getD, List.getElem?_map, hr]; rfl
        have hlj : lj.length ≤ 1000 := by
          have h1 := Dom.pushAll_row pl (-1) j (Dom.frmTo g F)
          have h2 := Dom.frmTo_row HG.out j _ F rfl
          rw [hljd] at h1
          omega
        have hfin : ∀ v : Value, (fs1.set j (v, lj ++ [(-1 : Int)])).map (·.2) = Dom.pushAll (Dom.frmTo g F) ((pre ++ [(⟨(j : Int), hx⟩ : Tg g.roots)]).map (·.1)) (-1) := by
          intro v
          rw [List.map_append, hpl]
          show _ = Dom.pushAll _ (pl ++ [(j : Int)]) _
          rw [Dom.pushAll_snoc, List.map_set, hf1]
          unfold Dom.push1
          rw [Int.toNat_natCast, hljd]
        obtain ⟨aj, cj, hvj⟩ := hM.intsSlice (j + 7) (gl_row hr)
        simp only at hvj
        subst hvj
        simp only [laid]
        obtain ⟨Wd, hWd⟩ : ∃ Wd, W6.drew = Wd := ⟨_, rfl⟩
        have hMd := hM.drew
        have hkd : KeepsOthers W6 Wd := by rw [← hWd]; exact KeepsOthers.drew _
        rw [hWd] at hMd
        have u0 : Wd.cell? ⟨w1.heap.size, 0, none⟩ = some (.slice (some ⟨gF, 0, none⟩) g.objs.length g.objs.length) := by have := hMd.cell 5 rfl 0; simpa using this
        obtain ⟨u2, _, zf⟩ := hMd.rowCell 6 rfl (j := j) (x := .slice aj lj.length cj) (by rw [List.getElem?_map, hr]; rfl)
        have hj0 : (0 : Int) ≤ (j : Int) := by omega
        have hj1 : (j : Int) < (g.objs.length : Int) := by omega
        gi_wp2
        refine region_round_held (S := fun W => W.cell? ⟨w1.heap.size, 0, none⟩ = some (.slice (some ⟨gF, 0, none⟩) g.objs.length g.objs.length) ∧ True) (by kernel_rfl) (by kernel_rfl) (by rintro ⟨a, w, h⟩; exact h) ?_ (fun hHeld => ?_)
        · rw [hWd]; exact ⟨u0, trivial⟩
        rw [hWd] at hHeld ⊢
        refine wpAnyH_take (i := 0) (v := ?_) rfl (by kernel_rfl) (by kernel_rfl) (by kernel_rfl) (fun _ _ _ h => h) (Or.inl ⟨by rfl, ?_⟩) (by assumption) ?_
        rotate_left
        · (intro w hSw; obtain ⟨s0, s1⟩ := hSw; go_simp; try with_reducible rfl)
        try dsimp only
        try simp only [Act.put, List.setIfInBounds_toArray, List.set_cons_zero, List.set_cons_succ]
        refine wpAnyH_take (i := 1) (v := ?_) rfl (by kernel_rfl) (by kernel_rfl) (by kernel_rfl) (fun _ _ _ h => h) (Or.inl ⟨by rfl, ?_⟩) (by assumption) ?_
        rotate_left
        · (intro w hSw; obtain ⟨s0, s1⟩ := hSw; go_simp; try with_reducible rfl)
        try dsimp only
        try simp only [Act.put, List.setIfInBounds_toArray, List.set_cons_zero, List.set_cons_succ]
        refine wpAnyH_take (i := 2) (v := ?_) rfl (by kernel_rfl) (by kernel_rfl) (by kernel_rfl) (fun _ _ _ h => h) (Or.inl ⟨by rfl, ?_⟩) (by assumption) ?_
        rotate_left
        · (intro w hSw; obtain ⟨s0, s1⟩ := hSw; go_simp; try with_reducible rfl)
        try dsimp only
        try simp only [Act.put, List.setIfInBounds_toArray, List.set_cons_zero, List.set_cons_succ]
        refine wpAnyH_take (i := 3) (v := ?_) rfl (by kernel_rfl) (by kernel_rfl) (by kernel_rfl) (fun _ _ _ h => h) (Or.inl ⟨by rfl, ?_⟩) (by assumption) ?_
        rotate_left
        · (intro w hSw; obtain ⟨s0, s1⟩ := hSw; go_simp; try with_reducible rfl)
        try dsimp only
        try simp only [Act.put, List.setIfInBounds_toArray, List.set_cons_zero, List.set_cons_succ]
        refine wpAnyH_take (i := 4) (v := ?_) rfl (by kernel_rfl) (by kernel_rfl) (by kernel_rfl) (fun _ _ _ h => h) (Or.inl ⟨by rfl, ?_⟩) (by assumption) ?_
        rotate_left
        · (intro w hSw; obtain ⟨s0, s1⟩ := hSw; go_simp; try with_reducible rfl)
        try dsimp only
        try simp only [Act.put, List.setIfInBounds_toArray, List.set_cons_zero, List.set_cons_succ]
        have v0 : (Wd.alloc (.cells #[.int .i64 (-1 : Int)] 3)).cell? ⟨w1.heap.size, 0, none⟩ = some (.slice (some ⟨gF, 0, none⟩) g.objs.length g.objs.length) := by have := (hMd.alloc_ (.cells #[.int .i64 (-1 : Int)] 3)).cell 5 rfl 0; simpa using this
        have v2 : (Wd.alloc (.cells #[.int .i64 (-1 : Int)] 3)).cell? ⟨gF, j, none⟩ = some (.slice aj lj.length cj) := ((hMd.alloc_ (.cells #[.int .i64 (-1 : Int)] 3)).rowCell 6 rfl (j := j) (x := .slice aj lj.length cj) (by rw [List.getElem?_map, hr]; rfl)).1
        refine wpAnyH_ready (rs := [5, 6]) (by kernel_rfl) (by simp) ?_
        refine AllReadyH.cons rfl (fun K hK => ?_) (AllReadyH.cons rfl (fun K hK => ?_) AllReadyH.nil)
        · go_simp
          refine hK.out _ _ ⟨u0, trivial⟩ (fun hHeld1 => ?_)
          clear hK K
          (try dsimp only); (try simp only [Act.put, List.setIfInBounds_toArray, List.set_cons_zero, List.set_cons_succ])
          refine wpAnyH_ready (rs := [6]) (by kernel_rfl) (by simp) ?_
          refine AllReadyH.cons rfl (fun K hK => ?_) AllReadyH.nil
          go_simp
          refine hK.out _ _ ⟨v0, trivial⟩ (fun hHeld2 => ?_)
          clear hK K
          (try dsimp only); (try simp only [Act.put, List.setIfInBounds_toArray, List.set_cons_zero, List.set_cons_succ])
          refine wpAnyH_ready (rs := [7]) (by kernel_rfl) (by simp) ?_
          refine AllReadyH.cons rfl (fun K hK => ?_) AllReadyH.nil
          refine Mem.step_appI' elemInts rfl (.tmp 75) (.tmp 76) rfl (hMd.alloc_ _) (j + 7) (gl_row hr) rfl Wd.heap.size 1 (-1 : Int) rfl (by simp) (by simp only []; omega) ?_
          intro ad n1 cp W8 hM8 hs8 hk8
          refine hK.out _ _ ⟨(by have := hM8.boxCell (b := w1.heap.size) (List.mem_iff_getElem?.2 ⟨5, rfl⟩) 0 rfl; exact this), trivial⟩ (fun hHeld2 => ?_)
          clear hK K
          (try dsimp only); (try simp only [Act.put, List.setIfInBounds_toArray, List.set_cons_zero, List.set_cons_succ])
          refine wpAnyH_take (i := 8) (v := ?_) rfl (by kernel_rfl) (by kernel_rfl) (by kernel_rfl) (fun _ _ _ h => h) (Or.inl ⟨by rfl, ?_⟩) (by assumption) ?_
          rotate_left
          · (intro w hSw; obtain ⟨s0, s1⟩ := hSw; go_simp; try with_reducible rfl)
          try dsimp only
          try simp only [Act.put, List.setIfInBounds_toArray, List.set_cons_zero, List.set_cons_succ]
          have g6 := (hM8.rowCell 6 rfl (j := j) (x := .slice aj lj.length cj) (by rw [List.getElem?_map, hr]; rfl))
          obtain ⟨g60, g61, _⟩ := g6
          have hM9b := hM8.setR 6 rfl (by rw [List.length_map]; exact hl1) j (.slice ad n1 cp)
          rw [gl_set (by rw [hl1]; exact hj)] at hM9b
          refine wpAnyH_ready (rs := [9]) (by kernel_rfl) (by simp) ?_
          refine AllReadyH.cons rfl (fun K hK => ?_) AllReadyH.nil
          go_simp
          refine hK.out _ _ ⟨(by have := hM9b.cell 5 rfl 0; simpa using this), trivial⟩ (fun hHeld3 => ?_)
          clear hK K
          refine wpAnyH_done (by kernel_rfl) ?_ _
          have hko8 : KeepsOthers (Wd.alloc (.cells #[.int .i64 (-1 : Int)] 3)) W8 := ⟨hs8, (hMd.alloc_ _).keeps (j + 7) (gl_row hr) hs8 hk8⟩
          have hkW := ((hkd.trans (KeepsOthers.alloc _ _)).trans hko8).trans (KeepsOthers.setCell W8 ⟨gF, j, none⟩ (.slice ad n1 cp))
          have hbW := below_between hM.below hM9b.below hkW.size
          try gi_wp2
          exact ⟨hkW.from _, hbW, fs1.set j (.slice ad n1 cp, lj ++ [(-1 : Int)]), hfin _, hM9b⟩
        · go_simp
          refine hK.out _ _ ⟨v0, trivial⟩ (fun hHeld1 => ?_)
          clear hK K
          (try dsimp only); (try simp only [Act.put, List.setIfInBounds_toArray, List.set_cons_zero, List.set_cons_succ])
          refine wpAnyH_ready (rs := [5]) (by kernel_rfl) (by simp) ?_
          refine AllReadyH.cons rfl (fun K hK => ?_) AllReadyH.nil
          go_simp
          refine hK.out _ _ ⟨v0, trivial⟩ (fun hHeld2 => ?_)
          clear hK K
          (try dsimp only); (try simp only [Act.put, List.setIfInBounds_toArray, List.set_cons_zero, List.set_cons_succ])
          refine wpAnyH_ready (rs := [7]) (by kernel_rfl) (by simp) ?_
          refine AllReadyH.cons rfl (fun K hK => ?_) AllReadyH.nil
          refine Mem.step_appI' elemInts rfl (.tmp 75) (.tmp 76) rfl (hMd.alloc_ _) (j + 7) (gl_row hr) rfl Wd.heap.size 1 (-1 : Int) rfl (by simp) (by simp only []; omega) ?_
          intro ad n1 cp W8 hM8 hs8 hk8
          refine hK.out _ _ ⟨(by have := hM8.boxCell (b := w1.heap.size) (List.mem_iff_getElem?.2 ⟨5, rfl⟩) 0 rfl; exact this), trivial⟩ (fun hHeld2 => ?_)
          clear hK K
          (try dsimp only); (try simp only [Act.put, List.setIfInBounds_toArray, List.set_cons_zero, List.set_cons_succ])
          refine wpAnyH_take (i := 8) (v := ?_) rfl (by kernel_rfl) (by kernel_rfl) (by kernel_rfl) (fun _ _ _ h => h) (Or.inl ⟨by rfl, ?_⟩) (by assumption) ?_
          rotate_left
          · (intro w hSw; obtain ⟨s0, s1⟩ := hSw; go_simp; try with_reducible rfl)
          try dsimp only
          try simp only [Act.put, List.setIfInBounds_toArray, List.set_cons_zero, List.set_cons_succ]
          have g6 := (hM8.rowCell 6 rfl (j := j) (x := .slice aj lj.length cj) (by rw [List.getElem?_map, hr]; rfl))
          obtain ⟨g60, g61, _⟩ := g6
          have hM9b := hM8.setR 6 rfl (by rw [List.length_map]; exact hl1) j (.slice ad n1 cp)
          rw [gl_set (by rw [hl1]; exact hj)] at hM9b
          refine wpAnyH_ready (rs := [9]) (by kernel_rfl) (by simp) ?_
          refine AllReadyH.cons rfl (fun K hK => ?_) AllReadyH.nil
          go_simp
          refine hK.out _ _ ⟨(by have := hM9b.cell 5 rfl 0; simpa using this), trivial⟩ (fun hHeld3 => ?_)
          clear hK K
          refine wpAnyH_done (by kernel_rfl) ?_ _
          have hko8 : KeepsOthers (Wd.alloc (.cells #[.int .i64 (-1 : Int)] 3)) W8 := ⟨hs8, (hMd.alloc_ _).keeps (j + 7) (gl_row hr) hs8 hk8⟩
          have hkW := ((hkd.trans (KeepsOthers.alloc _ _)).trans hko8).trans (KeepsOthers.setCell W8 ⟨gF, j, none⟩ (.slice ad n1 cp))
          have hbW := below_between hM.below hM9b.below hkW.size
          try gi_wp2
          exact ⟨hkW.from _, hbW, fs1.set j (.slice ad n1 cp, lj ++ [(-1 : Int)]), hfin _, hM9b⟩
      case done2 =>
        rintro D2 xs W6 hD2 hxs ⟨fs1, hf1, hM⟩ hK2
        rw [hxs] at hf1
        have hM10 := gl_tail (hM.addDef' (D := D2) (by omega) hK2 (gl_calm _ (calm_defs _ (fun D hD => by have := hDs D hD; omega))))
        have HM10 := Lib.hid hM10
        clear hM hM10
        have hfrm : fs1.map (·.2) = Dom.frmOf g F := hf1
        have Hf1 := Lib.hid hfrm
        clear hf1 hfrm Hf
        gi_wp2
        obtain ⟨aU, cU, hvU⟩ := HM10.out.intsSlice 3 rfl
        rw [List.length_replicate] at hvU
        subst hvU
        obtain ⟨T, hT⟩ : ∃ T, edef D2 :: Ds.map edef = T := ⟨_, rfl⟩
        have HM11 := HM10.out
        rw [hT] at HM11
        have HT := Lib.hid hT
        obtain ⟨DD, hDD⟩ : ∃ DD, Dom.dgOf F (Dom.frmOf g F) = DD := ⟨_, rfl⟩
        have hok : DD.Ok := by rw [← hDD]; exact Dom.dg_ok Hord.out (Dom.frm_ok HG.out F)
        have hdm : Dom.DmOk DD (Dom.DmOf g) := by rw [← hDD]; exact Dom.dm_ok Hord.out (Dom.frm_ok HG.out F)
        have hP : ∀ x, x ∈ F ↔ DD.P x := by rw [← hDD]; exact fun x => Iff.rfl
        have hR : ∀ x, DD.R x = F.idxOf x := by rw [← hDD]; exact fun x => rfl
        have hpre : ∀ x, DD.pre x = (Dom.frmOf g F).getD x.toNat [] := by rw [← hDD]; exact fun x => rfl
        have hN : ∀ x ∈ F, DD.R x < F.length := fun x hx => by rw [hR]; exact List.idxOf_lt_length_of_mem hx
        have htree : ∀ U : List Int, U.length = g.objs.length → Dom.TreeAt DD g.objs.length rk U := fun U hU => ⟨hok, fun x hx => (Hord.out.range x ((hP x).2 hx)).2, fun x hx => by
          have hxF := (hP x).2 hx
          rw [hR]
          exact Hrkv.out _ x (List.idxOf_lt_length_of_mem hxF) (by rw [List.getElem?_eq_getElem (List.idxOf_lt_length_of_mem hxF), List.getElem_idxOf]), hU⟩
        have hU0 : ∀ x, Dom.upAt (List.replicate g.objs.length (-2)) x = -2 := by
          intro x
          unfold Dom.upAt
          rw [List.getD_eq_getElem?_getD, List.getElem?_replicate]
          split <;> rfl
        have Hok := Lib.hid hok
        have Hdm := Lib.hid hdm
        have HP := Lib.hid hP
        have HR := Lib.hid hR
        have Hpre := Lib.hid hpre
        have HN := Lib.hid hN
        have Htree := Lib.hid htree
        have HU0 := Lib.hid hU0
        have HDD := Lib.hid hDD
        clear HM10 hT hDD hok hdm hP hR hpre hN htree hU0
        refine wpIn_wide.2 ?_
        go_loopg [10] (Dom.phi DD F.length F (Dom.upAt (List.replicate g.objs.length (-2))) + 1) (fun gk s10 wr => ∃ (U : List Int) (ch : Bool), s10 = .bool ch ∧ gk = Dom.phi DD F.length F (Dom.upAt U) + (if ch then 1 else 0) ∧ U.length = g.objs.length ∧ Dom.Inv DD (Dom.DmOf g) (Dom.upAt U) 0 ∧ (∀ x : Int, 0 ≤ x → x < g.objs.length → x ∉ F → Dom.upAt U x = -2) ∧ (ch = false → Dom.GrowS g U) ∧
          Mem w.heap.size w wr (gl g.objs.length bt gR w.heap.size w1.heap.size gF (.slice aF F.length cF) (.slice aU g.objs.length cU) (.slice ao g.objs.length co) (.slice ar g.roots.length cr) F rk U fs1 T))
        case atStart => exact ⟨_, true, rfl, rfl, by simp, Dom.Inv.start _ _ HU0.out, fun x _ _ _ => HU0.out x, fun h => (by cases h), HM11⟩
        case round =>
          clear HM11
          obtain ⟨U0, ch0, rfl, hgk, hUl, hinv, hout, hdone, hM⟩ := hrel
          have HM := Lib.hid hM
          have Hinv := Lib.hid hinv
          have Hout := Lib.hid hout
          have Hdone := Lib.hid hdone
          have Hgk := Lib.hid hgk
          have HUl := Lib.hid hUl
          clear hM hinv hout hdone hgk hUl
          cases ch0 with
          | false =>
            have hgr := Hdone.out rfl
            have Hgr := Lib.hid hgr
            clear hgr
            go_wp2
            gi_wp2
            have hfl := gl_flip HM.out
            rw [← HT.out] at hfl
            refine leaves_marks (v := .pointer (some ⟨bt, 0, none⟩)) (D2 :: Ds) _ hfl ?_
            intro W' hM3
            exact ⟨by simp [results, Try.results32, go_sem], _, _, _, _, _, rfl, Hgr.out, gl_end hM3⟩
          | true =>
            have hb0 : wr.cell? ⟨bt, 0, none⟩ = some (.slice aF F.length cF) := by have := HM.out.cell 0 rfl 0; simpa using this
            obtain ⟨gO, hgO⟩ : ∃ gO, gk = gO := ⟨_, rfl⟩
            go_wp2_with fail
            have hpi := Dom.PassI.start (N := F.length) Hinv.out HUl.out Hout.out
            have HpO := Lib.hid hpi
            clear hpi
            go_loopg [10, 85] F.length (fun gi s10 s85 wi => ∃ (U1 : List Int) (ch : Bool) (p : Nat), s10 = .bool ch ∧ s85 = .int .i64 (p : Int) ∧ F.length - p = gi ∧ p ≤ F.length ∧ Dom.PassI DD (Dom.DmOf g) g.objs.length F.length F U0 U1 ch p ∧
              Mem w.heap.size w wi (gl g.objs.length bt gR w.heap.size w1.heap.size gF (.slice aF F.length cF) (.slice aU g.objs.length cU) (.slice ao g.objs.length co) (.slice ar g.roots.length cr) F rk U1 fs1 T))
            case atStart => exact ⟨U0, false, 0, rfl, rfl, by omega, Nat.zero_le _, HpO.out, HM.out⟩
            case round =>
              obtain ⟨U1, ch, p, rfl, rfl, hgi, hp, hpi, hM2⟩ := hrel
              have Hpi := Lib.hid hpi
              have HM2 := Lib.hid hM2
              have Hgi := Lib.hid hgi
              clear hpi hM2 hgi
              by_cases hlt : p < F.length
              · obtain ⟨x, hx⟩ := get_some _ _ hlt
                obtain ⟨gL, cL, hvL, _, hgL2, hcL, _⟩ := HM2.out.intsAt 1 rfl (by rintro e; rw [e] at hx; simp at hx)
                cases hvL
                have c1 := hcL p x hx
                have hxF := List.mem_of_getElem? hx
                obtain ⟨hx0, hxn⟩ := Hord.out.range x hxF
                obtain ⟨i, rfl⟩ : ∃ i : Nat, x = (i : Int) := ⟨x.toNat, by omega⟩
                have hi : i < g.objs.length := by omega
                obtain ⟨gU, cU', hvU, _, hgU2, hcU, hfU⟩ := HM2.out.intsAt 3 rfl (by rintro e; have := Hpi.out.len; rw [e] at this; simp at this; omega)
                simp only [Value.slice.injEq] at hvU
                obtain ⟨rfl, hxa, hxb⟩ := hvU
                clear hxa hxb
                have hfl : fs1.length = g.objs.length := by
                  have h := congrArg List.length Hf1.out
                  rw [List.length_map] at h
                  rw [h]; exact (Dom.frm_ok HG.out F).1
                obtain ⟨⟨vi, li⟩, hr⟩ := get_some fs1 i (by omega)
                have hli : DD.pre (i : Int) = li := by
                  rw [Hpre.out, ← Hf1.out, List.getD_eq_getElem?_getD, List.getElem?_map, Int.toNat_natCast, hr]; rfl
                have hlb : li.length ≤ 1000 := by
                  have h1 := Dom.pushAll_row (targets g.roots) (-1) i (Dom.frmTo g F)
                  have h2 := Dom.frmTo_row HG.out i _ F rfl
                  have h3 : (targets g.roots).length ≤ g.roots.length := by unfold targets; rw [List.length_map]; exact List.length_filter_le _ _
                  have h4 : li = (Dom.frmOf g F).getD i [] := by rw [← hli, Hpre.out, Int.toNat_natCast]
                  rw [h4]
                  unfold Dom.frmOf
                  omega
                obtain ⟨ai, ci, hvi⟩ := HM2.out.intsSlice (i + 7) (gl_row hr)
                simp only at hvi
                subst hvi
                have hb1 : wr.cell? ⟨w1.heap.size, 0, none⟩ = some (.slice (some ⟨gF, 0, none⟩) g.objs.length g.objs.length) := by have := HM2.out.cell 5 rfl 0; simpa using this
                obtain ⟨hb2, _, _⟩ := HM2.out.rowCell 6 rfl (j := i) (x := .slice ai li.length ci) (by rw [List.getElem?_map, hr]; rfl)
                have hRi : DD.R (i : Int) = p := by
                  rw [HR.out]
                  have h1 := List.idxOf_lt_length_of_mem hxF
                  have h2 : F[F.idxOf (i : Int)]? = some (i : Int) := by rw [List.getElem?_eq_getElem h1, List.getElem_idxOf]
                  exact (List.getElem?_inj h1 Hord.out.nodup).1 (h2.trans hx.symm)
                have Hx := Lib.hid hx
                have HxF := Lib.hid hxF
                have Hr2 := Lib.hid hr
                have Hli := Lib.hid hli
                have HRi := Lib.hid hRi
                have HcU := Lib.hid hcU
                have HfU := Lib.hid hfU
                clear hcL hx hxF hr hli hRi hcU hfU hfl
                go_wp2_with fail
                go_loopg [13, 94] li.length (fun gj s13 s94 wj => ∃ (uu : Int) (q : Nat), s13 = .int .i64 uu ∧ s94 = .int .i64 (q : Int) ∧ li.length - q = gj ∧ q ≤ li.length ∧ Dom.Mt DD (Dom.upAt U1) (li.take q) uu ∧ Mem w.heap.size w wj (gl g.objs.length bt gR w.heap.size w1.heap.size gF (.slice (some ⟨gL, 0, none⟩) F.length cF) (.slice (some ⟨gU, 0, none⟩) g.objs.length cU) (.slice ao g.objs.length co) (.slice ar g.roots.length cr) F rk U1 fs1 T))
                case atStart => exact ⟨-2, 0, rfl, rfl, by omega, Nat.zero_le _, Dom.Mt.nil, HM2.out⟩
                case round =>
                  obtain ⟨uu, q, rfl, rfl, hgj, hq, hmt, hM3⟩ := hrel
                  have HM3 := Lib.hid hM3
                  have Hmt := Lib.hid hmt
                  have Hgj := Lib.hid hgj
                  clear hM3 hmt hgj
                  by_cases hql : q < li.length
                  · obtain ⟨j, hj⟩ := get_some li q hql
                    obtain ⟨gJ, cJ, hvj, _, hgJ2, hcj, _⟩ := HM3.out.intsAt (i + 7) (gl_row Hr2.out) (by rintro e; simp only at e; rw [e] at hj; simp at hj)
                    simp only [Value.slice.injEq] at hvj
                    obtain ⟨rfl, hxa, hxb⟩ := hvj
                    clear hxa hxb
                    have d1 := hcj q j hj
                    have hjin := Hok.out.prein (i : Int) ((HP.out _).1 HxF.out) j (by rw [Hli.out]; exact List.mem_of_getElem? hj)
                    have Htk := Lib.hid (take_succ_some li q j hj)
                    have e2 : wr.cell? ⟨bt, 2, none⟩ = some (.slice (some ⟨gU, 0, none⟩) g.objs.length cU) := by have := HM3.out.cell 0 rfl 2; simpa using this
                    clear hcj hj
                    by_cases hj0 : j < 0
                    · have hje : j = -1 := by
                        rcases hjin with h | h
                        · exact h
                        · have := Hok.out.pos j h; omega
                      have Hcons : Hid (Dom.Cons (Dom.upAt U1) j) := Lib.hid (fun h => by omega)
                      subst hje
                      by_cases hu : uu = -2
                      · subst hu
                        have Hnext := Lib.hid (Hmt.out.first Hcons.out (.inl rfl) Hok.out)
                        rw [← Htk.out] at Hnext
                        go_wp2
                        go_roundg (li.length - (q + 1))
                        case rel => exact ⟨-1, q + 1, rfl, by go_num, by omega, by omega, Hnext.out, HM3.out⟩
                        case measure => have := Hgj.out; omega
                      · have hu2 : (uu == -2) = false := by simpa using hu
                        go_wp2_with fail
                        refine (Dom.meet_any DD _ bt gR gU g.objs.length _ _ _ _ _ _ rk U1 (Htree.out U1 Hpi.out.len) Hpi.out.inv.st HM3.out 0 2 3 rfl rfl rfl uu (-1) (Hmt.out.rk hu) (.inl rfl)).mono ?_
                        rintro e w7 ⟨m, rfl, hmm, hM4⟩
                        have Hnext := Lib.hid (Hmt.out.meet hu Hcons.out hmm)
                        rw [← Htk.out] at Hnext
                        clear hmm
                        go_wp2
                        go_roundg (li.length - (q + 1))
                        case rel => exact ⟨m, q + 1, rfl, by go_num, by omega, by omega, Hnext.out, hM4⟩
                        case measure => have := Hgj.out; omega
                    · obtain ⟨jn, rfl⟩ : ∃ jn : Nat, j = (jn : Int) := ⟨j.toNat, by omega⟩
                      have hjP : DD.P (jn : Int) := hjin.resolve_left (by omega)
                      have hjn : jn < g.objs.length := by have := (Hord.out.range _ ((HP.out _).2 hjP)).2; omega
                      have hyj := Dom.upAt_get (up := U1) (i := jn) (by rw [Hpi.out.len]; exact hjn)
                      obtain ⟨yj, hyje⟩ : ∃ yj, Dom.upAt U1 (jn : Int) = yj := ⟨_, rfl⟩
                      rw [hyje] at hyj
                      obtain ⟨d2, _⟩ := HM3.out.intAt 3 rfl hyj
                      have Hyj := Lib.hid hyje
                      have HjP := Lib.hid hjP
                      clear hyj hyje hjP hjin
                      by_cases hy : yj = -2
                      · subst hy
                        have Hnext := Lib.hid (Hmt.out.skip (j := (jn : Int)) (fun hc => hc ⟨by omega, Hyj.out⟩))
                        rw [← Htk.out] at Hnext
                        go_wp2
                        go_roundg (li.length - (q + 1))
                        case rel => exact ⟨uu, q + 1, rfl, by go_num, by omega, by omega, Hnext.out, HM3.out⟩
                        case measure => have := Hgj.out; omega
                      · have hy2 : (yj == -2) = false := by simpa using hy
                        have Hcons : Hid (Dom.Cons (Dom.upAt U1) (jn : Int)) := Lib.hid (fun h => hy (by rw [← Hyj.out]; exact h.2))
                        have Hrk2 : Hid (Dom.Rk DD (Dom.upAt U1) (jn : Int)) := Lib.hid ⟨HjP.out, fun h => hy (by rw [← Hyj.out]; exact h)⟩
                        by_cases hu : uu = -2
                        · subst hu
                          have Hnext := Lib.hid (Hmt.out.first Hcons.out (.inr Hrk2.out) Hok.out)
                          rw [← Htk.out] at Hnext
                          go_wp2
                          go_roundg (li.length - (q + 1))
                          case rel => exact ⟨(jn : Int), q + 1, rfl, by go_num, by omega, by omega, Hnext.out, HM3.out⟩
                          case measure => have := Hgj.out; omega
                        · have hu2 : (uu == -2) = false := by simpa using hu
                          go_wp2_with fail
                          refine (Dom.meet_any DD _ bt gR gU g.objs.length _ _ _ _ _ _ rk U1 (Htree.out U1 Hpi.out.len) Hpi.out.inv.st HM3.out 0 2 3 rfl rfl rfl uu (jn : Int) (Hmt.out.rk hu) (.inr Hrk2.out)).mono ?_
                          rintro e w7 ⟨m, rfl, hmm, hM4⟩
                          have Hnext := Lib.hid (Hmt.out.meet hu Hcons.out hmm)
                          rw [← Htk.out] at Hnext
                          clear hmm
                          go_wp2
                          go_roundg (li.length - (q + 1))
                          case rel => exact ⟨m, q + 1, rfl, by go_num, by omega, by omega, Hnext.out, hM4⟩
                          case measure => have := Hgj.out; omega
                  · obtain rfl : q = li.length := by omega
                    have hmtl := Hmt.out
                    rw [List.take_length, ← Hli.out] at hmtl
                    have Hmtl := Lib.hid hmtl
                    have hyi := Dom.upAt_get (up := U1) (i := i) (by rw [Hpi.out.len]; exact hi)
                    obtain ⟨yi, hyie⟩ : ∃ yi, Dom.upAt U1 (i : Int) = yi := ⟨_, rfl⟩
                    rw [hyie] at hyi
                    obtain ⟨d3, f3⟩ := HM3.out.intAt 3 rfl hyi
                    have e2 : wr.cell? ⟨bt, 2, none⟩ = some (.slice (some ⟨gU, 0, none⟩) g.objs.length cU) := by have := HM3.out.cell 0 rfl 2; simpa using this
                    have Hyi := Lib.hid hyie
                    clear hmtl hyi hyie
                    by_cases hch : uu = yi
                    · subst hch
                      have Hk := Lib.hid (Hpi.out.keep Hok.out Hdm.out (fun x hx => (HP.out x).1 hx) HxF.out HRi.out (by rw [Hyi.out]; exact Hmtl.out))
                      go_wp2
                      go_roundg (F.length - (p + 1))
                      case rel => exact ⟨U1, ch, p + 1, rfl, by go_num, by omega, by omega, Hk.out, HM3.out⟩
                      case measure => have := Hgi.out; omega
                    · have hc1 : (uu == yi) = false := by simpa using hch
                      have hc2 : (uu != yi) = true := by simpa using hch
                      have Hk := Lib.hid (Hpi.out.turn Hok.out Hdm.out (fun x hx => (HP.out x).1 hx) HN.out HxF.out hi HRi.out Hmtl.out (by rw [Hyi.out]; exact hch))
                      have hM5 := HM3.out.setI 3 rfl Hpi.out.len i uu
                      have HM5 := Lib.hid hM5
                      clear hM5
                      go_wp2
                      go_roundg (F.length - (p + 1))
                      case rel => exact ⟨U1.set i uu, true, p + 1, rfl, by go_num, by omega, by omega, Hk.out, HM5.out⟩
                      case measure => have := Hgi.out; omega
              · obtain rfl : p = F.length := by omega
                have hrel2 : Hid (ch = false → Dom.GrowS g U1) := Lib.hid (fun hc => by
                  obtain ⟨h1, h2⟩ := Hpi.out.same hc
                  have h3 := Hpi.out.inv
                  have hDD := HDD.out
                  subst hDD
                  exact Dom.grow_done Hord.out (Dom.frm_ok HG.out F) Hpi.out.len h3 (fun x hx => h2 x hx (HN.out x hx)) Hpi.out.out)
                go_wp2
                go_roundg (Dom.phi DD F.length F (Dom.upAt U1) + (if ch then 1 else 0))
                case rel => exact ⟨U1, ch, rfl, rfl, Hpi.out.len, Hpi.out.inv.again (fun x hx => HN.out x ((HP.out x).2 hx)), Hpi.out.out, hrel2.out, HM2.out⟩
                case measure =>
                  have h1 := Hgk.out
                  cases ch with
                  | false => have h2 := Hpi.out.le; simp at h1 ⊢; omega
                  | true => have h2 := Hpi.out.less rfl; simp at h1 ⊢; omega
end Go.Proofs.Ytnpbdabboecpaaa
