/- dual.counted, walked. -/
import Derived.Test.YtnpbdabboecpaaaDu
import Derived.Test.YtnpbdabboecpaaaCm
import Derived.Laws.EntriesVeiled
namespace Go.Proofs.Ytnpbdabboecpaaa
open Go.RowKit Go.Shelf

attribute [local go_sem] Oper.semAt_some

theorem getD_rep {l : List Int} {j : Nat} (h : j < l.length) : l[j]? = some (l.getD j 0) := by rw [List.getD_eq_getElem?_getD, List.getElem?_eq_getElem h]; rfl
theorem incs_bound {l pr : List Int} {m : Nat} (hl : ∀ j : Nat, 0 ≤ l.getD j 0 ∧ l.getD j 0 ≤ m) (hpr : ∀ t ∈ pr, 0 ≤ t ∧ t < (l.length : Int)) (j : Nat) : 0 ≤ (incs l pr).getD j 0 ∧ (incs l pr).getD j 0 ≤ m + pr.length := by
  have h1 := hl j
  rw [incs_get _ _ hpr]
  have h2 := count_le pr (j : Int)
  omega

set_option maxRecDepth 100000 in
set_option maxHeartbeats 4000000 in
theorem counted_main (g : G) (hG : Good g) (vo vr vc : Value) (c : List Int) (w : World) (ho : IsObjs w vo g.objs) (hr : IsVals w vr g.roots) (hc : IsInts w vc c) (hlc : c.length = g.objs.length) :
    CallsIn Fence.wide 10 Try.prog 59 #[.agg #[vo, vr], vc] w fun e w' => ∃ vl, e = .returned vl ∧ Mem w.heap.size w w' [rowI 3 vl (counted g c)] := by
  obtain ⟨ao, co, rfl, hlo⟩ := ho.slice
  obtain ⟨ar, cr, rfl, hlr⟩ := hr.slice
  obtain ⟨ac, cc, rfl, _⟩ := hc.slice
  have Ho := Lib.hid ho
  have Hr := Lib.hid hr
  have Hc := Lib.hid hc
  have Hlc := Lib.hid hlc
  have hn := hG.objs
  clear ho hr hc hlc
  refine callsIn_of_wp_marks Try.func59 rfl trivial ?_ rfl
  simp only [Try.ntmps59, List.size_toArray, List.length_cons, List.length_nil, Nat.reduceAdd, Nat.reduceSub, Array.replicate_succ, Array.replicate_zero, List.push_toArray, List.append_toArray, List.nil_append, List.cons_append]
  have hM0 := (Mem.start w).alloc #[.slice ao g.objs.length co, .slice ar g.roots.length cr] 25
  gi_wp2_with (gi_at_make; refine Mem.in_makeI elemInts rfl _ _ rfl hM0 _ _ g.objs.length rfl rfl (by go_num) (by go_num) (by omega) ?_; intro w1 hM1 hb1
               have p1 : w1.cell? ⟨w.heap.size, 1, none⟩ = some (.slice ar g.roots.length cr) := by have := hM1.cell 1 rfl 1; simpa using this
               have z1 : w.heap.size < w1.heap.size := (hM1.box 1 rfl).2.1)
  have hM1b : Mem w.heap.size w w1 [rowI 3 (.slice (some ⟨w.heap.size + 1, 0, none⟩) g.objs.length g.objs.length) (List.replicate g.objs.length 0), ebox w.heap.size #[.slice ao g.objs.length co, .slice ar g.roots.length cr] 25] := by
    simpa using hM1
  clear hM1 hb1
  have hg1 : w.heap.size + 1 < w1.heap.size := (hM1b.lt (List.mem_cons_self ..) _ rfl).2
  have hM2 := hM1b.alloc #[.slice (some ⟨w.heap.size + 1, 0, none⟩) g.objs.length g.objs.length] 27
  obtain ⟨lv, hlv⟩ : ∃ lv : Value, lv = .slice (some ⟨w.heap.size + 1, 0, none⟩) g.objs.length g.objs.length := ⟨_, rfl⟩
  refine ⟨trivial, (targets_opaque _ _ _ _ _).mono ?_⟩
  rintro e w3 ⟨Bs, rfl, hb3, hBs, hcs⟩
  have hM5 := hM2.call hb3
  rw [← hlv] at hM5
  clear hM2 hM1b hM0 p1
  gi_wp2
  refine range_slot (by omega) (gf := 56) (lb := #[.pointer (some ⟨Bs, 0, none⟩)]) rfl (enters_of Try.func56 (by kernel_rfl) rfl)
    (targets_stops _ (by omega) Bs g.roots _ w Hr.out w3 hM5.below hBs hcs) hM5.base
    (fun pre W => Mem w.heap.size w W [ebox w1.heap.size #[lv] 27, rowI 3 lv (incs (List.replicate g.objs.length 0) (pre.map (·.1))), ebox w.heap.size #[.slice ao g.objs.length co, .slice ar g.roots.length cr] 25] )
    (fun _ _ _ => False) (ownFrom_mem _ hM5.base (by intro _; repeat (first | exact calm_nil _ | refine calm_cons ?_ ?_ | exact ebox_calm _ _ _ _ | exact rowV_calm _ _ _ _ | exact rowI_calm _ _ _ _ | exact erow_calm _ _ _ _ _ _ | exact edef_calm (by first | exact Nat.le_refl _ | (simp; done) | (simp; omega) | (simp at *; omega)) | exact low_calm (by first | exact Nat.le_refl _ | (simp; done) | (simp; omega) | (simp at *; omega))))) (fun _ => ownFrom_false _) hM5 6 (fun x => .int .i64 x.1) ?assign ?body ?done ?stop
  case assign =>
    intro l x W K hK
    simp only [laid]
    gi_wp2
    exact hK
  case body =>
    rintro l pre ⟨x, hx⟩ W hsz hM hlen
    obtain ⟨pr, hpr⟩ : ∃ pr : List Int, pre.map (·.1) = pr := ⟨_, rfl⟩
    have hprl : pr.length = pre.length := by rw [← hpr, List.length_map]
    have hprm : ∀ t ∈ pr, 0 ≤ t ∧ t < ((List.replicate g.objs.length (0 : Int)).length : Int) := by
      intro t ht
      rw [← hpr] at ht
      obtain ⟨z, _, rfl⟩ := List.mem_map.1 ht
      have := hG.target (roots_all g) z.2
      simpa using this
    have hx2 := hG.target (roots_all g) hx
    obtain ⟨i, rfl⟩ : ∃ i : Nat, x = (i : Int) := ⟨x.toNat, by omega⟩
    have hr8 := hG.roots
    have hbd := incs_bound (m := 0) (fun j => by rw [replicate_getD]; split <;> omega) hprm i
    have hil : i < (incs (List.replicate g.objs.length 0) pr).length := by rw [incs_len, List.length_replicate]; omega
    have hi : i < g.objs.length := by omega
    obtain ⟨y, hy⟩ : ∃ y, (incs (List.replicate g.objs.length 0) pr).getD i 0 = y := ⟨_, rfl⟩
    have hgy := getD_rep hil
    have hset : inc1 (incs (List.replicate g.objs.length 0) pr) i = (incs (List.replicate g.objs.length 0) pr).set i (y + 1) := by unfold inc1; rw [Int.toNat_natCast, hy]
    rw [hy] at hbd hgy
    rw [hpr, hlv] at hM
    obtain ⟨q1, q2⟩ := hM.intAt 1 rfl hgy
    have q0 : W.cell? ⟨w1.heap.size, 0, none⟩ = some (.slice (some ⟨w.heap.size + 1, 0, none⟩) g.objs.length g.objs.length) := by have := hM.cell 0 rfl 0; simpa using this
    have hM3 := hM.setI 1 rfl (by rw [incs_len, List.length_replicate]) i (y + 1)
    rw [← hset, ← incs_snoc] at hM3
    have hy0 : 0 ≤ y := by omega
    have hy1 : y ≤ 1000 := by omega
    have HM3 := Lib.hid hM3
    have Hpr := Lib.hid hpr
    have hB := hM.below
    have hB3 := hM3.below
    clear hM hM3 hset hgy hy hil hbd hprm hpr hprl hx2
    simp only [laid]
    gi_wp2
    exact ⟨(KeepsOthers.setCell _ _ _).from _, below_between hB hB3 (by simp), by show Mem _ _ _ _; rw [List.map_append, Hpr.out, hlv]; exact HM3.out⟩
  case stop => rintro D c pre W hD hpre hf hK; exact hf.elim
  case done =>
    rintro D1 xs W hD1 hxs hM hK1
    rw [hxs] at hM
    have hM7 := hM.addDef' (D := D1) (by have := hM5.base; omega) hK1 (by repeat (first | exact calm_nil _ | refine calm_cons ?_ ?_ | exact ebox_calm _ _ _ _ | exact rowV_calm _ _ _ _ | exact rowI_calm _ _ _ _ | exact erow_calm _ _ _ _ _ _ | exact edef_calm (by first | exact Nat.le_refl _ | (simp; done) | (simp; omega) | (simp at *; omega)) | exact low_calm (by first | exact Nat.le_refl _ | (simp; done) | (simp; omega) | (simp at *; omega))))
    have hsz : w1.heap.size < W.heap.size := (hM.box 0 rfl).2.1
    have q0 : W.cell? ⟨w.heap.size, 0, none⟩ = some (.slice ao g.objs.length co) := by have := hM.cell 2 rfl 0; simpa using this
    have hM8 : Mem w.heap.size w W ([ebox w1.heap.size #[lv] 27, rowI 3 lv (cntAt g c 0), ebox w.heap.size #[.slice ao g.objs.length co, .slice ar g.roots.length cr] 25] ++ [D1].map edef) :=
      hM7.pick0 [1, 2, 3, 0] (by decide) rfl
    clear hM7 hM hM5 hK1 hxs
    gi_wp2
    refine loop_marks [7, 8, 9, 27, 28, 29, 30, 31, 32, 33, 34, 35, 36, 37, 38, 39, 40, 41, 42, 43, 44, 45, 46, 47] (fun m u Ds W => ∃ k : Nat, m = g.objs.length - k ∧ k ≤ g.objs.length ∧ u 27 = .int .i64 k ∧
      Mem w.heap.size w W ([ebox w1.heap.size #[lv] 27, rowI 3 lv (cntAt g c k), ebox w.heap.size #[.slice ao g.objs.length co, .slice ar g.roots.length cr] 25] ++ Ds.map edef))
      (Ds0 := [D1]) rfl (g.objs.length) ⟨0, rfl, Nat.zero_le _, rfl, hM8⟩ ?_
    rintro m u Ds W2 ⟨k, rfl, hk, hu, hM⟩
    simp only [setAll, List.foldl_cons, List.foldl_nil, List.setIfInBounds_toArray, List.set_cons_succ, List.set_cons_zero, hu]
    by_cases hlt : k < g.objs.length
    · obtain ⟨ob, hob⟩ := get_some _ _ hlt
      obtain ⟨b, off, cap2, uo, hv, hb, hn2, c1, huo⟩ := Ho.out.at hM.below hob
      cases hv
      obtain ⟨au, cu, rfl, hlu⟩ := huo.slice
      obtain ⟨y, hy⟩ := get_some c k (by have := Hlc.out; omega)
      have hkc := (List.getElem?_eq_some_iff.1 hy).1
      obtain ⟨bc, oc, cap3, hv, hbc, hnc, c2, _⟩ := Hc.out.at hM.below hy
      cases hv
      have hfa : fieldsAt g k = ob := by unfold fieldsAt; rw [Int.toNat_natCast, List.getD_eq_getElem?_getD, hob]; rfl
      have hgy : c.getD k 0 = y := by rw [List.getD_eq_getElem?_getD, hy]; rfl
      by_cases hpos : 0 < y
      · have hsucc : cntAt g c (k + 1) = incs (cntAt g c k) (targets ob) := by
          show (if 0 < c.getD k 0 then incs (cntAt g c k) (targets (fieldsAt g k)) else cntAt g c k) = _
          rw [hgy, if_pos hpos, hfa]
        have Huo := Lib.hid huo
        have HM := Lib.hid (hM.alloc_ (.cells #[.slice au ob.length cu] 50))
        have Hsucc := Lib.hid hsucc
        have Hfa := Lib.hid hfa
        clear huo hM hsucc hfa hob hy hgy
        gi_wp2_with fail
        refine ⟨trivial, (targets_opaque _ _ _ _ _).mono ?_⟩
        rintro e w4 ⟨Bs2, rfl, hb4, hBs2, hcs2⟩
        have hM9 := HM.out.call hb4
        have hDs : ∀ D ∈ Ds, D < w4.heap.size := hM9.defs_lt (fun D hD => List.mem_append_right _ (List.mem_map.2 ⟨D, hD, rfl⟩))
        have hbase := hM9.base
        gi_wp2
        refine range_slot (by omega) (gf := 56) (lb := #[.pointer (some ⟨Bs2, 0, none⟩)]) rfl (enters_of Try.func56 (by kernel_rfl) rfl)
          (targets_stops _ (by omega) Bs2 ob _ w Huo.out w4 hM9.below hBs2 hcs2) hbase
          (fun pre W => Mem w.heap.size w W ([ebox w1.heap.size #[lv] 27, rowI 3 lv (incs (cntAt g c k) (pre.map (·.1))), ebox w.heap.size #[.slice (some ⟨b, off, none⟩) g.objs.length co, .slice ar g.roots.length cr] 25] ++ Ds.map edef))
          (fun _ _ _ => False) (ownFrom_mem _ hbase (fun _ => calm_append (by repeat (first | exact calm_nil _ | refine calm_cons ?_ ?_ | exact ebox_calm _ _ _ _ | exact rowV_calm _ _ _ _ | exact rowI_calm _ _ _ _ | exact erow_calm _ _ _ _ _ _ | exact edef_calm (by first | exact Nat.le_refl _ | (simp; done) | (simp; omega) | (simp at *; omega)) | exact low_calm (by first | exact Nat.le_refl _ | (simp; done) | (simp; omega) | (simp at *; omega)))) (calm_defs _ hDs))) (fun _ => ownFrom_false _) hM9 9 (fun x => .int .i64 x.1) ?assign2 ?body2 ?done2 ?stop2
        case assign2 =>
          intro l x W K hK
          simp only [laid]
          gi_wp2
          exact hK
        case body2 =>
          rintro l pre ⟨x, hx⟩ W hsz hM hlen
          obtain ⟨pr, hpr⟩ : ∃ pr : List Int, pre.map (·.1) = pr := ⟨_, rfl⟩
          have hprl : pr.length = pre.length := by rw [← hpr, List.length_map]
          have hob2 : ∀ y ∈ targets ob, 0 ≤ y ∧ y < (g.objs.length : Int) := fun y hy => hG.target (l := ob) (fun z hz => by rw [← Hfa.out] at hz; exact fields_all g k z hz) hy
          have hprm : ∀ t ∈ pr, 0 ≤ t ∧ t < ((cntAt g c k).length : Int) := by
            intro t ht
            rw [← hpr] at ht
            obtain ⟨z, _, rfl⟩ := List.mem_map.1 ht
            rw [cntAt_len]
            exact hob2 _ z.2
          have hx2 := hob2 _ hx
          obtain ⟨i, rfl⟩ : ∃ i : Nat, x = (i : Int) := ⟨x.toNat, by omega⟩
          have hr4 := fieldsAt_len hG k
          rw [Hfa.out] at hr4
          have hbd := incs_bound (m := 104) (fun j => by have := cntAt_bound hG c k j; omega) hprm i
          have hil : i < (incs (cntAt g c k) pr).length := by rw [incs_len, cntAt_len]; omega
          have hi : i < g.objs.length := by omega
          obtain ⟨y, hy⟩ : ∃ y, (incs (cntAt g c k) pr).getD i 0 = y := ⟨_, rfl⟩
          have hgy := getD_rep hil
          have hset : inc1 (incs (cntAt g c k) pr) i = (incs (cntAt g c k) pr).set i (y + 1) := by unfold inc1; rw [Int.toNat_natCast, hy]
          rw [hy] at hbd hgy
          rw [hpr, hlv] at hM
          obtain ⟨q1, q2⟩ := hM.intAt 1 rfl hgy
          have q0 : W.cell? ⟨w1.heap.size, 0, none⟩ = some (.slice (some ⟨w.heap.size + 1, 0, none⟩) g.objs.length g.objs.length) := by have := hM.cell 0 rfl 0; simpa using this
          have hM3 := hM.setI 1 rfl (by rw [incs_len, cntAt_len]) i (y + 1)
          rw [← hset, ← incs_snoc] at hM3
          have hy0 : 0 ≤ y := by omega
          have hy1 : y ≤ 1000 := by omega
          have HM3 := Lib.hid hM3
          have Hpr := Lib.hid hpr
          have hB := hM.below
          have hB3 := hM3.below
          clear hM hM3 hset hgy hy hil hbd hprm hpr hprl hx2 hM9 hob2 hr4
          simp only [laid]
          gi_wp2
          exact ⟨(KeepsOthers.setCell _ _ _).from _, below_between hB hB3 (by simp), by show Mem _ _ _ _; rw [List.map_append, Hpr.out, hlv]; exact HM3.out⟩
        case stop2 => rintro D c pre W hD hpre hf hK; exact hf.elim
        case done2 =>
          rintro D2 xs W hD2 hxs hM hK2
          have hM10 := hM.addDef' (D := D2) (by omega) hK2 (calm_append (by repeat (first | exact calm_nil _ | refine calm_cons ?_ ?_ | exact ebox_calm _ _ _ _ | exact rowV_calm _ _ _ _ | exact rowI_calm _ _ _ _ | exact erow_calm _ _ _ _ _ _ | exact edef_calm (by first | exact Nat.le_refl _ | (simp; done) | (simp; omega) | (simp at *; omega)) | exact low_calm (by first | exact Nat.le_refl _ | (simp; done) | (simp; omega) | (simp at *; omega)))) (calm_defs _ (fun D hD => by have := hDs D hD; omega)))
          rw [hxs, ← Hsucc.out] at hM10
          have HM10 := Lib.hid hM10
          clear hM hM10 hxs hM9
          gi_wp2
          exact ⟨g.objs.length - (k + 1), D2 :: Ds, by omega, rfl, rfl, k + 1, rfl, by omega, rfl,
            Mem.pick (A := [_, _, _, _]) (T := Ds.map edef) (A' := [_, _, _, edef D2]) HM10.out [1, 2, 3, 0] (by decide) rfl⟩
      · have hsucc : cntAt g c (k + 1) = cntAt g c k := by
          show (if 0 < c.getD k 0 then incs (cntAt g c k) (targets (fieldsAt g k)) else cntAt g c k) = _
          rw [hgy, if_neg hpos]
        have HM := Lib.hid (hM.alloc_ (.cells #[.slice au ob.length cu] 50))
        have Hsucc := Lib.hid hsucc
        clear huo hM hsucc hfa hob hy hgy
        gi_wp2
        exact ⟨g.objs.length - (k + 1), by omega, Ds, rfl, k + 1, rfl, by omega, rfl, by rw [Hsucc.out, ← hlv]; exact HM.out⟩
    · obtain rfl : k = g.objs.length := by omega
      have q1 : W2.cell? ⟨w1.heap.size, 0, none⟩ = some lv := by have := hM.cell 0 rfl 0; simpa using this
      have HM := Lib.hid hM
      clear hM
      gi_wp2
      refine leaves_marks (v := lv) Ds _ (HM.out.perm List.perm_append_comm) ?_
      intro W' hM3
      refine ⟨by simp [results, Try.results59, go_sem, hlv], lv, rfl, ?_⟩
      exact hM3.pick0 [1] (by decide) rfl

theorem counted_any (g : G) (hG : Good g) (v vc : Value) (c : List Int) (w : World) (hg : IsGraph w v g) (hc : IsInts w vc c) (hlc : c.length = g.objs.length) :
    Calls Try.prog 59 #[v, vc] w fun e w' => ∃ vl, e = .returned vl ∧ Mem w.heap.size w w' [rowI 3 vl (counted g c)] := by
  obtain ⟨vo, vr, rfl, ho, hr⟩ := hg
  exact callsIn_wide.1 (counted_main g hG vo vr vc c w ho hr hc hlc)
end Go.Proofs.Ytnpbdabboecpaaa
