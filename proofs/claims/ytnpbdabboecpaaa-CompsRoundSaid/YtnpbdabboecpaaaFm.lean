/- graph.Found, walked. -/
import Derived.Test.YtnpbdabboecpaaaF1
import Derived.Laws.EntriesVeiled
namespace Go.Proofs.Ytnpbdabboecpaaa
open Go.RowKit Go.Shelf

attribute [local go_sem] Oper.semAt_some

set_option maxRecDepth 100000 in
set_option maxHeartbeats 4000000 in
theorem found_main (g : G) (hG : Good g) (vo vr : Value) (w : World) (ho : IsObjs w vo g.objs) (hr : IsVals w vr g.roots) :
    CallsIn Fence.wide 10 Try.prog 33 #[.agg #[vo, vr]] w fun e w' => ∃ vl vd l dist, e = .returned (.tuple #[vl, vd]) ∧ FoundS g l dist ∧ Mem w.heap.size w w' [rowI 3 vl l, rowI 3 vd dist] := by
  obtain ⟨ao, co, rfl, hlo⟩ := ho.slice
  obtain ⟨ar, cr, rfl, hlr⟩ := hr.slice
  have Ho := Lib.hid ho
  have Hr := Lib.hid hr
  have hn := hG.objs
  clear ho hr
  refine callsIn_of_wp_marks Try.func33 rfl trivial ?_ rfl
  simp only [Try.ntmps33, List.size_toArray, List.length_cons, List.length_nil, Nat.reduceAdd, Nat.reduceSub, Array.replicate_succ, Array.replicate_zero, List.push_toArray, List.append_toArray, List.nil_append, List.cons_append]
  have hM0 := (Mem.start w).alloc #[.slice ao g.objs.length co, .slice ar g.roots.length cr] 25
  gi_wp2_with (gi_at_make; refine Mem.in_makeI elemInts rfl _ _ rfl hM0 _ _ g.objs.length rfl rfl (by go_num) (by go_num) (by omega) ?_; intro w1 hM1 hb1)
  have hM1b : Mem w.heap.size w w1 [rowI 3 (.slice (some ⟨w.heap.size + 1, 0, none⟩) g.objs.length g.objs.length) (List.replicate g.objs.length 0), ebox w.heap.size #[.slice ao g.objs.length co, .slice ar g.roots.length cr] 25] := by
    simpa using hM1
  clear hM1 hb1
  have hg1 : w.heap.size + 1 < w1.heap.size := (hM1b.lt (List.mem_cons_self ..) _ rfl).2
  have hM2 := hM1b.alloc #[.slice (some ⟨w.heap.size + 1, 0, none⟩) g.objs.length g.objs.length] 27
  gi_wp2
  gi_loopw [17] (fun i wr => ∃ k : Nat, k ≤ g.objs.length ∧ i = .int .i64 k ∧ Mem w.heap.size w wr [ebox w1.heap.size #[.slice (some ⟨w.heap.size + 1, 0, none⟩) g.objs.length g.objs.length] 27,
    rowI 3 (.slice (some ⟨w.heap.size + 1, 0, none⟩) g.objs.length g.objs.length) (List.replicate k (-1) ++ List.replicate (g.objs.length - k) 0), ebox w.heap.size #[.slice ao g.objs.length co, .slice ar g.roots.length cr] 25])
    (fun i _ => g.objs.length - (intOf i).toNat)
  case atStart => exact ⟨0, Nat.zero_le _, rfl, hM2⟩
  case round =>
    obtain ⟨k, hk, rfl, hM⟩ := hrel
    have p0 : wr.cell? ⟨w1.heap.size, 0, none⟩ = some (.slice (some ⟨w.heap.size + 1, 0, none⟩) g.objs.length g.objs.length) := by have := hM.cell 0 rfl 0; simpa using this
    by_cases hlt : k < g.objs.length
    · obtain ⟨q1, q2⟩ := hM.intAt 1 rfl (init_get _ _ hlt)
      have hM3 := hM.setI 1 rfl (by simp; omega) k (-1)
      rw [init_step _ _ hlt] at hM3
      have HM3 := Lib.hid hM3
      clear hM3
      gi_wp2
      go_roundw
      case rel => exact ⟨k + 1, by omega, by go_num, HM3.out⟩
      case measure => simp [intOf]; omega
    · obtain rfl : k = g.objs.length := by omega
      have HM := Lib.hid (hM.cast (L' := [ebox w1.heap.size #[.slice (some ⟨w.heap.size + 1, 0, none⟩) g.objs.length g.objs.length] 27,
        rowI 3 (.slice (some ⟨w.heap.size + 1, 0, none⟩) g.objs.length g.objs.length) (List.replicate g.objs.length (-1)), ebox w.heap.size #[.slice ao g.objs.length co, .slice ar g.roots.length cr] 25]) (by simp))
      have hsz : w1.heap.size < wr.heap.size := (hM.box 0 rfl).2.1
      have hsz0 : w.heap.size < wr.heap.size := by omega
      have p1 : wr.cell? ⟨w.heap.size, 0, none⟩ = some (.slice ao g.objs.length co) := by have := hM.cell 2 rfl 0; simpa using this
      have p2 : wr.cell? ⟨w.heap.size, 1, none⟩ = some (.slice ar g.roots.length cr) := by have := hM.cell 2 rfl 1; simpa using this
      clear hM
      gi_wp2_with fail
      obtain ⟨dv, hdv⟩ : ∃ dv : Value, dv = .slice (some ⟨w.heap.size + 1, 0, none⟩) g.objs.length g.objs.length := ⟨_, rfl⟩
      obtain ⟨fv, hfv⟩ : ∃ fv : Value, fv = .func (.func 52) #[] #[.pointer (some ⟨w1.heap.size, 0, none⟩), .pointer (some ⟨wr.heap.size, 0, none⟩)] := ⟨_, rfl⟩
      have hM4 := (((HM.out.nilI 3).alloc #[.slice none 0 0] 27).allocAt (wr.heap.size + 1) (by simp) #[fv] 84)
      rw [hfv] at hM4
      refine ⟨trivial, (targets_opaque _ _ _ _ _).mono ?_⟩
      rintro e w3 ⟨Bs, rfl, hb3, hBs, hcs⟩
      have hM5 := hM4.call hb3
      rw [← hfv, ← hdv] at hM5
      have hM6 : Mem w.heap.size w w3 (fl w1.heap.size wr.heap.size dv (.slice none 0 0) (found0 g.objs.length []) [ebox (wr.heap.size + 1) #[fv] 84, ebox w.heap.size #[.slice ao g.objs.length co, .slice ar g.roots.length cr] 25]) :=
        hM5.pick0 [3, 1, 4, 2, 0, 5] (by decide) rfl
      have hsz3 : wr.heap.size + 1 < w3.heap.size := (hM6.box 4 rfl).2.1
      clear hM5 hM4 hM0 hM2 hM1b
      gi_wp2
      refine range_slot (by omega) (gf := 56) (lb := #[.pointer (some ⟨Bs, 0, none⟩)]) rfl (enters_of Try.func56 (by kernel_rfl) rfl)
        (targets_stops _ (by omega) Bs g.roots _ w Hr.out w3 hM6.below hBs hcs) hM6.base
        (fun pre W => ∃ vl, Mem w.heap.size w W (fl w1.heap.size wr.heap.size dv vl (found0 g.objs.length (pre.map (·.1))) [ebox (wr.heap.size + 1) #[fv] 84, ebox w.heap.size #[.slice ao g.objs.length co, .slice ar g.roots.length cr] 25]))
        (fun _ _ _ => False) (ownFrom_ex fun vl => ownFrom_mem _ hM6.base (by intro _; repeat (first | exact calm_nil _ | refine calm_cons ?_ ?_ | exact ebox_calm _ _ _ _ | exact rowV_calm _ _ _ _ | exact rowI_calm _ _ _ _ | exact erow_calm _ _ _ _ _ _ | exact edef_calm (by first | exact Nat.le_refl _ | (simp; done) | (simp; omega) | (simp at *; omega)) | exact low_calm (by first | exact Nat.le_refl _ | (simp; done) | (simp; omega) | (simp at *; omega))))) (fun _ => ownFrom_false _) ⟨_, hM6⟩ 8 (fun x => .int .i64 x.1) ?assign ?body ?done ?stop
      case assign =>
        intro l x W K hK
        simp only [laid]
        gi_wp2
        exact hK
      case body =>
        rintro l pre ⟨x, hx⟩ W hsz ⟨vl, hM⟩ hlen
        have hmem := fun y hy => hG.target (roots_all g) (i := y) hy
        have hinv : SInv g.objs.length (found0 g.objs.length (pre.map (·.1))) := found0_inv _ _ (by
          intro y hy; obtain ⟨z, _, rfl⟩ := List.mem_map.1 hy; exact hmem _ z.2)
        have pf : W.cell? ⟨wr.heap.size + 1, 0, none⟩ = some (.func (.func 52) #[] #[.pointer (some ⟨w1.heap.size, 0, none⟩), .pointer (some ⟨wr.heap.size, 0, none⟩)]) := by
          have := hM.cell 4 rfl 0; rw [hfv] at this; simpa using this
        simp only [laid]
        gi_wp2_with fail
        refine ⟨trivial, (callsIn_round (take_any w.heap.size w W g.objs.length _ x 0 hinv (hmem x hx) hn _ _ _ _ _ hM)).mono ?_⟩
        rintro e w4 ⟨rfl, vl', hM7, hk7⟩
        have hM8 := hM7
        rw [← found0_snoc] at hM8
        gi_wp2
        exact ⟨hk7.from _, below_between hM.below hM7.below hk7.size, vl', by rw [List.map_append]; exact hM8⟩
      case stop => rintro D c pre W hD hpre hf hK; exact hf.elim
      case done =>
        rintro D1 xs W hD1 hxs ⟨vl, hM⟩ hK1
        rw [hxs] at hM
        have hM7 := hM.addDef' (D := D1) (by have := hM6.base; omega) hK1 (by repeat (first | exact calm_nil _ | refine calm_cons ?_ ?_ | exact ebox_calm _ _ _ _ | exact rowV_calm _ _ _ _ | exact rowI_calm _ _ _ _ | exact erow_calm _ _ _ _ _ _ | exact edef_calm (by first | exact Nat.le_refl _ | (simp; done) | (simp; omega) | (simp at *; omega)) | exact low_calm (by first | exact Nat.le_refl _ | (simp; done) | (simp; omega) | (simp at *; omega))))
        gi_wp2
        have hbd : ∀ W', Below w.heap.size w W' → True := fun _ _ => trivial
        have hM8 : Mem w.heap.size w (W.alloc (.cells #[.int .i64 0] 3)) (fl w1.heap.size wr.heap.size dv vl (foundAt g 0) [ebox W.heap.size #[.int .i64 0] 3, ebox (wr.heap.size + 1) #[fv] 84, ebox w.heap.size #[.slice ao g.objs.length co, .slice ar g.roots.length cr] 25] ++ [D1].map edef) :=
          (hM7.alloc #[.int .i64 0] 3).pick0 [2, 3, 4, 5, 0, 6, 7, 1] (by decide) rfl
        clear hM7 hM hM6 hK1 hxs hD1
        refine loop_marks [9, 32, 33, 34, 35, 36, 37, 38, 39, 40, 41, 42, 43, 44, 45, 46, 47, 60] (fun m u Ds W => ∃ (k Bk : Nat) (vl : Value), m = g.objs.length - k ∧ k ≤ (foundAt g k).1.length ∧ (∀ j, j < k → j < (foundAt g j).1.length) ∧ u 9 = .pointer (some ⟨Bk, 0, none⟩) ∧
          Mem w.heap.size w W (fl w1.heap.size wr.heap.size dv vl (foundAt g k) [ebox Bk #[.int .i64 k] 3, ebox (wr.heap.size + 1) #[fv] 84, ebox w.heap.size #[.slice ao g.objs.length co, .slice ar g.roots.length cr] 25] ++ Ds.map edef))
          (Ds0 := [D1]) rfl (g.objs.length) ⟨0, _, vl, rfl, Nat.zero_le _, fun _ h => absurd h (Nat.not_lt_zero _), rfl, hM8⟩ ?_
        rintro m u Ds W2 ⟨k, Bk, vl2, rfl, hk, hprev, hu, hM⟩
        have hinv := foundAt_inv hG k hprev
        simp only [setAll, List.foldl_cons, List.foldl_nil, List.setIfInBounds_toArray, List.set_cons_succ, List.set_cons_zero, hu]
        have pk : W2.cell? ⟨Bk, 0, none⟩ = some (.int .i64 k) := by have := hM.cell 4 rfl 0; simpa using this
        have pl : W2.cell? ⟨wr.heap.size, 0, none⟩ = some vl2 := by have := hM.cell 1 rfl 0; simpa using this
        have pd : W2.cell? ⟨w1.heap.size, 0, none⟩ = some dv := by have := hM.cell 0 rfl 0; simpa using this
        have pg : W2.cell? ⟨w.heap.size, 0, none⟩ = some (.slice ao g.objs.length co) := by have := hM.cell 6 rfl 0; simpa using this
        by_cases hlt : k < (foundAt g k).1.length
        · obtain ⟨x, hx⟩ := get_some _ _ hlt
          obtain ⟨gl, cl, rfl, hgl, hgl2, hcl, hfl⟩ := hM.intsAt 3 rfl (by rintro e; rw [e] at hx; simp at hx)
          have pe := hcl k x hx
          have hxr := hinv.rng x (List.mem_of_getElem? hx)
          obtain ⟨i, rfl⟩ : ∃ i : Nat, x = (i : Int) := ⟨x.toNat, by omega⟩
          have hi : i < g.objs.length := by omega
          obtain ⟨ob, hob⟩ := get_some _ _ hi
          obtain ⟨b, off, cap2, uo, hv, hb, hn2, c1, huo⟩ := Ho.out.at hM.below hob
          cases hv
          obtain ⟨au, cu, rfl, hlu⟩ := huo.slice
          have Hx := Lib.hid hx
          have Hob := Lib.hid hob
          have Huo := Lib.hid huo
          have Hinv := Lib.hid hinv
          have Hprev := Lib.hid hprev
          have HM := Lib.hid hM
          clear hx hob huo hinv hprev hcl hfl hM
          gi_wp2
          refine wpIn_wide.2 ?_
          go_still_tail 9, (by kernel_rfl)
          go_wp2_with fail
          refine (callsIn_wide.1 (targets_opaque 9 _ _ _ _)).mono ?_
          rintro e w4 ⟨Bs2, rfl, hb4, hBs2, hcs2⟩
          go_wp2
          gi_wp2
          have hM9 := (HM.out.drew).call hb4
          have hDs : ∀ D ∈ Ds, D < w4.heap.size := hM9.defs_lt (fun D hD => List.mem_append_right _ (List.mem_map.2 ⟨D, hD, rfl⟩))
          have hbig : wr.heap.size + 1 < w4.heap.size := (hM9.box 5 rfl).2.1
          have hbk : Bk < w4.heap.size := (hM9.box 4 rfl).2.1
          have hV0 : VInv g.objs.length k i (foundAt g k) := ⟨Hinv.out, Hx.out⟩
          have HV0 := Lib.hid hV0
          have hob2 : ∀ y ∈ targets ob, 0 ≤ y ∧ y < (g.objs.length : Int) := fun y hy => hG.target (l := ob) (fun z hz => List.mem_append_right _ (List.mem_flatten.2 ⟨ob, List.mem_of_getElem? Hob.out, hz⟩)) hy
          have Hob2 := Lib.hid hob2
          have hbase := hM9.base
          clear hV0 hob2
          refine range_slot (by omega) (gf := 56) (lb := #[.pointer (some ⟨Bs2, 0, none⟩)]) rfl (enters_of Try.func56 (by kernel_rfl) rfl)
            (targets_stops _ (by omega) Bs2 ob _ w Huo.out w4 hM9.below hBs2 hcs2) hbase
            (fun pre W => ∃ vl, Mem w.heap.size w W (fl w1.heap.size wr.heap.size dv vl (visitTo (foundAt g k) k (pre.map (·.1))) [ebox Bk #[.int .i64 k] 3, ebox (wr.heap.size + 1) #[fv] 84, ebox w.heap.size #[.slice (some ⟨b, off, none⟩) g.objs.length co, .slice ar g.roots.length cr] 25] ++ Ds.map edef))
            (fun _ _ _ => False) (ownFrom_ex fun vl => ownFrom_mem _ hbase (fun _ => calm_append (by repeat (first | exact calm_nil _ | refine calm_cons ?_ ?_ | exact ebox_calm _ _ _ _ | exact rowV_calm _ _ _ _ | exact rowI_calm _ _ _ _ | exact erow_calm _ _ _ _ _ _ | exact edef_calm (by first | exact Nat.le_refl _ | (simp; done) | (simp; omega) | (simp at *; omega)) | exact low_calm (by first | exact Nat.le_refl _ | (simp; done) | (simp; omega) | (simp at *; omega)))) (calm_defs _ hDs))) (fun _ => ownFrom_false _) ⟨_, hM9⟩ 10 (fun x => .int .i64 x.1) ?assign2 ?body2 ?done2 ?stop2
          case assign2 =>
            intro l x W K hK
            simp only [laid]
            gi_wp2
            exact hK
          case body2 =>
            rintro l pre ⟨x, hx⟩ W hsz ⟨vl, hM⟩ hlen
            obtain ⟨pr, hpr⟩ : ∃ pr : List Int, pre.map (·.1) = pr := ⟨_, rfl⟩
            have hprm : ∀ y ∈ pr, 0 ≤ y ∧ y < (g.objs.length : Int) := by intro y hy; rw [← hpr] at hy; obtain ⟨z, _, rfl⟩ := List.mem_map.1 hy; exact Hob2.out _ z.2
            rw [hpr] at hM
            have hV := visitTo_inv pr _ HV0.out hprm
            have hinv := hV.inv
            obtain ⟨hd0, hd1, hd2⟩ := hV.dist
            obtain ⟨dd, hdd⟩ := get_some _ _ (show i < (visitTo (foundAt g k) k pr).2.length by rw [hinv.len]; exact hi)
            have hde : distAt (visitTo (foundAt g k) k pr) k = dd := by rw [hd2, Int.toNat_natCast, List.getD_eq_getElem?_getD, hdd]; rfl
            rw [hde] at hd0 hd1
            have hkn : k ≤ 24 := by have := Hinv.out.length_le; omega
            obtain ⟨gl2, cl2, rfl, hgl3, hgl4, hcl2, _⟩ := hM.intsAt 3 rfl (by rintro e; have := hV.at_; rw [e] at this; simp at this)
            have c2 := hcl2 k _ hV.at_
            have hklt : k < (visitTo (foundAt g k) k pr).1.length := (List.getElem?_eq_some_iff.1 hV.at_).1
            rw [hdv] at hM
            obtain ⟨c3, _⟩ := hM.intAt 2 rfl hdd
            have pf : W.cell? ⟨wr.heap.size + 1, 0, none⟩ = some (.func (.func 52) #[] #[.pointer (some ⟨w1.heap.size, 0, none⟩), .pointer (some ⟨wr.heap.size, 0, none⟩)]) := by
              have := hM.cell 5 rfl 0; rw [hfv] at this; simpa using this
            have r0 : W.cell? ⟨w1.heap.size, 0, none⟩ = some (.slice (some ⟨w.heap.size + 1, 0, none⟩) g.objs.length g.objs.length) := by have := hM.cell 0 rfl 0; simpa using this
            have r1 : W.cell? ⟨wr.heap.size, 0, none⟩ = some (.slice (some ⟨gl2, 0, none⟩) (visitTo (foundAt g k) k pr).1.length cl2) := by have := hM.cell 1 rfl 0; simpa using this
            have r2 : W.cell? ⟨Bk, 0, none⟩ = some (.int .i64 k) := by have := hM.cell 4 rfl 0; simpa using this
            have HM2 := Lib.hid hM
            have Hinv2 := Lib.hid hinv
            have Hde := Lib.hid hde
            have Hpr := Lib.hid hpr
            clear hM hV hinv hd2 hdd hde hcl2 hprm hpr
            simp only [laid]
            gi_wp2
            refine region_round_tail 10 (by kernel_rfl) (by kernel_rfl) (by kernel_rfl) (by rintro ⟨a, w, h⟩; exact h) ?_
            simp only [List.take_succ_cons, List.take_zero, List.drop_succ_cons, List.drop_zero]
            repeat still_step
            try refine wpStill_nil ?_
            go_wp2_with fail
            refine (take_any w.heap.size w _ g.objs.length _ x (dd + 1) Hinv2.out (Hob2.out x hx) hn _ _ _ _ _ HM2.out.drew).mono ?_
            rintro e w5 ⟨rfl, vl', hM7, hk7⟩
            have hM8 := hM7
            rw [← Hde.out, ← visitTo_snoc] at hM8
            go_wp2
            refine ⟨((KeepsOthers.drew _).trans hk7).from _, below_between HM2.out.below hM7.below (Nat.le_trans (Nat.le_refl _) hk7.size), vl', ?_⟩
            rw [List.map_append, Hpr.out, hdv]; exact hM8
          case stop2 => rintro D c pre W hD hpre hf hK; exact hf.elim
          case done2 =>
            rintro D2 xs W hD2 hxs ⟨vl, hM⟩ hK2
            have hM10 := hM.addDef' (D := D2) (by omega) hK2 (calm_append (by repeat (first | exact calm_nil _ | refine calm_cons ?_ ?_ | exact ebox_calm _ _ _ _ | exact rowV_calm _ _ _ _ | exact rowI_calm _ _ _ _ | exact erow_calm _ _ _ _ _ _ | exact edef_calm (by first | exact Nat.le_refl _ | (simp; done) | (simp; omega) | (simp at *; omega)) | exact low_calm (by first | exact Nat.le_refl _ | (simp; done) | (simp; omega) | (simp at *; omega)))) (calm_defs _ (fun D hD => by have := hDs D hD; omega)))
            have r2 : W.cell? ⟨Bk, 0, none⟩ = some (.int .i64 k) := by have := hM.cell 4 rfl 0; simpa using this
            have hkn : k + 1 ≤ 24 := by have := Hinv.out.length_le; omega
            have HM10 := Lib.hid hM10
            have Hxs := Lib.hid hxs
            clear hM hM10 hxs
            gi_wp2
            have hkn2 := Hinv.out.length_le
            refine ⟨g.objs.length - (k + 1), D2 :: Ds, by omega, rfl, rfl, k + 1, W.heap.size, vl, rfl, ?_, ?_, rfl, ?_⟩
            · show k + 1 ≤ (visit g (foundAt g k) k).1.length
              rw [← visit_eq Hx.out Hob.out]; have := visitTo_len k (targets ob) (foundAt g k); omega
            · intro j hj
              rcases Nat.lt_or_ge j k with h | h
              · exact Hprev.out j h
              · obtain rfl : j = k := by omega
                exact hlt
            · have hM11 := HM10.out.alloc #[.int .i64 ((k + 1 : Nat) : Int)] 3
              rw [Hxs.out, visit_eq Hx.out Hob.out] at hM11
              exact Mem.pick (A := [_, _, _, _, _, _, _, _, _]) (T := Ds.map edef) (A' := [_, _, _, _, _, _, _, _]) hM11 [2, 3, 4, 5, 0, 7, 8, 1] (by decide) rfl
        · have hke : k = (foundAt g k).1.length := by omega
          have Hke := Lib.hid hke
          obtain ⟨al, cl, hvl⟩ := hM.intsSlice 3 rfl
          subst hvl
          have HM2 := Lib.hid hM
          have Hprev := Lib.hid hprev
          clear hke hM hprev hinv
          gi_wp2
          refine wpIn_wide.2 ?_
          go_quiet (fail)
          go_wp2
          gi_wp2
          refine leaves_marks (v := .tuple #[.slice al (foundAt g k).1.length cl, .slice (some ⟨w.heap.size + 1, 0, none⟩) g.objs.length g.objs.length]) Ds _ ((HM2.out.drewN _).perm List.perm_append_comm) ?_
          intro W' hM3
          refine ⟨by simp [results, Try.results33, go_sem], _, _, _, _, rfl, ⟨k, rfl, Hke.out, Hprev.out⟩, ?_⟩
          rw [hdv] at hM3
          exact hM3.pick0 [3, 2] (by decide) rfl

/-- graph.Found. -/
theorem found_any (g : G) (hG : Good g) (v : Value) (w : World) (hg : IsGraph w v g) :
    Calls Try.prog 33 #[v] w fun e w' => ∃ vl vd l dist, e = .returned (.tuple #[vl, vd]) ∧ FoundS g l dist ∧ Mem w.heap.size w w' [rowI 3 vl l, rowI 3 vd dist] := by
  obtain ⟨vo, vr, rfl, ho, hr⟩ := hg
  exact callsIn_wide.1 (found_main g hG vo vr w ho hr)
end Go.Proofs.Ytnpbdabboecpaaa
