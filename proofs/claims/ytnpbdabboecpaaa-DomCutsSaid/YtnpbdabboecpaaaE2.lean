/- Retained, walked. -/
import Derived.Test.YtnpbdabboecpaaaE1
import Derived.Deep.LoopGhost
namespace Go.Proofs.Ytnpbdabboecpaaa
open Go.RowKit Go.Shelf

open Classical in
/-- What v keeps among the first k. -/
noncomputable def Dom.ret (up : List Int) (v : Int) (k : Nat) : List Int := ((List.range k).map fun i : Nat => (i : Int)).filter fun i => decide (Dom.upAt up i ≠ -2 ∧ Dom.Anc (Dom.upAt up) v i)
theorem Dom.ret_yes {up : List Int} {v : Int} {k : Nat} (h : Dom.upAt up (k : Int) ≠ -2 ∧ Dom.Anc (Dom.upAt up) v (k : Int)) : Dom.ret up v (k + 1) = Dom.ret up v k ++ [(k : Int)] := by
  unfold Dom.ret
  rw [List.range_succ, List.map_append, List.filter_append]
  congr 1
  simp only [List.map_cons, List.map_nil]
  rw [List.filter_cons_of_pos (by simpa using h)]
  rfl
theorem Dom.ret_no {up : List Int} {v : Int} {k : Nat} (h : ¬ (Dom.upAt up (k : Int) ≠ -2 ∧ Dom.Anc (Dom.upAt up) v (k : Int))) : Dom.ret up v (k + 1) = Dom.ret up v k := by
  unfold Dom.ret
  rw [List.range_succ, List.map_append, List.filter_append]
  simp only [List.map_cons, List.map_nil]
  rw [List.filter_cons_of_neg (by simpa using h)]
  simp
theorem Dom.ret_len (up : List Int) (v : Int) (k : Nat) : (Dom.ret up v k).length ≤ k := by
  unfold Dom.ret
  refine Nat.le_trans (List.length_filter_le _ _) ?_
  simp

set_option maxRecDepth 100000 in
set_option maxHeartbeats 2000000 in
theorem retained_yes (g : G) (hG : Good g) (v : Value) (x : Nat) (hx : x < g.objs.length) (w : World) (hg : IsGraph w v g) :
    Calls Try.prog 14 #[v, .int .i64 (x : Int)] w fun e w' => ∃ (vl : Value) (up : List Int), e = .returned (.tuple #[vl, .int .i64 0]) ∧ Dom.GrowS g up ∧ Mem w.heap.size w w' [rowI 3 vl (Dom.ret up (x : Int) g.objs.length)] := by
  have hg0 := hg
  obtain ⟨vo, vr, rfl, ho, hr⟩ := hg
  obtain ⟨ao, co, rfl, hlo⟩ := ho.slice
  obtain ⟨ar, cr, rfl, hlr⟩ := hr.slice
  have Hg := Lib.hid hg0
  have HG := Lib.hid hG
  have hn := hG.objs
  clear ho hr hg0 hG
  have hM0 := (Mem.start w).alloc #[.slice ao g.objs.length co, .slice ar g.roots.length cr] 25
  go_enter Try.func14, Try.ntmps14
  go_wp2_with fail
  refine (gcheck_yes _ g _ (Hg.out.later hM0.below) HG.out).mono ?_
  rintro e w1 ⟨rfl, hb⟩
  have hM1 := hM0.call hb
  have p0 : w1.cell? ⟨w.heap.size, 0, none⟩ = some (.slice ao g.objs.length co) := by have := hM1.cell 0 rfl 0; simpa using this
  have p1 : w1.cell? ⟨w.heap.size, 1, none⟩ = some (.slice ar g.roots.length cr) := by have := hM1.cell 0 rfl 1; simpa using this
  have hx0 : (0 : Int) ≤ (x : Int) := by omega
  have hx1 : (x : Int) < (g.objs.length : Int) := by omega
  go_wp2_with fail
  refine (grow_any g HG.out _ w1 (Hg.out.later hM1.below)).mono ?_
  rintro e w2 ⟨bt, v1, v2, vu, up, rfl, hS, hM2⟩
  have hM3 := (hM1.callMem hM2).nilI 3
  have q0 : w2.cell? ⟨w.heap.size, 0, none⟩ = some (.slice ao g.objs.length co) := by have := hM3.cell 3 rfl 0; simpa using this
  have HS := Lib.hid hS
  have hul := hS.len
  obtain ⟨gU, cU, rfl, _, _, _, _⟩ := hM3.intsAt 2 rfl (by rintro e; rw [e] at hul; simp at hul; omega)
  rw [hul] at hM3
  clear hS hul hM2 hM1 hM0 hb
  go_wp2
  go_loopg [8, 30] g.objs.length (fun gk s8 s30 wr => ∃ k : Nat, s30 = .int .i64 (k : Int) ∧ g.objs.length - k = gk ∧ k ≤ g.objs.length ∧ Mem w.heap.size w wr [rowI 3 s8 (Dom.ret up (x : Int) k), ebox bt #[v1, v2, .slice (some ⟨gU, 0, none⟩) g.objs.length cU] 53, rowI 3 (.slice (some ⟨gU, 0, none⟩) g.objs.length cU) up, ebox w.heap.size #[.slice ao g.objs.length co, .slice ar g.roots.length cr] 25])
  case atStart => exact ⟨0, rfl, by omega, Nat.zero_le _, hM3.cast (by simp [Dom.ret])⟩
  case round =>
    clear hM3
    obtain ⟨k, rfl, hgk, hk, hM⟩ := hrel
    have HM := Lib.hid hM
    have Hgk := Lib.hid hgk
    clear hM hgk
    obtain ⟨al, cl, rfl⟩ := HM.out.intsSlice 0 rfl
    have hrl := Dom.ret_len up (x : Int) k
    obtain ⟨nl, hnl⟩ : ∃ nl, (Dom.ret up (x : Int) k).length = nl := ⟨_, rfl⟩
    rw [hnl] at HM hrl ⊢
    have Hnl := Lib.hid hnl
    clear hnl
    by_cases hkn : k < g.objs.length
    · have hb2 : wr.cell? ⟨bt, 2, none⟩ = some (.slice (some ⟨gU, 0, none⟩) g.objs.length cU) := by have := HM.out.cell 1 rfl 2; simpa using this
      have hyk := Dom.upAt_get (up := up) (i := k) (by rw [HS.out.len]; exact hkn)
      obtain ⟨yk, hyke⟩ : ∃ yk, Dom.upAt up (k : Int) = yk := ⟨_, rfl⟩
      rw [hyke] at hyk
      obtain ⟨d1, _⟩ := HM.out.intAt 2 rfl hyk
      have Hyk := Lib.hid hyke
      clear hyk hyke
      by_cases hy : yk = -2
      · subst hy
        have Hno := Lib.hid (Dom.ret_no (up := up) (v := (x : Int)) (k := k) (fun h => h.1 Hyk.out))
        go_wp2
        go_loopg [8, 10] 1 (fun gj s8 s10 wj => s8 = .slice al nl cl ∧ s10 = .int .i64 (k : Int) ∧ wj = wr)
        case atStart => exact ⟨rfl, rfl, rfl⟩
        case round =>
          obtain ⟨rfl, rfl, hwe⟩ := hrel
          subst hwe
          go_wp2
          go_roundg (g.objs.length - (k + 1))
          case rel => exact ⟨k + 1, by go_num, rfl, by omega, by rw [Hno.out]; exact HM.out⟩
          case measure => have := Hgk.out; omega
      · have hy2 : (yk != -2) = true := by simpa using hy
        have hrk : Rch g (k : Int) := by
          apply Classical.byContradiction
          intro h
          exact hy (by rw [← Hyk.out]; exact (HS.out.out _ (by omega) (by omega)).2 h)
        obtain ⟨R, hRn, hRs⟩ := HS.out.rank
        have HRs := Lib.hid hRs
        have Hrk := Lib.hid hrk
        clear hRn hRs hrk
        go_wp2
        go_loopg [8, 10] (R (k : Int) + 1) (fun gj s8 s10 wj => ∃ kk : Int, s8 = .slice al nl cl ∧ s10 = .int .i64 kk ∧ (if kk = -1 then 0 else R kk + 1) = gj ∧ (kk = -1 ∨ Rch g kk) ∧ (Dom.Anc (Dom.upAt up) (x : Int) (k : Int) ↔ Dom.Anc (Dom.upAt up) (x : Int) kk) ∧ wj = wr)
        case atStart => exact ⟨(k : Int), rfl, rfl, by rw [if_neg (by omega)], .inr Hrk.out, Iff.rfl, rfl⟩
        case round =>
          obtain ⟨kk, rfl, rfl, hgj, hkk, hiff, hwe⟩ := hrel
          subst hwe
          have Hgj := Lib.hid hgj
          have Hkk := Lib.hid hkk
          have Hiff := Lib.hid hiff
          clear hgj hkk hiff
          by_cases hm1 : kk = -1
          · subst hm1
            have Hno := Lib.hid (Dom.ret_no (up := up) (v := (x : Int)) (k := k) (fun h => Dom.no_anc (by omega) (Hiff.out.1 h.2)))
            go_wp2
            go_roundg (g.objs.length - (k + 1))
            case rel => exact ⟨k + 1, by go_num, rfl, by omega, by rw [Hno.out]; exact HM.out⟩
            case measure => have := Hgk.out; omega
          · have hkr := Hkk.out.resolve_left hm1
            have hki := Dom.rch_in HG.out hkr
            obtain ⟨j, rfl⟩ : ∃ j : Nat, kk = (j : Int) := ⟨kk.toNat, by omega⟩
            have hjn : j < g.objs.length := by omega
            have hyj := Dom.upAt_get (up := up) (i := j) (by rw [HS.out.len]; exact hjn)
            obtain ⟨yj, hyje⟩ : ∃ yj, Dom.upAt up (j : Int) = yj := ⟨_, rfl⟩
            rw [hyje] at hyj
            obtain ⟨d2, _⟩ := HM.out.intAt 2 rfl hyj
            have Hyj := Lib.hid hyje
            have Hkr := Lib.hid hkr
            clear hyj hyje hkr
            by_cases hjx : j = x
            · subst hjx
              have Hyes := Lib.hid (Dom.ret_yes (up := up) (v := (j : Int)) (k := k) ⟨by rw [Hyk.out]; exact hy, Hiff.out.2 (.here (by omega))⟩)
              go_wp2_with (at_builtin; refine Mem.wp_appI elemInts rfl (.tmp 56) (.tmp 58) rfl HM.out 0 rfl rfl _ (k : Int) _ _ rfl (by simp) (by rw [Hnl.out]; omega) ?_; intro ad n1 cp w6 hn1 hM6 hs6 hk6 ha6)
              go_roundg (g.objs.length - (k + 1))
              case rel => exact ⟨k + 1, by go_num, rfl, by omega, by rw [Hyes.out]; exact hM6⟩
              case measure => have := Hgk.out; omega
            · have e1 : ((j : Int) == (x : Int)) = false := by simp; omega
              have hst := HRs.out _ Hkr.out
              rw [Hyj.out] at hst
              have Hst := Lib.hid hst
              clear hst
              go_wp2
              go_roundg (if yj = -1 then 0 else R yj + 1)
              case rel =>
                refine ⟨yj, rfl, rfl, rfl, ?_, Hiff.out.trans ?_, rfl⟩
                · rcases Hst.out with h | ⟨h, _⟩
                  · exact .inl h
                  · exact .inr h
                · rw [← Hyj.out]
                  constructor
                  · intro h
                    rcases Dom.anc_cases h with h2 | h2
                    · omega
                    · exact h2
                  · intro h; exact .up (by omega) h
              case measure =>
                have h1 := Hgj.out
                rw [if_neg (by omega)] at h1
                split
                · omega
                · rcases Hst.out with h | ⟨_, h⟩
                  · contradiction
                  · omega
    · obtain rfl : k = g.objs.length := by omega
      go_wp2
      refine bodyPost_ret (v := .tuple #[.slice al nl cl, .int .i64 0]) (by simp [results, Try.results14, go_sem]) rfl ⟨_, up, rfl, HS.out, ?_⟩
      exact HM.out.pick0 [0] (by decide) rfl
end Go.Proofs.Ytnpbdabboecpaaa
