/- A memory that is copied: a work that exchanges all, walked. -/
import Derived.Test.YtmmcjjklmcfegaaRpj
namespace Go.Proofs.Ytmmcjjklmcfegaa
open Go.RowKit Go.Shelf

section
variable (B : Nat) (w0 : World) (bx : Nat) (regs : List V) (mv : Value) (bm : Nat)
set_option maxRecDepth 100000 in
set_option maxHeartbeats 8000000 in
theorem work_exch (T : List Ent) (w : World) (rg : List V) (os : Os) (x : Px) (h8 : rg.length = 8) (hQ : InvQ ⟨rg, os, x⟩) (hlog : x.log = []) (hfd : rg.find? (needs x.cps) = none) (hfo : x.made[x.filled]? = none) (ht : 0 ≤ x.times ∧ x.times ≤ 1000) (hC : PM B w0 bx regs mv bm os x T w) :
    Calls Try.prog 51 #[.pointer (some ⟨bm, 0, none⟩), regsV rg] w fun e w' => WorkSays B w0 bx regs mv bm rg os x T e w' := by
  unfold WorkSays
  have hws : workP ⟨rg, os, x⟩ = ⟨rg, exchO x.row x.cps os, ⟨x.made, noCps os.length, [], 0, [], x.times + 1⟩⟩ := by
    unfold workP
    simp only [hlog, hfd, hfo]
  obtain ⟨S, hS⟩ : ∃ S, workP ⟨rg, os, x⟩ = S := ⟨_, rfl⟩
  rw [hS] at hws ⊢
  have hO := hQ.okP
  have hrg : ∀ v ∈ rg, i64ok v.n ∧ (v.ref = true → Lives os v.n) := by
    intro v hv
    have h1 := hQ.fine.regs v hv
    refine ⟨?_, h1.1⟩
    cases hr : v.ref with
    | false => have := h1.2 hr; exact ⟨by omega, by omega⟩
    | true =>
      have h2 := (h1.1 hr).lt
      have h3 := (h1.1 hr).1
      have h4 := hO.len
      simp only at h2 h3 h4
      exact ⟨by omega, by omega⟩
  obtain ⟨v0, v1, v2, v3, v4, v5, v6, v7, hv8⟩ := eight h8
  have hrv : regsV rg = .agg #[.bool v0.ref, .int .i64 v0.n, .bool v1.ref, .int .i64 v1.n, .bool v2.ref, .int .i64 v2.n, .bool v3.ref, .int .i64 v3.n, .bool v4.ref, .int .i64 v4.n, .bool v5.ref, .int .i64 v5.n, .bool v6.ref, .int .i64 v6.n, .bool v7.ref, .int .i64 v7.n] := by rw [hv8]; rfl
  have hrv2 : (rg.flatMap cellsV).toArray = #[.bool v0.ref, .int .i64 v0.n, .bool v1.ref, .int .i64 v1.n, .bool v2.ref, .int .i64 v2.n, .bool v3.ref, .int .i64 v3.n, .bool v4.ref, .int .i64 v4.n, .bool v5.ref, .int .i64 v5.n, .bool v6.ref, .int .i64 v6.n, .bool v7.ref, .int .i64 v7.n] := by rw [hv8]; rfl
  rw [hrv]
  have hC1 := hC.allocEnd #[.bool v0.ref, .int .i64 v0.n, .bool v1.ref, .int .i64 v1.n, .bool v2.ref, .int .i64 v2.n, .bool v3.ref, .int .i64 v3.n, .bool v4.ref, .int .i64 v4.n, .bool v5.ref, .int .i64 v5.n, .bool v6.ref, .int .i64 v6.n, .bool v7.ref, .int .i64 v7.n] 82
  obtain ⟨b3, hb3⟩ : ∃ b3, w.heap.size = b3 := ⟨_, rfl⟩
  obtain ⟨W, hW⟩ : ∃ W, w.alloc (.cells #[.bool v0.ref, .int .i64 v0.n, .bool v1.ref, .int .i64 v1.n, .bool v2.ref, .int .i64 v2.n, .bool v3.ref, .int .i64 v3.n, .bool v4.ref, .int .i64 v4.n, .bool v5.ref, .int .i64 v5.n, .bool v6.ref, .int .i64 v6.n, .bool v7.ref, .int .i64 v7.n] 82) = W := ⟨_, rfl⟩
  rw [hW, hb3] at hC1
  obtain ⟨T1, hT1⟩ : ∃ T1, T ++ [ebox b3 #[.bool v0.ref, .int .i64 v0.n, .bool v1.ref, .int .i64 v1.n, .bool v2.ref, .int .i64 v2.n, .bool v3.ref, .int .i64 v3.n, .bool v4.ref, .int .i64 v4.n, .bool v5.ref, .int .i64 v5.n, .bool v6.ref, .int .i64 v6.n, .bool v7.ref, .int .i64 v7.n] 82] = T1 := ⟨_, rfl⟩
  rw [hT1] at hC1
  have hbT : ebox b3 #[.bool v0.ref, .int .i64 v0.n, .bool v1.ref, .int .i64 v1.n, .bool v2.ref, .int .i64 v2.n, .bool v3.ref, .int .i64 v3.n, .bool v4.ref, .int .i64 v4.n, .bool v5.ref, .int .i64 v5.n, .bool v6.ref, .int .i64 v6.n, .bool v7.ref, .int .i64 v7.n] 82 ∈ T1 := by rw [← hT1]; exact List.mem_append_right _ (List.mem_singleton.2 rfl)
  have hhit := hitC_any B w0 bx regs mv bm T1 W os x hO rg 8 h8 (by omega) hrg b3 (by rw [hrv2]; exact hbT) hC1
  have hzb : b3 < W.heap.size := by rw [← hW, ← hb3]; simp
  obtain ⟨vo, cs, vr, bc, vm, vl, cc, hcs, hcc, hM⟩ := hC1
  rw [hlog] at hM
  obtain ⟨la, lc, rfl, _⟩ := hM.logSlice 6 rfl
  have m5 : W.cell? ⟨bm, 5, none⟩ = some (.slice la 0 lc) := hM.cell 1 rfl 5
  have mb : bm < W.heap.size := (hM.box 1 rfl).2.1
  clear hM hcs hcc hrv hv8 hC
  have HW := Lib.hid hW
  have Hb3 := Lib.hid hb3
  have Hws := Lib.hid hws
  have HO := Lib.hid hO
  have HQ := Lib.hid hQ
  have HT1 := Lib.hid hT1
  have HbT := Lib.hid hbT
  have Hhit := Lib.hid hhit
  have Hlog := Lib.hid hlog
  clear hW hb3 hws hO hQ hT1 hbT hhit hlog hS hrg hrv2 h8
  go_enter Try.func51, Try.ntmps51
  go_upto_region 1 with (fail)
  rw [HW.out, Hb3.out]
  go_wp2_with fail
  refine Hhit.out.mono ?_
  rintro e w2 h
  obtain ⟨rfl, hM2⟩ := h.1 hfd
  have HM2 := Lib.hid hM2
  clear h Hhit m5 mb hzb
  have hfl : x.made.length ≤ x.filled := List.getElem?_eq_none_iff.1 hfo
  have hml : x.made.length ≤ os.length := HO.out.made
  have hol : os.length ≤ 1000 := HO.out.len
  have HC2 : Hid (∀ q, PM B w0 bx regs mv bm os x T1 (w2.drewN q)) := Lib.hid fun q => hM2.call (below_drewN (Below.refl _ w2) q)
  obtain ⟨vo, cs, vr, bc, vm, vl, cc, hcs, hcc, hM⟩ := hM2
  obtain ⟨vma, vmc, hvm⟩ := hM.intsSlice 5 rfl
  obtain ⟨nm, hnm⟩ : ∃ nm, x.made.length = nm := ⟨_, rfl⟩
  rw [hnm] at hvm hfl hml
  have m3 : w2.cell? ⟨bm, 3, none⟩ = some (.slice vma nm vmc) := by rw [← hvm]; exact hM.cell 1 rfl 3
  have m4 : w2.cell? ⟨bm, 4, none⟩ = some (.int .i64 (x.filled : Int)) := hM.cell 1 rfl 4
  have mb2 : bm < w2.heap.size := (hM.box 1 rfl).2.1
  have e1 : ¬ (x.filled : Int) < (nm : Int) := by omega
  clear hM hcs hcc hnm HM2 hvm
  go_wp2_with fail
  go_quiet (fail)
  have hC8 := HC2.out nq
  obtain ⟨W8, hW8⟩ : ∃ W8, w2.drewN nq = W8 := ⟨_, rfl⟩
  rw [hW8] at hC8 ⊢
  clear hW8 m3 m4 mb2 HC2 vo cs vr bc vm vl cc
  obtain ⟨vo, cs, vr, bc, vm, vl, cc, hcs, hcc, hM⟩ := hC8
  obtain ⟨ra, rc, rfl⟩ := hM.intsSlice 3 rfl
  obtain ⟨va, vc, hvm⟩ := hM.intsSlice 5 rfl
  have O := oAt_of (A := pA bx regs mv bm bc x.made.length vo cs (.slice ra x.row.length rc) x.row (cpF cc) vm x.made x.filled vl x.log x.times) (R := cc.map rowC ++ T1) (kp := 2) (vo := vo) (cs := cs) rfl
  obtain ⟨ga, gcap, rfl⟩ := hM.ptrSlice O
  have hcl : cs.length = os.length := by rw [← hcs, conts_len]
  have hccl : cc.length = os.length := by rw [← contsC_len, show contsC cc = x.cps from hcc]; exact HO.out.cp.cl
  obtain ⟨nr, hnr⟩ : ∃ nr, x.row.length = nr := ⟨_, rfl⟩
  have m1 : W8.cell? ⟨bm, 1, none⟩ = some (.slice ra nr rc) := by rw [← hnr]; exact hM.cell 1 rfl 1
  have mb8 : bm < W8.heap.size := (hM.box 1 rfl).2.1
  have hrl : x.row.length ≤ os.length := by
    have h1 := nodup_sub_le x.row ((List.range os.length).map fun i : Nat => (i : Int)) HQ.out.rown (fun q hq => by
      have h1 := (HQ.out.row q).1 hq
      have h2 := h1.lt
      have h3 := h1.1
      exact List.mem_map.2 ⟨q.toNat, List.mem_range.2 h2, by omega⟩)
    rwa [List.length_map, List.length_range] at h1
  have hnrl : nr ≤ 1000 := by omega
  have HM := Lib.hid hM
  have Hcs := Lib.hid hcs
  have Hvm := Lib.hid hvm
  have Hcc : Hid (contsC cc = x.cps) := Lib.hid hcc
  have Hcl := Lib.hid hcl
  have Hccl := Lib.hid hccl
  have Hnr := Lib.hid hnr
  clear hM O hcs hcc hcl hccl hnr hrl hvm
  go_wp2_with fail
  clear m1 mb8
  go_loopw [105, 10, 11, 12] (fun s _ _ _ wr => ∃ k : Nat, k ≤ nr ∧ s = .int .i64 (k : Int) ∧ ∃ (csk : List (Option Oc)) (cck : Cc), conts csk = exchO (x.row.take k) x.cps os ∧ csk.length = os.length ∧ cck.length = os.length ∧ (∀ j ∈ x.row.drop k, cck[j.toNat]? = cc[j.toNat]?) ∧
    Mem B w0 wr (pA bx regs mv bm bc x.made.length (.slice ga csk.length gcap) csk (.slice ra x.row.length rc) x.row (cpF cc) vm x.made x.filled vl x.log x.times ++ (objsE csk ++ (cck.map rowC ++ T1)))) (fun s _ _ _ _ => nr - (intOf s).toNat)
  case atStart => exact ⟨0, Nat.zero_le _, rfl, cs, cc, by rw [Hcs.out]; rfl, Hcl.out, Hccl.out, fun _ _ => rfl, HM.out⟩
  case round =>
    clear HM
    obtain ⟨k, hk, rfl, csk, cck, h1, h2, h3, h4, hM⟩ := hrel
    by_cases hlt : k < nr
    · obtain ⟨j, hj⟩ := get_some x.row k (by rw [Hnr.out]; exact hlt)
      have hjm := List.mem_of_getElem? hj
      have hlv : Lives os j := (HQ.out.row j).1 hjm
      have hj0 := hlv.1
      have hjl := hlv.lt
      obtain ⟨i, rfl⟩ : ∃ i : Nat, j = (i : Int) := ⟨j.toNat, by omega⟩
      rw [Int.toNat_natCast] at hjl
      obtain ⟨ra2, rc2, hra, _, rgb, hcell, _⟩ := hM.intsAt 3 rfl (List.ne_nil_of_mem hjm)
      cases hra
      have c0 : wr.cell? ⟨ra2, k, none⟩ = some (.int .i64 (i : Int)) := hcell _ _ hj
      have O := oAt_of (A := pA bx regs mv bm bc x.made.length (.slice ga csk.length gcap) csk (.slice (some ⟨ra2, 0, none⟩) x.row.length rc) x.row (cpF cc) vm x.made x.filled vl x.log x.times) (R := cck.map rowC ++ T1) (kp := 2) (vo := .slice ga csk.length gcap) (cs := csk) rfl
      obtain ⟨c, hc⟩ := get_some csk i (by omega)
      obtain ⟨g, cap, hgv, _, gf, gb⟩ := hM.ptrAt O hc
      cases hgv
      have m0 : wr.cell? ⟨bm, 0, none⟩ = some (.slice (some ⟨g, 0, none⟩) csk.length gcap) := hM.cell 1 rfl 0
      have m2 : wr.cell? ⟨bm, 2, none⟩ = some (.map (some bc)) := hM.cell 1 rfl 2
      have mbr : bm < wr.heap.size := (hM.box 1 rfl).2.1
      have hjo : i64ok (i : Int) := ⟨by omega, by omega⟩
      have hlk := (gmap_look (hM.get 4 rfl) hjo).2
      have htail : ∀ y ∈ x.row.drop (k + 1), y ≠ (i : Int) ∧ 0 ≤ y := by
        intro y hy
        have hd : x.row.drop k = (i : Int) :: x.row.drop (k + 1) := by
          rw [List.drop_eq_getElem_cons (List.getElem?_eq_some_iff.1 hj).1]
          congr 1
          exact (List.getElem?_eq_some_iff.1 hj).2
        have hnd : (x.row.drop k).Nodup := (List.drop_sublist k x.row).nodup HQ.out.rown
        rw [hd] at hnd
        exact ⟨fun e => (List.nodup_cons.1 hnd).1 (e ▸ hy), ((HQ.out.row y).1 (List.mem_of_mem_drop hy)).1⟩
      have hme : (i : Int) ∈ x.row.drop k := by
        rw [List.drop_eq_getElem_cons (List.getElem?_eq_some_iff.1 hj).1]
        refine List.mem_cons.2 (.inl ?_)
        exact (List.getElem?_eq_some_iff.1 hj).2.symm
      have h5 : ∀ y ∈ x.row.drop (k + 1), y ∈ x.row.drop k := fun y hy => by
        rw [List.drop_eq_getElem_cons (List.getElem?_eq_some_iff.1 hj).1]
        exact List.mem_cons_of_mem _ hy
      have hst := exchO_step hj x.cps os
      have h6 := h4 _ hme
      rw [Int.toNat_natCast] at h6 hst
      have hil : i < csk.length := by omega
      have e4 : (i : Int) < (csk.length : Int) := by omega
      have e5 : (k : Int) < (nr : Int) := by omega
      cases hcp : cpAt (contsC cc) (i : Int) with
      | none =>
        rw [cpF_none hcp] at hlk
        have L1 : (Instr.lookup 112 (.map (some bc)) (.int .i64 (i : Int)) true).run Try.prog wr = .ok (.tuple #[.slice none 0 0, .bool false]) wr := hlk
        have hN := ex_no hM hil
        have HN : Hid (∃ (csk : List (Option Oc)) (cck : Cc), conts csk = exchO (x.row.take (k + 1)) x.cps os ∧ csk.length = os.length ∧ cck.length = os.length ∧ (∀ j ∈ x.row.drop (k + 1), cck[j.toNat]? = cc[j.toNat]?) ∧
            Mem B w0 (wr.setCell ⟨g, i, none⟩ (.pointer none)) (pA bx regs mv bm bc x.made.length (.slice (some ⟨g, 0, none⟩) csk.length gcap) csk (.slice (some ⟨ra2, 0, none⟩) x.row.length rc) x.row (cpF cc) vm x.made x.filled vl x.log x.times ++ (objsE csk ++ (cck.map rowC ++ T1)))) := Lib.hid (by
          refine ⟨csk.set i none, cck, ?_, by rw [List.length_set]; exact h2, h3, fun y hy => h4 y (h5 y hy), by rw [List.length_set]; exact hN⟩
          rw [conts_set, h1, hst, ← Hcc.out, hcp]; rfl)
        have Hgb := Lib.hid (And.intro gf gb)
        clear hN h1 h2 h3 h4 hM O hc hcell hjm hlv hlk htail hme h5 hst h6 hcp hj
        go_wp2_with fail
        go_roundw
        case rel =>
          obtain ⟨csk', cck', a1, a2, a3, a4, a5⟩ := HN.out
          exact ⟨k + 1, by omega, by go_num, csk', cck', a1, a2, a3, a4, a5⟩
        case measure => simp [intOf]; omega
      | some l =>
        obtain ⟨u, hu, hci⟩ := cpF_some (by omega) hcp
        rw [hu] at hlk
        rw [Int.toNat_natCast] at hci
        rw [hci] at h6
        have L1 : (Instr.lookup 112 (.map (some bc)) (.int .i64 (i : Int)) true).run Try.prog wr = .ok (.tuple #[u, .bool true]) wr := hlk
        obtain ⟨ua, uc, rfl⟩ := cc_slice hM h6
        have hN := ex_yes hM hil h6
        have HN : Hid (∃ (csk : List (Option Oc)) (cck : Cc), conts csk = exchO (x.row.take (k + 1)) x.cps os ∧ csk.length = os.length ∧ cck.length = os.length ∧ (∀ j ∈ x.row.drop (k + 1), cck[j.toNat]? = cc[j.toNat]?) ∧
            Mem B w0 ((wr.setCell ⟨g, i, none⟩ (.pointer (some ⟨wr.heap.size, 0, none⟩))).alloc (.cells #[.slice ua l.length uc] 94)) (pA bx regs mv bm bc x.made.length (.slice (some ⟨g, 0, none⟩) csk.length gcap) csk (.slice (some ⟨ra2, 0, none⟩) x.row.length rc) x.row (cpF cc) vm x.made x.filled vl x.log x.times ++ (objsE csk ++ (cck.map rowC ++ T1)))) := Lib.hid (by
          refine ⟨csk.set i (some ⟨wr.heap.size, .slice ua l.length uc, l⟩), cck.set i none, ?_, by rw [List.length_set]; exact h2, by rw [List.length_set]; exact h3, fun y hy => ?_, by rw [List.length_set]; exact hN⟩
          · rw [conts_set, h1, hst, ← Hcc.out, hcp]; rfl
          · obtain ⟨t1, t2⟩ := htail y hy
            rw [List.getElem?_set_ne (by omega)]
            exact h4 y (h5 y hy))
        clear hN h1 h2 h3 h4 hM O hc hcell hjm hlv hlk htail hme h5 hst h6 hcp hj hci hu
        go_wp2_with fail
        go_roundw
        case rel =>
          obtain ⟨csk', cck', a1, a2, a3, a4, a5⟩ := HN.out
          exact ⟨k + 1, by omega, by go_num, csk', cck', a1, a2, a3, a4, a5⟩
        case measure => simp [intOf]; omega
    · obtain rfl : k = nr := by omega
      rw [List.take_of_length_le (by rw [Hnr.out]; exact Nat.le_refl _)] at h1
      have s3 : wr.cell? ⟨bm, 3, none⟩ = some (.slice va x.made.length vc) := by rw [← Hvm.out]; exact hM.cell 1 rfl 3
      have s1 : wr.cell? ⟨bm, 1, none⟩ = some (.slice ra x.row.length rc) := hM.cell 1 rfl 1
      have s6 : wr.cell? ⟨bm, 6, none⟩ = some (.int .i64 x.times) := hM.cell 1 rfl 6
      have f1 : wr.frozen? ⟨bm, 1, none⟩ = false := hM.free 1 rfl 1
      have f6 : wr.frozen? ⟨bm, 6, none⟩ = false := hM.free 1 rfl 6
      have mbr : bm < wr.heap.size := (hM.box 1 rfl).2.1
      have hM1 := (hM.setBox 1 rfl 1 (.slice va x.made.length vc)).setBox 1 rfl 6 (.int .i64 (x.times + 1))
      obtain ⟨W9, hW9⟩ : ∃ W9, (wr.setCell ⟨bm, 1, none⟩ (.slice va x.made.length vc)).setCell ⟨bm, 6, none⟩ (.int .i64 (x.times + 1)) = W9 := ⟨_, rfl⟩
      rw [hW9] at hM1
      have hbg := pbegin_any B w0 bm W9 (.slice ga csk.length gcap) (.slice va x.made.length vc) (.map (some bc)) vm x.filled vl (x.times + 1) [mbox bx regs mv] (rowP (.slice ga csk.length gcap) csk :: rowI 3 (.slice ra x.row.length rc) x.row :: gmap mapIV bc x.made.length (cpF cc) :: rowI 3 vm x.made :: logE 149 vl x.log :: (objsE csk ++ (cck.map rowC ++ T1))) hM1
      have Hbg := Lib.hid hbg
      have HW9 := Lib.hid hW9
      have H1 := Lib.hid h1
      obtain ⟨ht0, ht1⟩ := ht
      clear hbg hW9 h1 h2 h3 h4 hM hM1
      go_upto_region 26 with (fail)
      rw [HW9.out]
      clear s1 s3 s6 f1 f6 mbr
      go_wp2_with fail
      refine Hbg.out.mono ?_
      rintro e w4 ⟨rfl, bc2, hM4⟩
      have HM4 := Lib.hid hM4
      clear hM4 Hbg
      go_wp2_with fail
      refine bodyPost_end (results_none rfl _ _ _) rfl ?_
      refine ⟨rfl, ?_⟩
      rw [Hws.out]
      have h8 := HM4.out
      rw [← Hvm.out] at h8
      have h9 := fresh_round (.slice ga csk.length gcap) h8 os.length
      rw [← HT1.out] at h9
      exact PM.dropEnd (Q := [_]) ⟨_, csk, vm, bc2, _, _, List.replicate os.length none, H1.out, contsC_nones _, h9⟩
end
end Go.Proofs.Ytmmcjjklmcfegaa
