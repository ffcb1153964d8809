/- A memory that is copied: a work at a register, and at a copy to be filled, walked. -/
import Derived.Test.YtmmcjjklmcfegaaRph
namespace Go.Proofs.Ytmmcjjklmcfegaa
open Go.RowKit Go.Shelf

section
variable (B : Nat) (w0 : World) (bx : Nat) (regs : List V) (mv : Value) (bm : Nat)
set_option maxRecDepth 100000 in
set_option maxHeartbeats 8000000 in
theorem work_hit (T : List Ent) (w : World) (rg : List V) (os : Os) (x : Px) (h8 : rg.length = 8) (hQ : InvQ ⟨rg, os, x⟩) (hlog : x.log = []) (v : V) (hfd : rg.find? (needs x.cps) = some v) (hC : PM B w0 bx regs mv bm os x T w) :
    Calls Try.prog 51 #[.pointer (some ⟨bm, 0, none⟩), regsV rg] w fun e w' => WorkSays B w0 bx regs mv bm rg os x T e w' := by
  unfold WorkSays
  have hws : workP ⟨rg, os, x⟩ = ⟨rg, os, { x with cps := (copied os (x.cps, x.made) v).1, made := (copied os (x.cps, x.made) v).2 }⟩ := by
    unfold workP
    simp only [hlog, hfd]
  obtain ⟨S, hS⟩ : ∃ S, workP ⟨rg, os, x⟩ = S := ⟨_, rfl⟩
  rw [hS] at hws ⊢
  have hO := hQ.okP
  have hrg : ∀ v ∈ rg, i64ok v.n ∧ (v.ref = true → Lives os v.n) := by
    intro v hv
    have h1 := hQ.fine.regs v hv
    refine ⟨?_, h1.1⟩
    cases hr : v.ref with
    | false => have := h1.2 hr; exact ⟨by omega, by omega⟩
    | true =>
      have h2 := (h1.1 hr).lt
      have h3 := (h1.1 hr).1
      have h4 := hO.len
      simp only at h2 h3 h4
      exact ⟨by omega, by omega⟩
  obtain ⟨v0, v1, v2, v3, v4, v5, v6, v7, hv8⟩ := eight h8
  have hrv : regsV rg = .agg #[.bool v0.ref, .int .i64 v0.n, .bool v1.ref, .int .i64 v1.n, .bool v2.ref, .int .i64 v2.n, .bool v3.ref, .int .i64 v3.n, .bool v4.ref, .int .i64 v4.n, .bool v5.ref, .int .i64 v5.n, .bool v6.ref, .int .i64 v6.n, .bool v7.ref, .int .i64 v7.n] := by rw [hv8]; rfl
  have hrv2 : (rg.flatMap cellsV).toArray = #[.bool v0.ref, .int .i64 v0.n, .bool v1.ref, .int .i64 v1.n, .bool v2.ref, .int .i64 v2.n, .bool v3.ref, .int .i64 v3.n, .bool v4.ref, .int .i64 v4.n, .bool v5.ref, .int .i64 v5.n, .bool v6.ref, .int .i64 v6.n, .bool v7.ref, .int .i64 v7.n] := by rw [hv8]; rfl
  rw [hrv]
  have hC1 := hC.allocEnd #[.bool v0.ref, .int .i64 v0.n, .bool v1.ref, .int .i64 v1.n, .bool v2.ref, .int .i64 v2.n, .bool v3.ref, .int .i64 v3.n, .bool v4.ref, .int .i64 v4.n, .bool v5.ref, .int .i64 v5.n, .bool v6.ref, .int .i64 v6.n, .bool v7.ref, .int .i64 v7.n] 82
  obtain ⟨b3, hb3⟩ : ∃ b3, w.heap.size = b3 := ⟨_, rfl⟩
  obtain ⟨W, hW⟩ : ∃ W, w.alloc (.cells #[.bool v0.ref, .int .i64 v0.n, .bool v1.ref, .int .i64 v1.n, .bool v2.ref, .int .i64 v2.n, .bool v3.ref, .int .i64 v3.n, .bool v4.ref, .int .i64 v4.n, .bool v5.ref, .int .i64 v5.n, .bool v6.ref, .int .i64 v6.n, .bool v7.ref, .int .i64 v7.n] 82) = W := ⟨_, rfl⟩
  rw [hW, hb3] at hC1
  obtain ⟨T1, hT1⟩ : ∃ T1, T ++ [ebox b3 #[.bool v0.ref, .int .i64 v0.n, .bool v1.ref, .int .i64 v1.n, .bool v2.ref, .int .i64 v2.n, .bool v3.ref, .int .i64 v3.n, .bool v4.ref, .int .i64 v4.n, .bool v5.ref, .int .i64 v5.n, .bool v6.ref, .int .i64 v6.n, .bool v7.ref, .int .i64 v7.n] 82] = T1 := ⟨_, rfl⟩
  rw [hT1] at hC1
  have hbT : ebox b3 #[.bool v0.ref, .int .i64 v0.n, .bool v1.ref, .int .i64 v1.n, .bool v2.ref, .int .i64 v2.n, .bool v3.ref, .int .i64 v3.n, .bool v4.ref, .int .i64 v4.n, .bool v5.ref, .int .i64 v5.n, .bool v6.ref, .int .i64 v6.n, .bool v7.ref, .int .i64 v7.n] 82 ∈ T1 := by rw [← hT1]; exact List.mem_append_right _ (List.mem_singleton.2 rfl)
  have hhit := hitC_any B w0 bx regs mv bm T1 W os x hO rg 8 h8 (by omega) hrg b3 (by rw [hrv2]; exact hbT) hC1
  have hzb : b3 < W.heap.size := by rw [← hW, ← hb3]; simp
  obtain ⟨vo, cs, vr, bc, vm, vl, cc, hcs, hcc, hM⟩ := hC1
  rw [hlog] at hM
  obtain ⟨la, lc, rfl, _⟩ := hM.logSlice 6 rfl
  have m5 : W.cell? ⟨bm, 5, none⟩ = some (.slice la 0 lc) := hM.cell 1 rfl 5
  have mb : bm < W.heap.size := (hM.box 1 rfl).2.1
  clear hM hcs hcc hrv hv8 hC
  have HW := Lib.hid hW
  have Hb3 := Lib.hid hb3
  have Hws := Lib.hid hws
  have HO := Lib.hid hO
  have HQ := Lib.hid hQ
  have HT1 := Lib.hid hT1
  have HbT := Lib.hid hbT
  have Hhit := Lib.hid hhit
  have Hlog := Lib.hid hlog
  clear hW hb3 hws hO hQ hT1 hbT hhit hlog hS hrg hrv2 h8
  go_enter Try.func51, Try.ntmps51
  go_upto_region 1 with (fail)
  rw [HW.out, Hb3.out]
  go_wp2_with fail
  refine Hhit.out.mono ?_
  rintro e w2 h
  obtain ⟨rfl, hM2⟩ := h.2 v hfd
  have HM2 := Lib.hid hM2
  clear hM2 h Hhit m5 mb hzb
  go_wp2_with fail
  refine bodyPost_ret (results_none rfl _ _ _) rfl ?_
  refine ⟨rfl, ?_⟩
  rw [Hws.out]
  have h1 := HM2.out
  rw [← HT1.out] at h1
  exact h1.dropEnd
set_option maxRecDepth 100000 in
set_option maxHeartbeats 8000000 in
theorem work_fill (T : List Ent) (w : World) (rg : List V) (os : Os) (x : Px) (h8 : rg.length = 8) (hQ : InvQ ⟨rg, os, x⟩) (hlog : x.log = []) (hfd : rg.find? (needs x.cps) = none) (o : Int) (hfo : x.made[x.filled]? = some o) (hC : PM B w0 bx regs mv bm os x T w) :
    Calls Try.prog 51 #[.pointer (some ⟨bm, 0, none⟩), regsV rg] w fun e w' => WorkSays B w0 bx regs mv bm rg os x T e w' := by
  unfold WorkSays
  have hws : workP ⟨rg, os, x⟩ = ⟨rg, os, { x with cps := (bringN os (x.cps, x.made) o (objAt os o).length).1, made := (bringN os (x.cps, x.made) o (objAt os o).length).2, filled := x.filled + 1 }⟩ := by
    unfold workP
    simp only [hlog, hfd, hfo]
  obtain ⟨S, hS⟩ : ∃ S, workP ⟨rg, os, x⟩ = S := ⟨_, rfl⟩
  rw [hS] at hws ⊢
  have hO := hQ.okP
  have hrg : ∀ v ∈ rg, i64ok v.n ∧ (v.ref = true → Lives os v.n) := by
    intro v hv
    have h1 := hQ.fine.regs v hv
    refine ⟨?_, h1.1⟩
    cases hr : v.ref with
    | false => have := h1.2 hr; exact ⟨by omega, by omega⟩
    | true =>
      have h2 := (h1.1 hr).lt
      have h3 := (h1.1 hr).1
      have h4 := hO.len
      simp only at h2 h3 h4
      exact ⟨by omega, by omega⟩
  obtain ⟨v0, v1, v2, v3, v4, v5, v6, v7, hv8⟩ := eight h8
  have hrv : regsV rg = .agg #[.bool v0.ref, .int .i64 v0.n, .bool v1.ref, .int .i64 v1.n, .bool v2.ref, .int .i64 v2.n, .bool v3.ref, .int .i64 v3.n, .bool v4.ref, .int .i64 v4.n, .bool v5.ref, .int .i64 v5.n, .bool v6.ref, .int .i64 v6.n, .bool v7.ref, .int .i64 v7.n] := by rw [hv8]; rfl
  have hrv2 : (rg.flatMap cellsV).toArray = #[.bool v0.ref, .int .i64 v0.n, .bool v1.ref, .int .i64 v1.n, .bool v2.ref, .int .i64 v2.n, .bool v3.ref, .int .i64 v3.n, .bool v4.ref, .int .i64 v4.n, .bool v5.ref, .int .i64 v5.n, .bool v6.ref, .int .i64 v6.n, .bool v7.ref, .int .i64 v7.n] := by rw [hv8]; rfl
  rw [hrv]
  have hC1 := hC.allocEnd #[.bool v0.ref, .int .i64 v0.n, .bool v1.ref, .int .i64 v1.n, .bool v2.ref, .int .i64 v2.n, .bool v3.ref, .int .i64 v3.n, .bool v4.ref, .int .i64 v4.n, .bool v5.ref, .int .i64 v5.n, .bool v6.ref, .int .i64 v6.n, .bool v7.ref, .int .i64 v7.n] 82
  obtain ⟨b3, hb3⟩ : ∃ b3, w.heap.size = b3 := ⟨_, rfl⟩
  obtain ⟨W, hW⟩ : ∃ W, w.alloc (.cells #[.bool v0.ref, .int .i64 v0.n, .bool v1.ref, .int .i64 v1.n, .bool v2.ref, .int .i64 v2.n, .bool v3.ref, .int .i64 v3.n, .bool v4.ref, .int .i64 v4.n, .bool v5.ref, .int .i64 v5.n, .bool v6.ref, .int .i64 v6.n, .bool v7.ref, .int .i64 v7.n] 82) = W := ⟨_, rfl⟩
  rw [hW, hb3] at hC1
  obtain ⟨T1, hT1⟩ : ∃ T1, T ++ [ebox b3 #[.bool v0.ref, .int .i64 v0.n, .bool v1.ref, .int .i64 v1.n, .bool v2.ref, .int .i64 v2.n, .bool v3.ref, .int .i64 v3.n, .bool v4.ref, .int .i64 v4.n, .bool v5.ref, .int .i64 v5.n, .bool v6.ref, .int .i64 v6.n, .bool v7.ref, .int .i64 v7.n] 82] = T1 := ⟨_, rfl⟩
  rw [hT1] at hC1
  have hbT : ebox b3 #[.bool v0.ref, .int .i64 v0.n, .bool v1.ref, .int .i64 v1.n, .bool v2.ref, .int .i64 v2.n, .bool v3.ref, .int .i64 v3.n, .bool v4.ref, .int .i64 v4.n, .bool v5.ref, .int .i64 v5.n, .bool v6.ref, .int .i64 v6.n, .bool v7.ref, .int .i64 v7.n] 82 ∈ T1 := by rw [← hT1]; exact List.mem_append_right _ (List.mem_singleton.2 rfl)
  have hhit := hitC_any B w0 bx regs mv bm T1 W os x hO rg 8 h8 (by omega) hrg b3 (by rw [hrv2]; exact hbT) hC1
  have hzb : b3 < W.heap.size := by rw [← hW, ← hb3]; simp
  obtain ⟨vo, cs, vr, bc, vm, vl, cc, hcs, hcc, hM⟩ := hC1
  rw [hlog] at hM
  obtain ⟨la, lc, rfl, _⟩ := hM.logSlice 6 rfl
  have m5 : W.cell? ⟨bm, 5, none⟩ = some (.slice la 0 lc) := hM.cell 1 rfl 5
  have mb : bm < W.heap.size := (hM.box 1 rfl).2.1
  clear hM hcs hcc hrv hv8 hC
  have HW := Lib.hid hW
  have Hb3 := Lib.hid hb3
  have Hws := Lib.hid hws
  have HO := Lib.hid hO
  have HQ := Lib.hid hQ
  have HT1 := Lib.hid hT1
  have HbT := Lib.hid hbT
  have Hhit := Lib.hid hhit
  have Hlog := Lib.hid hlog
  clear hW hb3 hws hO hQ hT1 hbT hhit hlog hS hrg hrv2 h8
  go_enter Try.func51, Try.ntmps51
  go_upto_region 1 with (fail)
  rw [HW.out, Hb3.out]
  go_wp2_with fail
  refine Hhit.out.mono ?_
  rintro e w2 h
  obtain ⟨rfl, hM2⟩ := h.1 hfd
  have HM2 := Lib.hid hM2
  clear h Hhit m5 mb hzb
  have hho : o ∈ x.made := List.mem_of_getElem? hfo
  have hlv := HO.out.cp.live o hho
  have hfl := (List.getElem?_eq_some_iff.1 hfo).1
  obtain ⟨i, rfl⟩ : ∃ i : Nat, o = (i : Int) := ⟨o.toNat, by have := hlv.1; omega⟩
  have hml : x.made.length ≤ os.length := HO.out.made
  have hol : os.length ≤ 1000 := HO.out.len
  have hal : (objAt os (i : Int)).length ≤ 4 := HO.out.len4 (i : Int)
  have hn1 : x.filled ≤ 100000 := by omega
  have HC2 : Hid (∀ q, PM B w0 bx regs mv bm os x T1 (w2.drewN q)) := Lib.hid fun q => hM2.call (below_drewN (Below.refl _ w2) q)
  obtain ⟨vo, cs, vr, bc, vm, vl, cc, hcs, hcc, hM⟩ := hM2
  obtain ⟨gm, cm, rfl, _, mgb, hcell, _⟩ := hM.intsAt 5 rfl (List.ne_nil_of_mem hho)
  have mc := hcell _ _ hfo
  obtain ⟨nm, hnm⟩ : ∃ nm, x.made.length = nm := ⟨_, rfl⟩
  rw [hnm] at hfl
  have m3 : w2.cell? ⟨bm, 3, none⟩ = some (.slice (some ⟨gm, 0, none⟩) nm cm) := by rw [← hnm]; exact hM.cell 1 rfl 3
  have m4 : w2.cell? ⟨bm, 4, none⟩ = some (.int .i64 (x.filled : Int)) := hM.cell 1 rfl 4
  have mb2 : bm < w2.heap.size := (hM.box 1 rfl).2.1
  have e1 : (x.filled : Int) < (nm : Int) := by omega
  have Hho := Lib.hid hho
  have Hlv := Lib.hid hlv
  clear hcell hM hcs hcc hnm HM2 hho hlv hml hfo hfl
  go_wp2_with fail
  go_quiet (fail)
  revert nq
  intro q1
  go_wp2_with fail
  go_quiet (fail)
  rw [World.drewN_drewN]
  have hC8 := HC2.out (q1 + nq)
  obtain ⟨W8, hW8⟩ : ∃ W8, w2.drewN (q1 + nq) = W8 := ⟨_, rfl⟩
  rw [hW8] at hC8 ⊢
  clear hW8 m3 m4 mc mgb mb2 HC2
  obtain ⟨vo, cs, vr, bc, vm, vl, cc, hcs, hcc, hM⟩ := hC8
  have m4 : W8.cell? ⟨bm, 4, none⟩ = some (.int .i64 (x.filled : Int)) := hM.cell 1 rfl 4
  have f4 : W8.frozen? ⟨bm, 4, none⟩ = false := hM.free 1 rfl 4
  have mb2 : bm < W8.heap.size := (hM.box 1 rfl).2.1
  have hM9 := hM.setBox 1 rfl 4 (.int .i64 ((x.filled : Int) + 1))
  obtain ⟨W9, hW9⟩ : ∃ W9, W8.setCell ⟨bm, 4, none⟩ (.int .i64 ((x.filled : Int) + 1)) = W9 := ⟨_, rfl⟩
  rw [hW9] at hM9
  have hP9 : PM B w0 bx regs mv bm os { x with filled := x.filled + 1 } T1 W9 := ⟨vo, cs, vr, bc, vm, vl, cc, hcs, hcc, by
    have e : (.int .i64 ((x.filled : Int) + 1) : Value) = .int .i64 ((x.filled + 1 : Nat) : Int) := by simp
    rw [e] at hM9
    exact hM9⟩
  have hlv := Hlv.out
  have hlv2 : Lives os (i : Int) := hlv
  rw [← hcs] at hlv2
  obtain ⟨oc, hoc, hol2⟩ := lives_cs hlv2
  have O := oAt_of (A := pA bx regs mv bm bc x.made.length vo cs vr x.row (cpF cc) vm x.made (x.filled + 1) vl x.log x.times) (R := cc.map rowC ++ T1) (kp := 2) (vo := vo) (cs := cs) rfl
  have hM10 : Mem B w0 W9 (pA bx regs mv bm bc x.made.length vo cs vr x.row (cpF cc) vm x.made (x.filled + 1) vl x.log x.times ++ (objsE cs ++ (cc.map rowC ++ T1))) := by
    have e : (.int .i64 ((x.filled : Int) + 1) : Value) = .int .i64 ((x.filled + 1 : Nat) : Int) := by simp
    rw [e] at hM9
    exact hM9
  rw [Int.toNat_natCast] at hoc
  obtain ⟨g, cap, rfl, p0, _, pb⟩ := hM10.ptrAt O hoc
  obtain ⟨q0, qb, av, cv, hov⟩ := hM10.objAt O hoc
  rw [hov] at q0
  unfold ptrO at p0
  simp only at p0
  have m0 : W9.cell? ⟨bm, 0, none⟩ = some (.slice (some ⟨g, 0, none⟩) cs.length cap) := hM10.cell 1 rfl 0
  have mb9 : bm < W9.heap.size := (hM10.box 1 rfl).2.1
  have hilt : i < cs.length := (List.getElem?_eq_some_iff.1 hoc).1
  have e2 : (i : Int) < (cs.length : Int) := by omega
  obtain ⟨n, hn⟩ : ∃ n, oc.l.length = n := ⟨_, rfl⟩
  have hno : (objAt os (i : Int)).length = n := by
    rw [← hn, hol2, ← hcs]
  rw [hn] at q0
  have hn4 : n ≤ 4 := by rw [← hno]; exact hal
  have HP9 := Lib.hid hP9
  have HW9 := Lib.hid hW9
  have Hno := Lib.hid hno
  clear hM hM9 hM10 hcs hcc hlv hlv2 hoc hol2 O hn hno hilt hP9 hW9 hov
  go_upto_region 11 with (fail)
  rw [HW9.out]
  clear m4 f4 mb2
  go_wp2_with fail
  go_loopw [92, 8] (fun s92 _ wr => ∃ k : Nat, k ≤ n ∧ s92 = .int .i64 (k : Int) ∧ PM B w0 bx regs mv bm os { x with cps := (bringN os (x.cps, x.made) (i : Int) k).1, made := (bringN os (x.cps, x.made) (i : Int) k).2, filled := x.filled + 1 } T1 wr) (fun s92 _ _ => n - (intOf s92).toNat)
  case atStart => exact ⟨0, Nat.zero_le _, rfl, HP9.out⟩
  case round =>
    clear HP9 m0 mb9 p0 pb q0 qb
    obtain ⟨k, hk, rfl, hP⟩ := hrel
    have HP := Lib.hid hP
    clear hP
    by_cases hlt : k < n
    · have hb := HO.out.cp.bringN HO.out.clo Hho.out k
      have hcall := bring_any B w0 bx regs mv bm T1 wr os { x with cps := (bringN os (x.cps, x.made) (i : Int) k).1, made := (bringN os (x.cps, x.made) (i : Int) k).2, filled := x.filled + 1 } (i : Int) k (hb.2.1.pre.subset Hho.out) (by rw [Hno.out]; exact hlt) ⟨hb.1, HO.out.len, HO.out.clo, HO.out.flen, HO.out.num⟩ HP.out
      have Hcall := Lib.hid hcall
      have e3 : (k : Int) < (n : Int) := by omega
      clear hb hcall
      go_wp2_with fail
      refine Hcall.out.mono ?_
      rintro e w3 ⟨rfl, hP3⟩
      have HP3 := Lib.hid hP3
      clear hP3 Hcall HP
      go_wp2_with fail
      go_roundw
      case rel => exact ⟨k + 1, by omega, by go_num, HP3.out⟩
      case measure => simp [intOf]; omega
    · obtain rfl : k = n := by omega
      go_wp2_with fail
      refine bodyPost_ret (results_none rfl _ _ _) rfl ?_
      refine ⟨rfl, ?_⟩
      rw [Hws.out, Hno.out]
      have h1 := HP.out
      rw [← HT1.out] at h1
      exact h1.dropEnd
end
end Go.Proofs.Ytmmcjjklmcfegaa
