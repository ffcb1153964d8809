/- A memory that is copied: what it holds; copied, walked. -/
import Derived.Test.YtmmcjjklmcfegaaRpb
import Derived.Test.YtmmcjjklmcfegaaLog
import Derived.Test.YtmmcjjklmcfegaaQ4
import Derived.Test.YtmmcjjklmcfegaaQ0
import Derived.Test.YtmmcjjklmcfegaaMpv
import Derived.Deep.CutBlock
import Derived.Deep.RegionLaw
namespace Go.Proofs.Ytmmcjjklmcfegaa
open Go.RowKit Go.Shelf

abbrev Cc := List (Option (Value × List V))
def cpF (cc : Cc) : Int → Option Value := fun i => if 0 ≤ i then ((cc[i.toNat]?).getD none).map Prod.fst else none
def contsC (cc : Cc) : Cps := cc.map (Option.map Prod.snd)
def rowC : Option (Value × List V) → Ent
  | none => enone
  | some p => rowV 80 p.1 p.2
theorem contsC_len (cc : Cc) : (contsC cc).length = cc.length := by simp [contsC]
theorem cpAt_conts (cc : Cc) (i : Int) : cpAt (contsC cc) i = ((cc[i.toNat]?).getD none).map Prod.snd := by
  unfold cpAt contsC
  rw [List.getElem?_map]
  cases cc[i.toNat]? <;> rfl
theorem cpF_none {cc : Cc} {i : Int} (h : cpAt (contsC cc) i = none) : cpF cc i = none := by
  rw [cpAt_conts] at h
  unfold cpF
  split
  · cases hc : (cc[i.toNat]?).getD none with
    | none => rfl
    | some p => rw [hc] at h; cases h
  · rfl
theorem cpF_some {cc : Cc} {i : Int} (h0 : 0 ≤ i) {l : List V} (h : cpAt (contsC cc) i = some l) : ∃ v, cpF cc i = some v ∧ cc[i.toNat]? = some (some (v, l)) := by
  rw [cpAt_conts] at h
  unfold cpF
  rw [if_pos h0]
  cases hc : cc[i.toNat]? with
  | none => rw [hc] at h; cases h
  | some c =>
    rw [hc] at h
    cases c with
    | none => cases h
    | some p =>
      obtain ⟨v, l2⟩ := p
      cases h
      exact ⟨v, rfl, rfl⟩
theorem cpF_put {cc : Cc} {i : Int} (h0 : 0 ≤ i) (hl : i < cc.length) (v : Value) (l : List V) : (fun u => if u = i then some v else cpF cc u) = cpF (cc.set i.toNat (some (v, l))) := by
  funext u
  by_cases h : u = i
  · subst h
    rw [if_pos rfl]
    unfold cpF
    rw [if_pos h0, List.getElem?_set_self (by omega)]; rfl
  · rw [if_neg h]
    unfold cpF
    by_cases hu : 0 ≤ u
    · rw [if_pos hu, if_pos hu, List.getElem?_set_ne (by omega)]
    · rw [if_neg hu, if_neg hu]
theorem contsC_set (cc : Cc) (i : Nat) (v : Value) (l : List V) : contsC (cc.set i (some (v, l))) = (contsC cc).set i (some l) := by unfold contsC; rw [List.map_set]; rfl
def boxP (bm bc : Nat) (vo vr vm : Value) (fil : Nat) (vl : Value) (times : Int) : Ent := ebox bm #[vo, vr, .map (some bc), vm, .int .i64 (fil : Int), vl, .int .i64 times] 115
/-- The machine's box, the memory's, the objects' row, the row, where copies lie, which there are, and what waits. -/
@[reducible] def pA (bx : Nat) (regs : List V) (mv : Value) (bm bc nc : Nat) (vo : Value) (cs : List (Option Oc)) (vr : Value) (row : List Int) (f : Int → Option Value) (vm : Value) (made : List Int) (fil : Nat) (vl : Value) (log : List (Int × Nat)) (times : Int) : List Ent :=
  [mbox bx regs mv, boxP bm bc vo vr vm fil vl times, rowP vo cs, rowI 3 vr row, gmap mapIV bc nc f, rowI 3 vm made, logE 149 vl log]
/-- A machine with such a memory. -/
def PM (B : Nat) (w0 : World) (bx : Nat) (regs : List V) (mv : Value) (bm : Nat) (os : Os) (x : Px) (T : List Ent) (w : World) : Prop :=
  ∃ vo cs vr bc vm vl cc, conts cs = os ∧ contsC cc = x.cps ∧ Mem B w0 w (pA bx regs mv bm bc x.made.length vo cs vr x.row (cpF cc) vm x.made x.filled vl x.log x.times ++ (objsE cs ++ (cc.map rowC ++ T)))
section
variable (B : Nat) (w0 : World) (bx : Nat) (regs : List V) (mv : Value) (bm : Nat)
set_option maxRecDepth 100000 in
set_option maxHeartbeats 4000000 in
theorem copied_any (T : List Ent) (w : World) (os : Os) (x : Px) (v : V) (hvn : i64ok v.n) (hv : v.ref = true → Lives os v.n) (hcp : x.cps.length = os.length) (hl : os.length ≤ 1000) (hml : x.made.length ≤ 1000) (h4 : (objAt os v.n).length ≤ 4) (hC : PM B w0 bx regs mv bm os x T w) :
    Calls Try.prog 79 #[.pointer (some ⟨bm, 0, none⟩), .agg #[.bool v.ref, .int .i64 v.n]] w fun e w' => e = .returned (.bool (needs x.cps v)) ∧
      PM B w0 bx regs mv bm os { x with cps := (copied os (x.cps, x.made) v).1, made := (copied os (x.cps, x.made) v).2 } T w' := by
  obtain ⟨vo, cs, vr, bc, vm, vl, cc, rfl, hcc, hM⟩ := hC
  have hM1 := (hM.alloc #[.bool v.ref, .int .i64 v.n] 80).perm (L' := pA bx regs mv bm bc x.made.length vo cs vr x.row (cpF cc) vm x.made x.filled vl x.log x.times ++ (objsE cs ++ (cc.map rowC ++ (T ++ [ebox w.heap.size #[.bool v.ref, .int .i64 v.n] 80])))) (by
    have e : pA bx regs mv bm bc x.made.length vo cs vr x.row (cpF cc) vm x.made x.filled vl x.log x.times ++ (objsE cs ++ (cc.map rowC ++ (T ++ [ebox w.heap.size #[.bool v.ref, .int .i64 v.n] 80]))) = (pA bx regs mv bm bc x.made.length vo cs vr x.row (cpF cc) vm x.made x.filled vl x.log x.times ++ (objsE cs ++ (cc.map rowC ++ T))) ++ [ebox w.heap.size #[.bool v.ref, .int .i64 v.n] 80] := by simp only [List.append_assoc]
    rw [e]
    exact List.perm_append_singleton _ _)
  obtain ⟨b1, hb1⟩ : ∃ b1, w.heap.size = b1 := ⟨_, rfl⟩
  obtain ⟨W, hW⟩ : ∃ W, w.alloc (.cells #[.bool v.ref, .int .i64 v.n] 80) = W := ⟨_, rfl⟩
  obtain ⟨T2, hT2⟩ : ∃ T2, T ++ [ebox b1 #[.bool v.ref, .int .i64 v.n] 80] = T2 := ⟨_, rfl⟩
  rw [hW, hb1] at hM1
  have hmem : ebox b1 #[.bool v.ref, .int .i64 v.n] 80 ∈ pA bx regs mv bm bc x.made.length vo cs vr x.row (cpF cc) vm x.made x.filled vl x.log x.times ++ (objsE cs ++ (cc.map rowC ++ (T ++ [ebox b1 #[.bool v.ref, .int .i64 v.n] 80]))) := by
    refine List.mem_append_right _ (List.mem_append_right _ (List.mem_append_right _ (List.mem_append_right _ (List.mem_singleton.2 rfl))))
  have z0 : W.cell? ⟨b1, 0, none⟩ = some (.bool v.ref) := hM1.boxCell hmem 0 rfl
  have z1 : W.cell? ⟨b1, 1, none⟩ = some (.int .i64 v.n) := hM1.boxCell hmem 1 rfl
  have zb : b1 < W.heap.size := (hM1.boxFree hmem 0).2
  rw [hT2] at hM1
  have m2 : W.cell? ⟨bm, 2, none⟩ = some (.map (some bc)) := hM1.cell 1 rfl 2
  have mb : bm < W.heap.size := (hM1.box 1 rfl).2.1
  have hlk := (gmap_look (hM1.get 4 rfl) hvn).2
  have hback : ∀ (X : World) (x' : Px) (Q : List Ent), PM B w0 bx regs mv bm (conts cs) x' (T ++ Q) X → PM B w0 bx regs mv bm (conts cs) x' T X := by
    rintro X x' Q ⟨a1, a2, a3, a4, a5, a6, a7, a8, a9, a10⟩
    refine ⟨a1, a2, a3, a4, a5, a6, a7, a8, a9, a10.drop ?_⟩
    exact List.Sublist.append_left (List.Sublist.append_left (List.Sublist.append_left (List.sublist_append_left _ _) _) _) _
  have HT2 := Lib.hid hT2
  have HW := Lib.hid hW
  have Hb1 := Lib.hid hb1
  have Hcc := Lib.hid hcc
  have Hback := Lib.hid hback
  by_cases hn : needs x.cps v = true
  · have hn0 := hn
    unfold needs at hn
    rw [Bool.and_eq_true] at hn
    obtain ⟨hr, hno⟩ := hn
    have hno' : cpAt x.cps v.n = none := by simpa using hno
    have hlv := hv hr
    obtain ⟨i, hi⟩ : ∃ i : Nat, v.n = (i : Int) := ⟨v.n.toNat, by have := hlv.1; omega⟩
    have hcpd : copied (conts cs) (x.cps, x.made) v = (x.cps.set v.n.toNat (some (zerosV (objAt (conts cs) v.n).length)), x.made ++ [v.n]) := by unfold copied; rw [if_pos hn0]
    rw [hcpd]
    rw [cpF_none (by rw [hcc]; exact hno')] at hlk
    have L1 : (Instr.lookup 112 (.map (some bc)) (.int .i64 v.n) true).run Try.prog W = .ok (.tuple #[.slice none 0 0, .bool false]) W := hlk
    obtain ⟨o, ho, hol⟩ := lives_cs hlv
    have O := oAt_of (A := pA bx regs mv bm bc x.made.length vo cs vr x.row (cpF cc) vm x.made x.filled vl x.log x.times) (R := cc.map rowC ++ T2) (kp := 2) (vo := vo) (cs := cs) rfl
    obtain ⟨g, cap, rfl, p0, _, pb⟩ := hM1.ptrAt O ho
    obtain ⟨q0, qb, av, cv, hov⟩ := hM1.objAt O ho
    rw [hov] at q0
    unfold ptrO at p0
    simp only at p0
    have m0 : W.cell? ⟨bm, 0, none⟩ = some (.slice (some ⟨g, 0, none⟩) cs.length cap) := hM1.cell 1 rfl 0
    have hilt : v.n.toNat < cs.length := (List.getElem?_eq_some_iff.1 ho).1
    obtain ⟨n, hnl⟩ : ∃ n, o.l.length = n := ⟨_, rfl⟩
    have hn4 : n ≤ 4 := by rw [← hnl, hol]; exact h4
    obtain ⟨mk, hmk, hmkM, hmkB⟩ := make_funV elemVals n (by omega)
    rw [hnl] at q0
    have hMk := hmkM B w0 W.drew _ hM1.drew
    obtain ⟨Y, hY⟩ : ∃ Y, mk W.drew = Y := ⟨_, rfl⟩
    have hYB : Below W.heap.size W Y := by rw [← hY]; exact ((Below.refl _ W).drew).trans (hmkB W.drew)
    rw [hY] at hMk
    have y0 : Y.cell? ⟨bm, 0, none⟩ = _ := (hYB.cell (p := ⟨_, _, none⟩) mb).trans m0
    have y2 : Y.cell? ⟨bm, 2, none⟩ = _ := (hYB.cell (p := ⟨_, _, none⟩) mb).trans m2
    have yb : bm < Y.heap.size := Nat.lt_of_lt_of_le mb hYB.size
    have yp : Y.cell? ⟨g, v.n.toNat, none⟩ = _ := (hYB.cell (p := ⟨_, _, none⟩) pb).trans p0
    have yg : g < Y.heap.size := Nat.lt_of_lt_of_le pb hYB.size
    have yq : Y.cell? ⟨o.b, 0, none⟩ = _ := (hYB.cell (p := ⟨_, _, none⟩) qb).trans q0
    have yo : o.b < Y.heap.size := Nat.lt_of_lt_of_le qb hYB.size
    obtain ⟨w5, hput, hM5, hs5⟩ := hMk.run_putG 5 rfl (by omega) v.n (.slice (some ⟨W.heap.size, 0, none⟩) n n) hvn
    have hput2 : (Instr.mapUpdate 112 (.map (some bc)) (.int .i64 v.n) (.slice (some ⟨W.heap.size, 0, none⟩) n n)).run Try.prog Y = .ok () w5 := hput
    have hccl : cc.length = cs.length := by rw [← contsC_len, hcc, hcp, conts_len]
    have hcf := cpF_put (cc := cc) hlv.1 (by rw [hccl]; omega) (.slice (some ⟨W.heap.size, 0, none⟩) n n) (zerosV n)
    have hM6 : Mem B w0 w5 (pA bx regs mv bm bc (x.made.length + 1) (.slice (some ⟨g, 0, none⟩) cs.length cap) cs vr x.row (cpF (cc.set v.n.toNat (some (.slice (some ⟨W.heap.size, 0, none⟩) n n, zerosV n)))) vm x.made x.filled vl x.log x.times ++ (objsE cs ++ ((cc.set v.n.toNat (some (.slice (some ⟨W.heap.size, 0, none⟩) n n, zerosV n))).map rowC ++ T2))) := by
      rw [← hcf]
      have h0 : Mem B w0 w5 (rowV 80 (.slice (some ⟨W.heap.size, 0, none⟩) n n) (zerosV n) :: ((pA bx regs mv bm bc (x.made.length + 1) (.slice (some ⟨g, 0, none⟩) cs.length cap) cs vr x.row (fun u => if u = v.n then some (.slice (some ⟨W.heap.size, 0, none⟩) n n) else cpF cc u) vm x.made x.filled vl x.log x.times ++ objsE cs) ++ (cc.map rowC ++ T2))) := by
        refine hM5.cast ?_
        simp only [List.append_assoc]
        rfl
      obtain ⟨A, hA⟩ : ∃ A, pA bx regs mv bm bc (x.made.length + 1) (.slice (some ⟨g, 0, none⟩) cs.length cap) cs vr x.row (fun u => if u = v.n then some (.slice (some ⟨W.heap.size, 0, none⟩) n n) else cpF cc u) vm x.made x.filled vl x.log x.times ++ objsE cs = A := ⟨_, rfl⟩
      rw [hA] at h0
      have h1 := Mem.fill h0 (A.length + v.n.toNat) (by simp only [List.length_append, List.length_map]; omega)
      refine h1.cast ?_
      rw [List.set_append_right _ _ (by omega), show A.length + v.n.toNat - A.length = v.n.toNat by omega, List.set_append_left _ _ (by rw [List.length_map]; omega), ← hA, List.map_set]
      simp only [List.append_assoc]
      rfl
    have m3 : w5.cell? ⟨bm, 3, none⟩ = some vm := hM6.cell 1 rfl 3
    have f3 : w5.frozen? ⟨bm, 3, none⟩ = false := hM6.free 1 rfl 3
    have mb5 : bm < w5.heap.size := (hM6.box 1 rfl).2.1
    have e1 : (i : Int) < (cs.length : Int) := by omega
    have HM6 := Lib.hid hM6
    have Hhn := Lib.hid hn0
    have Hi := Lib.hid hi
    rw [hr] at z0 HW
    rw [hi] at z1 L1 hput2 hvn HW
    rw [hi, Int.toNat_natCast] at p0 yp HM6
    have Hzl : Hid ((objAt (conts cs) v.n).length = n) := Lib.hid (by rw [← hol]; exact hnl)
    have Hccs : Hid (contsC (cc.set i (some (.slice (some ⟨W.heap.size, 0, none⟩) n n, zerosV n))) = x.cps.set (i : Int).toNat (some (zerosV (objAt (conts cs) (i : Int)).length))) := Lib.hid (by rw [Int.toNat_natCast, contsC_set, hcc, ← hi, ← hol, hnl])
    have HY := Lib.hid hY
    have hml2 : x.made.length ≤ 1000000 := by omega
    rw [hr, hi]
    obtain ⟨bY, hbY⟩ : ∃ bY, W.heap.size = bY := ⟨_, rfl⟩
    rw [hbY] at hput2 HM6 Hccs zb mb pb qb
    have hkY : Sem.run Try.prog (Instr.makeSlice 23 (.int .i64 n) (.int .i64 n)) W.drew = .ok (.slice (some ⟨bY, 0, none⟩) n n) Y := by
      rw [hmk, hY, ← hbY]; rfl
    have HbY := Lib.hid hbY
    clear hM hM1 hmem hW hb1 hT2 hlk hcc hback hv hcp hn0 hno hno' hlv hcpd ho hol O hov hMk hYB hmk hmkM hmkB hY hM5 hput hM6 hcf hccl hnl hi hr h4 hs5 hilt hbY
    go_enter Try.func79, Try.ntmps79
    go_upto_region 1 with (fail)
    rw [HW.out, Hb1.out]
    go_upto_region 5 with (fail)
    go_cut [] (fun W' => w5 = W')
    case first =>
      go_region_law (fail)
      all_goals
        go_wp2_with fail
        go_meet
        rfl
    case rest =>
      obtain rfl := hcut
      clear hput2 hkY y0 y2 yb yp yg yq yo p0 pb q0 qb m0 m2 mb z0 z1 zb L1
      go_wp2_with (first
        | (at_builtin
           refine Mem.wp_appI elemInts rfl (.tmp 46) (.tmp 48) rfl HM6.out 5 rfl rfl _ (i : Int) _ _ rfl (by simp) hml2 ?_
           intro ad n1 cp w6 hn1 hM7 hs7 hk7 ha7
           have x3 := hM7.cell 1 rfl 3
           have xf := hM7.free 1 rfl 3
           have xb := (hM7.box 1 rfl).2.1
           have HM8 := Lib.hid (hM7.setBox 1 rfl 3 (.slice ad n1 cp))
           clear hM7)
        | fail)
      go_ret
      rw [Hhn.out]
      refine ⟨rfl, Hback.out _ _ [ebox b1 #[.bool v.ref, .int .i64 v.n] 80] ?_⟩
      rw [HT2.out]
      refine ⟨.slice (some ⟨g, 0, none⟩) cs.length cap, cs, vr, bc, .slice ad n1 cp, vl, _, rfl, Hccs.out, ?_⟩
      have h9 := HM8.out
      have e9 : (x.made ++ [(i : Int)]).length = x.made.length + 1 := by simp
      show Mem B w0 _ (pA bx regs mv bm bc (x.made ++ [(i : Int)]).length _ cs vr x.row _ _ (x.made ++ [(i : Int)]) x.filled vl x.log x.times ++ _)
      rw [e9]
      exact h9
  · have hn1 : needs x.cps v = false := by simpa using hn
    have hcpd : copied (conts cs) (x.cps, x.made) v = (x.cps, x.made) := by unfold copied; rw [if_neg hn]
    rw [hcpd, hn1]
    have HM := Lib.hid hM1
    cases hr : v.ref with
    | false =>
      rw [hr] at z0 HW
      have L1 : ∃ u c, (Instr.lookup 112 (.map (some bc)) (.int .i64 v.n) true).run Try.prog W = .ok (.tuple #[u, .bool c]) W := ⟨_, _, hlk⟩
      obtain ⟨u, c, L1⟩ := L1
      clear hM hM1 hmem hW hb1 hT2 hlk hcc hback hv hcp hn hn1 hcpd
      go_enter Try.func79, Try.ntmps79
      go_upto_region 1 with (fail)
      rw [HW.out, Hb1.out]
      go_wp2_with fail
      go_ret
      refine ⟨rfl, Hback.out _ _ [ebox b1 #[.bool v.ref, .int .i64 v.n] 80] ?_⟩
      rw [HT2.out]
      exact ⟨_, cs, vr, bc, _, vl, cc, rfl, Hcc.out, HM.out⟩
    | true =>
      have hlv := hv hr
      have hsome : (cpAt (contsC cc) v.n).isSome = true := by
        rw [hcc]
        unfold needs at hn1
        rw [hr] at hn1
        cases hc : cpAt x.cps v.n with
        | none => rw [hc] at hn1; cases hn1
        | some _ => rfl
      obtain ⟨l, hl2⟩ := Option.isSome_iff_exists.1 hsome
      obtain ⟨u, hu, _⟩ := cpF_some hlv.1 hl2
      rw [hu] at hlk
      have L1 : (Instr.lookup 112 (.map (some bc)) (.int .i64 v.n) true).run Try.prog W = .ok (.tuple #[u, .bool true]) W := hlk
      rw [hr] at z0 HW
      clear hM hM1 hmem hW hb1 hT2 hlk hcc hback hv hcp hn hn1 hcpd hl2 hu hlv hsome
      go_enter Try.func79, Try.ntmps79
      go_upto_region 1 with (fail)
      rw [HW.out, Hb1.out]
      go_wp2_with fail
      go_ret
      refine ⟨rfl, Hback.out _ _ [ebox b1 #[.bool v.ref, .int .i64 v.n] 80] ?_⟩
      rw [HT2.out]
      exact ⟨_, cs, vr, bc, _, vl, cc, rfl, Hcc.out, HM.out⟩
end
end Go.Proofs.Ytmmcjjklmcfegaa
