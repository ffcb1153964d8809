/- A memory that is copied: a work that takes up a change, walked. -/
import Derived.Test.YtmmcjjklmcfegaaRpg
namespace Go.Proofs.Ytmmcjjklmcfegaa
open Go.RowKit Go.Shelf

section
variable (B : Nat) (w0 : World) (bx : Nat) (regs : List V) (mv : Value) (bm : Nat)
def WorkSays (rg : List V) (os : Os) (x : Px) (T : List Ent) (e : Ending) (w' : World) : Prop :=
  e = .returned (.tuple #[]) ∧ PM B w0 bx regs mv bm (workP ⟨rg, os, x⟩).os (workP ⟨rg, os, x⟩).x T w'
variable {B w0 bx regs mv bm} in
theorem PM.boxCell {os : Os} {x : Px} {T : List Ent} {X : World} (h : PM B w0 bx regs mv bm os x T X) {b : Nat} {c : Array Value} {t : TypeId} (hm : ebox b c t ∈ T) (j : Nat) {u : Value} (hj : c[j]? = some u) : X.cell? ⟨b, j, none⟩ = some u ∧ X.frozen? ⟨b, j, none⟩ = false ∧ b < X.heap.size := by
  obtain ⟨L, h1, h2⟩ := h.tail
  exact ⟨h1.boxCell (h2 _ hm) j hj, (h1.boxFree (h2 _ hm) j).1, (h1.boxFree (h2 _ hm) j).2⟩
set_option maxRecDepth 100000 in
set_option maxHeartbeats 8000000 in
theorem work_log (T : List Ent) (w : World) (rg : List V) (os : Os) (x : Px) (h8 : rg.length = 8) (hQ : InvQ ⟨rg, os, x⟩) (o : Int) (k : Nat) (l : List (Int × Nat)) (hlog : x.log = (o, k) :: l) (hll : l.length ≤ 1000) (hC : PM B w0 bx regs mv bm os x T w) :
    Calls Try.prog 51 #[.pointer (some ⟨bm, 0, none⟩), regsV rg] w fun e w' => WorkSays B w0 bx regs mv bm rg os x T e w' := by
  unfold WorkSays
  have hws : workP ⟨rg, os, x⟩ = if (cpAt x.cps o).isSome then ⟨rg, os, { x with cps := (bring os (x.cps, x.made) o k).1, made := (bring os (x.cps, x.made) o k).2, log := l }⟩ else ⟨rg, os, { x with log := l }⟩ := by
    unfold workP
    simp only [hlog]
  obtain ⟨S, hS⟩ : ∃ S, workP ⟨rg, os, x⟩ = S := ⟨_, rfl⟩
  rw [hS] at hws ⊢
  obtain ⟨v0, v1, v2, v3, v4, v5, v6, v7, hv8⟩ := eight h8
  have hrv : regsV rg = .agg #[.bool v0.ref, .int .i64 v0.n, .bool v1.ref, .int .i64 v1.n, .bool v2.ref, .int .i64 v2.n, .bool v3.ref, .int .i64 v3.n, .bool v4.ref, .int .i64 v4.n, .bool v5.ref, .int .i64 v5.n, .bool v6.ref, .int .i64 v6.n, .bool v7.ref, .int .i64 v7.n] := by rw [hv8]; rfl
  rw [hrv]
  have hO := hQ.okP
  obtain ⟨hlv, hkl⟩ := hQ.log (o, k) (by show (o, k) ∈ x.log; rw [hlog]; exact List.mem_cons_self ..)
  simp only at hlv hkl
  have hoi : i64ok o := by
    have h1 := hlv.lt
    have h2 := hlv.1
    have h3 := hO.len
    simp only at h3
    exact ⟨by omega, by omega⟩
  have hC1 := hC.allocEnd #[.bool v0.ref, .int .i64 v0.n, .bool v1.ref, .int .i64 v1.n, .bool v2.ref, .int .i64 v2.n, .bool v3.ref, .int .i64 v3.n, .bool v4.ref, .int .i64 v4.n, .bool v5.ref, .int .i64 v5.n, .bool v6.ref, .int .i64 v6.n, .bool v7.ref, .int .i64 v7.n] 82
  obtain ⟨b3, hb3⟩ : ∃ b3, w.heap.size = b3 := ⟨_, rfl⟩
  obtain ⟨W, hW⟩ : ∃ W, w.alloc (.cells #[.bool v0.ref, .int .i64 v0.n, .bool v1.ref, .int .i64 v1.n, .bool v2.ref, .int .i64 v2.n, .bool v3.ref, .int .i64 v3.n, .bool v4.ref, .int .i64 v4.n, .bool v5.ref, .int .i64 v5.n, .bool v6.ref, .int .i64 v6.n, .bool v7.ref, .int .i64 v7.n] 82) = W := ⟨_, rfl⟩
  rw [hW, hb3] at hC1
  obtain ⟨vo, cs, vr, bc, vm, vl, cc, hcs, hcc, hM⟩ := hC1
  rw [hlog] at hM
  obtain ⟨g, off, cap, rfl, p0, p1, pb, hcap, hcm, _, _⟩ := hM.logHead 6 rfl
  have m5 : W.cell? ⟨bm, 5, none⟩ = some (.slice (some ⟨g, off, none⟩) (l.length + 1) cap) := hM.cell 1 rfl 5
  have f5 : W.frozen? ⟨bm, 5, none⟩ = false := hM.free 1 rfl 5
  have mb : bm < W.heap.size := (hM.box 1 rfl).2.1
  obtain ⟨b4, hb4⟩ : ∃ b4, W.heap.size = b4 := ⟨_, rfl⟩
  have hMa := hM.allocAt b4 hb4 #[.int .i64 o, .int .i64 (k : Int)] 149
  obtain ⟨Wa, hWa⟩ : ∃ Wa, W.alloc (.cells #[.int .i64 o, .int .i64 (k : Int)] 149) = Wa := ⟨_, rfl⟩
  rw [hWa] at hMa
  obtain ⟨g2, off2, cap2, hv2, _, _, _, _, _, hA1, hA2⟩ := hMa.logHead 7 rfl
  cases hv2
  have a5 : Wa.cell? ⟨bm, 5, none⟩ = some (.slice (some ⟨g, off, none⟩) (l.length + 1) cap) := hMa.cell 2 rfl 5
  have af5 : Wa.frozen? ⟨bm, 5, none⟩ = false := hMa.free 2 rfl 5
  have ab : bm < Wa.heap.size := (hMa.box 2 rfl).2.1
  have ag : g < Wa.heap.size := by have : W.heap.size ≤ Wa.heap.size := by rw [← hWa]; simp
                                   omega
  obtain ⟨T1, hT1⟩ : ∃ T1, T ++ [ebox b3 #[.bool v0.ref, .int .i64 v0.n, .bool v1.ref, .int .i64 v1.n, .bool v2.ref, .int .i64 v2.n, .bool v3.ref, .int .i64 v3.n, .bool v4.ref, .int .i64 v4.n, .bool v5.ref, .int .i64 v5.n, .bool v6.ref, .int .i64 v6.n, .bool v7.ref, .int .i64 v7.n] 82] = T1 := ⟨_, rfl⟩
  rw [hT1] at hMa hA1 hA2
  have hstate : ∀ nv, Mem B w0 Wa (ebox b4 #[.int .i64 o, .int .i64 (k : Int)] 149 :: mbox bx regs mv :: boxP bm bc vo vr vm x.filled (.slice (some ⟨g, off, none⟩) (l.length + 1) cap) x.times :: rowP vo cs :: rowI 3 vr x.row :: gmap mapIV bc x.made.length (cpF cc) :: rowI 3 vm x.made :: logE 149 nv l :: (objsE cs ++ (cc.map rowC ++ T1))) →
      PM B w0 bx regs mv bm os { x with log := l } (T1 ++ [ebox b4 #[.int .i64 o, .int .i64 (k : Int)] 149]) (Wa.setCell ⟨bm, 5, none⟩ nv) := by
    intro nv h
    have h5 := h.setBox 2 rfl 5 nv
    refine ⟨vo, cs, vr, bc, vm, nv, cc, hcs, hcc, ?_⟩
    refine h5.perm ?_
    have e : pA bx regs mv bm bc x.made.length vo cs vr x.row (cpF cc) vm x.made x.filled nv l x.times ++ (objsE cs ++ (cc.map rowC ++ (T1 ++ [ebox b4 #[.int .i64 o, .int .i64 (k : Int)] 149]))) = (pA bx regs mv bm bc x.made.length vo cs vr x.row (cpF cc) vm x.made x.filled nv l x.times ++ (objsE cs ++ (cc.map rowC ++ T1))) ++ [ebox b4 #[.int .i64 o, .int .i64 (k : Int)] 149] := by simp only [List.append_assoc]
    show (pA bx regs mv bm bc x.made.length vo cs vr x.row (cpF cc) vm x.made x.filled nv l x.times ++ (objsE cs ++ (cc.map rowC ++ (T1 ++ [ebox b4 #[.int .i64 o, .int .i64 (k : Int)] 149])))).Perm _
    rw [e]
    exact List.perm_append_singleton _ _
  have hst : ∃ nv, (if cap - 1 = 0 then (Value.slice (some ⟨g, off, none⟩) l.length (cap - 1)) else .slice (some ⟨g, off + 2, none⟩) l.length (cap - 1)) = nv ∧ PM B w0 bx regs mv bm os { x with log := l } (T1 ++ [ebox b4 #[.int .i64 o, .int .i64 (k : Int)] 149]) (Wa.setCell ⟨bm, 5, none⟩ nv) := by
    by_cases hc1 : cap = 1
    · have hl0 : l = [] := List.eq_nil_of_length_eq_zero (by omega)
      refine ⟨_, rfl, ?_⟩
      rw [if_pos (by omega)]
      have h1 := hstate _ (hA1 hc1)
      have e0 : (Value.slice (some ⟨g, off, none⟩) l.length (cap - 1)) = .slice (some ⟨g, off, none⟩) 0 0 := by rw [hl0, hc1]; rfl
      rw [e0]; exact h1
    · refine ⟨_, rfl, ?_⟩
      rw [if_neg (by omega)]
      exact hstate _ (hA2 (by omega))
  obtain ⟨nv, hnv, hP5⟩ := hst
  have HW := Lib.hid hW
  have Hb3 := Lib.hid hb3
  have Hb4 := Lib.hid hb4
  have HWa := Lib.hid hWa
  have Hws := Lib.hid hws
  have HO := Lib.hid hO
  have HP5 := Lib.hid hP5
  have HT1 := Lib.hid hT1
  have Hnv := Lib.hid hnv
  have Hlv := Lib.hid (And.intro hlv hkl)
  have Hoi := Lib.hid hoi
  obtain ⟨n, hn⟩ : ∃ n, l.length = n := ⟨_, rfl⟩
  rw [hn] at m5 hcap hll a5 Hnv
  have e0 : (0 : Int) < (n : Int) + 1 := by omega
  have e1 : (1 : Int) ≤ (n : Int) + 1 := by omega
  have e2 : (1 : Nat) ≤ n + 1 := by omega
  clear hC hW hb3 hb4 hWa hws hO hcs hcc hlv hkl hrv hv8 hS hlog hM h8 hn hMa hA1 hA2 hstate hP5 hT1 hnv
  go_enter Try.func51, Try.ntmps51
  go_upto_region 1 with (fail)
  rw [HW.out, Hb3.out]
  go_upto_region 3 with (fail)
  rw [HWa.out, Hb4.out]
  clear m5 f5 mb pb p0 p1 hcm
  by_cases hc1 : cap - 1 = 0
  · have hN := Hnv.out
    rw [if_pos hc1, hc1] at hN
    subst hN
    go_upto_region 4 with (fail)
    obtain ⟨W5, hW5⟩ : ∃ W5, Wa.setCell ⟨bm, 5, none⟩ (.slice (some ⟨g, off, none⟩) n 0) = W5 := ⟨_, rfl⟩
    have hP := HP5.out
    rw [hW5] at hP ⊢
    have hx0 := hP.boxCell (List.mem_append_right _ (List.mem_singleton.2 rfl)) 0 rfl
    have hx1 := (hP.boxCell (List.mem_append_right _ (List.mem_singleton.2 rfl)) 1 rfl).1
    obtain ⟨xx0, _, xb⟩ := hx0
    have HP := Lib.hid hP
    obtain ⟨vo2, cs2, vr2, bc2, vm2, vl2, cc2, hcs2, hcc2, hM2⟩ := hP
    have m2 : W5.cell? ⟨bm, 2, none⟩ = some (.map (some bc2)) := hM2.cell 1 rfl 2
    have mb2 : bm < W5.heap.size := (hM2.box 1 rfl).2.1
    have hlk := fun q => (gmap_look ((hM2.drewN q).get 4 rfl) Hoi.out).2
    obtain ⟨uv, huv⟩ : ∃ uv, (cpF cc2 o).getD mapIV.zero = uv := ⟨_, rfl⟩
    obtain ⟨ub, hub⟩ : ∃ ub, (cpF cc2 o).isSome = ub := ⟨_, rfl⟩
    rw [huv, hub] at hlk
    have L1 : ∀ q, (Instr.lookup 112 (.map (some bc2)) (.int .i64 o) true).run Try.prog (W5.drewN q) = .ok (.tuple #[uv, .bool ub]) (W5.drewN q) := hlk
    have hub2 : (cpAt x.cps o).isSome = ub := by
      rw [← hub, ← show contsC cc2 = x.cps from hcc2]
      cases hcp : cpAt (contsC cc2) o with
      | none => rw [cpF_none hcp]; rfl
      | some l1 =>
        obtain ⟨v1, h1, _⟩ := cpF_some Hlv.out.1.1 hcp
        rw [h1]; rfl
    have HU := Lib.hid hub2
    clear HP5 hW5 a5 af5 ag hx1 hlk huv hub hub2 hM2 hcs2 hcc2
    have y1 : W5.cell? ⟨b4, 1, none⟩ = some (.int .i64 (k : Int)) := (HP.out.boxCell (List.mem_append_right _ (List.mem_singleton.2 rfl)) 1 rfl).1
    cases ub with
    | false =>
      go_quiet (fail)
      go_wp2_with fail
      refine bodyPost_ret (results_none rfl _ _ _) rfl ?_
      refine ⟨rfl, ?_⟩
      rw [Hws.out, if_neg (by rw [HU.out]; decide)]
      have h1 := (HP.out.dropEnd).call (below_drewN (Below.refl _ _) nq)
      rw [← HT1.out] at h1
      exact h1.dropEnd
    | true =>
      have Hbr : Hid (∀ X, PM B w0 bx regs mv bm os { x with log := l } (T1 ++ [ebox b4 #[.int .i64 o, .int .i64 (k : Int)] 149]) X → Calls Try.prog 77 #[.pointer (some ⟨bm, 0, none⟩), .int .i64 o, .int .i64 (k : Int)] X fun e w' => e = .returned (.tuple #[]) ∧
          PM B w0 bx regs mv bm os { x with cps := (bring os (x.cps, x.made) o k).1, made := (bring os (x.cps, x.made) o k).2, log := l } (T1 ++ [ebox b4 #[.int .i64 o, .int .i64 (k : Int)] 149]) w') := Lib.hid fun X hX =>
        bring_any B w0 bx regs mv bm _ X os { x with log := l } o k ((HO.out.cp.iff o).2 ⟨Hlv.out.1.1, HU.out⟩) Hlv.out.2 ⟨HO.out.cp, HO.out.len, HO.out.clo, HO.out.flen, HO.out.num⟩ hX
      go_quiet (fail)
      have hP6 := HP.out.call (below_drewN (Below.refl _ _) nq)
      obtain ⟨W6, hW6⟩ : ∃ W6, W5.drewN nq = W6 := ⟨_, rfl⟩
      rw [hW6] at hP6 ⊢
      have z0 := hP6.boxCell (List.mem_append_right _ (List.mem_singleton.2 rfl)) 0 rfl
      have z1 := (hP6.boxCell (List.mem_append_right _ (List.mem_singleton.2 rfl)) 1 rfl).1
      obtain ⟨z0, _, zb⟩ := z0
      have Hc := Lib.hid (Hbr.out _ hP6)
      clear hW6 hP6 xx0 y1 xb HP m2 mb2 L1 Hbr
      go_wp2_with fail
      refine Hc.out.mono ?_
      rintro e w7 ⟨rfl, hP7⟩
      have HP7 := Lib.hid hP7
      clear hP7
      go_wp2_with fail
      refine bodyPost_ret (results_none rfl _ _ _) rfl ?_
      refine ⟨rfl, ?_⟩
      rw [Hws.out, if_pos HU.out]
      have h1 := HP7.out.dropEnd
      rw [← HT1.out] at h1
      exact h1.dropEnd
  · have hN := Hnv.out
    rw [if_neg hc1] at hN
    subst hN
    go_upto_region 4 with (fail)
    obtain ⟨W5, hW5⟩ : ∃ W5, Wa.setCell ⟨bm, 5, none⟩ (.slice (some ⟨g, off + 2, none⟩) n (cap - 1)) = W5 := ⟨_, rfl⟩
    have hP := HP5.out
    rw [hW5] at hP ⊢
    have hx0 := hP.boxCell (List.mem_append_right _ (List.mem_singleton.2 rfl)) 0 rfl
    have hx1 := (hP.boxCell (List.mem_append_right _ (List.mem_singleton.2 rfl)) 1 rfl).1
    obtain ⟨xx0, _, xb⟩ := hx0
    have HP := Lib.hid hP
    obtain ⟨vo2, cs2, vr2, bc2, vm2, vl2, cc2, hcs2, hcc2, hM2⟩ := hP
    have m2 : W5.cell? ⟨bm, 2, none⟩ = some (.map (some bc2)) := hM2.cell 1 rfl 2
    have mb2 : bm < W5.heap.size := (hM2.box 1 rfl).2.1
    have hlk := fun q => (gmap_look ((hM2.drewN q).get 4 rfl) Hoi.out).2
    obtain ⟨uv, huv⟩ : ∃ uv, (cpF cc2 o).getD mapIV.zero = uv := ⟨_, rfl⟩
    obtain ⟨ub, hub⟩ : ∃ ub, (cpF cc2 o).isSome = ub := ⟨_, rfl⟩
    rw [huv, hub] at hlk
    have L1 : ∀ q, (Instr.lookup 112 (.map (some bc2)) (.int .i64 o) true).run Try.prog (W5.drewN q) = .ok (.tuple #[uv, .bool ub]) (W5.drewN q) := hlk
    have hub2 : (cpAt x.cps o).isSome = ub := by
      rw [← hub, ← show contsC cc2 = x.cps from hcc2]
      cases hcp : cpAt (contsC cc2) o with
      | none => rw [cpF_none hcp]; rfl
      | some l1 =>
        obtain ⟨v1, h1, _⟩ := cpF_some Hlv.out.1.1 hcp
        rw [h1]; rfl
    have HU := Lib.hid hub2
    clear HP5 hW5 a5 af5 ag hx1 hlk huv hub hub2 hM2 hcs2 hcc2
    have y1 : W5.cell? ⟨b4, 1, none⟩ = some (.int .i64 (k : Int)) := (HP.out.boxCell (List.mem_append_right _ (List.mem_singleton.2 rfl)) 1 rfl).1
    cases ub with
    | false =>
      go_quiet (fail)
      go_wp2_with fail
      refine bodyPost_ret (results_none rfl _ _ _) rfl ?_
      refine ⟨rfl, ?_⟩
      rw [Hws.out, if_neg (by rw [HU.out]; decide)]
      have h1 := (HP.out.dropEnd).call (below_drewN (Below.refl _ _) nq)
      rw [← HT1.out] at h1
      exact h1.dropEnd
    | true =>
      have Hbr : Hid (∀ X, PM B w0 bx regs mv bm os { x with log := l } (T1 ++ [ebox b4 #[.int .i64 o, .int .i64 (k : Int)] 149]) X → Calls Try.prog 77 #[.pointer (some ⟨bm, 0, none⟩), .int .i64 o, .int .i64 (k : Int)] X fun e w' => e = .returned (.tuple #[]) ∧
          PM B w0 bx regs mv bm os { x with cps := (bring os (x.cps, x.made) o k).1, made := (bring os (x.cps, x.made) o k).2, log := l } (T1 ++ [ebox b4 #[.int .i64 o, .int .i64 (k : Int)] 149]) w') := Lib.hid fun X hX =>
        bring_any B w0 bx regs mv bm _ X os { x with log := l } o k ((HO.out.cp.iff o).2 ⟨Hlv.out.1.1, HU.out⟩) Hlv.out.2 ⟨HO.out.cp, HO.out.len, HO.out.clo, HO.out.flen, HO.out.num⟩ hX
      go_quiet (fail)
      have hP6 := HP.out.call (below_drewN (Below.refl _ _) nq)
      obtain ⟨W6, hW6⟩ : ∃ W6, W5.drewN nq = W6 := ⟨_, rfl⟩
      rw [hW6] at hP6 ⊢
      have z0 := hP6.boxCell (List.mem_append_right _ (List.mem_singleton.2 rfl)) 0 rfl
      have z1 := (hP6.boxCell (List.mem_append_right _ (List.mem_singleton.2 rfl)) 1 rfl).1
      obtain ⟨z0, _, zb⟩ := z0
      have Hc := Lib.hid (Hbr.out _ hP6)
      clear hW6 hP6 xx0 y1 xb HP m2 mb2 L1 Hbr
      go_wp2_with fail
      refine Hc.out.mono ?_
      rintro e w7 ⟨rfl, hP7⟩
      have HP7 := Lib.hid hP7
      clear hP7
      go_wp2_with fail
      refine bodyPost_ret (results_none rfl _ _ _) rfl ?_
      refine ⟨rfl, ?_⟩
      rw [Hws.out, if_pos HU.out]
      have h1 := HP7.out.dropEnd
      rw [← HT1.out] at h1
      exact h1.dropEnd
end
end Go.Proofs.Ytmmcjjklmcfegaa
