/- Counting: an object goes, and what it pointed at loses one reference each. -/
import Derived.Test.YtmmcjjklmcfegaaR1
namespace Go.Proofs.Ytmmcjjklmcfegaa
open Go.RowKit Go.Shelf

/-- An object's values kept when the object itself goes. -/
theorem objs_take {B : Nat} {w0 w : World} {A T : List Ent} {cs : List (Option Oc)} {i : Nat} {o : Oc} (hi : cs[i]? = some (some o)) (h : Mem B w0 w (A ++ (objsE cs ++ T))) :
    Mem B w0 w (A ++ (objsE (cs.set i none) ++ (rowV 80 o.v o.l :: T))) := by
  have hlt : i < cs.length := (List.getElem?_eq_some_iff.1 hi).1
  have h1 := h.forget (A.length + i) (by rw [List.length_append, List.length_append, objsE_len]; omega)
  rw [List.set_append_right _ _ (by omega), show A.length + i - A.length = i by omega, List.set_append_left _ _ (by rw [objsE_len]; omega)] at h1
  unfold objsE at h1 ⊢
  rw [List.set_append_left _ _ (by simpa using hlt)] at h1
  have e1 : (cs.map boxO).set i enone = (cs.set i none).map boxO := by rw [List.map_set]; rfl
  rw [e1] at h1
  have hr : (cs.map rowO)[i]? = some (rowV 80 o.v o.l) := by rw [List.getElem?_map, hi]; rfl
  have e2 : cs.map rowO = (cs.map rowO).take i ++ rowV 80 o.v o.l :: (cs.map rowO).drop (i + 1) := by
    conv => lhs; rw [← List.take_append_drop i (cs.map rowO)]
    rw [List.drop_eq_getElem_cons (by simpa using hlt)]
    congr 2
    exact Option.some.inj ((List.getElem?_eq_getElem (by simpa using hlt)).symm.trans hr)
  have e3 : (cs.set i none).map rowO = (cs.map rowO).take i ++ enone :: (cs.map rowO).drop (i + 1) := by
    rw [List.map_set, List.set_eq_take_append_cons_drop, if_pos (by simpa using hlt)]; rfl
  rw [e2] at h1
  rw [e3]
  have h2 := h1.addNone
  obtain ⟨P, hP⟩ : ∃ P, A ++ (cs.set i none).map boxO ++ (cs.map rowO).take i = P := ⟨_, rfl⟩
  obtain ⟨Y, hY⟩ : ∃ Y, (cs.map rowO).drop (i + 1) = Y := ⟨_, rfl⟩
  have h3 : Mem B w0 w (enone :: (P ++ (rowV 80 o.v o.l :: (Y ++ T)))) := h2.cast (by rw [← hP, ← hY]; simp)
  have h4 : Mem B w0 w (P ++ enone :: (rowV 80 o.v o.l :: (Y ++ T))) := h3.perm List.perm_middle
  have h5 : Mem B w0 w (P ++ enone :: (Y ++ rowV 80 o.v o.l :: T)) := h4.perm (List.Perm.append_left _ (List.Perm.cons _ List.perm_middle))
  exact h5.cast (by rw [← hP, ← hY]; simp)
section
variable (B : Nat) (w0 : World) (bx : Nat) (regs : List V) (mv : Value) (bm : Nat) (room : Int)
/-- A machine with a memory that counts. -/
def CM (s : Cst) (T : List Ent) (w : World) : Prop := ∃ vo cs vc vg, conts cs = s.os ∧ Mem B w0 w (cA bx regs mv bm room (alive s.os) vo cs vc s.cs vg s.gone ++ (objsE cs ++ T))
variable {B w0 bx regs mv bm room} in
theorem CM.call {s : Cst} {T : List Ent} {w w' : World} (h : CM B w0 bx regs mv bm room s T w) (hb : Below w.heap.size w w') : CM B w0 bx regs mv bm room s T w' := by
  obtain ⟨vo, cs, vc, vg, h1, h2⟩ := h
  exact ⟨vo, cs, vc, vg, h1, h2.call hb⟩
/-- What must be so for counts and rooms. -/
structure Small (s : Cst) : Prop where
  cs : ∀ x ∈ s.cs, x ≤ 1000000
  room : s.gone.length + alive s.os ≤ 2000
  flds : ∀ (i : Nat) (l : List V), s.os[i]? = some (some l) → l.length ≤ 1000
theorem Small.on {rg q : List V} {s t : Cst} (h : Small s) (hE : DnEnd rg q s t) : Small t := ⟨hE.bnd _ h.cs, by rw [hE.room]; exact h.room, fun i l hl => h.flds i l (hE.shr i l hl)⟩
def DownC (N : Nat) : Prop := ∀ (T : List Ent) (w : World) (s : Cst) (v : V) (p rg : List V), alive s.os ≤ N → InvP rg s (v :: p) → Small s → CM B w0 bx regs mv bm room s T w →
  Calls Try.prog 71 #[.pointer (some ⟨bm, 0, none⟩), .agg #[.bool v.ref, .int .i64 v.n]] w fun e w' => e = .returned (.tuple #[]) ∧ CM B w0 bx regs mv bm room (dnF [v] s) T w'
def DropC (N : Nat) : Prop := ∀ (T : List Ent) (w : World) (s : Cst) (i : Nat) (p rg : List V), alive s.os ≤ N → InvP rg s p → Lives s.os (i : Int) → s.cs[i]? = some 0 → Small s → CM B w0 bx regs mv bm room s T w →
  Calls Try.prog 45 #[.pointer (some ⟨bm, 0, none⟩), .int .i64 (i : Int)] w fun e w' => e = .returned (.tuple #[]) ∧ CM B w0 bx regs mv bm room (dnF (objAt s.os (i : Int)) ⟨s.os.set i none, s.cs, s.gone ++ [(i : Int)]⟩) T w'
theorem dnF_num {v : V} (s : Cst) (h : v.ref = false) : dnF [v] s = s := dnF_of (.num h (.nil s))
theorem dnF_dec {v : V} {s : Cst} {k : Int} (h : v.ref = true) (hk : s.cs[v.n.toNat]? = some k) (hne : k ≠ 1) : dnF [v] s = ⟨s.os, s.cs.set v.n.toNat (k - 1), s.gone⟩ := dnF_of (.dec k h hk hne (.nil _))
theorem dnF_drop {v : V} {s t : Cst} (h : v.ref = true) (hk : s.cs[v.n.toNat]? = some 1) (hD : Dn (objAt s.os v.n) ⟨s.os.set v.n.toNat none, s.cs.set v.n.toNat 0, s.gone ++ [v.n]⟩ t) : dnF [v] s = t := dnF_of (.drop h hk hD (.nil _))
theorem dnF_step {s : Cst} {l : List V} {k : Nat} {v : V} (hl : l[k]? = some v) (h1 : Dn (l.take k) s (dnF (l.take k) s)) (h2 : Dn [v] (dnF (l.take k) s) (dnF [v] (dnF (l.take k) s))) : dnF (l.take (k + 1)) s = dnF [v] (dnF (l.take k) s) := by
  have e : l.take (k + 1) = l.take k ++ [v] := take_succ_some _ _ _ hl
  rw [e]
  exact dnF_of (h1.append h2)
set_option maxRecDepth 100000 in
set_option maxHeartbeats 4000000 in
theorem down_of_drop {N : Nat} (hD : DropC B w0 bx regs mv bm room N) : DownC B w0 bx regs mv bm room N := by
  intro T w s v p rg hN hI hS ⟨vo, cs, vc, vg, hc, hM⟩
  have hM1 := hM.alloc #[.bool v.ref, .int .i64 v.n] 80
  have hM2 := hM.alloc_ (.cells #[.bool v.ref, .int .i64 v.n] 80)
  have z0 := hM1.cell 0 rfl 0
  have z1 := hM1.cell 0 rfl 1
  have zb : w.heap.size < (w.alloc (.cells #[.bool v.ref, .int .i64 v.n] 80)).heap.size := by simp
  obtain ⟨W, hW⟩ : ∃ W, w.alloc (.cells #[.bool v.ref, .int .i64 v.n] 80) = W := ⟨_, rfl⟩
  rw [hW] at hM2 hM1 z0 z1 zb
  cases hr : v.ref with
  | false =>
    have hd := dnF_num s hr
    rw [hd]
    rw [hr] at hW z0
    have HM : Hid (CM B w0 bx regs mv bm room s T W) := Lib.hid ⟨vo, cs, vc, vg, hc, hM2⟩
    have HW := Lib.hid hW
    clear hM hM1 hM2 hW hI hr hD hS hN hd hc
    go_enter Try.func71, Try.ntmps71
    go_wp2_with fail
    rw [HW.out]
    go_wp2_with fail
    exact bodyPost_ret (v := .tuple #[]) (results_none rfl _ _ _) rfl ⟨rfl, HM.out⟩
  | true =>
    have hv := hI.held v (by simp) hr
    obtain ⟨x, hx, hx1, _, hI2⟩ := hI.dec hr
    have hx2 := hS.cs x (List.mem_of_getElem? hx)
    obtain ⟨j, hj⟩ : ∃ j : Nat, v.n = (j : Int) := ⟨v.n.toNat, by have := hv.1; omega⟩
    have hdec := fun hne => dnF_dec hr hx hne
    rw [hj, Int.toNat_natCast] at hx hI2 hdec
    have m2 : W.cell? ⟨bm, 2, none⟩ = some vc := hM2.cell 1 rfl 2
    have mb : bm < W.heap.size := (hM2.box 1 rfl).2.1
    have hlt : j < s.cs.length := (List.getElem?_eq_some_iff.1 hx).1
    obtain ⟨g, cap, rfl, _, cb, cc, cf⟩ := hM2.intsAt 3 rfl (by intro e; rw [e] at hx; simp at hx)
    have c0 := cc j x hx
    have c1 := cf j
    have e1 : (j : Int) < (s.cs.length : Int) := by omega
    have hN1 := hM1.setI 4 rfl rfl j (x - 1)
    rw [hr, hj] at hW
    rw [hr] at z0
    rw [hj] at z1 ⊢
    have HN := Lib.hid hN1
    have HW := Lib.hid hW
    have HNn := Lib.hid hN
    have Hj := Lib.hid hj
    have Hr := Lib.hid hr
    have HI := Lib.hid hI2
    have HD := Lib.hid hD
    have HS := Lib.hid hS
    have Hc := Lib.hid hc
    have Hx := Lib.hid hx
    have Hv := Lib.hid hv
    have Hdec := Lib.hid hdec
    clear hM hM1 hM2 hW hI hr hN1 hj hx cc cf hI2 hD hS hc hv hdec
    go_enter Try.func71, Try.ntmps71
    go_wp2_with fail
    rw [HW.out]
    go_upto_region 2 with (fail)
    go_still_tail 10, (by kernel_rfl)
    go_wp2_with fail
    obtain ⟨W2, hW2⟩ : ∃ W2, (W.setCell ⟨g, j, none⟩ (.int .i64 (x - 1))).drew = W2 := ⟨_, rfl⟩
    have hM3 := HN.out.drew
    rw [hW2] at hM3 ⊢
    have y0 := hM3.cell 0 rfl 0
    have y1 := hM3.cell 0 rfl 1
    rw [Hj.out] at y1
    have yb : w.heap.size < W2.heap.size := (hM3.box 0 rfl).2.1
    have y2 : W2.cell? ⟨bm, 2, none⟩ = some (.slice (some ⟨g, 0, none⟩) s.cs.length cap) := hM3.cell 2 rfl 2
    have ybm : bm < W2.heap.size := (hM3.box 2 rfl).2.1
    obtain ⟨y3, _⟩ := hM3.intAt 4 rfl (j := j) (x := x - 1) (List.getElem?_set_self (by omega))
    have ybg : g < W2.heap.size := by rw [← hW2]; simpa using cb
    have hCM : CM B w0 bx regs mv bm room ⟨s.os, s.cs.set j (x - 1), s.gone⟩ T W2 := ⟨vo, cs, _, vg, Hc.out, hM3.drop (List.sublist_cons_self _ _)⟩
    have HCM := Lib.hid hCM
    clear hM3 HN hCM m2 c0 c1 z0 z1 zb cb mb hW2
    by_cases h1 : x = 1
    · subst h1
      go_quiet (fail)
      rename_i nq
      have hC := HCM.out.call (w' := W2.drewN nq) (below_drewN (Below.refl _ _) nq)
      have y5 : (W2.drewN nq).cell? ⟨w.heap.size, 1, none⟩ = some (.int .i64 j) := by simpa using y1
      obtain ⟨W3, hW3⟩ : ∃ W3, W2.drewN nq = W3 := ⟨_, rfl⟩
      rw [hW3] at hC y5 ⊢
      clear y0 y1 y2 y3 hW3
      have hsm : Small ⟨s.os, s.cs.set j (1 - 1), s.gone⟩ := ⟨fun x hx => by
        rcases List.mem_or_eq_of_mem_set hx with hx | rfl
        · exact HS.out.cs x hx
        · decide, HS.out.room, HS.out.flds⟩
      have hdr := HD.out T W3 ⟨s.os, s.cs.set j (1 - 1), s.gone⟩ j p rg HNn.out HI.out (Hj.out ▸ Hv.out) (by show (s.cs.set _ _)[_]? = _; rw [List.getElem?_set_self (by omega)]; rfl) hsm hC
      have Hdr := Lib.hid hdr
      clear hC hsm hdr
      go_wp2_with fail
      refine Hdr.out.mono ?_
      rintro e w5 ⟨rfl, h5⟩
      have he : dnF [v] s = dnF (objAt s.os (j : Int)) ⟨s.os.set j none, s.cs.set j (1 - 1), s.gone ++ [(j : Int)]⟩ := by
        have hb := (dnF_end (p := objAt s.os (j : Int)) (q := p) (rg := rg) (s := ⟨s.os.set j none, s.cs.set j (1 - 1), s.gone ++ [(j : Int)]⟩) (HI.out.drop (i := (j : Int)) (Hj.out ▸ Hv.out) (by show (s.cs.set _ _)[_]? = _; rw [Int.toNat_natCast, List.getElem?_set_self (by omega)]; rfl) _)).1
        refine dnF_drop Hr.out (by rw [Hj.out, Int.toNat_natCast]; exact Hx.out) ?_
        rw [Hj.out, Int.toNat_natCast]; exact hb
      rw [← he] at h5
      have H5 := Lib.hid h5
      clear h5 he
      go_wp2_with fail
      refine bodyPost_end (results_none rfl _ _ _) rfl ?_
      exact ⟨rfl, H5.out⟩
    · have hnb : (x - 1 == 0) = false := by simp; omega
      go_quiet (fail)
      rename_i nq
      have he := Hdec.out h1
      have hC := HCM.out.call (w' := W2.drewN nq) (below_drewN (Below.refl _ _) nq)
      rw [← he] at hC
      have HC := Lib.hid hC
      clear hC he
      go_wp2_with fail
      refine bodyPost_end (results_none rfl _ _ _) rfl ?_
      exact ⟨rfl, HC.out⟩
end
end Go.Proofs.Ytmmcjjklmcfegaa
