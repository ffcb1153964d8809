/- A memory that is copied: bring, begin, walked. -/
import Derived.Test.YtmmcjjklmcfegaaRpd
namespace Go.Proofs.Ytmmcjjklmcfegaa
open Go.RowKit Go.Shelf

/-- What is so for a memory with copies to be walked. -/
structure OkP (os : Os) (x : Px) : Prop where
  cp : CpI os (x.cps, x.made)
  len : os.length ≤ 1000
  clo : ∀ (i : Nat) (l : List V), os[i]? = some (some l) → ∀ v ∈ l, v.ref = true → Lives os v.n
  flen : ∀ (i : Nat) (l : List V), os[i]? = some (some l) → l.length ≤ 4
  num : ∀ (i : Nat) (l : List V), os[i]? = some (some l) → ∀ v ∈ l, v.ref = false → -4611686018427387904 ≤ v.n ∧ v.n ≤ 4611686018427387903
theorem OkP.i64 {os : Os} {x : Px} (h : OkP os x) {i : Int} (hi : Lives os i) {v : V} (hv : v ∈ objAt os i) : i64ok v.n := by
  cases hr : v.ref with
  | true =>
    have h1 := h.clo _ _ hi.obj v hv hr
    have h2 := h1.lt
    have h3 := h1.1
    have h4 := h.len
    exact ⟨by omega, by omega⟩
  | false => have := h.num _ _ hi.obj v hv hr; exact ⟨by omega, by omega⟩
theorem OkP.made {os : Os} {x : Px} (h : OkP os x) : x.made.length ≤ os.length := by
  have h1 := nodup_sub_le x.made ((List.range os.length).map fun i : Nat => (i : Int)) h.cp.nodup (fun q hq => by
    have h1 := h.cp.live q hq
    have h2 := h1.lt
    have h3 := h1.1
    exact List.mem_map.2 ⟨q.toNat, List.mem_range.2 h2, by omega⟩)
  rwa [List.length_map, List.length_range] at h1
theorem InvQ.okP {s : Sm Px} (h : InvQ s) : OkP s.os s.x := ⟨h.cp, by have := h.len; omega, h.clo, h.fine.flen, h.fine.num⟩
theorem OkP.len4 {os : Os} {x : Px} (h : OkP os x) (i : Int) : (objAt os i).length ≤ 4 := by
  unfold objAt
  cases hc : os[i.toNat]? with
  | none => simp
  | some c =>
    cases c with
    | none => simp
    | some l => exact h.flen _ l hc
section
variable (B : Nat) (w0 : World) (bx : Nat) (regs : List V) (mv : Value) (bm : Nat)
variable {B w0 bx regs mv bm} in
theorem PM.dropEnd {os : Os} {x : Px} {T Q : List Ent} {X : World} (h : PM B w0 bx regs mv bm os x (T ++ Q) X) : PM B w0 bx regs mv bm os x T X := by
  obtain ⟨a1, a2, a3, a4, a5, a6, a7, a8, a9, a10⟩ := h
  refine ⟨a1, a2, a3, a4, a5, a6, a7, a8, a9, a10.drop ?_⟩
  exact List.Sublist.append_left (List.Sublist.append_left (List.Sublist.append_left (List.sublist_append_left _ _) _) _) _
variable {B w0 bx regs mv bm} in
theorem PM.call {os : Os} {x : Px} {T : List Ent} {X Y : World} (h : PM B w0 bx regs mv bm os x T X) (hb : Below X.heap.size X Y) : PM B w0 bx regs mv bm os x T Y := by
  obtain ⟨a1, a2, a3, a4, a5, a6, a7, a8, a9, a10⟩ := h
  exact ⟨a1, a2, a3, a4, a5, a6, a7, a8, a9, a10.call hb⟩
variable {B w0 bx regs mv bm} in
theorem PM.allocEnd {os : Os} {x : Px} {T : List Ent} {X : World} (h : PM B w0 bx regs mv bm os x T X) (c : Array Value) (t : TypeId) : PM B w0 bx regs mv bm os x (T ++ [ebox X.heap.size c t]) (X.alloc (.cells c t)) := by
  obtain ⟨vo, cs, vr, bc, vm, vl, cc, a8, a9, a10⟩ := h
  refine ⟨vo, cs, vr, bc, vm, vl, cc, a8, a9, (a10.alloc c t).perm ?_⟩
  have e : pA bx regs mv bm bc x.made.length vo cs vr x.row (cpF cc) vm x.made x.filled vl x.log x.times ++ (objsE cs ++ (cc.map rowC ++ (T ++ [ebox X.heap.size c t]))) = (pA bx regs mv bm bc x.made.length vo cs vr x.row (cpF cc) vm x.made x.filled vl x.log x.times ++ (objsE cs ++ (cc.map rowC ++ T))) ++ [ebox X.heap.size c t] := by simp only [List.append_assoc]
  rw [e]
  exact List.perm_append_singleton _ _
variable {B w0 bx regs mv bm} in
theorem PM.tail {os : Os} {x : Px} {T : List Ent} {X : World} (h : PM B w0 bx regs mv bm os x T X) : ∃ L, Mem B w0 X L ∧ ∀ e ∈ T, e ∈ L := by
  obtain ⟨a1, a2, a3, a4, a5, a6, a7, a8, a9, a10⟩ := h
  exact ⟨_, a10, fun e he => List.mem_append_right _ (List.mem_append_right _ (List.mem_append_right _ he))⟩
theorem rowC_at {A R : List Ent} {cc : Cc} {i : Nat} {p : Value × List V} (h : cc[i]? = some (some p)) : (A ++ (cc.map rowC ++ R))[A.length + i]? = some (rowV 80 p.1 p.2) := by
  rw [List.getElem?_append_right (by omega), show A.length + i - A.length = i by omega, List.getElem?_append_left (by rw [List.length_map]; exact (List.getElem?_eq_some_iff.1 h).1), List.getElem?_map, h]; rfl
theorem rowC_set {A R : List Ent} {cc : Cc} {i : Nat} (hi : i < cc.length) (p : Value × List V) : (A ++ (cc.map rowC ++ R)).set (A.length + i) (rowV 80 p.1 p.2) = A ++ ((cc.set i (some p)).map rowC ++ R) := by
  rw [List.set_append_right _ _ (by omega), show A.length + i - A.length = i by omega, List.set_append_left _ _ (by rw [List.length_map]; exact hi), List.map_set]; rfl
theorem cpF_same {cc : Cc} {i : Nat} {v : Value} {l l' : List V} (h : cc[i]? = some (some (v, l))) : cpF (cc.set i (some (v, l'))) = cpF cc := by
  funext u
  unfold cpF
  by_cases hu : 0 ≤ u
  · rw [if_pos hu, if_pos hu]
    by_cases e : u.toNat = i
    · rw [e, List.getElem?_set_self (List.getElem?_eq_some_iff.1 h).1, h]; rfl
    · rw [List.getElem?_set_ne (fun h => e h.symm)]
  · rw [if_neg hu, if_neg hu]
set_option maxRecDepth 100000 in
set_option maxHeartbeats 4000000 in
theorem bring_any (T : List Ent) (w : World) (os : Os) (x : Px) (o : Int) (k : Nat) (ho : o ∈ x.made) (hk : k < (objAt os o).length) (hO : OkP os x) (hC : PM B w0 bx regs mv bm os x T w) :
    Calls Try.prog 77 #[.pointer (some ⟨bm, 0, none⟩), .int .i64 o, .int .i64 (k : Int)] w fun e w' => e = .returned (.tuple #[]) ∧
      PM B w0 bx regs mv bm os { x with cps := (bring os (x.cps, x.made) o k).1, made := (bring os (x.cps, x.made) o k).2 } T w' := by
  have hlv := hO.cp.live o ho
  obtain ⟨v, hv⟩ : ∃ v, (objAt os o)[k]? = some v := ⟨_, List.getElem?_eq_getElem hk⟩
  have hvm := List.mem_of_getElem? hv
  have hgd : (objAt os o).getD k ⟨false, 0⟩ = v := by rw [List.getD_eq_getElem?_getD, hv]; rfl
  have hvl : v.ref = true → Lives os v.n := fun hr => hO.clo _ _ hlv.obj v hvm hr
  have hvn := hO.i64 hlv hvm
  have hbr : bring os (x.cps, x.made) o k = (putC (copied os (x.cps, x.made) v).1 o k v, (copied os (x.cps, x.made) v).2) := by unfold bring; rw [hgd]
  rw [hbr]
  obtain ⟨i, rfl⟩ : ∃ i : Nat, o = (i : Int) := ⟨o.toNat, by have := hlv.1; omega⟩
  obtain ⟨c1, c2, c3, c4⟩ := hO.cp.copied hvl
  have ho2 := c2.pre.subset ho
  obtain ⟨l0, hl0⟩ := Option.isSome_iff_exists.1 ((hO.cp.iff _).1 ho).2
  have hl1 := c4 _ l0 (by omega) hl0
  have hl0len := hO.cp.len _ l0 hl0
  have hcpy := fun (X : World) (T' : List Ent) (hX : PM B w0 bx regs mv bm os x T' X) => copied_any B w0 bx regs mv bm T' X os x v hvn hvl hO.cp.cl hO.len (by have := hO.made; have := hO.len; omega) (hO.len4 _) hX
  have hCe := hC.allocEnd #[.bool v.ref, .int .i64 v.n] 80
  obtain ⟨b6, hb6⟩ : ∃ b6, w.heap.size = b6 := ⟨_, rfl⟩
  obtain ⟨W, hW⟩ : ∃ W, w.alloc (.cells #[.bool v.ref, .int .i64 v.n] 80) = W := ⟨_, rfl⟩
  rw [hW, hb6] at hCe
  obtain ⟨vo, cs, vr, bc, vm, vl, cc, hcs, hcc, hM⟩ := hC
  rw [← hcs] at hlv
  obtain ⟨oc, hoc, hol⟩ := lives_cs hlv
  have O := oAt_of (A := pA bx regs mv bm bc x.made.length vo cs vr x.row (cpF cc) vm x.made x.filled vl x.log x.times) (R := cc.map rowC ++ T) (kp := 2) (vo := vo) (cs := cs) rfl
  rw [Int.toNat_natCast] at hoc
  obtain ⟨g, cap, rfl, p0, _, pb⟩ := hM.ptrAt O hoc
  obtain ⟨q0, qb, _⟩ := hM.objAt O hoc
  rw [hcs] at hol
  rw [← hol] at hv hl0len
  obtain ⟨gv, cv, hov, v0, v1, _, vb⟩ := hM.valAt _ (O.r i _ hoc) hv
  rw [hov] at q0
  unfold ptrO at p0
  simp only at p0
  have m0 : w.cell? ⟨bm, 0, none⟩ = some (.slice (some ⟨g, 0, none⟩) cs.length cap) := hM.cell 1 rfl 0
  have mb : bm < w.heap.size := (hM.box 1 rfl).2.1
  have hilt : i < cs.length := (List.getElem?_eq_some_iff.1 hoc).1
  have hklt : k < oc.l.length := (List.getElem?_eq_some_iff.1 hv).1
  have e1 : (i : Int) < (cs.length : Int) := by omega
  have e2 : (k : Int) < (oc.l.length : Int) := by omega
  obtain ⟨Lt, hLt, hLtm⟩ := hCe.tail
  have hbm6 : ebox b6 #[.bool v.ref, .int .i64 v.n] 80 ∈ Lt := hLtm _ (List.mem_append_right _ (List.mem_singleton.2 rfl))
  have z0 : W.cell? ⟨b6, 0, none⟩ = some (.bool v.ref) := hLt.boxCell hbm6 0 rfl
  have z1 : W.cell? ⟨b6, 1, none⟩ = some (.int .i64 v.n) := hLt.boxCell hbm6 1 rfl
  have zb : b6 < W.heap.size := (hLt.boxFree hbm6 0).2
  clear hLt hLtm hbm6
  have Hcpy := Lib.hid (hcpy W _ hCe)
  have HW := Lib.hid hW
  have Hb6 := Lib.hid hb6
  have Hfin : Hid (cpAt (copied os (x.cps, x.made) v).1 (i : Int) = some l0 ∧ l0.length = oc.l.length ∧ (copied os (x.cps, x.made) v).1.length = os.length ∧ i < os.length) := Lib.hid ⟨hl1, hl0len, c1.cl, by rw [← hcs, conts_len]; exact hilt⟩
  have hi64 : i64ok (i : Int) := by have := hO.len; rw [← hcs, conts_len] at this; exact ⟨by omega, by omega⟩
  clear hM hCe hcpy hW hb6 hO ho hlv hv hvm hgd hvl hbr c1 c2 c3 c4 ho2 hl0 hl1 hl0len hcs hcc hoc hol O hov hilt hklt hk
  go_enter Try.func77, Try.ntmps77
  go_upto_region 1 with (fail)
  rw [HW.out, Hb6.out]
  clear p0 pb q0 qb v0 v1 vb m0 mb
  go_wp2_with fail
  refine Hcpy.out.mono ?_
  rintro e w2 ⟨rfl, hC2⟩
  obtain ⟨hl1, hl0len, hcl, hios⟩ := Hfin.out
  obtain ⟨Lt, hLt, hLtm⟩ := hC2.tail
  have hbm6 : ebox b6 #[.bool v.ref, .int .i64 v.n] 80 ∈ Lt := hLtm _ (List.mem_append_right _ (List.mem_singleton.2 rfl))
  have y0 : w2.cell? ⟨b6, 0, none⟩ = some (.bool v.ref) := hLt.boxCell hbm6 0 rfl
  have y1 : w2.cell? ⟨b6, 1, none⟩ = some (.int .i64 v.n) := hLt.boxCell hbm6 1 rfl
  have yb : b6 < w2.heap.size := (hLt.boxFree hbm6 0).2
  clear hLt hLtm hbm6 z0 z1 zb
  obtain ⟨vo2, cs2, vr2, bc2, vm2, vl2, cc2, hcs2, hcc2, hM2⟩ := hC2
  have hcc3 : contsC cc2 = (copied os (x.cps, x.made) v).1 := hcc2
  rw [← hcc3] at hl1 hcl
  obtain ⟨u, hu, hcci⟩ := cpF_some (by omega) hl1
  rw [Int.toNat_natCast] at hcci
  have hkl0 : k < l0.length := by omega
  obtain ⟨x0, hx0⟩ : ∃ x0, l0[k]? = some x0 := ⟨_, List.getElem?_eq_getElem hkl0⟩
  obtain ⟨A2, hA2⟩ : ∃ A2, pA bx regs mv bm bc2 (copied os (x.cps, x.made) v).2.length vo2 cs2 vr2 x.row (cpF cc2) vm2 (copied os (x.cps, x.made) v).2 x.filled vl2 x.log x.times ++ objsE cs2 = A2 := ⟨_, rfl⟩
  have hM3 : Mem B w0 w2 (A2 ++ (cc2.map rowC ++ (T ++ [ebox b6 #[.bool v.ref, .int .i64 v.n] 80]))) := by
    rw [← hA2, List.append_assoc]; exact hM2
  have hrow := rowC_at (A := A2) (R := T ++ [ebox b6 #[.bool v.ref, .int .i64 v.n] 80]) hcci
  obtain ⟨gu, cu, hgu, u0, u1, uf, ub⟩ := hM3.valAt _ hrow hx0
  simp only at hgu u0 u1
  subst hgu
  have m2 : w2.cell? ⟨bm, 2, none⟩ = some (.map (some bc2)) := hM2.cell 1 rfl 2
  have mb : bm < w2.heap.size := (hM2.box 1 rfl).2.1
  have hlk := (gmap_look (hM2.drew.get 4 rfl) hi64).1
  rw [hu] at hlk
  have L1 : (Instr.lookup 112 (.map (some bc2)) (.int .i64 (i : Int)) false).run Try.prog w2.drew = .ok (.slice (some ⟨gu, 0, none⟩) l0.length cu) w2.drew := hlk
  have hMf := hM3.setVal _ hrow rfl hkl0 v
  rw [rowC_set (p := (.slice (some ⟨gu, 0, none⟩) l0.length cu, l0.set k v)) (List.getElem?_eq_some_iff.1 hcci).1] at hMf
  have hcf := cpF_same (l' := l0.set k v) hcci
  have hco : contsC (cc2.set i (some (.slice (some ⟨gu, 0, none⟩) l0.length cu, l0.set k v))) = putC (copied os (x.cps, x.made) v).1 (i : Int) k v := by
    rw [contsC_set]
    unfold putC
    rw [← hcc3, hl1, Int.toNat_natCast]; rfl
  have Hco := Lib.hid hco
  have HMf : Hid (PM B w0 bx regs mv bm os { x with cps := putC (copied os (x.cps, x.made) v).1 (i : Int) k v, made := (copied os (x.cps, x.made) v).2 } (T ++ [ebox b6 #[.bool v.ref, .int .i64 v.n] 80]) ((w2.setCell ⟨gu, k * 2, none⟩ (.bool v.ref)).setCell ⟨gu, k * 2 + 1, none⟩ (.int .i64 v.n))) := Lib.hid (by
    refine ⟨vo2, cs2, vr2, bc2, vm2, vl2, _, hcs2, hco, ?_⟩
    rw [hcf]
    rw [← hA2, List.append_assoc] at hMf
    exact hMf)
  have e3 : (k : Int) < (l0.length : Int) := by omega
  have f0 := uf (k * 2)
  have f1 := uf (k * 2 + 1)
  clear hcs2 hcc2 hM2 hcc3 hl1 hcl hu hcci hkl0 hx0 hA2 hM3 hrow uf hlk hMf hcf hco hl0len hios
  go_wp2_with fail
  go_still_tail 9, (by kernel_rfl)
  go_wp2_with fail
  refine bodyPost_end (results_none rfl _ _ _) rfl ?_
  exact ⟨rfl, HMf.out.dropEnd.call ((Below.refl _ _).drew)⟩
end
end Go.Proofs.Ytmmcjjklmcfegaa
