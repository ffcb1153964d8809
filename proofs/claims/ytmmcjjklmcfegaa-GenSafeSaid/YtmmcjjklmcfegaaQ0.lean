/- (*heap.Objects).New, walked. -/
import Derived.Test.YtmmcjjklmcfegaaM9
import Derived.Test.YtmmcjjklmcfegaaMw
import Derived.Deep.RegionLaw
namespace Go.Proofs.Ytmmcjjklmcfegaa
open Go.RowKit Go.Shelf

theorem elemPtrs : Elem Try.prog 74 101 1 8 (.pointer none) := ⟨by kernel_rfl, info_parts (by kernel_rfl), rfl, by decide⟩
theorem zeros_cells (m : Nat) : (madeCells #[.bool false, .int .i64 0] (m * 2)).toList = (zerosV m).flatMap cellsV :=
  made_wide (sz := 2) (enc := cellsV) (fun _ => rfl) (by decide) #[.bool false, .int .i64 0] ⟨false, 0⟩ rfl m
theorem set0_at {mc : Array Value} {x : Value} (h : mc[0]? = some x) (v : Value) : (mc.setIfInBounds 0 v)[0]? = some v := by
  obtain ⟨h1, _⟩ := Array.getElem?_eq_some_iff.1 h
  simp [h1]
section
variable {P : Program} {B : Nat} {w0 w : World} {L : List Ent}
/-- make([]api.Value, m), at whatever world: the world behind it. -/
theorem make_funV (T : Elem P 23 80 2 16 (.agg #[.bool false, .int .i64 0])) (m : Nat) (hm : m ≤ 1000) : ∃ mk : World → World,
    (∀ W, Sem.run P (Instr.makeSlice 23 (.int .i64 m) (.int .i64 m)) W = .ok (.slice (some ⟨W.heap.size, 0, none⟩) m m) (mk W)) ∧
    (∀ (B : Nat) (w0 W : World) (L : List Ent), Mem B w0 W L → Mem B w0 (mk W) (rowV 80 (.slice (some ⟨W.heap.size, 0, none⟩) m m) (zerosV m) :: L)) ∧ ∀ W, Below W.heap.size W (mk W) := by
  obtain ⟨i, hi, hz, hs, hb⟩ := T.info
  have h : ∀ W : World, ∃ W', Sem.run P (Instr.makeSlice 23 (.int .i64 m) (.int .i64 m)) W = .ok (.slice (some ⟨W.heap.size, 0, none⟩) m m) W' ∧ (∀ (B : Nat) (w0 : World) (L : List Ent), Mem B w0 W L → Mem B w0 W' (rowV 80 (.slice (some ⟨W.heap.size, 0, none⟩) m m) (zerosV m) :: L)) ∧ Below W.heap.size W W' := by
    intro W
    obtain ⟨W', hrun, r1, r2⟩ := run_make_full (P := P) W W.heap.size 23 80 i _ 2 T.under hi hz hs .i64 .i64 m (by rw [hb]; omega) (by simp [maxLen]; omega) (Nat.le_refl _)
    refine ⟨W', hrun, fun B w0 L hM => ?_, grown_below r2⟩
    have r3 : W'.ownsRow W.heap.size 80 2 (.slice (some ⟨W.heap.size, 0, none⟩) m m) m (madeCells #[.bool false, .int .i64 0] (m * 2)).toList := r1
    rw [zeros_cells] at r3
    exact (hM.callRow (grown_below r2) r3).cast (by simp [rowV, zerosV])
  exact ⟨fun W => Classical.choose (h W), fun W => (Classical.choose_spec (h W)).1, fun B w0 W L hM => (Classical.choose_spec (h W)).2.1 B w0 L hM, fun W => (Classical.choose_spec (h W)).2.2⟩
end
/-- What New hands back, and what is owned then. -/
def ONewSays (B : Nat) (w0 : World) (L : List Ent) (km kp bm : Nat) (mc : Array Value) (mt : TypeId) (cs : List (Option Oc)) (n : Nat) (e : Ending) (w' : World) : Prop :=
  ∃ b' v' vo', e = .returned (.tuple #[.int .i64 (cs.length : Int), .int .i64 0]) ∧
    Mem B w0 w' (ebox b' #[v'] 94 :: rowV 80 v' (zerosV n) :: ((L.set kp (rowP vo' (cs ++ [some ⟨b', v', zerosV n⟩]))).set km (ebox bm (mc.setIfInBounds 0 vo') mt)))
set_option maxRecDepth 100000 in
set_option maxHeartbeats 2000000 in
theorem onew_any (B : Nat) (w0 w : World) (L : List Ent) (km kp k0 bm : Nat) (mc : Array Value) (mt : TypeId) (vo : Value) (cs : List (Option Oc)) (hM : Mem B w0 w L) (O : OAt L kp k0 vo cs)
    (hm : L[km]? = some (ebox bm mc mt)) (hmc : mc[0]? = some vo) (hne : kp ≠ km) (n : Nat) (hn : n ≤ 4) (hcs : cs.length ≤ 1000) :
    Calls Try.prog 155 #[.pointer (some ⟨bm, 0, none⟩), .int .i64 n] w fun e w' => ONewSays B w0 L km kp bm mc mt cs n e w' := by
  obtain ⟨a, cap, rfl⟩ := hM.ptrSlice O
  have m0 := hM.cell km hm 0
  rw [hmc] at m0
  have mb := (hM.box km hm).2.1
  obtain ⟨mk, hmk, hmkM, hmkB⟩ := make_funV elemVals n (by omega)
  have m1 : (mk w.drew).cell? ⟨bm, 0, none⟩ = some (.slice a cs.length cap) := ((hmkB w.drew).cell (p := ⟨_, _, none⟩) (by simpa using mb)).trans (by simpa using m0)
  have m2 : bm < (mk w.drew).heap.size := Nat.lt_of_lt_of_le (by simpa using mb) (hmkB w.drew).size
  have HM1 := Lib.hid (hmkM B w0 w.drew L hM.drew)
  have HM := Lib.hid hM
  have HO := Lib.hid O
  have Hm := Lib.hid hm
  have Hmc := Lib.hid hmc
  clear hM O hm hmc hmkM hmkB
  go_enter Try.func155, Try.ntmps155
  go_wp2_with fail
  go_region_law (first
    | (refine Mem.step_app1 elemPtrs rfl (.tmp 9) (.tmp 14) rfl (HM1.out.alloc #[.slice (some ⟨w.heap.size, 0, none⟩) n n] 94) (kp + 2) HO.out.p rfl 1 #[.pointer (some ⟨(mk w.drew).heap.size, 0, none⟩)] _ _ rfl (by simp) rfl rfl (by decide) (by omega) ?_
       intro ad cp w6 hM6 hs6 hk6
       have hk6 : (L.set kp (erow 101 1 (.slice ad (cs.length + 1) cp) (cs.length + 1) (cs.map ptrO ++ [.pointer (some ⟨(mk w.drew).heap.size, 0, none⟩)])))[km]? = some (ebox bm mc mt) := by rw [List.getElem?_set_ne hne]; exact Hm.out
       have u0 := hM6.cell (km + 2) hk6 0
       have u1 := hM6.free (km + 2) hk6 0
       have u2 := (hM6.box (km + 2) hk6).2.1
       have u3 := Hmc.out
       rw [u3] at u0))
  all_goals
    have hM7 := hM6.setBox (km + 2) hk6 0 (.slice ad (cs.length + 1) cp)
    obtain ⟨W9, hW9⟩ : ∃ W9, W9 = w6.setCell ⟨bm, 0, none⟩ (.slice ad (cs.length + 1) cp) := ⟨_, rfl⟩
    rw [← hW9] at hM7 ⊢
    have r0 : W9.cell? ⟨bm, 0, none⟩ = some (.slice ad (cs.length + 1) cp) := by
      have h9 := hM7.cell (km + 2) (show ((L.set kp _).set km _)[km]? = some (ebox bm (mc.setIfInBounds 0 (.slice ad (cs.length + 1) cp)) mt) from List.getElem?_set_self (by rw [List.length_set]; exact (List.getElem?_eq_some_iff.1 Hm.out).1)) 0
      rw [h9]; exact set0_at Hmc.out _
    have HM7 := Lib.hid hM7
    have hc1 : cs.length + 1 ≤ 1001 := by omega
    clear hM6 hM7 hW9 u0 u1 u2 u3 HM1 hmk m0 m1 m2
    go_wp2
    go_ret2
    refine ⟨(mk w.drew).heap.size, .slice (some ⟨w.heap.size, 0, none⟩) n n, .slice ad (cs.length + 1) cp, rfl, HM7.out.cast ?_⟩
    show _ :: _ :: (L.set kp _).set km _ = _
    congr 4
    unfold rowP
    rw [List.map_append, List.length_append]; rfl
end Go.Proofs.Ytmmcjjklmcfegaa
