/- graph.Check: which code it tells. -/
import Derived.Test.YtmmcjjklmcfegaaBase2
namespace Go.Proofs.Ytmmcjjklmcfegaa
open Go.RowKit Go.Shelf

attribute [local go_sem] Oper.semAt_some

def Bad2 (g : G) : Prop := ∃ v ∈ allV g, badC v g.objs.length = 2
def Bad3 (g : G) : Prop := ∃ v ∈ allV g, badC v g.objs.length = 3
/-- The code that Check tells. -/
noncomputable def codeG (g : G) : Int := open Classical in if 24 < g.objs.length ∨ 8 < g.roots.length ∨ ∃ o ∈ g.objs, 4 < o.length then 1 else if Bad2 g then 2 else if Bad3 g then 3 else 0
def CheckedC (g : G) (e : Ending) : Prop := e = .returned (.int .i64 (codeG g))
section
variable {g : G}
theorem codeG1 (h : 24 < g.objs.length ∨ 8 < g.roots.length ∨ ∃ o ∈ g.objs, 4 < o.length) : codeG g = 1 := by unfold codeG; rw [if_pos h]
theorem not_bigG (h1 : g.objs.length ≤ 24) (h2 : g.roots.length ≤ 8) (h3 : ∀ o ∈ g.objs, o.length ≤ 4) : ¬ (24 < g.objs.length ∨ 8 < g.roots.length ∨ ∃ o ∈ g.objs, 4 < o.length) := by
  rintro (h | h | ⟨o, ho, h⟩)
  · omega
  · omega
  · have := h3 o ho; omega
theorem codeG2 (h1 : g.objs.length ≤ 24) (h2 : g.roots.length ≤ 8) (h3 : ∀ o ∈ g.objs, o.length ≤ 4) (hb : Bad2 g) : codeG g = 2 := by unfold codeG; rw [if_neg (not_bigG h1 h2 h3), if_pos hb]
theorem codeG3 (h1 : g.objs.length ≤ 24) (h2 : g.roots.length ≤ 8) (h3 : ∀ o ∈ g.objs, o.length ≤ 4) (hn : ¬ Bad2 g) (hb : Bad3 g) : codeG g = 3 := by unfold codeG; rw [if_neg (not_bigG h1 h2 h3), if_neg hn, if_pos hb]
theorem codeG0 (h : Good g) : codeG g = 0 := by
  unfold codeG
  rw [if_neg (not_bigG h.objs h.roots h.fields), if_neg, if_neg]
  · rintro ⟨v, hv, hb⟩; rw [h.vals v hv] at hb; cases hb
  · rintro ⟨v, hv, hb⟩; rw [h.vals v hv] at hb; cases hb
theorem refs_no {xs : List (Vg g)} (hx : xs.map (·.1) = allV g) (hr : RefsOk g.objs.length xs) : ¬ Bad2 g := by
  rintro ⟨v, hv, hb⟩
  rw [← hx] at hv
  obtain ⟨x, hxm, rfl⟩ := List.mem_map.1 hv
  exact hr x hxm hb
theorem codeG_ne (h : ¬ Good g) : (codeG g == 0) = false := by
  have : codeG g ≠ 0 := by
    intro h0
    unfold codeG at h0
    split at h0
    · cases h0
    · split at h0
      · cases h0
      · split at h0
        · cases h0
        · rename_i k1 k2 k3
          refine h ⟨Nat.le_of_not_lt fun e => k1 (.inl e), Nat.le_of_not_lt fun e => k1 (.inr (.inl e)), fun o ho => Nat.le_of_not_lt fun e => k1 (.inr (.inr ⟨o, ho, e⟩)), fun v hv => ?_⟩
          rcases badC_cases v g.objs.length with e | e | e
          · exact e
          · exact absurd ⟨v, hv, e⟩ k2
          · exact absurd ⟨v, hv, e⟩ k3
  simpa using this
end
set_option maxRecDepth 100000 in
set_option maxHeartbeats 4000000 in
theorem gcheckC_main (g : G) (vo vr : Value) (w : World) (ho : IsObjs w vo g.objs) (hr : IsVals w vr g.roots) (h1 : g.objs.length ≤ 24) (h2 : g.roots.length ≤ 8) (h3 : ∀ o ∈ g.objs, o.length ≤ 4) :
    CallsIn Fence.wide 10 Try.prog 36 #[.agg #[vo, vr]] w fun e w' => CheckedC g e ∧ Below w.heap.size w w' := by
  obtain ⟨ao, co, rfl, hlo⟩ := ho.slice
  obtain ⟨ar, cr, rfl, hlr⟩ := hr.slice
  have Ho := Lib.hid ho
  have Hr := Lib.hid hr
  have hno : ¬ ∃ o ∈ g.objs, 4 < o.length := fun ⟨o, ho, h⟩ => by have := h3 o ho; omega
  have Hno := Lib.hid hno
  clear ho hr hno
  refine callsIn_of_wp_marks Try.func36 rfl trivial ?_ rfl
  simp only [Try.ntmps36, List.size_toArray, List.length_cons, List.length_nil, Nat.reduceAdd, Nat.reduceSub, Array.replicate_succ, Array.replicate_zero, List.push_toArray, List.append_toArray, List.nil_append, List.cons_append]
  have hM0 := ((Mem.start w).alloc #[.slice ao g.objs.length co, .slice ar g.roots.length cr] 25).allocAt (w.heap.size + 1) (by simp) #[.int .i64 0] 28
  gi_wp2_with fail
  refine ⟨trivial, (callsIn_wide.2 (containsLarge_no _ _ _ (Ho.out.later (by repeat (first | exact Below.refl _ _ | refine Below.setCell ?_ (by first | exact Nat.le_refl _ | (simp; done) | (simp; omega) | (simp at *; omega)) _ | refine Below.alloc ?_ (by first | exact Nat.le_refl _ | (simp; done) | (simp; omega) | (simp at *; omega)) _ | refine Below.drew ?_ | refine Below.trans ?_ (Below.mono (by assumption) (by first | exact Nat.le_refl _ | (simp; done) | (simp; omega) | (simp at *; omega)))))) Hno.out)).mono ?_⟩
  rintro e w1 ⟨rfl, hb⟩
  have hM1 := hM0.call hb
  have p0 : w1.cell? ⟨w.heap.size, 0, none⟩ = some (.slice ao g.objs.length co) := by have := hM1.cell 1 rfl 0; simpa using this
  have p1 : w1.cell? ⟨w.heap.size, 1, none⟩ = some (.slice ar g.roots.length cr) := by have := hM1.cell 1 rfl 1; simpa using this
  gi_wp2_with fail
  refine ⟨trivial, (values_any _ _ _ _).mono ?_⟩
  rintro e w2 ⟨rfl, rfl⟩
  gi_wp2
  have hsz1 : w.heap.size + 1 < w1.heap.size := (hM1.box 0 rfl).2.1
  refine range_box (by omega) (gf := 87) (lb := #[.pointer (some ⟨w1.heap.size, 0, none⟩)]) rfl (enters_of Try.func87 (by kernel_rfl) rfl)
    (values_stops _ (by omega) g _ _ w1 (Ho.out.later hM1.below) (Hr.out.later hM1.below)) (by simp)
    (fun pre W => Mem w.heap.size w W [ebox (w.heap.size + 1) #[.int .i64 0] 28, ebox w.heap.size #[.slice ao g.objs.length co, .slice ar g.roots.length cr] 25] ∧ RefsOk g.objs.length pre)
    (fun c _ W => Mem w.heap.size w W [ebox (w.heap.size + 1) #[.int .i64 2] 28, ebox w.heap.size #[.slice ao g.objs.length co, .slice ar g.roots.length cr] 25] ∧ (c = .ret ∧ Bad2 g))
    ((ownFrom_mem _ (by simp; omega) (by intro _; repeat (first | exact calm_nil _ | refine calm_cons ?_ ?_ | exact ebox_calm _ _ _ _ | exact rowV_calm _ _ _ _ | exact rowI_calm _ _ _ _ | exact erow_calm _ _ _ _ _ _ | exact edef_calm (by first | exact Nat.le_refl _ | (simp; done) | (simp; omega) | (simp at *; omega)) | exact low_calm (by first | exact Nat.le_refl _ | (simp; done) | (simp; omega) | (simp at *; omega))))).and (ownFrom_pure _ _))
    (fun c => (ownFrom_mem (fun _ => _) (by simp; omega) (by intro _; repeat (first | exact calm_nil _ | refine calm_cons ?_ ?_ | exact ebox_calm _ _ _ _ | exact rowV_calm _ _ _ _ | exact rowI_calm _ _ _ _ | exact erow_calm _ _ _ _ _ _ | exact edef_calm (by first | exact Nat.le_refl _ | (simp; done) | (simp; omega) | (simp at *; omega)) | exact low_calm (by first | exact Nat.le_refl _ | (simp; done) | (simp; omega) | (simp at *; omega))))).and (ownFrom_pure _ _))
    ⟨hM1.alloc_ _, by intro x hx; simp at hx⟩ 4 80 (fun x => #[.bool x.1.ref, .int .i64 x.1.n]) ?assign ?body ?done ?stop
  case assign =>
    intro l x W K hK
    simp only [laid]
    gi_wp2
    exact hK
  case body =>
    rintro l pre ⟨⟨r, m⟩, hmem⟩ W Bx hBx hlt hbx hsz ⟨hM, hok⟩ hlen
    have c0 : W.cell? ⟨Bx, 0, none⟩ = some (.bool r) := by simp [World.cell?, hbx]
    have c1 : W.cell? ⟨Bx, 1, none⟩ = some (.int .i64 m) := by simp [World.cell?, hbx]
    have p0 : W.cell? ⟨w.heap.size, 0, none⟩ = some (.slice ao g.objs.length co) := by have := hM.cell 1 rfl 0; simpa using this
    have p2 : W.cell? ⟨w.heap.size + 1, 0, none⟩ = some (.int .i64 0) := by have := hM.cell 0 rfl 0; simpa using this
    have p3 : W.frozen? ⟨w.heap.size + 1, 0, none⟩ = false := hM.free 0 rfl 0
    have Hok := Lib.hid hok
    have Hmem := Lib.hid hmem
    clear hok hbx
    simp only [laid]
    cases r
    · have HO := Lib.hid (Hok.out.snoc (x := ⟨⟨false, m⟩, hmem⟩) (by simp [badC]; omega))
      gi_wp2
      all_goals (first | exact ⟨KeepsFrom.refl _ _, Below.refl _ _, hM, HO.out⟩ | exact (undef_ne (by assumption)).elim)
    · by_cases hm : m < 0 ∨ (g.objs.length : Int) ≤ m
      · have hb2 : Bad2 g := ⟨_, hmem, by simp [badC, hm]⟩
        have Hb2 := Lib.hid hb2
        have hM2 := hM.setBox 0 rfl 0 (.int .i64 2)
        clear hb2
        rcases hm with hm | hm
        · gi_wp2
          exact ⟨(KeepsOthers.setCell _ _ _).from _, hM2, rfl, Hb2.out⟩
        · have hm0 : ¬ m < 0 := by omega
          gi_wp2
          exact ⟨(KeepsOthers.setCell _ _ _).from _, hM2, rfl, Hb2.out⟩
      · have HO := Lib.hid (Hok.out.snoc (x := ⟨⟨true, m⟩, hmem⟩) (by simp [badC, hm]))
        have hm1 : ¬ m < 0 := by omega
        have hm2 : ¬ (g.objs.length : Int) ≤ m := by omega
        clear hm
        gi_wp2
        exact ⟨KeepsFrom.refl _ _, Below.refl _ _, hM, HO.out⟩
  case stop =>
    rintro D c pre W hD hpre ⟨hM, rfl, hbad⟩ hK
    have hM2 := hM.addDef' (D := D) (by simp at hD; omega) hK (by repeat (first | exact calm_nil _ | refine calm_cons ?_ ?_ | exact ebox_calm _ _ _ _ | exact rowV_calm _ _ _ _ | exact rowI_calm _ _ _ _ | exact erow_calm _ _ _ _ _ _ | exact edef_calm (by first | exact Nat.le_refl _ | (simp; done) | (simp; omega) | (simp at *; omega)) | exact low_calm (by first | exact Nat.le_refl _ | (simp; done) | (simp; omega) | (simp at *; omega))))
    gi_wp2
    refine leaves_marks (v := .int .i64 2) [D] _ hM2 ?_
    intro W' hM3
    refine ⟨?_, ?_, hM3.below⟩
    · have q0 : W'.cell? ⟨w.heap.size + 1, 0, none⟩ = some (.int .i64 2) := by have := hM3.cell 0 rfl 0; simpa using this
      simp [results, Try.results36, go_sem, q0]
    · unfold CheckedC; rw [codeG2 h1 h2 h3 hbad]
  case done =>
    rintro D1 xs W hD1 hxs ⟨hM, hrok⟩ hK1
    have HR := Lib.hid hrok
    have HX := Lib.hid hxs
    have hM2 := hM.addDef' (D := D1) (by simp at hD1; omega) hK1 (by repeat (first | exact calm_nil _ | refine calm_cons ?_ ?_ | exact ebox_calm _ _ _ _ | exact rowV_calm _ _ _ _ | exact rowI_calm _ _ _ _ | exact erow_calm _ _ _ _ _ _ | exact edef_calm (by first | exact Nat.le_refl _ | (simp; done) | (simp; omega) | (simp at *; omega)) | exact low_calm (by first | exact Nat.le_refl _ | (simp; done) | (simp; omega) | (simp at *; omega))))
    have hD1W : D1 < W.heap.size := (hM2.lt (List.mem_cons_self ..) D1 rfl).2
    have p0 : W.cell? ⟨w.heap.size, 0, none⟩ = some (.slice ao g.objs.length co) := by have := hM2.cell 2 rfl 0; simpa using this
    have p1 : W.cell? ⟨w.heap.size, 1, none⟩ = some (.slice ar g.roots.length cr) := by have := hM2.cell 2 rfl 1; simpa using this
    have hszW : w.heap.size + 1 < W.heap.size := (hM2.box 1 rfl).2.1
    have hD1' : w.heap.size ≤ D1 := by simp at hD1; omega
    clear hrok hxs hD1
    gi_wp2_with fail
    refine ⟨trivial, (values_any _ _ _ _).mono ?_⟩
    rintro e w2 ⟨rfl, rfl⟩
    gi_wp2
    refine range_box (by omega) (gf := 87) (lb := #[.pointer (some ⟨W.heap.size, 0, none⟩)]) rfl (enters_of Try.func87 (by kernel_rfl) rfl)
      (values_stops _ (by omega) g _ _ W (Ho.out.later hM2.below) (Hr.out.later hM2.below)) (by simp)
      (fun pre W => Mem w.heap.size w W [edef D1, ebox (w.heap.size + 1) #[.int .i64 0] 28, ebox w.heap.size #[.slice ao g.objs.length co, .slice ar g.roots.length cr] 25] ∧ IntsOk g.objs.length pre)
      (fun c _ W => Mem w.heap.size w W [edef D1, ebox (w.heap.size + 1) #[.int .i64 3] 28, ebox w.heap.size #[.slice ao g.objs.length co, .slice ar g.roots.length cr] 25] ∧ (c = .ret ∧ Bad3 g))
      ((ownFrom_mem _ (by simp; omega) (by intro _; repeat (first | exact calm_nil _ | refine calm_cons ?_ ?_ | exact ebox_calm _ _ _ _ | exact rowV_calm _ _ _ _ | exact rowI_calm _ _ _ _ | exact erow_calm _ _ _ _ _ _ | exact edef_calm (by first | exact Nat.le_refl _ | (simp; done) | (simp; omega) | (simp at *; omega)) | exact low_calm (by first | exact Nat.le_refl _ | (simp; done) | (simp; omega) | (simp at *; omega))))).and (ownFrom_pure _ _))
      (fun c => (ownFrom_mem (fun _ => _) (by simp; omega) (by intro _; repeat (first | exact calm_nil _ | refine calm_cons ?_ ?_ | exact ebox_calm _ _ _ _ | exact rowV_calm _ _ _ _ | exact rowI_calm _ _ _ _ | exact erow_calm _ _ _ _ _ _ | exact edef_calm (by first | exact Nat.le_refl _ | (simp; done) | (simp; omega) | (simp at *; omega)) | exact low_calm (by first | exact Nat.le_refl _ | (simp; done) | (simp; omega) | (simp at *; omega))))).and (ownFrom_pure _ _))
      ⟨hM2.alloc_ _, by intro x hx; simp at hx⟩ 5 80 (fun x => #[.bool x.1.ref, .int .i64 x.1.n]) ?assign2 ?body2 ?done2 ?stop2
    case assign2 =>
      intro l x W K hK
      simp only [laid]
      gi_wp2
      exact hK
    case body2 =>
      rintro l pre ⟨⟨r, m⟩, hmem⟩ W Bx hBx hlt hbx hsz ⟨hM, hok⟩ hlen
      have c0 : W.cell? ⟨Bx, 0, none⟩ = some (.bool r) := by simp [World.cell?, hbx]
      have c1 : W.cell? ⟨Bx, 1, none⟩ = some (.int .i64 m) := by simp [World.cell?, hbx]
      have p2 : W.cell? ⟨w.heap.size + 1, 0, none⟩ = some (.int .i64 0) := by have := hM.cell 1 rfl 0; simpa using this
      have p3 : W.frozen? ⟨w.heap.size + 1, 0, none⟩ = false := hM.free 1 rfl 0
      have Hok := Lib.hid hok
      clear hok hbx
      simp only [laid]
      cases r
      · by_cases hm : m < -4611686018427387904 ∨ 4611686018427387903 < m
        · have hb2 : Bad3 g := ⟨_, hmem, by simp [badC, hm]⟩
          have Hb2 := Lib.hid hb2
          have hM2 := hM.setBox 1 rfl 0 (.int .i64 3)
          clear hb2
          rcases hm with hm | hm
          · gi_wp2
            exact ⟨(KeepsOthers.setCell _ _ _).from _, hM2, rfl, Hb2.out⟩
          · have hm0 : ¬ m < -4611686018427387904 := by omega
            gi_wp2
            exact ⟨(KeepsOthers.setCell _ _ _).from _, hM2, rfl, Hb2.out⟩
        · have HO := Lib.hid (Hok.out.snoc (x := ⟨⟨false, m⟩, hmem⟩) (by simp [badC, hm]))
          have hm1 : ¬ m < -4611686018427387904 := by omega
          have hm2 : ¬ 4611686018427387903 < m := by omega
          clear hm
          gi_wp2
          exact ⟨KeepsFrom.refl _ _, Below.refl _ _, hM, HO.out⟩
      · have HO := Lib.hid (Hok.out.snoc (x := ⟨⟨true, m⟩, hmem⟩) (by simp [badC]; omega))
        gi_wp2
        all_goals (first | exact ⟨KeepsFrom.refl _ _, Below.refl _ _, hM, HO.out⟩ | exact (undef_ne (by assumption)).elim)
    case stop2 =>
      rintro D c pre W hD hpre ⟨hM, rfl, hbad⟩ hK
      have hM2 := hM.addDef' (D := D) (by simp at hD; omega) hK (by repeat (first | exact calm_nil _ | refine calm_cons ?_ ?_ | exact ebox_calm _ _ _ _ | exact rowV_calm _ _ _ _ | exact rowI_calm _ _ _ _ | exact erow_calm _ _ _ _ _ _ | exact edef_calm (by first | exact Nat.le_refl _ | (simp; done) | (simp; omega) | (simp at *; omega)) | exact low_calm (by first | exact Nat.le_refl _ | (simp; done) | (simp; omega) | (simp at *; omega))))
      gi_wp2
      refine leaves_marks (v := .int .i64 3) [D, D1] _ hM2 ?_
      intro W' hM3
      refine ⟨?_, ?_, hM3.below⟩
      · have q0 : W'.cell? ⟨w.heap.size + 1, 0, none⟩ = some (.int .i64 3) := by have := hM3.cell 0 rfl 0; simpa using this
        simp [results, Try.results36, go_sem, q0]
      · unfold CheckedC; rw [codeG3 h1 h2 h3 (refs_no HX.out HR.out) hbad]
    case done2 =>
      rintro D ys W hD hys ⟨hM, hiok⟩ hK
      have HI := Lib.hid hiok
      have HY := Lib.hid hys
      clear hiok hys
      have hM2 := hM.addDef' (D := D) (by simp at hD; omega) hK (by repeat (first | exact calm_nil _ | refine calm_cons ?_ ?_ | exact ebox_calm _ _ _ _ | exact rowV_calm _ _ _ _ | exact rowI_calm _ _ _ _ | exact erow_calm _ _ _ _ _ _ | exact edef_calm (by first | exact Nat.le_refl _ | (simp; done) | (simp; omega) | (simp at *; omega)) | exact low_calm (by first | exact Nat.le_refl _ | (simp; done) | (simp; omega) | (simp at *; omega))))
      have p2 : W.cell? ⟨w.heap.size + 1, 0, none⟩ = some (.int .i64 0) := by have := hM2.cell 2 rfl 0; simpa using this
      have p3 : W.frozen? ⟨w.heap.size + 1, 0, none⟩ = false := hM2.free 2 rfl 0
      have hM4 := hM2.setBox 2 rfl 0 (.int .i64 0)
      gi_wp2
      refine leaves_marks (v := .int .i64 0) [D, D1] _ hM4 ?_
      intro W' hM3
      refine ⟨?_, ?_, hM3.below⟩
      · have q0 : W'.cell? ⟨w.heap.size + 1, 0, none⟩ = some (.int .i64 0) := by have := hM3.cell 0 rfl 0; simpa using this
        simp [results, Try.results36, go_sem, q0]
      · unfold CheckedC; rw [codeG0 (good_of h1 h2 h3 HX.out HY.out HR.out HI.out)]

set_option maxHeartbeats 400000 in
theorem gcheckC_big (g : G) (vo vr : Value) (w : World) (ho : IsObjs w vo g.objs) (hr : IsVals w vr g.roots) (h : 24 < g.objs.length ∨ 8 < g.roots.length ∨ ∃ o ∈ g.objs, 4 < o.length) :
    Calls Try.prog 36 #[.agg #[vo, vr]] w fun e w' => CheckedC g e ∧ Below w.heap.size w w' := by
  obtain ⟨ao, co, rfl, hlo⟩ := ho.slice
  obtain ⟨ar, cr, rfl, hlr⟩ := hr.slice
  have Ho := Lib.hid ho
  have hbad : ¬ Good g := by
    intro hg
    rcases h with h | h | ⟨o, ho, h⟩
    · have := hg.objs; omega
    · have := hg.roots; omega
    · have := hg.fields o ho; omega
  have H := Lib.hid h
  clear hbad ho hr h
  by_cases h2 : 24 < g.objs.length
  · go_enter Try.func36, Try.ntmps36
    go_wp2
    refine bodyPost_ret (v := .int .i64 1) (by simp [results, Try.results36, go_sem]) rfl ⟨by unfold CheckedC; rw [codeG1 H.out], ?_⟩
    exact (by repeat (first | exact Below.refl _ _ | refine Below.setCell ?_ (by first | exact Nat.le_refl _ | (simp; done) | (simp; omega) | (simp at *; omega)) _ | refine Below.alloc ?_ (by first | exact Nat.le_refl _ | (simp; done) | (simp; omega) | (simp at *; omega)) _ | refine Below.drew ?_ | refine Below.trans ?_ (Below.mono (by assumption) (by first | exact Nat.le_refl _ | (simp; done) | (simp; omega) | (simp at *; omega)))))
  · have h3 : g.objs.length ≤ 24 := by omega
    by_cases h4 : 8 < g.roots.length
    · clear h2
      go_enter Try.func36, Try.ntmps36
      go_wp2
      refine bodyPost_ret (v := .int .i64 1) (by simp [results, Try.results36, go_sem]) rfl ⟨by unfold CheckedC; rw [codeG1 H.out], ?_⟩
      exact (by repeat (first | exact Below.refl _ _ | refine Below.setCell ?_ (by first | exact Nat.le_refl _ | (simp; done) | (simp; omega) | (simp at *; omega)) _ | refine Below.alloc ?_ (by first | exact Nat.le_refl _ | (simp; done) | (simp; omega) | (simp at *; omega)) _ | refine Below.drew ?_ | refine Below.trans ?_ (Below.mono (by assumption) (by first | exact Nat.le_refl _ | (simp; done) | (simp; omega) | (simp at *; omega)))))
    · have h5 : g.roots.length ≤ 8 := by omega
      have h6 : ∃ o ∈ g.objs, 4 < o.length := by
        rcases H.out with h | h | h
        · omega
        · omega
        · exact h
      have H6 := Lib.hid h6
      clear h2 h4 h6
      go_enter Try.func36, Try.ntmps36
      go_wp2_with fail
      refine (containsLarge_yes _ _ _ (Ho.out.later (by repeat (first | exact Below.refl _ _ | refine Below.setCell ?_ (by first | exact Nat.le_refl _ | (simp; done) | (simp; omega) | (simp at *; omega)) _ | refine Below.alloc ?_ (by first | exact Nat.le_refl _ | (simp; done) | (simp; omega) | (simp at *; omega)) _ | refine Below.drew ?_ | refine Below.trans ?_ (Below.mono (by assumption) (by first | exact Nat.le_refl _ | (simp; done) | (simp; omega) | (simp at *; omega)))))) H6.out).mono ?_
      rintro e w1 ⟨rfl, hb⟩
      have q0 : w1.cell? ⟨w.heap.size + 1, 0, none⟩ = some (.int .i64 0) := by rw [hb.cell (p := ⟨_, _, none⟩) (by first | exact Nat.le_refl _ | (simp; done) | (simp; omega) | (simp at *; omega))]; go_simp
      have q1 : w1.frozen? ⟨w.heap.size + 1, 0, none⟩ = false := by rw [hb.frozen (p := ⟨_, _, none⟩) (by first | exact Nat.le_refl _ | (simp; done) | (simp; omega) | (simp at *; omega))]; go_simp
      go_wp2
      refine bodyPost_ret (v := .int .i64 1) (by simp [results, Try.results36, go_sem, q0]) rfl ⟨by unfold CheckedC; rw [codeG1 H.out], ?_⟩
      exact (by repeat (first | exact Below.refl _ _ | refine Below.setCell ?_ (by first | exact Nat.le_refl _ | (simp; done) | (simp; omega) | (simp at *; omega)) _ | refine Below.alloc ?_ (by first | exact Nat.le_refl _ | (simp; done) | (simp; omega) | (simp at *; omega)) _ | refine Below.drew ?_ | refine Below.trans ?_ (Below.mono (by assumption) (by first | exact Nat.le_refl _ | (simp; done) | (simp; omega) | (simp at *; omega)))))

/-- May a graph be? As graph.Check tells it. -/
theorem gcheckC_any (v : Value) (g : G) (w : World) (hg : IsGraph w v g) :
    Calls Try.prog 36 #[v] w fun e w' => CheckedC g e ∧ Below w.heap.size w w' := by
  obtain ⟨vo, vr, rfl, ho, hr⟩ := hg
  by_cases h : 24 < g.objs.length ∨ 8 < g.roots.length ∨ ∃ o ∈ g.objs, 4 < o.length
  · exact gcheckC_big g vo vr w ho hr h
  · refine callsIn_wide.1 (gcheckC_main g vo vr w ho hr (by omega) (by omega) ?_)
    intro o ho
    have : ¬ 4 < o.length := fun h4 => h (.inr (.inr ⟨o, ho, h4⟩))
    omega
end Go.Proofs.Ytmmcjjklmcfegaa
