/- graph.Check: its code is OK just where the graph may be. -/
import Derived.Test.YtnpbdabboecpaaaRf
namespace Go.Proofs.Ytnpbdabboecpaaa
open Go.RowKit Go.Shelf

attribute [local go_sem] Oper.semAt_some

def RefsOk {g : G} (n : Int) (pre : List (Vg g)) : Prop := ∀ x ∈ pre, badC x.1 n ≠ 2
theorem undef_ne {b : Bool} (h : some undef = some (Value.bool b)) : False := by simp [undef] at h
def IntsOk {g : G} (n : Int) (pre : List (Vg g)) : Prop := ∀ x ∈ pre, badC x.1 n ≠ 3
theorem IntsOk.snoc {g : G} {n : Int} {pre : List (Vg g)} {x : Vg g} (h : IntsOk n pre) (hx : badC x.1 n ≠ 3) : IntsOk n (pre ++ [x]) := by
  intro y hy; rcases List.mem_append.1 hy with h1 | h1
  · exact h y h1
  · simp at h1; subst h1; exact hx
theorem good_of {g : G} (h1 : g.objs.length ≤ 24) (h2 : g.roots.length ≤ 8) (h3 : ∀ o ∈ g.objs, o.length ≤ 4) {xs ys : List (Vg g)} (hx : xs.map (·.1) = allV g) (hy : ys.map (·.1) = allV g)
    (hr : RefsOk g.objs.length xs) (hi : IntsOk g.objs.length ys) : Good g := by
  refine ⟨h1, h2, h3, fun v hv => ?_⟩
  have hv1 : v ∈ xs.map (·.1) := by rw [hx]; exact hv
  have hv2 : v ∈ ys.map (·.1) := by rw [hy]; exact hv
  obtain ⟨x, hxm, rfl⟩ := List.mem_map.1 hv1
  obtain ⟨y, hym, he⟩ := List.mem_map.1 hv2
  have a := hr x hxm
  have b := hi y hym
  rw [he] at b
  rcases badC_cases x.1 g.objs.length with h | h | h
  · exact h
  · exact (a h).elim
  · exact (b h).elim
theorem RefsOk.snoc {g : G} {n : Int} {pre : List (Vg g)} {x : Vg g} (h : RefsOk n pre) (hx : badC x.1 n ≠ 2) : RefsOk n (pre ++ [x]) := by
  intro y hy; rcases List.mem_append.1 hy with h1 | h1
  · exact h y h1
  · simp at h1; subst h1; exact hx
set_option maxRecDepth 100000 in
set_option maxHeartbeats 4000000 in
theorem gcheck_main (g : G) (vo vr : Value) (w : World) (ho : IsObjs w vo g.objs) (hr : IsVals w vr g.roots) (h1 : g.objs.length ≤ 24) (h2 : g.roots.length ≤ 8) (h3 : ∀ o ∈ g.objs, o.length ≤ 4) :
    CallsIn Fence.wide 10 Try.prog 31 #[.agg #[vo, vr]] w fun e w' => Checked g e ∧ Below w.heap.size w w' := by
  obtain ⟨ao, co, rfl, hlo⟩ := ho.slice
  obtain ⟨ar, cr, rfl, hlr⟩ := hr.slice
  have Ho := Lib.hid ho
  have Hr := Lib.hid hr
  have hno : ¬ ∃ o ∈ g.objs, 4 < o.length := fun ⟨o, ho, h⟩ => by have := h3 o ho; omega
  have Hno := Lib.hid hno
  clear ho hr hno
  refine callsIn_of_wp_marks Try.func31 rfl trivial ?_ rfl
  simp only [Try.ntmps31, List.size_toArray, List.length_cons, List.length_nil, Nat.reduceAdd, Nat.reduceSub, Array.replicate_succ, Array.replicate_zero, List.push_toArray, List.append_toArray, List.nil_append, List.cons_append]
  have hM0 := ((Mem.start w).alloc #[.slice ao g.objs.length co, .slice ar g.roots.length cr] 25).allocAt (w.heap.size + 1) (by simp) #[.int .i64 0] 28
  gi_wp2_with fail
  refine ⟨trivial, (callsIn_wide.2 (containsLarge_no _ _ _ (Ho.out.later (by repeat (first | exact Below.refl _ _ | refine Below.setCell ?_ (by first | exact Nat.le_refl _ | (simp; done) | (simp; omega) | (simp at *; omega)) _ | refine Below.alloc ?_ (by first | exact Nat.le_refl _ | (simp; done) | (simp; omega) | (simp at *; omega)) _ | refine Below.drew ?_ | refine Below.trans ?_ (Below.mono (by assumption) (by first | exact Nat.le_refl _ | (simp; done) | (simp; omega) | (simp at *; omega)))))) Hno.out)).mono ?_⟩
  rintro e w1 ⟨rfl, hb⟩
  have hM1 := hM0.call hb
  have p0 : w1.cell? ⟨w.heap.size, 0, none⟩ = some (.slice ao g.objs.length co) := by have := hM1.cell 1 rfl 0; simpa using this
  have p1 : w1.cell? ⟨w.heap.size, 1, none⟩ = some (.slice ar g.roots.length cr) := by have := hM1.cell 1 rfl 1; simpa using this
  gi_wp2_with fail
  refine ⟨trivial, (values_any _ _ _ _).mono ?_⟩
  rintro e w2 ⟨rfl, rfl⟩
  gi_wp2
  have hsz1 : w.heap.size + 1 < w1.heap.size := (hM1.box 0 rfl).2.1
  refine range_box (by omega) (gf := 62) (lb := #[.pointer (some ⟨w1.heap.size, 0, none⟩)]) rfl (enters_of Try.func62 (by kernel_rfl) rfl)
    (values_stops _ (by omega) g _ _ w1 (Ho.out.later hM1.below) (Hr.out.later hM1.below)) (by simp)
    (fun pre W => Mem w.heap.size w W [ebox (w.heap.size + 1) #[.int .i64 0] 28, ebox w.heap.size #[.slice ao g.objs.length co, .slice ar g.roots.length cr] 25] ∧ RefsOk g.objs.length pre)
    (fun c _ W => Mem w.heap.size w W [ebox (w.heap.size + 1) #[.int .i64 2] 28, ebox w.heap.size #[.slice ao g.objs.length co, .slice ar g.roots.length cr] 25] ∧ (c = .ret ∧ ¬ Good g))
    ((ownFrom_mem _ (by simp; omega) (by intro _; repeat (first | exact calm_nil _ | refine calm_cons ?_ ?_ | exact ebox_calm _ _ _ _ | exact rowV_calm _ _ _ _ | exact rowI_calm _ _ _ _ | exact erow_calm _ _ _ _ _ _ | exact edef_calm (by first | exact Nat.le_refl _ | (simp; done) | (simp; omega) | (simp at *; omega)) | exact low_calm (by first | exact Nat.le_refl _ | (simp; done) | (simp; omega) | (simp at *; omega))))).and (ownFrom_pure _ _))
    (fun c => (ownFrom_mem (fun _ => _) (by simp; omega) (by intro _; repeat (first | exact calm_nil _ | refine calm_cons ?_ ?_ | exact ebox_calm _ _ _ _ | exact rowV_calm _ _ _ _ | exact rowI_calm _ _ _ _ | exact erow_calm _ _ _ _ _ _ | exact edef_calm (by first | exact Nat.le_refl _ | (simp; done) | (simp; omega) | (simp at *; omega)) | exact low_calm (by first | exact Nat.le_refl _ | (simp; done) | (simp; omega) | (simp at *; omega))))).and (ownFrom_pure _ _))
    ⟨hM1.alloc_ _, by intro x hx; simp at hx⟩ 4 60 (fun x => #[.bool x.1.ref, .int .i64 x.1.n]) ?assign ?body ?done ?stop
  case assign =>
    intro l x W K hK
    simp only [laid]
    gi_wp2
    exact hK
  case body =>
    rintro l pre ⟨⟨r, m⟩, hmem⟩ W Bx hBx hlt hbx hsz ⟨hM, hok⟩ hlen
    have c0 : W.cell? ⟨Bx, 0, none⟩ = some (.bool r) := by simp [World.cell?, hbx]
    have c1 : W.cell? ⟨Bx, 1, none⟩ = some (.int .i64 m) := by simp [World.cell?, hbx]
    have p0 : W.cell? ⟨w.heap.size, 0, none⟩ = some (.slice ao g.objs.length co) := by have := hM.cell 1 rfl 0; simpa using this
    have p2 : W.cell? ⟨w.heap.size + 1, 0, none⟩ = some (.int .i64 0) := by have := hM.cell 0 rfl 0; simpa using this
    have p3 : W.frozen? ⟨w.heap.size + 1, 0, none⟩ = false := hM.free 0 rfl 0
    have Hok := Lib.hid hok
    have Hmem := Lib.hid hmem
    clear hok hbx
    simp only [laid]
    cases r
    · have HO := Lib.hid (Hok.out.snoc (x := ⟨⟨false, m⟩, hmem⟩) (by simp [badC]; omega))
      gi_wp2
      all_goals (first | exact ⟨KeepsFrom.refl _ _, Below.refl _ _, hM, HO.out⟩ | exact (undef_ne (by assumption)).elim)
    · by_cases hm : m < 0 ∨ (g.objs.length : Int) ≤ m
      · have hb2 : ¬ Good g := fun h => by have := h.vals _ hmem; simp [badC, hm] at this
        have Hb2 := Lib.hid hb2
        have hM2 := hM.setBox 0 rfl 0 (.int .i64 2)
        clear hb2
        rcases hm with hm | hm
        · gi_wp2
          exact ⟨(KeepsOthers.setCell _ _ _).from _, hM2, rfl, Hb2.out⟩
        · have hm0 : ¬ m < 0 := by omega
          gi_wp2
          exact ⟨(KeepsOthers.setCell _ _ _).from _, hM2, rfl, Hb2.out⟩
      · have HO := Lib.hid (Hok.out.snoc (x := ⟨⟨true, m⟩, hmem⟩) (by simp [badC, hm]))
        have hm1 : ¬ m < 0 := by omega
        have hm2 : ¬ (g.objs.length : Int) ≤ m := by omega
        clear hm
        gi_wp2
        exact ⟨KeepsFrom.refl _ _, Below.refl _ _, hM, HO.out⟩
  case stop =>
    rintro D c pre W hD hpre ⟨hM, rfl, hbad⟩ hK
    have hM2 := hM.addDef' (D := D) (by simp at hD; omega) hK (by repeat (first | exact calm_nil _ | refine calm_cons ?_ ?_ | exact ebox_calm _ _ _ _ | exact rowV_calm _ _ _ _ | exact rowI_calm _ _ _ _ | exact erow_calm _ _ _ _ _ _ | exact edef_calm (by first | exact Nat.le_refl _ | (simp; done) | (simp; omega) | (simp at *; omega)) | exact low_calm (by first | exact Nat.le_refl _ | (simp; done) | (simp; omega) | (simp at *; omega))))
    gi_wp2
    refine leaves_marks (v := .int .i64 2) [D] _ hM2 ?_
    intro W' hM3
    refine ⟨?_, ⟨2, rfl, ?_⟩, hM3.below⟩
    · have q0 : W'.cell? ⟨w.heap.size + 1, 0, none⟩ = some (.int .i64 2) := by have := hM3.cell 0 rfl 0; simpa using this
      simp [results, Try.results31, go_sem, q0]
    · simp [hbad]
  case done =>
    rintro D1 xs W hD1 hxs ⟨hM, hrok⟩ hK1
    have HR := Lib.hid hrok
    have HX := Lib.hid hxs
    have hM2 := hM.addDef' (D := D1) (by simp at hD1; omega) hK1 (by repeat (first | exact calm_nil _ | refine calm_cons ?_ ?_ | exact ebox_calm _ _ _ _ | exact rowV_calm _ _ _ _ | exact rowI_calm _ _ _ _ | exact erow_calm _ _ _ _ _ _ | exact edef_calm (by first | exact Nat.le_refl _ | (simp; done) | (simp; omega) | (simp at *; omega)) | exact low_calm (by first | exact Nat.le_refl _ | (simp; done) | (simp; omega) | (simp at *; omega))))
    have hD1W : D1 < W.heap.size := (hM2.lt (List.mem_cons_self ..) D1 rfl).2
    have p0 : W.cell? ⟨w.heap.size, 0, none⟩ = some (.slice ao g.objs.length co) := by have := hM2.cell 2 rfl 0; simpa using this
    have p1 : W.cell? ⟨w.heap.size, 1, none⟩ = some (.slice ar g.roots.length cr) := by have := hM2.cell 2 rfl 1; simpa using this
    have hszW : w.heap.size + 1 < W.heap.size := (hM2.box 1 rfl).2.1
    have hD1' : w.heap.size ≤ D1 := by simp at hD1; omega
    clear hrok hxs hD1
    gi_wp2_with fail
    refine ⟨trivial, (values_any _ _ _ _).mono ?_⟩
    rintro e w2 ⟨rfl, rfl⟩
    gi_wp2
    refine range_box (by omega) (gf := 62) (lb := #[.pointer (some ⟨W.heap.size, 0, none⟩)]) rfl (enters_of Try.func62 (by kernel_rfl) rfl)
      (values_stops _ (by omega) g _ _ W (Ho.out.later hM2.below) (Hr.out.later hM2.below)) (by simp)
      (fun pre W => Mem w.heap.size w W [edef D1, ebox (w.heap.size + 1) #[.int .i64 0] 28, ebox w.heap.size #[.slice ao g.objs.length co, .slice ar g.roots.length cr] 25] ∧ IntsOk g.objs.length pre)
      (fun c _ W => Mem w.heap.size w W [edef D1, ebox (w.heap.size + 1) #[.int .i64 3] 28, ebox w.heap.size #[.slice ao g.objs.length co, .slice ar g.roots.length cr] 25] ∧ (c = .ret ∧ ¬ Good g))
      ((ownFrom_mem _ (by simp; omega) (by intro _; repeat (first | exact calm_nil _ | refine calm_cons ?_ ?_ | exact ebox_calm _ _ _ _ | exact rowV_calm _ _ _ _ | exact rowI_calm _ _ _ _ | exact erow_calm _ _ _ _ _ _ | exact edef_calm (by first | exact Nat.le_refl _ | (simp; done) | (simp; omega) | (simp at *; omega)) | exact low_calm (by first | exact Nat.le_refl _ | (simp; done) | (simp; omega) | (simp at *; omega))))).and (ownFrom_pure _ _))
      (fun c => (ownFrom_mem (fun _ => _) (by simp; omega) (by intro _; repeat (first | exact calm_nil _ | refine calm_cons ?_ ?_ | exact ebox_calm _ _ _ _ | exact rowV_calm _ _ _ _ | exact rowI_calm _ _ _ _ | exact erow_calm _ _ _ _ _ _ | exact edef_calm (by first | exact Nat.le_refl _ | (simp; done) | (simp; omega) | (simp at *; omega)) | exact low_calm (by first | exact Nat.le_refl _ | (simp; done) | (simp; omega) | (simp at *; omega))))).and (ownFrom_pure _ _))
      ⟨hM2.alloc_ _, by intro x hx; simp at hx⟩ 5 60 (fun x => #[.bool x.1.ref, .int .i64 x.1.n]) ?assign2 ?body2 ?done2 ?stop2
    case assign2 =>
      intro l x W K hK
      simp only [laid]
      gi_wp2
      exact hK
    case body2 =>
      rintro l pre ⟨⟨r, m⟩, hmem⟩ W Bx hBx hlt hbx hsz ⟨hM, hok⟩ hlen
      have c0 : W.cell? ⟨Bx, 0, none⟩ = some (.bool r) := by simp [World.cell?, hbx]
      have c1 : W.cell? ⟨Bx, 1, none⟩ = some (.int .i64 m) := by simp [World.cell?, hbx]
      have p2 : W.cell? ⟨w.heap.size + 1, 0, none⟩ = some (.int .i64 0) := by have := hM.cell 1 rfl 0; simpa using this
      have p3 : W.frozen? ⟨w.heap.size + 1, 0, none⟩ = false := hM.free 1 rfl 0
      have Hok := Lib.hid hok
      clear hok hbx
      simp only [laid]
      cases r
      · by_cases hm : m < -4611686018427387904 ∨ 4611686018427387903 < m
        · have hb2 : ¬ Good g := fun h => by have := h.vals _ hmem; simp [badC, hm] at this
          have Hb2 := Lib.hid hb2
          have hM2 := hM.setBox 1 rfl 0 (.int .i64 3)
          clear hb2
          rcases hm with hm | hm
          · gi_wp2
            exact ⟨(KeepsOthers.setCell _ _ _).from _, hM2, rfl, Hb2.out⟩
          · have hm0 : ¬ m < -4611686018427387904 := by omega
            gi_wp2
            exact ⟨(KeepsOthers.setCell _ _ _).from _, hM2, rfl, Hb2.out⟩
        · have HO := Lib.hid (Hok.out.snoc (x := ⟨⟨false, m⟩, hmem⟩) (by simp [badC, hm]))
          have hm1 : ¬ m < -4611686018427387904 := by omega
          have hm2 : ¬ 4611686018427387903 < m := by omega
          clear hm
          gi_wp2
          exact ⟨KeepsFrom.refl _ _, Below.refl _ _, hM, HO.out⟩
      · have HO := Lib.hid (Hok.out.snoc (x := ⟨⟨true, m⟩, hmem⟩) (by simp [badC]; omega))
        gi_wp2
        all_goals (first | exact ⟨KeepsFrom.refl _ _, Below.refl _ _, hM, HO.out⟩ | exact (undef_ne (by assumption)).elim)
    case stop2 =>
      rintro D c pre W hD hpre ⟨hM, rfl, hbad⟩ hK
      have hM2 := hM.addDef' (D := D) (by simp at hD; omega) hK (by repeat (first | exact calm_nil _ | refine calm_cons ?_ ?_ | exact ebox_calm _ _ _ _ | exact rowV_calm _ _ _ _ | exact rowI_calm _ _ _ _ | exact erow_calm _ _ _ _ _ _ | exact edef_calm (by first | exact Nat.le_refl _ | (simp; done) | (simp; omega) | (simp at *; omega)) | exact low_calm (by first | exact Nat.le_refl _ | (simp; done) | (simp; omega) | (simp at *; omega))))
      gi_wp2
      refine leaves_marks (v := .int .i64 3) [D, D1] _ hM2 ?_
      intro W' hM3
      refine ⟨?_, ⟨3, rfl, ?_⟩, hM3.below⟩
      · have q0 : W'.cell? ⟨w.heap.size + 1, 0, none⟩ = some (.int .i64 3) := by have := hM3.cell 0 rfl 0; simpa using this
        simp [results, Try.results31, go_sem, q0]
      · simp [hbad]
    case done2 =>
      rintro D ys W hD hys ⟨hM, hiok⟩ hK
      have HI := Lib.hid hiok
      have HY := Lib.hid hys
      clear hiok hys
      have hM2 := hM.addDef' (D := D) (by simp at hD; omega) hK (by repeat (first | exact calm_nil _ | refine calm_cons ?_ ?_ | exact ebox_calm _ _ _ _ | exact rowV_calm _ _ _ _ | exact rowI_calm _ _ _ _ | exact erow_calm _ _ _ _ _ _ | exact edef_calm (by first | exact Nat.le_refl _ | (simp; done) | (simp; omega) | (simp at *; omega)) | exact low_calm (by first | exact Nat.le_refl _ | (simp; done) | (simp; omega) | (simp at *; omega))))
      have p2 : W.cell? ⟨w.heap.size + 1, 0, none⟩ = some (.int .i64 0) := by have := hM2.cell 2 rfl 0; simpa using this
      have p3 : W.frozen? ⟨w.heap.size + 1, 0, none⟩ = false := hM2.free 2 rfl 0
      have hM4 := hM2.setBox 2 rfl 0 (.int .i64 0)
      gi_wp2
      refine leaves_marks (v := .int .i64 0) [D, D1] _ hM4 ?_
      intro W' hM3
      refine ⟨?_, ⟨0, rfl, ?_⟩, hM3.below⟩
      · have q0 : W'.cell? ⟨w.heap.size + 1, 0, none⟩ = some (.int .i64 0) := by have := hM3.cell 0 rfl 0; simpa using this
        simp [results, Try.results31, go_sem, q0]
      · simp only [true_iff]; exact good_of h1 h2 h3 HX.out HY.out HR.out HI.out

set_option maxHeartbeats 400000 in
theorem gcheck_big (g : G) (vo vr : Value) (w : World) (ho : IsObjs w vo g.objs) (hr : IsVals w vr g.roots) (h : 24 < g.objs.length ∨ 8 < g.roots.length ∨ ∃ o ∈ g.objs, 4 < o.length) :
    Calls Try.prog 31 #[.agg #[vo, vr]] w fun e w' => Checked g e ∧ Below w.heap.size w w' := by
  obtain ⟨ao, co, rfl, hlo⟩ := ho.slice
  obtain ⟨ar, cr, rfl, hlr⟩ := hr.slice
  have Ho := Lib.hid ho
  have hbad : ¬ Good g := by
    intro hg
    rcases h with h | h | ⟨o, ho, h⟩
    · have := hg.objs; omega
    · have := hg.roots; omega
    · have := hg.fields o ho; omega
  have Hbad := Lib.hid hbad
  have H := Lib.hid h
  clear hbad ho hr h
  by_cases h2 : 24 < g.objs.length
  · go_enter Try.func31, Try.ntmps31
    go_wp2
    refine bodyPost_ret (v := .int .i64 1) (by simp [results, Try.results31, go_sem]) rfl ⟨⟨1, rfl, by simp [Hbad.out]⟩, ?_⟩
    exact (by repeat (first | exact Below.refl _ _ | refine Below.setCell ?_ (by first | exact Nat.le_refl _ | (simp; done) | (simp; omega) | (simp at *; omega)) _ | refine Below.alloc ?_ (by first | exact Nat.le_refl _ | (simp; done) | (simp; omega) | (simp at *; omega)) _ | refine Below.drew ?_ | refine Below.trans ?_ (Below.mono (by assumption) (by first | exact Nat.le_refl _ | (simp; done) | (simp; omega) | (simp at *; omega)))))
  · have h3 : g.objs.length ≤ 24 := by omega
    by_cases h4 : 8 < g.roots.length
    · clear h2
      go_enter Try.func31, Try.ntmps31
      go_wp2
      refine bodyPost_ret (v := .int .i64 1) (by simp [results, Try.results31, go_sem]) rfl ⟨⟨1, rfl, by simp [Hbad.out]⟩, ?_⟩
      exact (by repeat (first | exact Below.refl _ _ | refine Below.setCell ?_ (by first | exact Nat.le_refl _ | (simp; done) | (simp; omega) | (simp at *; omega)) _ | refine Below.alloc ?_ (by first | exact Nat.le_refl _ | (simp; done) | (simp; omega) | (simp at *; omega)) _ | refine Below.drew ?_ | refine Below.trans ?_ (Below.mono (by assumption) (by first | exact Nat.le_refl _ | (simp; done) | (simp; omega) | (simp at *; omega)))))
    · have h5 : g.roots.length ≤ 8 := by omega
      have h6 : ∃ o ∈ g.objs, 4 < o.length := by
        rcases H.out with h | h | h
        · omega
        · omega
        · exact h
      have H6 := Lib.hid h6
      clear h2 h4 h6
      go_enter Try.func31, Try.ntmps31
      go_wp2_with fail
      refine (containsLarge_yes _ _ _ (Ho.out.later (by repeat (first | exact Below.refl _ _ | refine Below.setCell ?_ (by first | exact Nat.le_refl _ | (simp; done) | (simp; omega) | (simp at *; omega)) _ | refine Below.alloc ?_ (by first | exact Nat.le_refl _ | (simp; done) | (simp; omega) | (simp at *; omega)) _ | refine Below.drew ?_ | refine Below.trans ?_ (Below.mono (by assumption) (by first | exact Nat.le_refl _ | (simp; done) | (simp; omega) | (simp at *; omega)))))) H6.out).mono ?_
      rintro e w1 ⟨rfl, hb⟩
      have q0 : w1.cell? ⟨w.heap.size + 1, 0, none⟩ = some (.int .i64 0) := by rw [hb.cell (p := ⟨_, _, none⟩) (by first | exact Nat.le_refl _ | (simp; done) | (simp; omega) | (simp at *; omega))]; go_simp
      have q1 : w1.frozen? ⟨w.heap.size + 1, 0, none⟩ = false := by rw [hb.frozen (p := ⟨_, _, none⟩) (by first | exact Nat.le_refl _ | (simp; done) | (simp; omega) | (simp at *; omega))]; go_simp
      go_wp2
      refine bodyPost_ret (v := .int .i64 1) (by simp [results, Try.results31, go_sem, q0]) rfl ⟨⟨1, rfl, by simp [Hbad.out]⟩, ?_⟩
      exact (by repeat (first | exact Below.refl _ _ | refine Below.setCell ?_ (by first | exact Nat.le_refl _ | (simp; done) | (simp; omega) | (simp at *; omega)) _ | refine Below.alloc ?_ (by first | exact Nat.le_refl _ | (simp; done) | (simp; omega) | (simp at *; omega)) _ | refine Below.drew ?_ | refine Below.trans ?_ (Below.mono (by assumption) (by first | exact Nat.le_refl _ | (simp; done) | (simp; omega) | (simp at *; omega)))))

/-- May a graph be? As graph.Check tells it. -/
theorem gcheck_any (v : Value) (g : G) (w : World) (hg : IsGraph w v g) :
    Calls Try.prog 31 #[v] w fun e w' => Checked g e ∧ Below w.heap.size w w' := by
  obtain ⟨vo, vr, rfl, ho, hr⟩ := hg
  by_cases h : 24 < g.objs.length ∨ 8 < g.roots.length ∨ ∃ o ∈ g.objs, 4 < o.length
  · exact gcheck_big g vo vr w ho hr h
  · refine callsIn_wide.1 (gcheck_main g vo vr w ho hr (by omega) (by omega) ?_)
    intro o ho
    have : ¬ 4 < o.length := fun h4 => h (.inr (.inr ⟨o, ho, h4⟩))
    omega
theorem gcheck_yes (v : Value) (g : G) (w : World) (hg : IsGraph w v g) (h : Good g) :
    Calls Try.prog 31 #[v] w fun e w' => e = .returned (.int .i64 0) ∧ Below w.heap.size w w' := by
  refine (gcheck_any v g w hg).mono ?_
  rintro e w' ⟨⟨c, rfl, hc⟩, hb⟩
  exact ⟨by rw [hc.2 h], hb⟩
theorem gcheck_no (v : Value) (g : G) (w : World) (hg : IsGraph w v g) (h : ¬ Good g) :
    Calls Try.prog 31 #[v] w fun e w' => (∃ c : Int, e = .returned (.int .i64 c) ∧ (c == 0) = false) ∧ Below w.heap.size w w' := by
  refine (gcheck_any v g w hg).mono ?_
  rintro e w' ⟨⟨c, rfl, hc⟩, hb⟩
  exact ⟨⟨c, rfl, by simp; intro e; exact h (hc.1 e)⟩, hb⟩

end Go.Proofs.Ytnpbdabboecpaaa
