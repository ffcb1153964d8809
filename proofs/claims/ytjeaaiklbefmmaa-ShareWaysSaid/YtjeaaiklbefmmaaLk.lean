/- GraphLike. -/
import Derived.Test.YtjeaaiklbefmmaaSm
namespace Go.Proofs.Ytjeaaiklbefmmaa
open Go.RowKit Go.Shelf

theorem Mem.cells2 {B : Nat} {w0 w : World} {L : List Ent} (h : Mem B w0 w L) (k : Nat) {b : Nat} {x y : Value} {t : TypeId} (hk : L[k]? = some (ebox b #[x, y] t)) : w.cell? ⟨b, 0, none⟩ = some x ∧ w.cell? ⟨b, 1, none⟩ = some y :=
  ⟨by have := h.cell k hk 0; simpa using this, by have := h.cell k hk 1; simpa using this⟩

set_option maxHeartbeats 400000 in
theorem refused_no (v : Value) (g : G) (w : World) (hg : IsGraph w v g) (h : Good g) :
    Calls Try.prog 16 #[v] w fun e w' => e = .returned (.bool false) ∧ Below w.heap.size w w' := by
  have hg0 := hg
  obtain ⟨vo, vr, rfl, ho, hr⟩ := hg
  obtain ⟨ao, co, rfl, hlo⟩ := ho.slice
  obtain ⟨ar, cr, rfl, hlr⟩ := hr.slice
  have Hg := Lib.hid hg0
  clear ho hr hg0
  go_enter Try.func16, Try.ntmps16
  go_wp2_with fail
  refine (gcheck_yes _ g _ (Hg.out.later ((Below.refl _ _).alloc (Nat.le_refl _) _)) h).mono ?_
  rintro e w1 ⟨rfl, hb⟩
  go_wp2
  go_ret
  exact ⟨rfl, (by repeat (first | exact Below.refl _ _ | refine Below.setCell ?_ (by first | exact Nat.le_refl _ | (simp; done) | (simp; omega) | (simp at *; omega)) _ | refine Below.alloc ?_ (by first | exact Nat.le_refl _ | (simp; done) | (simp; omega) | (simp at *; omega)) _ | refine Below.drew ?_ | refine Below.trans ?_ (Below.mono (by assumption) (by first | exact Nat.le_refl _ | (simp; done) | (simp; omega) | (simp at *; omega)))))⟩

set_option maxRecDepth 100000 in
set_option maxHeartbeats 4000000 in
theorem like_walk (w : World) (u v x : Value) (hu : ∃ g, IsGraph w u g) (hv : ∃ g, IsGraph w v g) (hx : ∃ g, IsGraph w x g) :
    Calls Try.prog 8 #[u, v, x] w fun e w' => e = .returned (.bool true) ∧ Below w.heap.size w w' := by
  obtain ⟨a, hu⟩ := hu
  obtain ⟨b, hv⟩ := hv
  obtain ⟨c, hx⟩ := hx
  have Hu := Lib.hid hu
  have Hv := Lib.hid hv
  have Hx := Lib.hid hx
  obtain ⟨uo, ur, rfl, huo, hur⟩ := hu
  obtain ⟨vo, vr, rfl, hvo, hvr⟩ := hv
  obtain ⟨xo, xr, rfl, hxo, hxr⟩ := hx
  obtain ⟨a1, c1, rfl, _⟩ := huo.slice
  obtain ⟨a2, c2, rfl, _⟩ := hur.slice
  obtain ⟨a3, c3, rfl, _⟩ := hvo.slice
  obtain ⟨a4, c4, rfl, _⟩ := hvr.slice
  obtain ⟨a5, c5, rfl, _⟩ := hxo.slice
  obtain ⟨a6, c6, rfl, _⟩ := hxr.slice
  clear huo hur hvo hvr hxo hxr
  have hM0 := (((Mem.start w).alloc #[.slice a1 a.objs.length c1, .slice a2 a.roots.length c2] 25).allocAt (w.heap.size + 1) (by simp) #[.slice a3 b.objs.length c3, .slice a4 b.roots.length c4] 25).allocAt (w.heap.size + 2) (by simp) #[.slice a5 c.objs.length c5, .slice a6 c.roots.length c6] 25
  by_cases ha : Good a
  · by_cases hb : Good b
    · by_cases hc : Good c
      · have Ha := Lib.hid ha
        have Hb := Lib.hid hb
        have Hc := Lib.hid hc
        clear ha hb hc
        go_enter Try.func8, Try.ntmps8
        go_wp2_with fail
        refine (good_yes _ a _ (Hu.out.later hM0.below) Ha.out).mono ?_
        rintro e w1 ⟨rfl, hb1⟩
        have hM1 := hM0.call hb1
        (have p_0 := hM1.cells2 2 rfl; have p_1 := hM1.cells2 1 rfl; have p_2 := hM1.cells2 0 rfl; obtain ⟨pa, pb⟩ := p_0; obtain ⟨pc, pd⟩ := p_1; obtain ⟨pe, pf⟩ := p_2)
        go_wp2_with fail
        refine (good_yes _ b _ (Hv.out.later hM1.below) Hb.out).mono ?_
        rintro e w2 ⟨rfl, hb2⟩
        have hM2 := hM1.call hb2
        (have q_0 := hM2.cells2 2 rfl; have q_1 := hM2.cells2 1 rfl; have q_2 := hM2.cells2 0 rfl; obtain ⟨qa, qb⟩ := q_0; obtain ⟨qc, qd⟩ := q_1; obtain ⟨qe, qf⟩ := q_2)
        go_wp2_with fail
        refine (good_yes _ c _ (Hx.out.later hM2.below) Hc.out).mono ?_
        rintro e w3 ⟨rfl, hb3⟩
        have hM3 := hM2.call hb3
        (have r_0 := hM3.cells2 2 rfl; have r_1 := hM3.cells2 1 rfl; have r_2 := hM3.cells2 0 rfl; obtain ⟨ra, rb⟩ := r_0; obtain ⟨rc, rd⟩ := r_1; obtain ⟨re, rf⟩ := r_2)
        go_wp2_with fail
        refine (same_any a a Ha.out Ha.out _ _ _ (Hu.out.later hM3.below) (Hu.out.later hM3.below)).mono ?_
        rintro e w4 ⟨aa, rfl, haa, hb4⟩
        obtain rfl := haa.refl
        have hM4 := hM3.call hb4
        (have s_0 := hM4.cells2 2 rfl; have s_1 := hM4.cells2 1 rfl; have s_2 := hM4.cells2 0 rfl; obtain ⟨sa, sb⟩ := s_0; obtain ⟨sc, sd⟩ := s_1; obtain ⟨se, sf⟩ := s_2)
        go_wp2_with fail
        refine (same_any a b Ha.out Hb.out _ _ _ (Hu.out.later hM4.below) (Hv.out.later hM4.below)).mono ?_
        rintro e w5 ⟨ab, rfl, hab, hb5⟩
        have Hab := Lib.hid hab
        clear hab
        have hM5 := hM4.call hb5
        (have t_0 := hM5.cells2 2 rfl; have t_1 := hM5.cells2 1 rfl; have t_2 := hM5.cells2 0 rfl; obtain ⟨ta, tb⟩ := t_0; obtain ⟨tc, td⟩ := t_1; obtain ⟨te, tf⟩ := t_2)
        go_wp2_with fail
        refine (same_any b a Hb.out Ha.out _ _ _ (Hv.out.later hM5.below) (Hu.out.later hM5.below)).mono ?_
        rintro e w6 ⟨ba, rfl, hba, hb6⟩
        obtain rfl := Hab.out.symm hba
        clear hba
        have hM6 := hM5.call hb6
        (have u_0 := hM6.cells2 2 rfl; have u_1 := hM6.cells2 1 rfl; have u_2 := hM6.cells2 0 rfl; obtain ⟨ua, ub⟩ := u_0; obtain ⟨uc, ud⟩ := u_1; obtain ⟨ue, uf⟩ := u_2)
        go_wp2_with fail
        refine (same_any b c Hb.out Hc.out _ _ _ (Hv.out.later hM6.below) (Hx.out.later hM6.below)).mono ?_
        rintro e w7 ⟨bc, rfl, hbc, hb7⟩
        have Hbc := Lib.hid hbc
        clear hbc
        have hM7 := hM6.call hb7
        (have v_0 := hM7.cells2 2 rfl; have v_1 := hM7.cells2 1 rfl; have v_2 := hM7.cells2 0 rfl; obtain ⟨va, vb⟩ := v_0; obtain ⟨vc, vd⟩ := v_1; obtain ⟨ve, vf⟩ := v_2)
        go_wp2_with fail
        refine (same_any a c Ha.out Hc.out _ _ _ (Hu.out.later hM7.below) (Hx.out.later hM7.below)).mono ?_
        rintro e w8 ⟨ac, rfl, hac, hb8⟩
        have Hac := Lib.hid hac
        clear hac
        have hM8 := hM7.call hb8
        cases ab with
        | false =>
          go_wp2
          go_ret
          exact ⟨rfl, hM8.below⟩
        | true =>
          cases bc with
          | false =>
            go_wp2
            go_ret
            exact ⟨rfl, hM8.below⟩
          | true =>
            obtain rfl := Hab.out.trans Hbc.out Hac.out rfl rfl
            go_wp2
            go_ret
            exact ⟨rfl, hM8.below⟩
      · have Ha := Lib.hid ha
        have Hb := Lib.hid hb
        have Hc := Lib.hid hc
        clear ha hb hc
        go_enter Try.func8, Try.ntmps8
        go_wp2_with fail
        refine (good_yes _ a _ (Hu.out.later hM0.below) Ha.out).mono ?_
        rintro e w1 ⟨rfl, hb1⟩
        have hM1 := hM0.call hb1
        (have p_0 := hM1.cells2 2 rfl; have p_1 := hM1.cells2 1 rfl; have p_2 := hM1.cells2 0 rfl; obtain ⟨pa, pb⟩ := p_0; obtain ⟨pc, pd⟩ := p_1; obtain ⟨pe, pf⟩ := p_2)
        go_wp2_with fail
        refine (good_yes _ b _ (Hv.out.later hM1.below) Hb.out).mono ?_
        rintro e w2 ⟨rfl, hb2⟩
        have hM2 := hM1.call hb2
        (have q_0 := hM2.cells2 2 rfl; have q_1 := hM2.cells2 1 rfl; have q_2 := hM2.cells2 0 rfl; obtain ⟨qa, qb⟩ := q_0; obtain ⟨qc, qd⟩ := q_1; obtain ⟨qe, qf⟩ := q_2)
        go_wp2_with fail
        refine (good_no _ c _ (Hx.out.later hM2.below) Hc.out).mono ?_
        rintro e w3 ⟨rfl, hb3⟩
        have hM3 := hM2.call hb3
        (have r_0 := hM3.cells2 2 rfl; have r_1 := hM3.cells2 1 rfl; have r_2 := hM3.cells2 0 rfl; obtain ⟨ra, rb⟩ := r_0; obtain ⟨rc, rd⟩ := r_1; obtain ⟨re, rf⟩ := r_2)
        go_wp2_with fail
        refine (refused_no _ a _ (Hu.out.later hM3.below) Ha.out).mono ?_
        rintro e w4 ⟨rfl, hb4⟩
        have hM4 := hM3.call hb4
        (have s_0 := hM4.cells2 2 rfl; have s_1 := hM4.cells2 1 rfl; have s_2 := hM4.cells2 0 rfl; obtain ⟨sa, sb⟩ := s_0; obtain ⟨sc, sd⟩ := s_1; obtain ⟨se, sf⟩ := s_2)
        go_wp2_with fail
        refine (refused_no _ b _ (Hv.out.later hM4.below) Hb.out).mono ?_
        rintro e w5 ⟨rfl, hb5⟩
        have hM5 := hM4.call hb5
        (have t_0 := hM5.cells2 2 rfl; have t_1 := hM5.cells2 1 rfl; have t_2 := hM5.cells2 0 rfl; obtain ⟨ta, tb⟩ := t_0; obtain ⟨tc, td⟩ := t_1; obtain ⟨te, tf⟩ := t_2)
        go_wp2_with fail
        refine (refused_yes _ c _ (Hx.out.later hM5.below) Hc.out).mono ?_
        rintro e w6 ⟨rfl, hb6⟩
        have hM6 := hM5.call hb6
        go_wp2
        go_ret
        exact ⟨rfl, hM6.below⟩
    · have Ha := Lib.hid ha
      have Hb := Lib.hid hb
      clear ha hb
      go_enter Try.func8, Try.ntmps8
      go_wp2_with fail
      refine (good_yes _ a _ (Hu.out.later hM0.below) Ha.out).mono ?_
      rintro e w1 ⟨rfl, hb1⟩
      have hM1 := hM0.call hb1
      (have p_0 := hM1.cells2 2 rfl; have p_1 := hM1.cells2 1 rfl; have p_2 := hM1.cells2 0 rfl; obtain ⟨pa, pb⟩ := p_0; obtain ⟨pc, pd⟩ := p_1; obtain ⟨pe, pf⟩ := p_2)
      go_wp2_with fail
      refine (good_no _ b _ (Hv.out.later hM1.below) Hb.out).mono ?_
      rintro e w2 ⟨rfl, hb2⟩
      have hM2 := hM1.call hb2
      (have q_0 := hM2.cells2 2 rfl; have q_1 := hM2.cells2 1 rfl; have q_2 := hM2.cells2 0 rfl; obtain ⟨qa, qb⟩ := q_0; obtain ⟨qc, qd⟩ := q_1; obtain ⟨qe, qf⟩ := q_2)
      go_wp2_with fail
      refine (refused_no _ a _ (Hu.out.later hM2.below) Ha.out).mono ?_
      rintro e w4 ⟨rfl, hb4⟩
      have hM4 := hM2.call hb4
      (have s_0 := hM4.cells2 2 rfl; have s_1 := hM4.cells2 1 rfl; have s_2 := hM4.cells2 0 rfl; obtain ⟨sa, sb⟩ := s_0; obtain ⟨sc, sd⟩ := s_1; obtain ⟨se, sf⟩ := s_2)
      go_wp2_with fail
      refine (refused_yes _ b _ (Hv.out.later hM4.below) Hb.out).mono ?_
      rintro e w5 ⟨rfl, hb5⟩
      have hM5 := hM4.call hb5
      go_wp2
      go_ret
      exact ⟨rfl, hM5.below⟩
  · have Ha := Lib.hid ha
    clear ha
    go_enter Try.func8, Try.ntmps8
    go_wp2_with fail
    refine (good_no _ a _ (Hu.out.later hM0.below) Ha.out).mono ?_
    rintro e w1 ⟨rfl, hb1⟩
    have hM1 := hM0.call hb1
    (have p_0 := hM1.cells2 2 rfl; have p_1 := hM1.cells2 1 rfl; have p_2 := hM1.cells2 0 rfl; obtain ⟨pa, pb⟩ := p_0; obtain ⟨pc, pd⟩ := p_1; obtain ⟨pe, pf⟩ := p_2)
    go_wp2_with fail
    refine (refused_yes _ a _ (Hu.out.later hM1.below) Ha.out).mono ?_
    rintro e w2 ⟨rfl, hb2⟩
    have hM2 := hM1.call hb2
    go_wp2
    go_ret
    exact ⟨rfl, hM2.below⟩
end Go.Proofs.Ytjeaaiklbefmmaa
