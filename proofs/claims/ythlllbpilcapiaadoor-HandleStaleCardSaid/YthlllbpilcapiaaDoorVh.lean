/- Handles: the code of an error; one thing that is done, walked. -/
import Derived.Test.YthlllbpilcapiaaDoorVe
import Derived.Test.YthlllbpilcapiaaDoorVg
namespace Go.Proofs.YthlllbpilcapiaaDoor
open Go.RowKit

/-- The variable errors.errorType holds the type error's handle. -/
def EtOk (w : World) : Prop := w.cell? ⟨0, 0, none⟩ = some (.iface 67 (.agg #[.pointer (some ⟨1, 39, none⟩)]))
theorem EtOk.pos {w : World} (h : EtOk w) : 0 < w.heap.size := by
  rcases Nat.eq_zero_or_pos w.heap.size with h0 | h1
  · simp [EtOk, World.cell?, h0] at h
  · exact h1
theorem EtOk.later {w w' : World} {B : Nat} (h : EtOk w) (hb : Below B w w') (hB : 0 < B) : EtOk w' := (hb.cell (p := ⟨0, 0, none⟩) hB).trans h
def errV (c : Int) : Value := if c = 0 then .nilIface else .iface 50 (.int .i64 c)
set_option maxRecDepth 100000 in
set_option maxHeartbeats 1000000 in
theorem code_any (c : Int) (w : World) (he : EtOk w) : Calls Tryd.prog 7 #[errV c] w fun e w' => e = .returned (.int .i64 c) ∧ Below w.heap.size w w' := by
  have hw0 := he.pos
  have hb1 : Below w.heap.size w (w.alloc (.cells #[.int .i64 0] 50)) := (Below.refl _ w).alloc (Nat.le_refl _) _
  by_cases hc : c = 0
  · subst hc
    have HB := Lib.hid hb1
    have hx : errV 0 = .nilIface := rfl
    rw [hx]
    clear hb1 hx he
    go_enter Tryd.func7, Tryd.ntmps7
    go_wp2_with (go_at_call 11; with_reducible refine (as_nil _ _).mono ?_; rintro e w' ⟨rfl, rfl⟩)
    go_ret
    exact ⟨rfl, HB.out⟩
  · have hx : errV c = .iface 50 (.int .i64 c) := if_neg hc
    rw [hx]
    have hg1 : (w.alloc (.cells #[.int .i64 0] 50)).cell? ⟨0, 0, none⟩ = some (.iface 67 (.agg #[.pointer (some ⟨1, 39, none⟩)])) := he.later hb1 hw0
    have ht1 : (w.alloc (.cells #[.int .i64 0] 50)).cell? ⟨w.heap.size, 0, none⟩ = some (.int .i64 0) := by simp
    have hf1 : (w.alloc (.cells #[.int .i64 0] 50)).frozen? ⟨w.heap.size, 0, none⟩ = false := by simp
    have HA := Lib.hid (as_hit c ⟨w.heap.size, 0, none⟩ (.int .i64 0) _ hg1 ht1 hf1)
    have HB := Lib.hid hb1
    clear hb1 hx hg1 ht1 hf1 hc he
    go_enter Tryd.func7, Tryd.ntmps7
    go_wp2_with fail
    with_reducible refine HA.out.mono ?_
    rintro e w' ⟨rfl, rfl⟩
    clear HA
    go_wp2
    go_ret
    refine ⟨by simp, ?_⟩
    exact (by repeat (first | exact Below.refl _ _ | refine Below.setCell ?_ (by first | exact Nat.le_refl _ | (simp; done) | (simp; omega) | (simp at *; omega)) _ | refine Below.alloc ?_ (by first | exact Nat.le_refl _ | (simp; done) | (simp; omega) | (simp at *; omega)) _ | refine Below.drew ?_ | refine Below.trans ?_ (Below.mono (by assumption) (by first | exact Nat.le_refl _ | (simp; done) | (simp; omega) | (simp at *; omega)))))
set_option maxRecDepth 100000 in
set_option maxHeartbeats 1000000 in
theorem does_any (B : Nat) (w0 w : World) (bt g n cap : Nat) (t : List Slot) (d : Int × Int) (L' : List Ent) (hM : Mem B w0 w (ownT bt g n cap t ++ L')) (hn : t.length = n) (hn32 : n ≤ 32) (h64 : i64ok d.2) (hver : ∀ s ∈ t, s.2.1 ≤ 4) :
    Calls Tryd.prog 6 #[.pointer (some ⟨bt, 0, none⟩), .agg #[.int .i64 d.1, .int .i64 d.2]] w fun e w' => e = .returned (.tuple #[.int .i64 (stepH t d).2.2, errV (stepH t d).2.1]) ∧ Mem B w0 w' (ownT bt g n cap (stepH t d).1 ++ L') := by
  obtain ⟨dk, dn⟩ := d
  simp only at h64
  have hM1 := hM.alloc_ (.cells #[.int .i64 dk, .int .i64 dn] 30)
  obtain ⟨W, hW⟩ : ∃ W, w.alloc (.cells #[.int .i64 dk, .int .i64 dn] 30) = W := ⟨_, rfl⟩
  obtain ⟨b, hb⟩ : ∃ b, w.heap.size = b := ⟨_, rfl⟩
  have a0 : W.cell? ⟨b, 0, none⟩ = some (.int .i64 dk) := by rw [← hW, ← hb]; simp
  have a1 : W.cell? ⟨b, 1, none⟩ = some (.int .i64 dn) := by rw [← hW, ← hb]; simp
  have az : b < W.heap.size := by rw [← hW, ← hb]; simp
  rw [hW] at hM1
  have HW := Lib.hid hW
  have Hb := Lib.hid hb
  have HM := Lib.hid hM1
  clear hM hM1 hW hb
  by_cases h1 : dk = 1
  · have q1 : (dk == 1) = true := beq_iff_eq.2 h1
    have HK := Lib.hid (make_any B w0 W bt g n cap t dn L' HM.out hn hn32 hver)
    cases hm : makeH t dn with
    | none =>
      have hst : stepH t (dk, dn) = (t, 6, 0) := by unfold stepH; rw [if_pos h1, hm]
      rw [hm] at HK
      have HS := Lib.hid hst
      clear hst hm HM h1
      go_enter Tryd.func6, Tryd.ntmps6
      go_upto_region 1 with (fail)
      rw [HW.out, Hb.out]
      go_wp2_with fail
      with_reducible refine HK.out.mono ?_
      rintro e w1 ⟨rfl, hM1⟩
      have HM1 := Lib.hid hM1
      clear hM1 HK
      go_wp2
      go_ret2
      rw [HS.out]
      exact ⟨rfl, HM1.out⟩
    | some r =>
      obtain ⟨h, t'⟩ := r
      have hst : stepH t (dk, dn) = (t', 0, h) := by unfold stepH; rw [if_pos h1, hm]
      rw [hm] at HK
      have HS := Lib.hid hst
      clear hst hm HM h1
      go_enter Tryd.func6, Tryd.ntmps6
      go_upto_region 1 with (fail)
      rw [HW.out, Hb.out]
      go_wp2_with fail
      with_reducible refine HK.out.mono ?_
      rintro e w1 ⟨rfl, hM1⟩
      have HM1 := Lib.hid hM1
      clear hM1 HK
      go_wp2
      go_ret2
      rw [HS.out]
      exact ⟨rfl, HM1.out⟩
  · have q1 : (dk == 1) = false := by simpa using h1
    by_cases h2 : dk = 2
    · have q2 : (dk == 2) = true := beq_iff_eq.2 h2
      have HK := Lib.hid (drop_any B w0 W bt g n cap t dn L' HM.out hn h64 hver)
      cases hm : dropH t dn with
      | none =>
        have hst : stepH t (dk, dn) = (t, 2, 0) := by unfold stepH; rw [if_neg h1, if_pos h2, hm]
        rw [hm] at HK
        have HS := Lib.hid hst
        clear hst hm HM h1 h2
        go_enter Tryd.func6, Tryd.ntmps6
        go_upto_region 1 with (fail)
        rw [HW.out, Hb.out]
        go_wp2_with fail
        with_reducible refine HK.out.mono ?_
        rintro e w1 ⟨rfl, hM1⟩
        have HM1 := Lib.hid hM1
        clear hM1 HK
        go_wp2
        go_ret2
        rw [HS.out]
        exact ⟨rfl, HM1.out⟩
      | some t' =>
        have hst : stepH t (dk, dn) = (t', 0, 0) := by unfold stepH; rw [if_neg h1, if_pos h2, hm]
        rw [hm] at HK
        have HS := Lib.hid hst
        clear hst hm HM h1 h2
        go_enter Tryd.func6, Tryd.ntmps6
        go_upto_region 1 with (fail)
        rw [HW.out, Hb.out]
        go_wp2_with fail
        with_reducible refine HK.out.mono ?_
        rintro e w1 ⟨rfl, hM1⟩
        have HM1 := Lib.hid hM1
        clear hM1 HK
        go_wp2
        go_ret2
        rw [HS.out]
        exact ⟨rfl, HM1.out⟩
    · have q2 : (dk == 2) = false := by simpa using h2
      by_cases h3 : dk = 3
      · have q3 : (dk == 3) = true := beq_iff_eq.2 h3
        have HK := Lib.hid (find_any B w0 W bt g n cap t dn L' HM.out hn h64)
        cases hm : findH t dn with
        | none =>
          have hst : stepH t (dk, dn) = (t, 2, 0) := by unfold stepH; rw [if_neg h1, if_neg h2, if_pos h3, hm]
          rw [hm] at HK
          have HS := Lib.hid hst
          clear hst hm HM h1 h2 h3
          go_enter Tryd.func6, Tryd.ntmps6
          go_upto_region 1 with (fail)
          rw [HW.out, Hb.out]
          go_wp2_with fail
          with_reducible refine HK.out.mono ?_
          rintro e w1 ⟨rfl, hM1⟩
          have HM1 := Lib.hid hM1
          clear hM1 HK
          go_wp2
          go_ret2
          rw [HS.out]
          exact ⟨rfl, HM1.out⟩
        | some i =>
          obtain ⟨y, v, hs, hx⟩ := findH_some hm
          clear hx
          have hst : stepH t (dk, dn) = (t, 0, y) := by unfold stepH; rw [if_neg h1, if_neg h2, if_pos h3, hm]; simp only [getD_slot hs]
          rw [hm] at HK
          have HS := Lib.hid hst
          have HQ := Lib.hid hs
          clear hst hm HM h1 h2 h3 hs
          go_enter Tryd.func6, Tryd.ntmps6
          go_upto_region 1 with (fail)
          rw [HW.out, Hb.out]
          go_wp2_with fail
          with_reducible refine HK.out.mono ?_
          rintro e w1 ⟨rfl, hM1⟩
          have hcs := hM1.tupAt 1 (i := i) rfl encS_len HQ.out
          have d0 := (hcs 0 _ rfl).1
          rw [Nat.add_zero] at d0
          have zg : g < w1.heap.size := ((hM1.row 1 rfl).lt g rfl).2
          have HM1 := Lib.hid hM1
          clear hM1 HK hcs
          go_wp2
          go_ret2
          rw [HS.out]
          exact ⟨rfl, HM1.out⟩
      · have q3 : (dk == 3) = false := by simpa using h3
        have hst : stepH t (dk, dn) = (t, 5, 0) := by unfold stepH; rw [if_neg h1, if_neg h2, if_neg h3]
        have HS := Lib.hid hst
        clear hst h1 h2 h3
        go_enter Tryd.func6, Tryd.ntmps6
        go_upto_region 1 with (fail)
        rw [HW.out, Hb.out]
        go_wp2
        go_ret2
        rw [HS.out]
        exact ⟨rfl, HM.out⟩
end Go.Proofs.YthlllbpilcapiaaDoor
