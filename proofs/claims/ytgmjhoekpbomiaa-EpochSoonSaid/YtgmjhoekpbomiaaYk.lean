/- Epoch: does, walked. -/
import Derived.Test.YtgmjhoekpbomiaaYj
namespace Go.Proofs.Ytgmjhoekpbomiaa
open Go.RowKit
attribute [local go_sem ↓] Go.wp_at_zero Go.wp_at_succ

def EDoes (B : Nat) (w0 : World) (Bw : Nat) (tv fv : Value) (r : ES × Int) (L' : List Ent) (w' : World) (e : Ending) : Prop :=
  e = .returned (.int .i64 r.2) ∧ ∃ wv, Mem B w0 w' (ownS Bw tv wv fv r.1 ++ L')
set_option maxRecDepth 100000 in
set_option maxHeartbeats 2000000 in
theorem edoes_any (B : Nat) (w0 w : World) (Bw gt ct : Nat) (wv fv : Value) (s : ES) (d : Deed) (i : Nat) (L' : List Ent) (hM : Mem B w0 w (ownS Bw (.slice (some ⟨gt, 0, none⟩) s.ths.length ct) wv fv s ++ L')) (hO : EOk s)
    (hk : d.kind = 1 ∨ d.kind = 2 ∨ d.kind = 3) (hw : d.who = (i : Int)) (hi : i < s.ths.length) :
    Calls Try.prog 27 #[.pointer (some ⟨Bw, 0, none⟩), .agg #[.int .i64 d.kind, .int .i64 d.who, .int .i64 d.item]] w fun e w' => EDoes B w0 Bw (.slice (some ⟨gt, 0, none⟩) s.ths.length ct) fv (edoes s d) L' w' e := by
  obtain ⟨kind, who, item⟩ := d
  simp only at hk hw
  subst hw
  obtain ⟨aw, nw, cw, rfl⟩ := own_slice (hM.row 2 rfl)
  obtain ⟨t, ht⟩ := get_some s.ths i hi
  have hgd : s.ths.getD i (-1) = t := by rw [List.getD_eq_getElem?_getD, ht]; rfl
  have hMx := hM.alloc #[.int .i64 kind, .int .i64 (i : Int), .int .i64 item] 34
  obtain ⟨W0, hW0⟩ : ∃ W0, w.alloc (.cells #[.int .i64 kind, .int .i64 (i : Int), .int .i64 item] 34) = W0 := ⟨_, rfl⟩
  obtain ⟨bx, hbx⟩ : ∃ bx, w.heap.size = bx := ⟨_, rfl⟩
  rw [hW0, hbx] at hMx
  have x0 : W0.cell? ⟨bx, 0, none⟩ = some (.int .i64 kind) := by have := hMx.cell 0 rfl 0; simpa using this
  have x1 : W0.cell? ⟨bx, 1, none⟩ = some (.int .i64 (i : Int)) := by have := hMx.cell 0 rfl 1; simpa using this
  have x2 : W0.cell? ⟨bx, 2, none⟩ = some (.int .i64 item) := by have := hMx.cell 0 rfl 2; simpa using this
  have c0 : W0.cell? ⟨Bw, 0, none⟩ = some (.int .i64 s.ep) := by have := hMx.cell 1 rfl 0; simpa using this
  have c1 : W0.cell? ⟨Bw, 1, none⟩ = some (.slice (some ⟨gt, 0, none⟩) s.ths.length ct) := by have := hMx.cell 1 rfl 1; simpa using this
  have k1 : w.cell? ⟨Bw, 1, none⟩ = some (.slice (some ⟨gt, 0, none⟩) s.ths.length ct) := by have := hM.cell 0 rfl 1; simpa using this
  have kz : Bw < w.heap.size := (hM.box 0 rfl).2.1
  have hr : W0.ownsRow B 3 1 (.slice (some ⟨gt, 0, none⟩) s.ths.length ct) s.ths.length (s.ths.map (.int .i64)) := hMx.row 2 rfl
  have g1 : W0.cell? ⟨gt, i, none⟩ = some (.int .i64 t) := by rw [hr.cellAt i (by omega)]; simp [ht]
  have g2 : W0.frozen? ⟨gt, i, none⟩ = false := by
    rcases hr.2 with ⟨h, _⟩ | ⟨g', cap', cur', h, _, h2, _⟩
    · cases h
    · cases h; simp [World.frozen?, h2]
  have z0 : Bw < W0.heap.size := (hMx.box 1 rfl).2.1
  have zx : bx < W0.heap.size := (hMx.box 0 rfl).2.1
  have HMx := Lib.hid hMx
  have HW0 := Lib.hid hW0
  have Hbx := Lib.hid hbx
  have HO := Lib.hid hO
  have Hgd := Lib.hid hgd
  have hws := hO.waits
  have hep := hO.ep
  have hths := hO.ths
  have hil : (i : Int) < (s.ths.length : Int) := by omega
  clear hM hMx hr hW0 hbx hO hgd ht
  obtain ⟨r, hr⟩ : ∃ r, edoes s ⟨kind, i, item⟩ = r := ⟨_, rfl⟩
  rw [hr]
  have hr2 := hr
  unfold edoes at hr2
  simp only [Int.toNat_natCast, Hgd.out] at hr2
  have Hr := Lib.hid hr2
  clear hr hr2
  go_enter Try.func27, Try.ntmps27
  go_wp2_with fail
  rw [Hbx.out, HW0.out]
  go_quiet (fail)
  obtain ⟨W1, hW1⟩ : ∃ W1, W0.drewN nq = W1 := ⟨_, rfl⟩
  have hM1 := HMx.out.drewN nq
  rw [hW1] at hM1 ⊢
  replace x0 : W1.cell? ⟨bx, 0, none⟩ = some (.int .i64 kind) := by have := hM1.cell 0 rfl 0; simpa using this
  replace x2 : W1.cell? ⟨bx, 2, none⟩ = some (.int .i64 item) := by have := hM1.cell 0 rfl 2; simpa using this
  replace c0 : W1.cell? ⟨Bw, 0, none⟩ = some (.int .i64 s.ep) := by have := hM1.cell 1 rfl 0; simpa using this
  have c2 : W1.cell? ⟨Bw, 2, none⟩ = some (.slice aw nw cw) := by have := hM1.cell 1 rfl 2; simpa using this
  replace g1 : W1.cell? ⟨gt, i, none⟩ = some (.int .i64 t) := by rw [← hW1]; simpa using g1
  replace g2 : W1.frozen? ⟨gt, i, none⟩ = false := by rw [← hW1]; simpa using g2
  replace z0 : Bw < W1.heap.size := (hM1.box 1 rfl).2.1
  replace zx : bx < W1.heap.size := (hM1.box 0 rfl).2.1
  have HM1 := Lib.hid hM1
  clear x1 c1 k1 kz HMx HW0 Hbx hM1 hW1
  by_cases h0 : (t ≠ -1) ↔ kind = 1
  · have q1 : ((t != -1) == (kind == 1)) = true := by
      by_cases h : t = -1
      · have : kind ≠ 1 := fun hk1 => (h0.2 hk1) h
        simp [h, this]
      · have : kind = 1 := h0.1 h
        simp [h, this]
    have hr2 := Hr.out
    rw [if_pos h0] at hr2
    have HR := Lib.hid hr2
    clear hr2 Hr h0
    go_wp2
    go_ret
    rw [← HR.out]
    exact ⟨rfl, .slice aw nw cw, HM1.out.drop (List.sublist_cons_self _ _)⟩
  · have hr2 := Hr.out
    rw [if_neg h0] at hr2
    have hsetR : Hid (∀ u : Int, Mem B w0 (W1.setCell ⟨gt, i, none⟩ (.int .i64 u)) (ownS Bw (.slice (some ⟨gt, 0, none⟩) s.ths.length ct) (.slice aw nw cw) fv { s with ths := s.ths.set i u } ++ L')) := Lib.hid (fun u => by
      have h1 := (HM1.out.setRow 2 rfl i (.int .i64 u)).drop (List.sublist_cons_self _ _)
      refine h1.cast ?_
      simp [ownS, rowI, List.map_set])
    rcases hk with rfl | rfl | rfl
    · have ht1 : t = -1 := by
        rcases Int.decEq t (-1) with h2 | h2
        · exact absurd ⟨fun _ => rfl, fun _ => h2⟩ h0
        · exact h2
      have q1 : (t != -1) = false := by simp [ht1]
      rw [if_pos rfl] at hr2
      have HR := Lib.hid hr2
      clear hr2 Hr h0
      go_wp2
      go_ret
      rw [← HR.out]
      exact ⟨rfl, .slice aw nw cw, hsetR.out _⟩
    · have ht1 : ¬ t = -1 := fun h2 => h0 ⟨fun h3 => absurd h2 h3, fun h3 => absurd h3 (by decide)⟩
      have q1 : (t != -1) = true := by simpa using ht1
      rw [if_neg (by decide), if_pos rfl] at hr2
      have HR := Lib.hid hr2
      clear hr2 Hr h0
      go_wp2
      go_ret
      rw [← HR.out]
      exact ⟨rfl, .slice aw nw cw, hsetR.out _⟩
    · have ht1 : ¬ t = -1 := fun h2 => h0 ⟨fun h3 => absurd h2 h3, fun h3 => absurd h3 (by decide)⟩
      have q1 : (t != -1) = true := by simpa using ht1
      rw [if_neg (by decide), if_neg (by decide)] at hr2
      have hnw : nw = s.waits.length := by
        obtain ⟨a', c', hv, _⟩ := (HM1.out.isTup 3 rfl encF_len (by omega)).slice
        injection hv
      by_cases h100 : s.waits.length = 100
      · rw [if_pos h100] at hr2
        have HR := Lib.hid hr2
        have q2 : ((nw : Int) == 100) = true := by simp; omega
        clear hr2 Hr h0 h100 hnw
        go_wp2
        go_ret
        rw [← HR.out]
        exact ⟨rfl, .slice aw nw cw, HM1.out.drop (List.sublist_cons_self _ _)⟩
      · rw [if_neg h100] at hr2
        have HR := Lib.hid hr2
        have q2 : ((nw : Int) == 100) = false := by simp; omega
        have HMa := Lib.hid (HM1.out.alloc_ (.cells #[.int .i64 item, .int .i64 s.ep] 75)).drew
        clear hr2 Hr h0 h100 hnw
        go_wp2
        go_region_law (first
          | (refine Mem.step_appT' elemWaits rfl (.tmp 49) (.tmp 57) rfl HMa.out 3 rfl rfl W1.heap.size 1 (item, s.ep) rfl (fate_at W1 (item, s.ep) _) rfl (fate_one (item, s.ep)) (by omega) (by decide) ?_
             intro ad n1 cp w5 hM5 hs5 hk5
             have r1 : w5.cell? ⟨Bw, 2, none⟩ = some (.slice aw nw cw) := by have := hM5.cell 1 rfl 2; simpa using this
             have r2 : w5.frozen? ⟨Bw, 2, none⟩ = false := hM5.free 1 rfl 2
             have HM6 := Lib.hid (hM5.setBox 1 rfl 2 (.slice ad n1 cp))
             clear hM5))
        all_goals
          go_wp2
          go_ret
          rw [← HR.out]
          exact ⟨rfl, .slice ad n1 cp, (HM6.out.drop (List.sublist_cons_self _ _)).cast rfl⟩
end Go.Proofs.Ytgmjhoekpbomiaa
