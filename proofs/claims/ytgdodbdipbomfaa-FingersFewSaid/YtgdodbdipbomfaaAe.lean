/- arena.Walk, for any closure that yields on. -/
import Derived.Test.YtgdodbdipbomfaaAd
namespace Go.Proofs.Ytgdodbdipbomfaa
open Go.RowKit

set_option maxRecDepth 100000 in
set_option maxHeartbeats 1000000 in
theorem walk_any {X : Type} (f : Nat) (bxs : Array Value) (own : List Ob → X → List Ent) (w0 w : World) (L : List Ent) (x0 : X) (v : Value) (ws : List Int) (hw : IsW w0 v ws) (hsm : ws.length ≤ 256) (hent : ∀ args w, (callFunc f args).run Try.prog w = .ok (.enter f args) w)
    (h0 : Mem w0.heap.size w0 w (own [] x0 ++ L))
    (hstep : ∀ os x n fs k L' wr, Part ws os k → Part ws (os ++ [(n, fs)]) (k + 1 + fs.length) → isHead n → (fs.length : Int) = n % 256 → Mem w0.heap.size w0 wr (own os x ++ L') →
      Calls Try.prog f (#[.int .i64 k, headV n] ++ bxs) wr fun e w' => e = .returned (.bool true) ∧ ∃ x', Mem w0.heap.size w0 w' (own (os ++ [(n, fs)]) x' ++ L')) :
    Calls Try.prog 69 #[v, .func (.func f) #[] bxs] w fun e w' => (∃ os x, Laid ws os ∧ e = .returned (.bool true) ∧ Mem w0.heap.size w0 w' (own os x ++ L)) ∨ ((∀ os, ¬ Laid ws os) ∧ e = .returned (.bool false) ∧ ∃ os x, Mem w0.heap.size w0 w' (own os x ++ L)) := by
  have Hw := Lib.hid hw
  have H0 := Lib.hid h0
  have Hs := Lib.hid hstep
  obtain ⟨a, cap, rfl, hm⟩ := hw.slice
  clear hw h0 hstep
  go_enter Try.func69, Try.ntmps69
  go_wp2
  go_loopw [5] (fun i wr => ∃ (os : List Ob) (x : X) (k : Nat), Part ws os k ∧ i = .int .i64 k ∧ Mem w0.heap.size w0 wr (own os x ++ L)) (fun i _ => ws.length - (intOf i).toNat)
  case atStart => exact ⟨[], x0, 0, Part.start ws, rfl, H0.out⟩
  case round =>
    clear H0
    obtain ⟨os, x, k, hP, rfl, hM⟩ := hrel
    have hkl := hP.le
    by_cases hlt : k < ws.length
    · obtain ⟨n, hn⟩ := get_some ws k hlt
      obtain ⟨b, off, cap2, hv, _, hb, d0, hn64⟩ := Hw.out.at hM.below hn
      cases hv
      have HN := Lib.hid (hP.next hn)
      have HP := Lib.hid hP
      have HM := Lib.hid hM
      clear hP hn hM
      by_cases hh : isHead n
      · obtain ⟨m, hmn⟩ : ∃ m : Nat, n % 256 = m := ⟨(n % 256).toNat, by omega⟩
        have hm4 : m ≤ 4 := by have := hh.1; omega
        have hU := unhead_yes n wr hn64.1 hn64.2 hh
        rw [hmn] at hU HN
        have HU := Lib.hid hU
        have Hmn := Lib.hid hmn
        have Hh := Lib.hid hh
        clear hh hU hmn
        go_wp2_with fail
        refine HU.out.mono ?_
        rintro e w2 ⟨rfl, hb2⟩
        have hM2 := (HM.out.call hb2).alloc #[.int .i64 m, .bool (n / 256 % 2 == 1), .int .i64 (n / 512 % 8)] 50
        obtain ⟨bh, hbh⟩ : ∃ bh, w2.heap.size = bh := ⟨_, rfl⟩
        obtain ⟨W2, hW2⟩ : ∃ W2, w2.alloc (.cells #[.int .i64 m, .bool (n / 256 % 2 == 1), .int .i64 (n / 512 % 8)] 50) = W2 := ⟨_, rfl⟩
        rw [hbh, hW2] at hM2
        have h0 : W2.cell? ⟨bh, 0, none⟩ = some (.int .i64 m) := by have := hM2.cell 0 rfl 0; simpa using this
        have h1 : W2.cell? ⟨bh, 1, none⟩ = some (.bool (n / 256 % 2 == 1)) := by have := hM2.cell 0 rfl 1; simpa using this
        have h2 : W2.cell? ⟨bh, 2, none⟩ = some (.int .i64 (n / 512 % 8)) := by have := hM2.cell 0 rfl 2; simpa using this
        have z2 : bh < W2.heap.size := (hM2.box 0 rfl).2.1
        have HM2 := Lib.hid (hM2.perm (List.perm_middle (l₁ := own os x)))
        have HW2 := Lib.hid hW2
        have Hbh := Lib.hid hbh
        clear hb2 HU HM hM2 hW2 hbh
        rcases HN.out with ⟨hno, hbr⟩ | ⟨fs, _, hfit, hfl, hP2, _⟩
        · have q1 : (m : Int) ≥ (ws.length : Int) - k := by
            rcases Int.lt_or_le (m : Int) ((ws.length : Int) - k) with h | h
            · exact absurd ⟨Hh.out, by omega⟩ hno
            · exact h
          have Hbr := Lib.hid hbr
          clear hbr hno
          go_wp2
          go_ret
          rw [HW2.out]
          exact .inr ⟨Hbr.out.not, rfl, os, x, HM2.out.drop (List.Sublist.append_left (List.sublist_cons_self _ _) _)⟩
        · have q1 : ¬ (m : Int) ≥ (ws.length : Int) - k := by omega
          have hfm : fs.length = m := by omega
          have q2 : k + 1 + m ≤ ws.length := by omega
          have hC := Hs.out os x n fs k _ W2 HP.out hP2 Hh.out (by rw [Hmn.out, hfm]) HM2.out
          rw [headV, Hmn.out] at hC
          have HC := Lib.hid hC
          rw [hfm] at hP2
          have HP2 := Lib.hid hP2
          clear hC hP2 hfm hfl hfit HM2 HP HN
          go_wp2_with fail
          rw [Hbh.out, HW2.out]
          refine HC.out.mono ?_
          rintro e w5 ⟨rfl, x', hM5⟩
          have h5 : w5.cell? ⟨bh, 0, none⟩ = some (.int .i64 m) := by
            have := (hM5.perm (List.perm_middle (l₁ := own _ x')).symm).cell 0 rfl 0
            simpa using this
          have z5 : bh < w5.heap.size := ((hM5.perm (List.perm_middle (l₁ := own _ x')).symm).box 0 rfl).2.1
          have HM5 := Lib.hid (hM5.drop (List.Sublist.append_left (List.sublist_cons_self _ _) _))
          clear hM5 HC h0 h1 h2 z2
          go_wp2
          trace_state
          go_roundw
          case rel => exact ⟨_, x', k + 1 + m, HP2.out, by go_num, HM5.out⟩
          case measure => simp [intOf]; omega
      · have HU := Lib.hid (unhead_no n wr hn64.1 hn64.2 hh)
        have Hh := Lib.hid hh
        clear hh
        go_wp2_with fail
        refine HU.out.mono ?_
        rintro e w2 ⟨rfl, hb2⟩
        have HM2 := Lib.hid ((HM.out.call hb2).alloc_ (.cells #[.int .i64 0, .bool false, .int .i64 0] 50))
        rcases HN.out with ⟨_, hbr⟩ | ⟨fs, hy, _⟩
        · have Hbr := Lib.hid hbr
          clear hbr hb2 HU HN
          go_wp2
          go_ret
          exact .inr ⟨Hbr.out.not, rfl, os, x, HM2.out⟩
        · exact absurd hy Hh.out
    · obtain rfl : k = ws.length := by omega
      have HM := Lib.hid hM
      have HP := Lib.hid hP
      clear hM hP
      go_wp2
      go_ret
      exact .inl ⟨os, x, HP.out.done, rfl, HM.out⟩
end Go.Proofs.Ytgdodbdipbomfaa
