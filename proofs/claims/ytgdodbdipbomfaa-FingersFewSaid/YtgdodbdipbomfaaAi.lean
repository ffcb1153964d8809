/- sound, unsound; arena.Begins; arena.Fields; arena.Ref. -/
import Derived.Test.YtgdodbdipbomfaaAh
namespace Go.Proofs.Ytgdodbdipbomfaa
open Go.RowKit Go.Shelf Go.Maps

set_option maxHeartbeats 400000 in
theorem sound_any (vw vr : Value) (ws rs : List Int) (w : World) (hw : IsW w vw ws) (hr : IsW w vr rs) :
    Calls Try.prog 12 #[.agg #[vw, vr]] w fun e w' => Below w.heap.size w w' ∧ ((e = .returned (.bool true) ∧ ∃ os, Sound ws rs os) ∨ (e = .returned (.bool false) ∧ ∀ os, ¬ Sound ws rs os)) := by
  obtain ⟨aw, cw, rfl, hmw⟩ := hw.slice
  obtain ⟨ar, cr, rfl, hmr⟩ := hr.slice
  have hM0 := (Mem.start w).alloc #[.slice aw ws.length cw, .slice ar rs.length cr] 24
  have HC := Lib.hid (rCheck_any _ _ ws rs _ (hw.later hM0.below) (hr.later hM0.below))
  have HB := Lib.hid hM0.below
  clear hw hr hM0
  go_enter Try.func12, Try.ntmps12
  go_wp2_with fail
  refine HC.out.mono ?_
  rintro e w2 ⟨c, rfl, hb, hcase⟩
  have HB2 := Lib.hid (HB.out.trans (hb.mono HB.out.size))
  clear hb
  rcases hcase with ⟨rfl, hs⟩ | ⟨hc, hn⟩
  · have Hs := Lib.hid hs
    clear hs
    go_wp2
    go_ret
    exact ⟨HB2.out, .inl ⟨rfl, Hs.out⟩⟩
  · have q1 : (c == 0) = false := by simpa using hc
    have Hn := Lib.hid hn
    clear hc hn
    go_wp2
    go_ret
    exact ⟨HB2.out, .inr ⟨rfl, Hn.out⟩⟩
set_option maxHeartbeats 400000 in
theorem unsound_any (vw vr : Value) (ws rs : List Int) (w : World) (hw : IsW w vw ws) (hr : IsW w vr rs) (hn : ∀ os, ¬ Sound ws rs os) :
    Calls Try.prog 13 #[.agg #[vw, vr]] w fun e w' => e = .returned (.bool true) ∧ Below w.heap.size w w' := by
  obtain ⟨aw, cw, rfl, hmw⟩ := hw.slice
  obtain ⟨ar, cr, rfl, hmr⟩ := hr.slice
  have hM0 := (Mem.start w).alloc #[.slice aw ws.length cw, .slice ar rs.length cr] 24
  have HC := Lib.hid (acheck_any _ _ ws rs _ (hw.later hM0.below) (hr.later hM0.below))
  have HB := Lib.hid hM0.below
  have Hn := Lib.hid hn
  clear hw hr hM0 hn
  go_enter Try.func13, Try.ntmps13
  go_wp2_with fail
  refine HC.out.mono ?_
  rintro e w2 ⟨c, rfl, hb, hcase⟩
  have HB2 := Lib.hid (HB.out.trans (hb.mono HB.out.size))
  clear hb
  rcases hcase with ⟨rfl, os, hs⟩ | ⟨hc, _⟩
  · exact absurd hs (Hn.out os)
  · have q1 : (c != 0) = true := by simpa using hc
    clear hc
    go_wp2
    go_ret
    exact ⟨rfl, HB2.out⟩
theorem enter_begins1 : ∀ args w, (callFunc 80 args).run Try.prog w = .ok (.enter 80 args) w := fun _ _ => rfl
def ownB (b3 : Nat) (os : List Ob) (fv : Value) : List Ent := [ebox b3 #[fv] 26, rowI 3 fv (starts os)]
set_option maxRecDepth 100000 in
set_option maxHeartbeats 1000000 in
theorem begins1_any (w0 wr : World) (b3 : Nat) (ws : List Int) (hsm : ws.length ≤ 256) (os : List Ob) (fv : Value) (n : Int) (fs : List Int) (k : Nat) (L' : List Ent)
    (hP : Part ws os k) (hM : Mem w0.heap.size w0 wr (ownB b3 os fv ++ L')) :
    Calls Try.prog 80 (#[.int .i64 k, headV n] ++ #[.pointer (some ⟨b3, 0, none⟩)]) wr fun e w' => e = .returned (.bool true) ∧ ∃ fv', Mem w0.heap.size w0 w' (ownB b3 (os ++ [(n, fs)]) fv' ++ L') := by
  have hkk : k = (flat os).length := by obtain ⟨_, _, _, h⟩ := hP; exact h
  have hcnt : (starts os).length ≤ 1000000 := by
    have h1 : os.length ≤ (flat os).length := (Laid.count (ws := flat os) (os := os) ⟨rfl, by obtain ⟨_, _, h, _⟩ := hP; exact h⟩)
    have h2 := hP.le
    rw [starts_len]; omega
  show Calls Try.prog 80 #[.int .i64 k, headV n, .pointer (some ⟨b3, 0, none⟩)] wr _
  unfold headV
  obtain ⟨af, nf, cf, rfl⟩ := own_slice (hM.row 1 rfl)
  have HM := Lib.hid (hM.alloc_ (.cells #[.int .i64 (n % 256), .bool (n / 256 % 2 == 1), .int .i64 (n / 512 % 8)] 50))
  have k3 : wr.cell? ⟨b3, 0, none⟩ = some (.slice af nf cf) := by have := hM.cell 0 rfl 0; simpa using this
  have kz3 : b3 < wr.heap.size := (hM.box 0 rfl).2.1
  have Hst := Lib.hid (starts_snoc os (n, fs))
  have Hkk := Lib.hid hkk
  clear hM hkk hP
  go_enter Try.func80, Try.ntmps80
  go_wp2_with (at_builtin; refine Mem.wp_appI elemInts rfl (.tmp 6) (.tmp 8) rfl HM.out 1 rfl rfl _ (k : Int) _ _ rfl (by simp) hcnt ?_; intro ad n1 cp w6 hn1 hM6 hs6 hk6 ha6; have f6 : w6.frozen? ⟨b3, 0, none⟩ = false := hM6.free 0 rfl 0; have c6 : w6.cell? ⟨b3, 0, none⟩ = some (.slice af nf cf) := (by have := hM6.cell 0 rfl 0; simpa using this))
  go_ret
  exact ⟨rfl, .slice ad n1 cp, (hM6.setBox 0 rfl 0 (.slice ad n1 cp)).cast (by unfold ownB; rw [Hst.out, ← Hkk.out]; rfl)⟩
set_option maxRecDepth 100000 in
set_option maxHeartbeats 1000000 in
/-- arena.Begins of a row that is laid. -/
theorem begins_any (vw vr : Value) (ws : List Int) (os : List Ob) (w : World) (hw : IsW w vw ws) (hr : ∃ a n c, vr = .slice a n c) (hL : Laid ws os) (hsm : ws.length ≤ 256) :
    Calls Try.prog 48 #[.agg #[vw, vr]] w fun e w' => ∃ r, e = .returned r ∧ Mem w.heap.size w w' [rowI 3 r (starts os)] := by
  obtain ⟨aw, cw, rfl, hmw⟩ := hw.slice
  obtain ⟨ar, nr, cr, rfl⟩ := hr
  have hM0 := (Mem.start w).alloc #[.slice aw ws.length cw, .slice ar nr cr] 24
  have hM1 := (hM0.nilI 3).alloc #[.slice none 0 0] 26
  have hz1 : (w.alloc (.cells #[.slice aw ws.length cw, .slice ar nr cr] 24)).heap.size = w.heap.size + 1 := by simp
  rw [hz1] at hM1
  have HWk := Lib.hid (walk_any 80 _ (ownB (w.heap.size + 1)) w _ [ebox w.heap.size #[.slice aw ws.length cw, .slice ar nr cr] 24] (.slice none 0 0) _ ws hw hsm enter_begins1 hM1
    (fun os x n fs k L' wr hP hP2 hh hfl hM => begins1_any w wr _ ws hsm os x n fs k L' hP hM))
  have HL := Lib.hid hL
  clear hM0 hM1 hz1 hw hL
  go_enter Try.func48, Try.ntmps48
  go_wp2_with fail
  refine HWk.out.mono ?_
  rintro e w6 hcase
  rcases hcase with ⟨os2, fv, hL2, rfl, hM⟩ | ⟨hno, _⟩
  · obtain rfl := HL.out.unique hL2
    have c0 : w6.cell? ⟨w.heap.size + 1, 0, none⟩ = some fv := by have := hM.cell 0 rfl 0; simpa using this
    have z0 : w.heap.size + 1 < w6.heap.size := (hM.box 0 rfl).2.1
    have HM := Lib.hid (hM.drop (L' := [rowI 3 fv (starts os)]) (.cons _ (.cons_cons _ (List.nil_sublist _))))
    clear hM HWk
    go_wp2
    go_ret
    exact ⟨fv, rfl, HM.out⟩
  · exact absurd HL.out (hno os)
end Go.Proofs.Ytgdodbdipbomfaa
