/- Epoch: step, walked. -/
import Derived.Test.YtgmjhoekpbomiaaYi
import Derived.Deep.DrawnRows
namespace Go.Proofs.Ytgmjhoekpbomiaa
open Go.RowKit

attribute [local go_sem ↓] Go.wp_at_zero Go.wp_at_succ
/-- What the machine owns. -/
def ownS (Bw : Nat) (tv wv fv : Value) (s : ES) : List Ent :=
  [ebox Bw #[.int .i64 s.ep, tv, wv, fv] 71, rowI 3 tv s.ths, rowT 75 2 encF wv s.waits, rowT 32 2 encF fv s.freed]
structure EOk (s : ES) : Prop where
  ep : 0 ≤ s.ep ∧ s.ep ≤ 500
  ths : s.ths.length ≤ 4
  th : ∀ x ∈ s.ths, i64ok x
  waits : s.waits.length ≤ 100
  freed : s.freed.length ≤ 300
def StepSays (B : Nat) (w0 : World) (Bw : Nat) (tv : Value) (s : ES) (by_ : Int) (L' : List Ent) (w' : World) (e : Ending) : Prop :=
  if ebusy s = true then e = .returned (.int .i64 8) ∧ ∃ wv fv, Mem B w0 w' (ownS Bw tv wv fv s ++ L')
  else e = .returned (.int .i64 0) ∧ ∃ wv fv, Mem B w0 w' (ownS Bw tv wv fv (efree s by_) ++ L')
theorem ebusy_lag (s : ES) : ebusy s = s.ths.any (lag s.ep) := rfl
theorem own_E {Bw bP bI : Nat} {by_ : Int} {tv wv fv : Value} {s : ES} {L' : List Ent} : (ebox bI #[.int .i64 by_] 3 :: ebox bP #[.pointer (some ⟨Bw, 0, none⟩)] 67 :: (ownS Bw tv wv fv s ++ L')).Perm (ownE Bw bP bI s.ep by_ tv wv fv s.ths s.waits s.freed ++ L') := by
  show (ebox bI #[.int .i64 by_] 3 :: ebox bP #[.pointer (some ⟨Bw, 0, none⟩)] 67 :: (ownS Bw tv wv fv s ++ L')).Perm (ownS Bw tv wv fv s ++ (ebox bP #[.pointer (some ⟨Bw, 0, none⟩)] 67 :: ebox bI #[.int .i64 by_] 3 :: L'))
  refine List.Perm.trans ?_ (List.perm_append_comm_assoc [ebox bP #[.pointer (some ⟨Bw, 0, none⟩)] 67, ebox bI #[.int .i64 by_] 3] (ownS Bw tv wv fv s) L')
  exact List.Perm.swap _ _ _
set_option maxRecDepth 100000 in
set_option maxHeartbeats 1000000 in
theorem step_any (B : Nat) (w0 w : World) (Bw : Nat) (tv wv fv : Value) (s : ES) (by_ : Int) (L' : List Ent) (hM : Mem B w0 w (ownS Bw tv wv fv s ++ L')) (hO : EOk s) :
    Calls Try.prog 26 #[.pointer (some ⟨Bw, 0, none⟩), .int .i64 by_] w fun e w' => StepSays B w0 Bw tv s by_ L' w' e := by
  have k1 : w.cell? ⟨Bw, 1, none⟩ = some tv := by have := hM.cell 0 rfl 1; simpa using this
  have kz : Bw < w.heap.size := (hM.box 0 rfl).2.1
  have h1 := hM.alloc #[.pointer (some ⟨Bw, 0, none⟩)] 67
  have h2 := h1.alloc #[.int .i64 by_] 3
  obtain ⟨W0, hW0⟩ : ∃ W0, (w.alloc (.cells #[.pointer (some ⟨Bw, 0, none⟩)] 67)).alloc (.cells #[.int .i64 by_] 3) = W0 := ⟨_, rfl⟩
  obtain ⟨bP, hbP⟩ : ∃ bP, w.heap.size = bP := ⟨_, rfl⟩
  have hbI : (w.alloc (.cells #[.pointer (some ⟨Bw, 0, none⟩)] 67)).heap.size = bP + 1 := by rw [← hbP]; simp
  rw [hW0, hbI, hbP] at h2
  have hM1 := h2.perm own_E.symm
  have HM1 := Lib.hid hM1
  have HW0 := Lib.hid hW0
  have HbP := Lib.hid hbP
  have p1 : W0.cell? ⟨bP, 0, none⟩ = some (.pointer (some ⟨Bw, 0, none⟩)) := by have := hM1.cell 4 rfl 0; simpa using this
  have c0 : W0.cell? ⟨Bw, 0, none⟩ = some (.int .i64 s.ep) := by have := hM1.cell 0 rfl 0; simpa using this
  have c1 : W0.cell? ⟨Bw, 1, none⟩ = some tv := by have := hM1.cell 0 rfl 1; simpa using this
  have z0 : Bw < W0.heap.size := (hM1.box 0 rfl).2.1
  have zP : bP < W0.heap.size := (hM1.box 4 rfl).2.1
  have HIs := isInts_of_own (hM1.ownI 1 rfl) (by have := hO.ths; omega) hO.th
  have HL := Lib.hid (lagCo_any tv s.ths Bw bP s.ep W0 HIs p1 c0 z0 zP)
  have HO := Lib.hid hO
  clear hM h1 h2 hM1 hW0 hbP hbI HIs hO
  go_enter Try.func26, Try.ntmps26
  go_wp2_with fail
  rw [HW0.out, HbP.out]
  clear k1 kz HW0 HbP
  obtain ⟨t, ht⟩ : ∃ t, ebusy s = t := ⟨_, rfl⟩
  rw [← ebusy_lag, ht] at HL
  have Ht := Lib.hid ht
  clear ht
  refine HL.out.mono ?_
  rintro e w2 ⟨rfl, hb2⟩
  have HM2 := Lib.hid (HM1.out.call hb2)
  clear hb2 HL HM1 p1 c0 c1 z0 zP
  cases t with
  | true =>
    have hfin : Hid (∀ w', w' = w2 → StepSays B w0 Bw tv s by_ L' w' (.returned (.int .i64 8))) := Lib.hid (by
      rintro w' rfl
      unfold StepSays
      rw [if_pos Ht.out]
      refine ⟨rfl, wv, fv, ?_⟩
      exact HM2.out.drop (List.Sublist.append_left (.cons _ (.cons _ (List.Sublist.refl L'))) (ownS Bw tv wv fv s)))
    go_wp2
    go_ret
    exact hfin.out _ rfl
  | false =>
    obtain ⟨aw, nw, cw, rfl⟩ := own_slice (HM2.out.row 2 rfl)
    have p1 : w2.cell? ⟨bP, 0, none⟩ = some (.pointer (some ⟨Bw, 0, none⟩)) := by have := HM2.out.cell 4 rfl 0; simpa using this
    have c0 : w2.cell? ⟨Bw, 0, none⟩ = some (.int .i64 s.ep) := by have := HM2.out.cell 0 rfl 0; simpa using this
    have f0 : w2.frozen? ⟨Bw, 0, none⟩ = false := HM2.out.free 0 rfl 0
    have hM3 : Mem B w0 (w2.setCell ⟨Bw, 0, none⟩ (.int .i64 (s.ep + 1))) (ownE Bw bP (bP + 1) (s.ep + 1) by_ tv (.slice aw nw cw) fv s.ths s.waits s.freed ++ L') := HM2.out.setBox 0 rfl 0 (.int .i64 (s.ep + 1))
    obtain ⟨W3, hW3⟩ : ∃ W3, w2.setCell ⟨Bw, 0, none⟩ (.int .i64 (s.ep + 1)) = W3 := ⟨_, rfl⟩
    rw [hW3] at hM3
    have q1 : W3.cell? ⟨bP, 0, none⟩ = some (.pointer (some ⟨Bw, 0, none⟩)) := by have := hM3.cell 4 rfl 0; simpa using this
    have q2 : W3.cell? ⟨Bw, 2, none⟩ = some (.slice aw nw cw) := by have := hM3.cell 0 rfl 2; simpa using this
    have HD := Lib.hid (del_any B w0 W3.drew Bw bP (bP + 1) (s.ep + 1) by_ tv (.slice aw nw cw) fv s.ths s.waits s.freed L' hM3.drew (by have := HO.out.ep; omega) HO.out.freed HO.out.waits)
    have HW3 := Lib.hid hW3
    have hep := HO.out.ep
    clear hM3 hW3 HM2
    go_wp2
    rw [HW3.out]
    have zP : bP < W3.heap.size := by
      rcases Nat.lt_or_ge bP W3.heap.size with h | h
      · exact h
      · rw [World.cell?, Array.getElem?_eq_none h] at q1; cases q1
    clear HW3 p1 c0 f0
    go_region_law (first
      | (go_simp
         refine HD.out.mono ?_
         rintro e w4 ⟨wv', fv', rfl, hM4⟩
         obtain ⟨a4, n4, c4, rfl⟩ := own_slice (hM4.row 2 rfl)
         have r1 : w4.cell? ⟨bP, 0, none⟩ = some (.pointer (some ⟨Bw, 0, none⟩)) := by have := hM4.cell 4 rfl 0; simpa using this
         have r2 : w4.cell? ⟨Bw, 2, none⟩ = some (.slice aw nw cw) := by have := hM4.cell 0 rfl 2; simpa using this
         have r3 : w4.frozen? ⟨Bw, 2, none⟩ = false := hM4.free 0 rfl 2
         have HM4 := Lib.hid (hM4.setBox 0 rfl 2 (.slice a4 n4 c4))
         clear hM4))
    all_goals
      go_wp2
      go_ret
      unfold StepSays
      rw [if_neg (by rw [Ht.out]; decide)]
      refine ⟨rfl, .slice a4 n4 c4, fv', ?_⟩
      have h5 := HM4.out.drop (List.Sublist.append_left (l₁ := L') (.cons _ (.cons _ (List.Sublist.refl L'))) [_, _, _, _])
      refine h5.cast ?_
      simp [ownS, efree, keptW, goneW]
end Go.Proofs.Ytgmjhoekpbomiaa
