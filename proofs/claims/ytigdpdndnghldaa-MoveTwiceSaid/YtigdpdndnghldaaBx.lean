/- MoveTwice, walked. -/
import Derived.Test.YtigdpdndnghldaaBw
import Derived.Test.YtigdpdndnghldaaBu
import Derived.Test.YtigdpdndnghldaaBv
import Derived.Test.YtigdpdndnghldaaAi
import Derived.Deep.QuietTactic
import Derived.Deep.RegionHeld3
namespace Go.Proofs.Ytigdpdndnghldaa
open Go.RowKit Go.Shelf

theorem sound_yes (vw vr : Value) (ws rs : List Int) (os : List Ob) (w : World) (hw : IsW w vw ws) (hr : IsW w vr rs) (hS : Sound ws rs os) :
    Calls Try.prog 15 #[.agg #[vw, vr]] w fun e w' => e = .returned (.bool true) ∧ Below w.heap.size w w' := by
  refine (sound_any vw vr ws rs w hw hr).mono ?_
  rintro e w' ⟨hb, ⟨rfl, _⟩ | ⟨_, hno⟩⟩
  · exact ⟨rfl, hb⟩
  · exact absurd hS (hno os)

set_option maxRecDepth 100000 in
set_option maxHeartbeats 4000000 in
theorem moveTwice_walk (vw vr : Value) (ws rs : List Int) (w : World) (hw : IsW w vw ws) (hr : IsW w vr rs) :
    Calls Try.prog 11 #[.agg #[vw, vr]] w fun e w' => e = .returned (.bool true) ∧ Below w.heap.size w w' := by
  have Hw := Lib.hid hw
  have Hr := Lib.hid hr
  obtain ⟨aw, cw, rfl, hmw⟩ := hw.slice
  obtain ⟨ar, cr, rfl, hmr⟩ := hr.slice
  have hM0 := (Mem.start w).alloc #[.slice aw ws.length cw, .slice ar rs.length cr] 24
  have HC := Lib.hid (sound_any _ _ ws rs _ (hw.later hM0.below) (hr.later hM0.below))
  have HM0 := Lib.hid hM0
  clear hw hr hM0
  go_enter Try.func11, Try.ntmps11
  go_wp2_with fail
  refine HC.out.mono ?_
  rintro e w2 ⟨hb, hcase⟩
  have hM2 := HM0.out.call hb
  have c0 : w2.cell? ⟨w.heap.size, 0, none⟩ = some (.slice aw ws.length cw) := by have := hM2.cell 0 rfl 0; simpa using this
  have c1 : w2.cell? ⟨w.heap.size, 1, none⟩ = some (.slice ar rs.length cr) := by have := hM2.cell 0 rfl 1; simpa using this
  have z0 : w.heap.size < w2.heap.size := (hM2.box 0 rfl).2.1
  have HM2 := Lib.hid hM2
  clear hb hM2 HC HM0
  rcases hcase with ⟨rfl, os, hS⟩ | ⟨rfl, hn⟩
  · obtain ⟨F, hF⟩ := ord_exists (read_rng hS)
    have h64 : ∀ x ∈ allW rs os, w64 x := fun x hx => by
      rcases List.mem_append.1 hx with h | h
      · exact Hr.out.all x h
      · exact Hw.out.all x (fieldsOf_mem hS.laid x h)
    have HCp := Lib.hid (copy_any _ _ ws rs os F w2 (Hw.out.later HM2.out.below) (Hr.out.later HM2.out.below) hS hF)
    obtain ⟨os1, rs1, e1, e2, hS1, w1, w2', hl1, hO1, m1, m2, hhead⟩ := twice_plain hS h64 hF
    rw [← e1, ← e2] at HCp
    have h641 : ∀ x ∈ allW rs1 os1, w64 x := fun x hx => by
      rcases List.mem_append.1 hx with h | h
      · exact w2' x h
      · exact w1 x (fieldsOf_mem hS1.laid x h)
    obtain ⟨hS2, w3'⟩ := older_sound hS1 h641 hO1
    have hl2 := older_len os1
    obtain ⟨N, hN⟩ : ∃ N, placeF os F F.length = N := ⟨_, rfl⟩
    rw [hN] at hl1
    rw [hl1] at hl2
    have hN256 : N ≤ 256 := by have := hS1.words; omega
    have hrl : rs1.length ≤ 8 := hS1.roots
    have HS := Lib.hid hS
    have HF := Lib.hid hF
    have HS1 := Lib.hid hS1
    have HS2 := Lib.hid hS2
    have HO1 := Lib.hid hO1
    have Hm := Lib.hid (And.intro m1 m2)
    have Hhead := Lib.hid hhead
    have Hl1 := Lib.hid hl1
    have Hl2 := Lib.hid hl2
    have HN := Lib.hid hN
    have Hw1 := Lib.hid w1
    have Hw2 := Lib.hid w2'
    have Hw3 := Lib.hid w3'
    clear hS hF h64 e1 e2 hS1 w1 w2' hl1 hO1 m1 m2 hhead h641 hS2 w3' hl2 hN
    go_wp2_with fail
    refine HCp.out.mono ?_
    rintro e w4 ⟨tv, r, rfl, hM4⟩
    have hT := isW_of_own (hM4.ownW 0 rfl) (by rw [Hl1.out]; omega) Hw1.out
    have hR := isW_of_own (hM4.ownW 1 rfl) (by omega) Hw2.out
    obtain ⟨at1, ct1, rfl, _⟩ := hT.slice
    obtain ⟨ar1, cr1, rfl, _⟩ := hR.slice
    rw [Hl1.out]
    have hM5 := (HM2.out.call hM4.below).alloc #[.slice at1 N ct1, .slice ar1 rs1.length cr1] 24
    obtain ⟨b3, hb3⟩ : ∃ b3, w4.heap.size = b3 := ⟨_, rfl⟩
    obtain ⟨W5, hW5⟩ : ∃ W5, w4.alloc (.cells #[.slice at1 N ct1, .slice ar1 rs1.length cr1] 24) = W5 := ⟨_, rfl⟩
    have hB5 : Below w4.heap.size w4 W5 := by rw [← hW5]; exact (Below.refl _ _).alloc (Nat.le_refl _) _
    rw [hb3, hW5] at hM5
    rw [Hl1.out] at hT
    have hT5 : IsW W5 (.slice at1 N ct1) (flat os1) := hT.later hB5
    have hR5 := hR.later hB5
    have HCp2 := Lib.hid (copy_any _ _ (flat os1) rs1 os1 (upTo os1.length) W5 hT5 hR5 HS1.out HO1.out)
    rw [Hm.out.1, Hm.out.2] at HCp2
    have HM5 := Lib.hid hM5
    have HT5 := Lib.hid hT5
    have HR5 := Lib.hid hR5
    have HW5 := Lib.hid hW5
    have Hb3 := Lib.hid hb3
    clear hM4 hT hR hM5 hB5 hT5 hR5 hW5 hb3 HCp c0 c1 z0
    go_wp2_with fail
    rw [Hb3.out, HW5.out]
    refine HCp2.out.mono ?_
    rintro e w6 ⟨tv2, r2, rfl, hM6⟩
    have hT := isW_of_own (hM6.ownW 0 rfl) (by rw [Hl2.out]; omega) Hw3.out
    have hR := isW_of_own (hM6.ownW 1 rfl) (by omega) Hw2.out
    obtain ⟨at2, ct2, rfl, _⟩ := hT.slice
    obtain ⟨ar2, cr2, rfl, _⟩ := hR.slice
    rw [Hl2.out]
    have hM7 := (HM5.out.call hM6.below).alloc #[.slice at2 N ct2, .slice ar2 rs1.length cr2] 24
    obtain ⟨b5, hb5⟩ : ∃ b5, w6.heap.size = b5 := ⟨_, rfl⟩
    obtain ⟨W7, hW7⟩ : ∃ W7, w6.alloc (.cells #[.slice at2 N ct2, .slice ar2 rs1.length cr2] 24) = W7 := ⟨_, rfl⟩
    have hB7 : Below w6.heap.size w6 W7 := by rw [← hW7]; exact (Below.refl _ _).alloc (Nat.le_refl _) _
    rw [hb5, hW7] at hM7
    rw [Hl2.out] at hT
    have HT7 := Lib.hid (hT.later hB7)
    have HR7 := Lib.hid (hR.later hB7)
    have HT1 := Lib.hid ((HT5.out.later hM6.below).later hB7)
    have HR1 := Lib.hid ((HR5.out.later hM6.below).later hB7)
    have HwA := Lib.hid (Hw.out.later hM7.below)
    have HrA := Lib.hid (Hr.out.later hM7.below)
    have HM7 := Lib.hid hM7
    have HW7 := Lib.hid hW7
    have Hb5 := Lib.hid hb5
    clear hM6 hT hR hM7 hB7 hW7 hb5 HCp2
    have Q1 : Hid (∀ X, Below W7.heap.size W7 X → Calls Try.prog 15 #[.agg #[.slice at1 N ct1, .slice ar1 rs1.length cr1]] X fun e w' => e = .returned (.bool true) ∧ Below X.heap.size X w') := Lib.hid (fun X hX => sound_yes _ _ _ _ os1 X (HT1.out.later hX) (HR1.out.later hX) HS1.out)
    have Q2 : Hid (∀ X, Below W7.heap.size W7 X → Calls Try.prog 15 #[.agg #[.slice at2 N ct2, .slice ar2 rs1.length cr2]] X fun e w' => e = .returned (.bool true) ∧ Below X.heap.size X w') := Lib.hid (fun X hX => sound_yes _ _ _ _ _ X (HT7.out.later hX) (HR7.out.later hX) HS2.out)
    have Q3 : Hid (∀ X, Below W7.heap.size W7 X → Calls Try.prog 33 #[.agg #[.slice aw ws.length cw, .slice ar rs.length cr]] X fun e w' => e = .returned (.int .i64 N) ∧ Below X.heap.size X w') := Lib.hid (fun X hX => by
      have := size_any _ _ ws rs os F X (HwA.out.later hX) (HrA.out.later hX) HS.out HF.out
      rwa [HN.out] at this)
    have Q4 : Hid (∀ X, Below W7.heap.size W7 X → Calls Try.prog 25 #[.slice ar1 rs1.length cr1, .slice ar2 rs1.length cr2] X fun e w' => e = .returned (.bool true) ∧ Below X.heap.size X w') := Lib.hid (fun X hX => by
      refine (words_any _ _ rs1 rs1 X (HR1.out.later hX) (HR7.out.later hX) (by omega)).mono ?_
      rintro e w' ⟨rfl, q, rfl⟩
      exact ⟨by simp, below_drewN (Below.refl _ _) q⟩)
    have HCs : Hid (∀ X, Below W7.heap.size W7 X → X.cell? ⟨b3, 0, none⟩ = some (.slice at1 N ct1) ∧ X.cell? ⟨b3, 1, none⟩ = some (.slice ar1 rs1.length cr1) ∧ X.cell? ⟨b5, 0, none⟩ = some (.slice at2 N ct2) ∧ X.cell? ⟨b5, 1, none⟩ = some (.slice ar2 rs1.length cr2) ∧ X.cell? ⟨w.heap.size, 0, none⟩ = some (.slice aw ws.length cw) ∧ X.cell? ⟨w.heap.size, 1, none⟩ = some (.slice ar rs.length cr)) := Lib.hid (fun X hX => by
      have hMX := HM7.out.call hX
      refine ⟨?_, ?_, ?_, ?_, ?_, ?_⟩
      · have := hMX.cell 1 rfl 0; simpa using this
      · have := hMX.cell 1 rfl 1; simpa using this
      · have := hMX.cell 0 rfl 0; simpa using this
      · have := hMX.cell 0 rfl 1; simpa using this
      · have := hMX.cell 2 rfl 0; simpa using this
      · have := hMX.cell 2 rfl 1; simpa using this)
    have q0 : ((N : Int) != (N : Int)) = false := by simp
    have HBd := Lib.hid ((Below.refl W7.heap.size W7).drew)
    go_wp2
    rw [Hb5.out, HW7.out]
    go_region_held3 (fun X => X.cell? ⟨b3, 0, none⟩ = some (.slice at1 N ct1) ∧ X.cell? ⟨b3, 1, none⟩ = some (.slice ar1 rs1.length cr1) ∧ X.cell? ⟨b5, 0, none⟩ = some (.slice at2 N ct2) ∧ X.cell? ⟨b5, 1, none⟩ = some (.slice ar2 rs1.length cr2) ∧ X.cell? ⟨w.heap.size, 0, none⟩ = some (.slice aw ws.length cw) ∧ X.cell? ⟨w.heap.size, 1, none⟩ = some (.slice ar rs.length cr))
      (first | exact HCs.out _ HBd.out | exact HCs.out _ hB8 | exact HCs.out _ hB9 | exact HCs.out _ hB10 | exact HCs.out _ hB11)
      (first
        | (go_at_call 15
           refine (Q1.out _ HBd.out).mono ?_
           rintro e w8 ⟨rfl, hb8⟩
           have hB8 := HBd.out.trans (hb8.mono HBd.out.size)
           clear hb8)
        | (go_at_call 15
           refine (Q2.out _ hB8).mono ?_
           rintro e w9 ⟨rfl, hb9⟩
           have hB9 := hB8.trans (hb9.mono hB8.size)
           clear hb9)
        | (go_at_call 33
           refine (Q3.out _ hB9).mono ?_
           rintro e w10 ⟨rfl, hb10⟩
           have hB10 := hB9.trans (hb10.mono hB9.size)
           clear hb10)
        | (go_at_call 25
           refine (Q4.out _ hB10).mono ?_
           rintro e w11 ⟨rfl, hb11⟩
           have hB11 := hB10.trans (hb11.mono hB10.size)
           clear hb11))
    all_goals
      have hM11 := HM7.out.call hB11
      obtain ⟨p0, p1, p2, p3, p4, p5⟩ := HCs.out _ hB11
      have y3 : b3 < w11.heap.size := (hM11.box 1 rfl).2.1
      have y5 : b5 < w11.heap.size := (hM11.box 0 rfl).2.1
      have HSt := Lib.hid (rStarts_any _ (flat os1) w11 (HT1.out.later hB11) (by rw [Hl1.out]; exact hN256))
      have HB11 := Lib.hid hB11
      clear hM11 hB8 hB9 hB10 hB11 HBd Q1 Q2 Q3 Q4
      go_wp2_with fail
      refine HSt.out.mono ?_
      rintro e w12 hcase
      rcases hcase with ⟨os', sv, hL', rfl, hM12⟩ | ⟨hno, _⟩
      · obtain rfl := HS1.out.laid.unique hL'
        have hB12 := HB11.out.trans (hM12.below.mono HB11.out.size)
        have hcnt := hL'.count
        have hI := isInts_of_own (hM12.ownI 0 rfl) (by rw [starts_len]; have := Hl1.out; omega) (starts_64 hL' (by have := Hl1.out; omega))
        obtain ⟨as_, cs, rfl, _⟩ := hI.slice
        have HI := Lib.hid hI
        have HB12 := Lib.hid hB12
        obtain ⟨r0, r1, r2, r3, r4, r5⟩ := HCs.out _ hB12
        have x3 : b3 < w12.heap.size := ((HM7.out.call hB12).box 1 rfl).2.1
        clear hM12 hI hB12 p0 p1 p2 p3 p4 p5 y3 y5 HSt hcnt HB11
        go_wp2
        go_loopw [9] (fun i wr => ∃ k : Nat, k ≤ N ∧ i = .int .i64 k ∧ Below w12.heap.size w12 wr) (fun i _ => N - (intOf i).toNat)
        case atStart => exact ⟨0, Nat.zero_le _, rfl, Below.refl _ _⟩
        case round =>
          clear r0 r1 r2 r3 r4 r5 x3
          obtain ⟨k, hk, rfl, hBr⟩ := hrel
          have hBW := HB12.out.trans (hBr.mono HB12.out.size)
          obtain ⟨r0, r1, r2, r3, r4, r5⟩ := HCs.out _ hBW
          have x3 : b3 < wr.heap.size := ((HM7.out.call hBW).box 1 rfl).2.1
          have x5 : b5 < wr.heap.size := ((HM7.out.call hBW).box 0 rfl).2.1
          by_cases hlt : k < N
          · by_cases hin : (k : Int) ∈ starts os1
            · have HH := Lib.hid (has_yes _ (starts os1) (k : Int) wr (HI.out.later hBr) hin)
              obtain ⟨j, o, ho, h1, h2⟩ := older_head os1 hin
              obtain ⟨a, ha1, ha7, ho4, hoh⟩ := Hhead.out o (List.mem_of_getElem? ho)
              obtain ⟨f1, f2, f3⟩ := headF o.2.length a ho4 (by omega) ha7
              have hh1 : isHead o.1 := by rw [hoh]; exact (headB _ a ho4 (by omega) ha7).2.1
              have hold : (older o).1 = headW o.2.length (min (a + 1) 7) false := by unfold older; rw [hoh, f3]
              have hh2 : isHead (older o).1 := by rw [hold]; exact (headB _ _ ho4 (by omega) (by omega)).2.1
              obtain ⟨f4, f5, f6⟩ := headF o.2.length (min (a + 1) 7) ho4 (by omega) (by omega)
              have HA := headAt_yes _ (.slice ar1 rs1.length cr1) (flat os1) rs1 k o.1 wr (HT1.out.later hBW) (HR1.out.later hBW) h1 hh1
              rw [hoh, f1, f2, f3] at HA
              have HA1 := Lib.hid HA
              have HA2 : Hid (∀ X, Below W7.heap.size W7 X → Calls Try.prog 30 #[.agg #[.slice at2 N ct2, .slice ar2 rs1.length cr2], .int .i64 k] X fun e w' => e = .returned (.tuple #[.agg #[.int .i64 o.2.length, .bool false, .int .i64 (min (a + 1) 7)], .bool true]) ∧ Below X.heap.size X w') := Lib.hid (fun X hX => by
                have hz := headAt_yes _ (.slice ar2 rs1.length cr2) (flat (os1.map older)) rs1 k (older o).1 X (HT7.out.later hX) (HR7.out.later hX) h2 hh2
                rwa [hold, f4, f5, f6] at hz)
              obtain ⟨m, hm⟩ : ∃ m, o.2.length = m := ⟨_, rfl⟩
              obtain ⟨a2, ha2⟩ : ∃ a2, min (a + 1) 7 = a2 := ⟨_, rfl⟩
              rw [hm] at HA1
              rw [hm, ha2] at HA2
              have HBr := Lib.hid hBr
              have HBW := Lib.hid hBW
              have Ha2 := Lib.hid ha2
              have haa : a2 = a + 1 ∧ a ≤ 6 ∨ a2 = 7 ∧ a = 7 := by omega
              clear HA hin ho h1 h2 hoh f1 f2 f3 f4 f5 f6 hh1 hh2 hold hm ha2 hBr hBW ho4
              go_wp2_with fail
              refine HH.out.mono ?_
              rintro e w13 ⟨rfl, rfl⟩
              go_wp2_with fail
              refine HA1.out.mono ?_
              rintro e w14 ⟨rfl, hb14⟩
              have hB14 := HBW.out.trans (hb14.mono HBW.out.size)
              have hC14 := HBr.out.trans (hb14.mono HBr.out.size)
              obtain ⟨r0, r1, r2, r3, r4, r5⟩ := HCs.out _ hB14
              have x3 : b3 < w14.heap.size := ((HM7.out.call hB14).box 1 rfl).2.1
              have x5 : b5 < w14.heap.size := ((HM7.out.call hB14).box 0 rfl).2.1
              have hMb := (Mem.start w14).alloc #[.int .i64 m, .bool false, .int .i64 a] 35
              obtain ⟨bH, hbH⟩ : ∃ bH, w14.heap.size = bH := ⟨_, rfl⟩
              obtain ⟨W15, hW15⟩ : ∃ W15, w14.alloc (.cells #[.int .i64 m, .bool false, .int .i64 a] 35) = W15 := ⟨_, rfl⟩
              have hB15 : Below W7.heap.size W7 W15 := by rw [← hW15]; exact hB14.alloc hB14.size _
              have hC15 : Below w12.heap.size w12 W15 := by rw [← hW15]; exact hC14.alloc hC14.size _
              rw [hW15] at hMb
              have HMb := Lib.hid hMb
              have HbH := Lib.hid hbH
              have HW15 := Lib.hid hW15
              have HB15 := Lib.hid hB15
              have HC15 := Lib.hid hC15
              clear hB14 hC14 hb14 hMb hbH hW15 hB15 hC15 HA1 HH
              go_wp2_with fail
              rw [HbH.out, HW15.out]
              refine (HA2.out _ HB15.out).mono ?_
              rintro e w16 ⟨rfl, hb16⟩
              have hM16 := HMb.out.call hb16
              have s0 : w16.cell? ⟨w14.heap.size, 0, none⟩ = some (.int .i64 m) := by have := hM16.cell 0 rfl 0; simpa using this
              have s1 : w16.cell? ⟨w14.heap.size, 1, none⟩ = some (.bool false) := by have := hM16.cell 0 rfl 1; simpa using this
              have s2 : w16.cell? ⟨w14.heap.size, 2, none⟩ = some (.int .i64 a) := by have := hM16.cell 0 rfl 2; simpa using this
              have sz : w14.heap.size < w16.heap.size := (hM16.box 0 rfl).2.1
              rw [HbH.out] at s0 s1 s2 sz
              have hC16 := HC15.out.trans (hb16.mono HC15.out.size)
              have HC17 := Lib.hid (hC16.alloc hC16.size (.cells #[.int .i64 m, .bool false, .int .i64 a2] 35))
              have q1 : (a == 0) = false := by simp; omega
              have q2 : ((m : Int) != (m : Int)) = false := by simp
              clear hM16 hb16 hC16 HMb HA2 HB15 HC15 r0 r1 r2 r3 r4 r5 x3 x5 Ha2
              rcases haa with ⟨rfl, ha6⟩ | ⟨rfl, rfl⟩
              · have q3 : ((a + 1 : Int) != a + 1) = false := by simp
                go_wp2
                go_roundw
                case rel => exact ⟨k + 1, by omega, by go_num, HC17.out⟩
                case measure => simp [intOf]; omega
              · go_wp2
                go_roundw
                case rel => exact ⟨k + 1, by omega, by go_num, HC17.out⟩
                case measure => simp [intOf]; omega
            · have HH := Lib.hid (has_no _ (starts os1) (k : Int) wr (HI.out.later hBr) hin)
              obtain ⟨x, hx⟩ := get_some (flat os1) k (by rw [Hl1.out]; exact hlt)
              have hy : (flat (os1.map older))[k]? = some x := by rw [older_same os1 (by rw [Hl1.out]; exact hlt) hin]; exact hx
              obtain ⟨b', off', cap', hv, _, g1, d1, _⟩ := HT1.out.at hBW hx
              rw [Hl1.out] at hv
              cases hv
              obtain ⟨b'', off'', cap'', hv, _, g2, d2, _⟩ := HT7.out.at hBW hy
              rw [Hl2.out] at hv
              cases hv
              have q1 : (x != x) = false := by simp
              have HBr := Lib.hid hBr
              clear hx hy hin hBr hBW
              go_wp2_with fail
              refine HH.out.mono ?_
              rintro e w13 ⟨rfl, rfl⟩
              clear HH
              go_wp2
              go_quiet (fail)
              go_wp2
              go_roundw
              case rel => exact ⟨k + 1, by omega, by go_num, below_drewN HBr.out _⟩
              case measure => simp [intOf]; omega
          · obtain rfl : k = N := by omega
            have HB := Lib.hid (HM7.out.call hBW).below
            clear hBW hBr
            go_wp2
            go_ret
            exact ⟨rfl, HB.out⟩
      · exact absurd HS1.out.laid (hno _)
  · have HU := Lib.hid (unsound_any _ _ ws rs w2 (Hw.out.later HM2.out.below) (Hr.out.later HM2.out.below) hn)
    clear hn
    go_wp2_with fail
    refine HU.out.mono ?_
    rintro e w3 ⟨rfl, hb3⟩
    have HB := Lib.hid (HM2.out.call hb3).below
    clear hb3
    go_wp2
    go_ret
    exact ⟨rfl, HB.out⟩
end Go.Proofs.Ytigdpdndnghldaa
