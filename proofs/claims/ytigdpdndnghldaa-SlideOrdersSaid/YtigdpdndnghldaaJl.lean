/- SlideOrders, walked. -/
import Derived.Test.YtigdpdndnghldaaJf
import Derived.Test.YtigdpdndnghldaaJk
import Derived.Test.YtigdpdndnghldaaBv
import Derived.Test.YtigdpdndnghldaaAo
import Derived.Deep.RegionHeld3
import Derived.Deep.DeepCutAuto
import Derived.Deep.QuietTactic
namespace Go.Proofs.Ytigdpdndnghldaa
open Go.RowKit Go.Shelf Go.Maps

set_option maxRecDepth 100000 in
set_option maxHeartbeats 4000000 in
theorem slideOrders_walk (vw vr : Value) (ws rs : List Int) (w : World) (hw : IsW w vw ws) (hr : IsW w vr rs) :
    Calls Try.prog 13 #[.agg #[vw, vr]] w fun e w' => e = .returned (.bool true) ∧ Below w.heap.size w w' := by
  have Hw := Lib.hid hw
  have Hr := Lib.hid hr
  obtain ⟨aw, cw, rfl, hmw⟩ := hw.slice
  obtain ⟨ar, cr, rfl, hmr⟩ := hr.slice
  have hM0 := (Mem.start w).alloc #[.slice aw ws.length cw, .slice ar rs.length cr] 24
  have HC := Lib.hid (sound_any _ _ ws rs _ (hw.later hM0.below) (hr.later hM0.below))
  have HM0 := Lib.hid hM0
  clear hw hr hM0
  go_enter Try.func13, Try.ntmps13
  go_wp2_with fail
  refine HC.out.mono ?_
  rintro e w2 ⟨hb, hcase⟩
  have hM2 := HM0.out.call hb
  have c0 : w2.cell? ⟨w.heap.size, 0, none⟩ = some (.slice aw ws.length cw) := by have := hM2.cell 0 rfl 0; simpa using this
  have c1 : w2.cell? ⟨w.heap.size, 1, none⟩ = some (.slice ar rs.length cr) := by have := hM2.cell 0 rfl 1; simpa using this
  have z0 : w.heap.size < w2.heap.size := (hM2.box 0 rfl).2.1
  have HM2 := Lib.hid hM2
  clear hb hM2 HC HM0
  rcases hcase with ⟨rfl, os, hS⟩ | ⟨rfl, hn⟩
  · obtain ⟨F, hF⟩ := ord_exists (read_rng hS)
    have h64 : ∀ x ∈ allW rs os, w64 x := fun x hx => by
      rcases List.mem_append.1 hx with h | h
      · exact Hr.out.all x h
      · exact Hw.out.all x (fieldsOf_mem hS.laid x h)
    obtain ⟨R, os1, rs1, F1, hR, e1, e2, hS1, w1, w2', hl1, hc, hrd, hlen, h641, hF1, hup, e3, e4⟩ := slide_again hS h64 hF
    obtain ⟨n1, hn1⟩ : ∃ n1, (flat os1).length = n1 := ⟨_, rfl⟩
    obtain ⟨n2, hn2⟩ : ∃ n2, rs1.length = n2 := ⟨_, rfl⟩
    obtain ⟨nR, hnR⟩ : ∃ nR, R.length = nR := ⟨_, rfl⟩
    obtain ⟨nO, hnO⟩ : ∃ nO, os.length = nO := ⟨_, rfl⟩
    have hn1s : n1 ≤ 256 := by rw [← hn1]; exact hS1.words
    have hwss : ws.length ≤ 256 := hS.words
    have hn2s : n2 ≤ 8 := by rw [← hn2]; exact hS1.roots
    have hnOs : nO ≤ 256 := by have := hS.laid.count; omega
    have hnRs : nR ≤ 256 := by have := hS1.laid.count; omega
    have HSl := Lib.hid (slide_is _ _ ws rs os F w2 (Hw.out.later HM2.out.below) (Hr.out.later HM2.out.below) hS h64 hF os1 rs1 e1 e2 hS1 w1 w2' n1 n2 hn1 hn2)
    have HSo : Hid (∀ X u v, IsW X u (flat os1) → IsW X v rs1 → Calls Try.prog 15 #[.agg #[u, v]] X fun e w' => e = .returned (.bool true) ∧ Below X.heap.size X w') := Lib.hid (fun X u v hu hv => sound_yes u v _ _ os1 X hu hv hS1)
    have HSt : Hid (∀ X u ts o m, IsW X u ts → Laid ts o → ts.length ≤ 256 → o.length = m → Calls Try.prog 24 #[u] X fun e w' => ∃ a c, e = .returned (.tuple #[.slice a m c, .bool true]) ∧ IsInts w' (.slice a m c) (starts o) ∧ Below X.heap.size X w') := Lib.hid (fun X u ts o m hu hl hsm hm => by
      refine (rStarts_any u ts X hu hsm).mono ?_
      rintro e w' (⟨o', r, hL, rfl, hM⟩ | ⟨hno, _⟩)
      · obtain rfl := hl.unique hL
        have hI := isInts_of_own (hM.ownI 0 rfl) (by rw [starts_len]; have := hl.count; omega) (starts_64 hl (by omega))
        obtain ⟨a, c, rfl, _⟩ := hI.slice
        rw [starts_len, hm] at hI ⊢
        exact ⟨a, c, rfl, hI, hM.below⟩
      · exact absurd hl (hno _))
    have HRd : Hid (∀ X u v, IsW X u ws → IsW X v rs → Calls Try.prog 29 #[.agg #[u, v]] X fun e w' => ∃ g, e = .returned g ∧ IsGraph w' g (readG os rs) ∧ Below X.heap.size X w') := Lib.hid (fun X u v hu hv => by
      refine (rread_yes u v ws rs os X hu hv hS).mono ?_
      rintro e w' ⟨g, rfl, hg, hb⟩
      exact ⟨g, rfl, hg.here, hb⟩)
    have HRe : Hid (∀ X g, IsGraph X g (readG os rs) → Calls Try.prog 28 #[g] X fun e w' => ∃ a c, e = .returned (.slice a nR c) ∧ IsInts w' (.slice a nR c) R ∧ Below X.heap.size X w') := Lib.hid (fun X g hg => by
      refine (reachR_any (readG os rs) (by unfold readG; simp; omega) g X hg).mono ?_
      rintro e w' ⟨vl, l, rfl, hL, hM⟩
      have hl := orders_list hS hF hL
      rw [← hR] at hl
      subst hl
      have hI := isInts_of_own (hM.ownI 0 rfl) (by omega) (fun x hx => by have := hc.rng x hx; unfold i64ok; simp [readG] at this; omega)
      obtain ⟨a, c, rfl, _⟩ := hI.slice
      rw [hnR] at hI ⊢
      exact ⟨a, c, rfl, hI, hM.below⟩)
    have HP := Lib.hid (And.intro hS (And.intro hR (And.intro (show os1 = relO os R (hdD os) by rw [hR]; exact e1.symm) (And.intro hn1 (And.intro hn2 (And.intro hnR (And.intro hnO (And.intro hS1.laid hlen))))))))
    clear hS hF h64 hR e1 e2 hS1 w1 w2' hl1 hc hrd hlen h641 hF1 hup e3 e4 hn1 hn2 hnR hnO
    go_wp2_with fail
    refine HSl.out.mono ?_
    rintro e w3 ⟨a1, d1, a2, d2, rfl, hi1, hi2, hb3⟩
    have hM3 := HM2.out.call hb3
    have hM4 := hM3.alloc #[.slice a1 n1 d1, .slice a2 n2 d2] 24
    obtain ⟨b3, hb3e⟩ : ∃ b3, w3.heap.size = b3 := ⟨_, rfl⟩
    obtain ⟨W4, hW4⟩ : ∃ W4, w3.alloc (.cells #[.slice a1 n1 d1, .slice a2 n2 d2] 24) = W4 := ⟨_, rfl⟩
    have hB4 : Below w3.heap.size w3 W4 := by rw [← hW4]; exact (Below.refl _ _).alloc (Nat.le_refl _) _
    rw [hb3e, hW4] at hM4
    have HSo4 := Lib.hid (HSo.out W4 _ _ (hi1.later hB4) (hi2.later hB4))
    have HI1 := Lib.hid (hi1.later hB4)
    have HI2 := Lib.hid (hi2.later hB4)
    have HCs : Hid (∀ X, Below W4.heap.size W4 X → X.cell? ⟨w.heap.size, 0, none⟩ = some (.slice aw ws.length cw) ∧ X.cell? ⟨w.heap.size, 1, none⟩ = some (.slice ar rs.length cr) ∧ X.cell? ⟨b3, 0, none⟩ = some (.slice a1 n1 d1) ∧ X.cell? ⟨b3, 1, none⟩ = some (.slice a2 n2 d2)) := Lib.hid (fun X hX => by
      have hMX := hM4.call hX
      refine ⟨?_, ?_, ?_, ?_⟩
      · have := hMX.cell 1 rfl 0; simpa using this
      · have := hMX.cell 1 rfl 1; simpa using this
      · have := hMX.cell 0 rfl 0; simpa using this
      · have := hMX.cell 0 rfl 1; simpa using this)
    have HM4 := Lib.hid hM4
    have HW4 := Lib.hid hW4
    have Hb3 := Lib.hid hb3e
    clear hM3 hM4 hb3 hb3e hW4 hB4 hi1 hi2 HSl HSo c0 c1 z0 HM2
    go_wp2_with fail
    rw [Hb3.out, HW4.out]
    refine HSo4.out.mono ?_
    rintro e w5 ⟨rfl, hb5⟩
    obtain ⟨p0, p1, p2, p3⟩ := HCs.out _ hb5
    have q0 := cell_lt p0
    have q2 := cell_lt p2
    have HA := Lib.hid (HSt.out w5 _ ws os nO ((Hw.out.later HM4.out.below).later hb5) HP.out.1.laid hwss HP.out.2.2.2.2.2.2.1)
    have HB5 := Lib.hid hb5
    clear hb5 HSo4
    go_wp2_with fail
    refine HA.out.mono ?_
    rintro e w6 ⟨sa, sc, rfl, hi6, hb6⟩
    have hB6 := HB5.out.trans (hb6.mono HB5.out.size)
    have HI6 := Lib.hid hi6
    clear p0 p1 p2 p3 q0 q2 HA hb6 hi6 HB5
    obtain ⟨p0, p1, p2, p3⟩ := HCs.out _ hB6
    have q0 := cell_lt p0
    have q2 := cell_lt p2
    have HA := Lib.hid (HSt.out w6 _ (flat os1) os1 nR (HI1.out.later hB6) HP.out.2.2.2.2.2.2.2.1 (by rw [HP.out.2.2.2.1]; exact hn1s) (by rw [HP.out.2.2.2.2.2.2.2.2, HP.out.2.2.2.2.2.1]))
    have HB6 := Lib.hid hB6
    clear hB6 HSt
    go_wp2_with fail
    refine HA.out.mono ?_
    rintro e w7 ⟨ta, tc, rfl, hi7, hb7⟩
    have hB7 := HB6.out.trans (hb7.mono HB6.out.size)
    have HI6 := Lib.hid (HI6.out.later hb7)
    have HI7 := Lib.hid hi7
    clear p0 p1 p2 p3 q0 q2 HA hb7 hi7 HB6
    obtain ⟨p0, p1, p2, p3⟩ := HCs.out _ hB7
    have q0 := cell_lt p0
    have q2 := cell_lt p2
    have HA := Lib.hid (HRd.out w7 _ _ ((Hw.out.later HM4.out.below).later hB7) ((Hr.out.later HM4.out.below).later hB7))
    have HB7 := Lib.hid hB7
    clear hB7 HRd
    go_wp2_with fail
    refine HA.out.mono ?_
    rintro e w8 ⟨g, rfl, hg8, hb8⟩
    have HB8 := Lib.hid (HB7.out.trans (hb8.mono HB7.out.size))
    have HI6 := Lib.hid (HI6.out.later hb8)
    have HI7 := Lib.hid (HI7.out.later hb8)
    have HA := Lib.hid (HRe.out w8 g hg8)
    clear p0 p1 p2 p3 q0 q2 hb8 hg8 HB7 HRe
    go_wp2_with fail
    refine HA.out.mono ?_
    rintro e w9 ⟨ra, rc, rfl, hi9, hb9⟩
    have HB9 := Lib.hid (HB8.out.trans (hb9.mono HB8.out.size))
    have HI6 := Lib.hid (HI6.out.later hb9)
    have HI7 := Lib.hid (HI7.out.later hb9)
    have HI9 := Lib.hid hi9
    clear hb9 hi9 HB8 HA
    go_wp2
    go_loopw [55] (fun i wr => ∃ k : Nat, k ≤ nR ∧ i = .int .i64 k ∧ Below w9.heap.size w9 wr) (fun i _ => nR - (intOf i).toNat)
    case atStart => exact ⟨0, Nat.zero_le _, rfl, Below.refl _ _⟩
    case round =>
      obtain ⟨k, hk, rfl, hBr⟩ := hrel
      by_cases hlt : k < nR
      · obtain ⟨hS, hR, e1, hn1, hn2, hnR, hnO, hL1, hlen⟩ := HP.out
        obtain ⟨i, hi⟩ := get_some R k (by rw [hnR]; exact hlt)
        obtain ⟨j, rfl, hj, s1, s2, hle, f1, hhd, f2⟩ := orders_at hS hR e1 hi
        obtain ⟨bR, oR, cR, hv, _, zR, dR, _⟩ := HI9.out.at hBr hi
        rw [hnR] at hv
        cases hv
        have hp := hdS_parts hhd false
        have hHA1 : ∀ X, Below w9.heap.size w9 X → Calls Try.prog 30 #[.agg #[.slice aw ws.length cw, .slice ar rs.length cr], .int .i64 (place os j : Nat)] X fun e w' => e = .returned (.tuple #[.agg #[.int .i64 ((obj os j).1 % 256), .bool ((obj os j).1 / 256 % 2 == 1), .int .i64 ((obj os j).1 / 512 % 8)], .bool true]) ∧ Below X.heap.size X w' := fun X hX => by
          have hX4 := HB9.out.trans (hX.mono HB9.out.size)
          exact headAt_yes _ _ ws rs (place os j) (obj os j).1 X ((Hw.out.later HM4.out.below).later hX4) ((Hr.out.later HM4.out.below).later hX4) (by rw [hS.laid.1]; exact f1) hhd
        have hHA2 : ∀ X, Below w9.heap.size w9 X → Calls Try.prog 30 #[.agg #[.slice a1 n1 d1, .slice a2 n2 d2], .int .i64 (placeF os R k : Nat)] X fun e w' => e = .returned (.tuple #[.agg #[.int .i64 ((obj os j).1 % 256), .bool false, .int .i64 ((obj os j).1 / 512 % 8)], .bool true]) ∧ Below X.heap.size X w' := fun X hX => by
          have hX4 := HB9.out.trans (hX.mono HB9.out.size)
          have := headAt_yes _ _ (flat os1) rs1 (placeF os R k) _ X (HI1.out.later hX4) (HI2.out.later hX4) f2 hp.2.2.2.1
          rw [hp.1, hp.2.1, hp.2.2.1] at this
          exact this
        rw [hnO] at hj
        obtain ⟨m, hm⟩ : ∃ m, (obj os j).1 % 256 = m := ⟨_, rfl⟩
        obtain ⟨mk, hmk⟩ : ∃ mk, ((obj os j).1 / 256 % 2 == 1) = mk := ⟨_, rfl⟩
        obtain ⟨ag, hag⟩ : ∃ ag, (obj os j).1 / 512 % 8 = ag := ⟨_, rfl⟩
        obtain ⟨q, hq⟩ : ∃ q, place os j = q := ⟨_, rfl⟩
        obtain ⟨p, hpe⟩ : ∃ p, placeF os R k = p := ⟨_, rfl⟩
        rw [hm, hmk, hag, hq] at hHA1
        rw [hm, hag, hpe] at hHA2
        rw [hq] at s1 hle
        rw [hpe] at s2 hle
        obtain ⟨bS, oS, cS, hv, _, zS, dS, _⟩ := HI6.out.at hBr s1
        rw [starts_len, hnO] at hv
        cases hv
        obtain ⟨bT, oT, cT, hv, _, zT, dT, _⟩ := HI7.out.at hBr s2
        rw [starts_len, hlen, hnR] at hv
        cases hv
        have HX : Hid (∀ X, Below w9.heap.size w9 X → X.cell? ⟨w.heap.size, 0, none⟩ = some (.slice aw ws.length cw) ∧ X.cell? ⟨w.heap.size, 1, none⟩ = some (.slice ar rs.length cr) ∧ X.cell? ⟨b3, 0, none⟩ = some (.slice a1 n1 d1) ∧ X.cell? ⟨b3, 1, none⟩ = some (.slice a2 n2 d2) ∧ X.cell? ⟨bS, oS + j, none⟩ = some (.int .i64 q) ∧ X.cell? ⟨bT, oT + k, none⟩ = some (.int .i64 p)) := Lib.hid (fun X hX => by
          obtain ⟨h0, h1, h2, h3⟩ := HCs.out X (HB9.out.trans (hX.mono HB9.out.size))
          refine ⟨h0, h1, h2, h3, ?_, ?_⟩
          · obtain ⟨b', o', c', hv, _, _, d, _⟩ := HI6.out.at hX s1
            cases hv; exact d
          · obtain ⟨b', o', c', hv, _, _, d, _⟩ := HI7.out.at hX s2
            cases hv; exact d)
        have HA1 := Lib.hid hHA1
        have HA2 := Lib.hid hHA2
        have HBr := Lib.hid hBr
        have ej1 : (j : Int) < nO := by omega
        have ej2 : (0 : Int) ≤ (j : Int) := by omega
        have ek1 : (k : Int) < nR := by omega
        have ele : decide ((p : Int) > (q : Int)) = false := decide_eq_false (by omega)
        clear hS hR e1 hn1 hn2 hnR hnO hL1 hlen hi s1 s2 f1 f2 hhd hp hHA1 hHA2 hm hmk hag hq hpe hBr dS dT zS zT
        have HBd := Lib.hid (HBr.out.drew)
        obtain ⟨p0, p1, p2, p3, p4, p5⟩ := HX.out _ HBr.out
        have HXa : Hid (∀ X, Below w9.heap.size w9 X → X.cell? ⟨w.heap.size, 0, none⟩ = some (.slice aw ws.length cw) ∧ X.cell? ⟨w.heap.size, 1, none⟩ = some (.slice ar rs.length cr) ∧ X.cell? ⟨bS, oS + j, none⟩ = some (.int .i64 q)) := Lib.hid (fun X hX => by
          obtain ⟨h0, h1, h2, h3, h4, h5⟩ := HX.out X hX
          exact ⟨h0, h1, h4⟩)
        have HXb : Hid (∀ X, Below w9.heap.size w9 X → X.cell? ⟨b3, 0, none⟩ = some (.slice a1 n1 d1) ∧ X.cell? ⟨b3, 1, none⟩ = some (.slice a2 n2 d2) ∧ X.cell? ⟨bT, oT + k, none⟩ = some (.int .i64 p)) := Lib.hid (fun X hX => by
          obtain ⟨h0, h1, h2, h3, h4, h5⟩ := HX.out X hX
          exact ⟨h2, h3, h5⟩)
        go_wp2
        go_cut [12, 13] (fun s12 s13 W => ∃ bH, s12 = .pointer (some ⟨bH, 0, none⟩) ∧ s13 = .bool true ∧ Mem wr.heap.size wr W [ebox bH #[.int .i64 m, .bool mk, .int .i64 ag] 35])
        case first =>
          go_region_held3 (fun X => X.cell? ⟨w.heap.size, 0, none⟩ = some (.slice aw ws.length cw) ∧ X.cell? ⟨w.heap.size, 1, none⟩ = some (.slice ar rs.length cr) ∧ X.cell? ⟨bS, oS + j, none⟩ = some (.int .i64 q))
            (first | exact HXa.out _ HBd.out | exact HXa.out _ hB10 | exact HXa.out _ (hB10.alloc hB10.size _) | exact HXa.out _ (HBd.out.alloc HBd.out.size _) | exact HXa.out _ (HBr.out.trans (hM11.below.mono HBr.out.size)) | exact HXa.out _ (HBr.out.trans (hM12.below.mono HBr.out.size)))
            (first
              | (go_at_call 30
                 refine (HA1.out _ HBd.out).mono ?_
                 rintro e w10 ⟨rfl, hb10⟩
                 have hB10 := HBd.out.trans (hb10.mono HBd.out.size)
                 have hM10 := ((Mem.start wr).drew).call hb10
                 clear hb10)
              | (go_at_call 30
                 refine (HA1.out _ (HBd.out.alloc HBd.out.size _)).mono ?_
                 rintro e w10 ⟨rfl, hb10⟩
                 have hB10 := (HBd.out.alloc HBd.out.size _).trans (hb10.mono (HBd.out.alloc HBd.out.size _).size)
                 have hM10 := (((Mem.start wr).drew).alloc #[.int .i64 0, .bool false, .int .i64 0] 35).call hb10
                 have u0 : w10.cell? ⟨wr.heap.size, 0, none⟩ = some (.int .i64 0) := by have := hM10.cell 0 rfl 0; simpa using this
                 have u1 : w10.cell? ⟨wr.heap.size, 1, none⟩ = some (.bool false) := by have := hM10.cell 0 rfl 1; simpa using this
                 have u2 : w10.cell? ⟨wr.heap.size, 2, none⟩ = some (.int .i64 0) := by have := hM10.cell 0 rfl 2; simpa using this
                 have f0 : w10.frozen? ⟨wr.heap.size, 0, none⟩ = false := by have := hM10.free 0 rfl 0; simpa using this
                 have f1 : w10.frozen? ⟨wr.heap.size, 1, none⟩ = false := by have := hM10.free 0 rfl 1; simpa using this
                 have f2 : w10.frozen? ⟨wr.heap.size, 2, none⟩ = false := by have := hM10.free 0 rfl 2; simpa using this
                 have uz : wr.heap.size < w10.heap.size := by have := (hM10.box 0 rfl).2.1; simpa using this
                 have hM11 := ((hM10.setBox 0 rfl 0 (.int .i64 m)).setBox 0 rfl 1 (.bool mk)).setBox 0 rfl 2 (.int .i64 ag)
                 clear hb10))
          all_goals
            go_wp2_with fail
            go_meet
            first
              | exact ⟨_, rfl, rfl, hM11.cast (by simp)⟩
              | exact ⟨_, rfl, rfl, hM10.alloc _ _⟩
        case rest =>
          obtain ⟨bH, rfl, rfl, hM⟩ := hcut
          have hBc := HBr.out.trans (hM.below.mono HBr.out.size)
          have HBd := Lib.hid hBc.drew
          have HM := Lib.hid hM
          have HBc := Lib.hid hBc
          clear p0 p1 p2 p3 p4 p5 hM hBc HA1 HXa
          obtain ⟨p0, p1, p2, p3, p4, p5⟩ := HX.out _ HBc.out
          go_wp2
          go_cut [14, 15] (fun s14 s15 W => ∃ bG, s14 = .pointer (some ⟨bG, 0, none⟩) ∧ s15 = .bool true ∧ Mem wr.heap.size wr W [ebox bG #[.int .i64 m, .bool false, .int .i64 ag] 35, ebox bH #[.int .i64 m, .bool mk, .int .i64 ag] 35])
          case first =>
            go_region_held3 (fun X => X.cell? ⟨b3, 0, none⟩ = some (.slice a1 n1 d1) ∧ X.cell? ⟨b3, 1, none⟩ = some (.slice a2 n2 d2) ∧ X.cell? ⟨bT, oT + k, none⟩ = some (.int .i64 p))
              (first | exact HXb.out _ HBd.out | exact HXb.out _ hB10 | exact HXb.out _ (hB10.alloc hB10.size _) | exact HXb.out _ (HBd.out.alloc HBd.out.size _) | exact HXb.out _ (HBr.out.trans (hM11.below.mono HBr.out.size)))
              (first
                | (go_at_call 30
                   refine (HA2.out _ HBd.out).mono ?_
                   rintro e w10 ⟨rfl, hb10⟩
                   have hB10 := HBd.out.trans (hb10.mono HBd.out.size)
                   have hM10 := (HM.out.drew).call hb10
                   clear hb10)
                | (go_at_call 30
                   refine (HA2.out _ (HBd.out.alloc HBd.out.size _)).mono ?_
                   rintro e w10 ⟨rfl, hb10⟩
                   have hB10 := (HBd.out.alloc HBd.out.size _).trans (hb10.mono (HBd.out.alloc HBd.out.size _).size)
                   have hM10 := ((HM.out.drew).alloc #[.int .i64 0, .bool false, .int .i64 0] 35).call hb10
                   have u0 : w10.cell? ⟨wc.heap.size, 0, none⟩ = some (.int .i64 0) := by have := hM10.cell 0 rfl 0; simpa using this
                   have u1 : w10.cell? ⟨wc.heap.size, 1, none⟩ = some (.bool false) := by have := hM10.cell 0 rfl 1; simpa using this
                   have u2 : w10.cell? ⟨wc.heap.size, 2, none⟩ = some (.int .i64 0) := by have := hM10.cell 0 rfl 2; simpa using this
                   have f0 : w10.frozen? ⟨wc.heap.size, 0, none⟩ = false := by have := hM10.free 0 rfl 0; simpa using this
                   have f1 : w10.frozen? ⟨wc.heap.size, 1, none⟩ = false := by have := hM10.free 0 rfl 1; simpa using this
                   have f2 : w10.frozen? ⟨wc.heap.size, 2, none⟩ = false := by have := hM10.free 0 rfl 2; simpa using this
                   have uz : wc.heap.size < w10.heap.size := by have := (hM10.box 0 rfl).2.1; simpa using this
                   have hM11 := ((hM10.setBox 0 rfl 0 (.int .i64 m)).setBox 0 rfl 1 (.bool false)).setBox 0 rfl 2 (.int .i64 ag)
                   clear hb10))
            all_goals
              go_wp2_with fail
              go_meet
              first
                | exact ⟨_, rfl, rfl, hM11.cast (by simp)⟩
                | exact ⟨_, rfl, rfl, hM10.alloc _ _⟩
          case rest =>
            obtain ⟨bG, rfl, rfl, hM⟩ := hcut
            have hBc := HBr.out.trans (hM.below.mono HBr.out.size)
            have g0 : wc.cell? ⟨bG, 0, none⟩ = some (.int .i64 m) := by have := hM.cell 0 rfl 0; simpa using this
            have g1 : wc.cell? ⟨bG, 1, none⟩ = some (.bool false) := by have := hM.cell 0 rfl 1; simpa using this
            have g2 : wc.cell? ⟨bG, 2, none⟩ = some (.int .i64 ag) := by have := hM.cell 0 rfl 2; simpa using this
            have h0 : wc.cell? ⟨bH, 0, none⟩ = some (.int .i64 m) := by have := hM.cell 1 rfl 0; simpa using this
            have h2 : wc.cell? ⟨bH, 2, none⟩ = some (.int .i64 ag) := by have := hM.cell 1 rfl 2; simpa using this
            clear p0 p1 p2 p3 p4 p5
            obtain ⟨p0, p1, p2, p3, p4, p5⟩ := HX.out _ hBc
            have HBe := Lib.hid hBc
            have e1 : (m != m) = false := by simp
            have e2 : (ag != ag) = false := by simp
            clear hBc hM HM HBc HXb HA2 HBd
            go_wp2
            go_quiet (fail)
            go_wp2
            go_roundw
            case rel => exact ⟨k + 1, by omega, by go_num, below_drewN HBe.out _⟩
            case measure => simp [intOf]; omega
      · obtain rfl : k = nR := by omega
        have HB := Lib.hid (HM4.out.call (HB9.out.trans (hBr.mono HB9.out.size))).below
        clear hBr
        go_wp2
        go_ret
        exact ⟨rfl, HB.out⟩
  · have HU := Lib.hid (unsound_any _ _ ws rs w2 (Hw.out.later HM2.out.below) (Hr.out.later HM2.out.below) hn)
    clear hn
    go_wp2_with fail
    refine HU.out.mono ?_
    rintro e w3 ⟨rfl, hb3⟩
    have HB := Lib.hid (HM2.out.call hb3).below
    clear hb3
    go_wp2
    go_ret
    exact ⟨rfl, HB.out⟩
end Go.Proofs.Ytigdpdndnghldaa
