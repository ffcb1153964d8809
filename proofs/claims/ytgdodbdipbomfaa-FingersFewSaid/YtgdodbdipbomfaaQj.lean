/- FingersFew, walked. -/
import Derived.Test.YtgdodbdipbomfaaQi
import Derived.Test.YtgdodbdipbomfaaAj
import Derived.Test.YtgdodbdipbomfaaBv
import Derived.Test.YtgdodbdipbomfaaOn
import Derived.Deep.RegionHeld3
import Derived.Deep.DeepCutAuto
import Derived.Deep.QuietTactic
namespace Go.Proofs.Ytgdodbdipbomfaa
open Go.RowKit Go.Shelf Go.Maps

set_option maxRecDepth 100000 in
set_option maxHeartbeats 4000000 in
theorem fingersFew_walk (vw vr : Value) (ws rs : List Int) (fn : Int) (w : World) (hw : IsW w vw ws) (hr : IsW w vr rs) :
    Calls Try.prog 6 #[.agg #[vw, vr], .int .i64 fn] w fun e w' => e = .returned (.bool true) ∧ Below w.heap.size w w' := by
  have Hw := Lib.hid hw
  have Hr := Lib.hid hr
  obtain ⟨aw, cw, rfl, hmw⟩ := hw.slice
  obtain ⟨ar, cr, rfl, hmr⟩ := hr.slice
  have hM0 := (Mem.start w).alloc #[.slice aw ws.length cw, .slice ar rs.length cr] 24
  have HC := Lib.hid (sound_any _ _ ws rs _ (hw.later hM0.below) (hr.later hM0.below))
  have HM0 := Lib.hid hM0
  clear hw hr hM0
  go_enter Try.func6, Try.ntmps6
  go_wp2_with fail
  refine HC.out.mono ?_
  rintro e w2 ⟨hb, hcase⟩
  have hM2 := HM0.out.call hb
  have c0 : w2.cell? ⟨w.heap.size, 0, none⟩ = some (.slice aw ws.length cw) := by have := hM2.cell 0 rfl 0; simpa using this
  have c1 : w2.cell? ⟨w.heap.size, 1, none⟩ = some (.slice ar rs.length cr) := by have := hM2.cell 0 rfl 1; simpa using this
  have z0 : w.heap.size < w2.heap.size := (hM2.box 0 rfl).2.1
  have HM2 := Lib.hid hM2
  clear hb hM2 HC HM0
  rcases hcase with ⟨rfl, os, hS⟩ | ⟨rfl, hn⟩
  · obtain ⟨F, hF⟩ := ord_exists (read_rng hS)
    have h64 : ∀ x ∈ allW rs os, w64 x := fun x hx => by
      rcases List.mem_append.1 hx with h | h
      · exact Hr.out.all x h
      · exact Hw.out.all x (fieldsOf_mem hS.laid x h)
    have HSq := Lib.hid (squeeze_any _ _ ws rs os F fn w2 (Hw.out.later HM2.out.below) (Hr.out.later HM2.out.below) hS h64 hF)
    have HP := Lib.hid (And.intro hS (And.intro hF h64))
    clear hS hF h64
    go_wp2_with fail
    refine HSq.out.mono ?_
    rintro e w3 (⟨c, hc0, rfl, hb3, hbad⟩ | ⟨v1, v2, A, h, c, hf0, hf4, hz, hI, hall, hcl, rfl, hM3⟩)
    · have e1 : (c != 0) = true := by simpa using hc0
      have hM4 := (HM2.out.call hb3).alloc #[.slice none 0 0, .slice none 0 0] 24
      obtain ⟨b3, hb3e⟩ : ∃ b3, w3.heap.size = b3 := ⟨_, rfl⟩
      obtain ⟨W4, hW4⟩ : ∃ W4, w3.alloc (.cells #[.slice none 0 0, .slice none 0 0] 24) = W4 := ⟨_, rfl⟩
      rw [hb3e, hW4] at hM4
      have hM3' := HM2.out.call hb3
      have x0 : w3.cell? ⟨w.heap.size, 0, none⟩ = some (.slice aw ws.length cw) := by have := hM3'.cell 0 rfl 0; simpa using this
      have x1 : w3.cell? ⟨w.heap.size, 1, none⟩ = some (.slice ar rs.length cr) := by have := hM3'.cell 0 rfl 1; simpa using this
      have xz : w.heap.size < w3.heap.size := (hM3'.box 0 rfl).2.1
      have HH := Lib.hid (heads_any (.slice aw ws.length cw) (.slice ar rs.length cr) ws os W4 (Hw.out.later hM4.below) ⟨_, _, _, rfl⟩ HP.out.1.laid HP.out.1.words)
      have HB4 := Lib.hid hM4
      have Hb3 := Lib.hid hb3e
      have HW4 := Lib.hid hW4
      clear hb3 HSq c0 c1 z0 hM4 hb3e hW4 hM3'
      go_wp2_with fail
      rw [Hb3.out, HW4.out]
      refine HH.out.mono ?_
      rintro e w6 ⟨r, rfl, hM6⟩
      have hM7 := HB4.out.callMem hM6
      obtain ⟨n, hn⟩ : ∃ n, (hdrs os).length = n := ⟨_, rfl⟩
      have hno : n = os.length := by rw [← hn]; unfold hdrs; rw [List.length_map]
      have hn256 : n ≤ 256 := by
        have := HP.out.1.laid.count
        have := HP.out.1.words
        omega
      obtain ⟨ah, ch, hv, _⟩ := (hM7.isTup 0 rfl encH_len (by omega)).slice
      rw [hn] at hv
      subst hv
      have HB := Lib.hid hM7.below
      have hbad' : n > 0 ∨ fn < 0 ∨ fn > 4 := by
        rcases hbad with h | h | ⟨k, hk, _⟩
        · exact .inr (.inl h)
        · exact .inr (.inr h)
        · exact .inl (by omega)
      clear hM6 hM7 hbad hno hn HH
      by_cases g1 : (n : Int) > 0
      · have e3 : decide ((n : Int) > 0) = true := decide_eq_true g1
        have e4 : decide ((0 : Int) < n) = true := decide_eq_true g1
        have e5 : 0 < n := by omega
        clear hbad'
        go_wp2
        go_ret
        exact ⟨rfl, HB.out⟩
      · have e3 : decide ((n : Int) > 0) = false := decide_eq_false g1
        have e4 : decide ((0 : Int) < n) = false := decide_eq_false g1
        have e5 : ¬ 0 < n := by omega
        have e5' : n = 0 := by omega
        by_cases g2 : fn < 0
        · have e6 : decide (fn < 0) = true := decide_eq_true g2
          clear hbad' e5'
          go_wp2
          go_ret
          exact ⟨rfl, HB.out⟩
        · have e6 : decide (fn < 0) = false := decide_eq_false g2
          have g3 : fn > 4 := by omega
          have e7 : decide (fn > 4) = true := decide_eq_true g3
          have e8 : decide (4 < fn) = true := decide_eq_true g3
          clear hbad' e5'
          go_wp2
          go_ret
          exact ⟨rfl, HB.out⟩
    · obtain ⟨hS, hF, h64⟩ := HP.out
      obtain ⟨os1, rs1, F1, e1, e2, hS1, w1, w2', hl1, hcl1, hrd, h641, hF1, hlk, hall1, e3, e4⟩ := squeezed_plain hS h64 hF hI.nodup hall hf0 hz
      have hrng : ∀ x ∈ F, 0 ≤ x ∧ x < (os.length : Int) := (ord_keeps hS hF).rng
      obtain ⟨R, hRe⟩ : ∃ R, riseN F os.length = R := ⟨_, rfl⟩
      have hR : ∀ x, x ∈ R ↔ x ∈ F := fun x => by rw [← hRe]; exact rise_mem hS hF
      have hRA : R.length = A.length := by
        have hnR : R.Nodup := by rw [← hRe]; exact riseN_nodup _ _
        exact Nat.le_antisymm (nodup_sub_len R A hnR (fun x hx => (hall x).2 ((hR x).1 hx))) (nodup_sub_len A R hI.nodup (fun x hx => (hR x).2 ((hall x).1 hx)))
      have hcnt := holes_cnt hI hall hR
      rw [← hcl] at hcnt
      obtain ⟨z, hze⟩ : ∃ z, 1 + fn.toNat = z := ⟨_, rfl⟩
      obtain ⟨nR, hnR⟩ : ∃ nR, R.length = nR := ⟨_, rfl⟩
      have hnR2 : A.length = nR := by omega
      have hAt : ∀ k : Nat, k < nR → (k : Int) ∈ R → k * z ≤ 256 ∧ ws[k * z]? = some (obj os k).1 ∧ isHead (obj os k).1 ∧ (flat os1)[k * z]? = some (hdS (obj os k).1 false) := fun k hk hkR => by
        rw [← e1, ← hze]
        exact few_at hS hI hall hrng hz (by omega) ((hR _).1 hkR)
      rw [e1, e2] at hM3
      rw [hnR2] at hcnt
      have hnRs : nR ≤ 256 := by
        have := nodup_sub_len A (upTo os.length) hI.nodup (fun x hx => mem_upTo.2 (hrng x ((hall x).1 hx)))
        rw [upTo_len] at this
        have := hS.laid.count
        have := hS.words
        omega
      have hi1 := isW_of_own (hM3.ownW 0 rfl) (by have := hS1.words; omega) w1
      have hi2 := isW_of_own (hM3.ownW 1 rfl) (by have := hS1.roots; omega) w2'
      obtain ⟨a1, d1, rfl, _⟩ := hi1.slice
      obtain ⟨a2, d2, rfl, _⟩ := hi2.slice
      obtain ⟨n1, hn1⟩ : ∃ n1, (flat os1).length = n1 := ⟨_, rfl⟩
      obtain ⟨n2, hn2⟩ : ∃ n2, rs1.length = n2 := ⟨_, rfl⟩
      rw [hn1] at hi1 hM3 ⊢
      rw [hn2] at hi2 hM3 ⊢
      have hn1s : n1 ≤ 256 := by rw [← hn1]; exact hS1.words
      have HRd : Hid (∀ X u v, IsW X u ws → IsW X v rs → Calls Try.prog 17 #[.agg #[u, v]] X fun e w' => ∃ g, e = .returned g ∧ IsGraph w' g (readG os rs) ∧ Below X.heap.size X w') := Lib.hid (fun X u v hu hv => by
        refine (rread_yes u v ws rs os X hu hv hS).mono ?_
        rintro e w' ⟨g, rfl, hg, hb⟩
        exact ⟨g, rfl, hg.here, hb⟩)
      have hos256 : os.length ≤ 256 := by have := hS.laid.count; have := hS.words; omega
      have HRe : Hid (∀ X g, IsGraph X g (readG os rs) → Calls Try.prog 16 #[g] X fun e w' => ∃ a c, e = .returned (.slice a nR c) ∧ IsInts w' (.slice a nR c) R ∧ Below X.heap.size X w') := Lib.hid (fun X g hg => by
        refine (reachR_any (readG os rs) (by unfold readG; simp; omega) g X hg).mono ?_
        rintro e w' ⟨vl, l, rfl, hL, hM⟩
        have hl := orders_list hS hF hL
        rw [hRe] at hl
        subst hl
        have hI := isInts_of_own (hM.ownI 0 rfl) (by omega) (fun x hx => by have := hrng x ((hR x).1 hx); unfold i64ok; omega)
        obtain ⟨a, c, rfl, _⟩ := hI.slice
        rw [hnR] at hI ⊢
        exact ⟨a, c, rfl, hI, hM.below⟩)
      have HSz : Hid (∀ X u v, IsW X u ws → IsW X v rs → Calls Try.prog 27 #[.agg #[u, v]] X fun e w' => e = .returned (.int .i64 n1) ∧ Below X.heap.size X w') := Lib.hid (fun X u v hu hv => by
        have := size_any u v ws rs os F X hu hv hS hF
        rwa [← hl1, hn1] at this)
      obtain ⟨H, hH⟩ : ∃ H : Nat → Int, (fun k => (obj os (k : Nat)).1) = H := ⟨_, rfl⟩
      have hAt' : ∀ k : Nat, k < nR → (k : Int) ∈ R → k * z ≤ 256 ∧ ws[k * z]? = some (H k) ∧ isHead (H k) ∧ (flat os1)[k * z]? = some (hdS (H k) false) := fun k hk hkR => by rw [← hH]; exact hAt k hk hkR
      have hz5 : z ≤ 5 := by omega
      have hfz : fn = (z : Int) - 1 := by omega
      have hb3 := hM3.below
      have HAt := Lib.hid hAt'
      have Hn1 := Lib.hid (And.intro hn1 hn2)
      have HnR := Lib.hid hnR
      have Hcnt := Lib.hid hcnt
      have Hfz := Lib.hid hfz
      have hcs : c ≤ 256 := by have := cntH_le R nR; omega
      clear hS hF h64 e1 e2 hS1 w1 w2' hl1 hcl1 hrd h641 hF1 hlk hall1 e3 e4 hn1 hn2 hf0 hf4 hz hI hall hcl hM3 HSq hRe hR hRA hcnt hze hnR hnR2 hAt hH hAt' hrng hfz HP hos256
      have hM4 := (HM2.out.call hb3).alloc #[.slice a1 n1 d1, .slice a2 n2 d2] 24
      obtain ⟨b3, hb3e⟩ : ∃ b3, w3.heap.size = b3 := ⟨_, rfl⟩
      obtain ⟨W4, hW4⟩ : ∃ W4, w3.alloc (.cells #[.slice a1 n1 d1, .slice a2 n2 d2] 24) = W4 := ⟨_, rfl⟩
      have hB4 : Below w3.heap.size w3 W4 := by rw [← hW4]; exact (Below.refl _ _).alloc (Nat.le_refl _) _
      rw [hb3e, hW4] at hM4
      have HCs : Hid (∀ X, Below W4.heap.size W4 X → X.cell? ⟨w.heap.size, 0, none⟩ = some (.slice aw ws.length cw) ∧ X.cell? ⟨w.heap.size, 1, none⟩ = some (.slice ar rs.length cr) ∧ X.cell? ⟨b3, 0, none⟩ = some (.slice a1 n1 d1) ∧ X.cell? ⟨b3, 1, none⟩ = some (.slice a2 n2 d2)) := Lib.hid (fun X hX => by
        have hMX := hM4.call hX
        refine ⟨?_, ?_, ?_, ?_⟩
        · have := hMX.cell 1 rfl 0; simpa using this
        · have := hMX.cell 1 rfl 1; simpa using this
        · have := hMX.cell 0 rfl 0; simpa using this
        · have := hMX.cell 0 rfl 1; simpa using this)
      have HA := Lib.hid (HRd.out W4 _ _ (Hw.out.later hM4.below) (Hr.out.later hM4.below))
      have HI1 := Lib.hid (hi1.later hB4)
      have HI2 := Lib.hid (hi2.later hB4)
      have HM4 := Lib.hid hM4
      have HW4 := Lib.hid hW4
      have Hb3 := Lib.hid hb3e
      have hM3' := HM2.out.call hb3
      have p0 : w3.cell? ⟨w.heap.size, 0, none⟩ = some (.slice aw ws.length cw) := by have := hM3'.cell 0 rfl 0; simpa using this
      have p1 : w3.cell? ⟨w.heap.size, 1, none⟩ = some (.slice ar rs.length cr) := by have := hM3'.cell 0 rfl 1; simpa using this
      have q0 : w.heap.size < w3.heap.size := (hM3'.box 0 rfl).2.1
      clear hM4 hb3 hb3e hW4 hB4 hi1 hi2 c0 c1 z0 HM2 HRd hM3'
      go_wp2_with fail
      rw [Hb3.out, HW4.out]
      refine HA.out.mono ?_
      rintro e w5 ⟨g, rfl, hg5, hb5⟩
      have HA := Lib.hid (HRe.out w5 g hg5)
      have HB5 := Lib.hid hb5
      clear p0 p1 q0 hb5 hg5 HRe
      go_wp2_with fail
      refine HA.out.mono ?_
      rintro e w6 ⟨ra, rc, rfl, hi6, hb6⟩
      have HB6 := Lib.hid (HB5.out.trans (hb6.mono HB5.out.size))
      have HI6 := Lib.hid hi6
      clear hb6 hi6 HB5 HA
      go_wp2
      go_loopw [9, 10] (fun c i wr => ∃ k : Nat, k ≤ nR ∧ i = .int .i64 k ∧ c = .int .i64 (cntH R k : Nat) ∧ Below w6.heap.size w6 wr) (fun _ i _ => nR - (intOf i).toNat)
      case atStart => exact ⟨0, Nat.zero_le _, rfl, rfl, Below.refl _ _⟩
      case round =>
        obtain ⟨k, hk, rfl, rfl, hBr⟩ := hrel
        by_cases hlt : k < nR
        · by_cases hin : (k : Int) ∈ R
          · have HH := Lib.hid (has_yes _ R (k : Int) wr (HI6.out.later hBr) hin)
            obtain ⟨hp256, hh1, hh2, hh3⟩ := HAt.out k hlt hin
            obtain ⟨p, hp⟩ : ∃ p, k * z = p := ⟨_, rfl⟩
            rw [hp] at hp256 hh1 hh3
            obtain ⟨h, hh⟩ : ∃ h, H k = h := ⟨_, rfl⟩
            rw [hh] at hh1 hh2 hh3
            obtain ⟨f1, f2, f3, f4, _⟩ := hdS_parts hh2 false
            have HA1 : Hid (∀ X, Below w6.heap.size w6 X → Calls Try.prog 26 #[.agg #[.slice a1 n1 d1, .slice a2 n2 d2], .int .i64 p] X fun e w' => e = .returned (.tuple #[.agg #[.int .i64 (h % 256), .bool false, .int .i64 (h / 512 % 8)], .bool true]) ∧ Below X.heap.size X w') := Lib.hid (fun X hX => by
              have hb := HB6.out.trans (hX.mono HB6.out.size)
              have := headAt_yes _ _ (flat os1) rs1 p _ X (HI1.out.later hb) (HI2.out.later hb) hh3 f4
              rwa [f1, f2, f3] at this)
            have HA2 : Hid (∀ X, Below w6.heap.size w6 X → Calls Try.prog 26 #[.agg #[.slice aw ws.length cw, .slice ar rs.length cr], .int .i64 p] X fun e w' => e = .returned (.tuple #[.agg #[.int .i64 (h % 256), .bool (h / 256 % 2 == 1), .int .i64 (h / 512 % 8)], .bool true]) ∧ Below X.heap.size X w') := Lib.hid (fun X hX => by
              have hb := HM4.out.below.trans ((HB6.out.trans (hX.mono HB6.out.size)).mono HM4.out.below.size)
              exact headAt_yes _ _ ws rs p h X (Hw.out.later hb) (Hr.out.later hb) hh1 hh2)
            have hc1 := cntH_in hin
            have wr1 : IntKind.i64.wrap (1 + fn) = (z : Int) := by rw [IntWalk.i64_in _ (by have := Hfz.out; omega)]; have := Hfz.out; omega
            have wr2 : IntKind.i64.wrap ((k : Int) * (z : Int)) = (p : Int) := by
              rw [← Int.natCast_mul, hp]; exact IntWalk.i64_in _ (by omega)
            obtain ⟨m, hm⟩ : ∃ m, h % 256 = m := ⟨_, rfl⟩
            obtain ⟨bk, hbk⟩ : ∃ bk, (h / 256 % 2 == 1) = bk := ⟨_, rfl⟩
            obtain ⟨ag, hag⟩ : ∃ ag, h / 512 % 8 = ag := ⟨_, rfl⟩
            rw [hm, hag] at HA1
            rw [hm, hbk, hag] at HA2
            obtain ⟨cc, hcc⟩ : ∃ cc, cntH R k = cc := ⟨_, rfl⟩
            rw [hcc] at hc1 ⊢
            have Hc1 := Lib.hid hc1
            obtain ⟨p0, p1, p2, p3⟩ := HCs.out _ (HB6.out.trans (hBr.mono HB6.out.size))
            have q0 := cell_ltQ p0
            have q2 := cell_ltQ p2
            have HBr := Lib.hid hBr
            clear hin hp256 hh1 hh2 hh3 f1 f2 f3 f4 hm hbk hag hBr hp hh hc1 hcc
            go_wp2_with fail
            refine HH.out.mono ?_
            rintro e w13 ⟨rfl, rfl⟩
            clear HH
            go_wp2_with fail
            refine (HA1.out _ HBr.out).mono ?_
            rintro e w14 ⟨rfl, hb14⟩
            have hB14 := HBr.out.trans (hb14.mono HBr.out.size)
            have hMb := (Mem.start w14).alloc #[.int .i64 m, .bool false, .int .i64 ag] 50
            obtain ⟨bH, hbH⟩ : ∃ bH, w14.heap.size = bH := ⟨_, rfl⟩
            obtain ⟨W15, hW15⟩ : ∃ W15, w14.alloc (.cells #[.int .i64 m, .bool false, .int .i64 ag] 50) = W15 := ⟨_, rfl⟩
            have hB15 : Below w6.heap.size w6 W15 := by rw [← hW15]; exact hB14.alloc hB14.size _
            rw [hW15] at hMb
            have HMb := Lib.hid hMb
            have HbH := Lib.hid hbH
            have HW15 := Lib.hid hW15
            have HB15 := Lib.hid hB15
            clear p0 p1 p2 p3 q0 q2
            obtain ⟨p0, p1, p2, p3⟩ := HCs.out _ (HB6.out.trans (hB14.mono HB6.out.size))
            have q0 := cell_ltQ p0
            have q2 := cell_ltQ p2
            clear hB14 hb14 hMb hbH hW15 hB15 HA1
            go_wp2_with fail
            rw [HbH.out, HW15.out]
            refine (HA2.out _ HB15.out).mono ?_
            rintro e w16 ⟨rfl, hb16⟩
            have hM16 := HMb.out.call hb16
            have hB16 := HB15.out.trans (hb16.mono HB15.out.size)
            rw [HbH.out] at hM16
            have v3 : w16.cell? ⟨bH, 0, none⟩ = some (.int .i64 m) := by have := hM16.cell 0 rfl 0; simpa using this
            have v4 : w16.cell? ⟨bH, 1, none⟩ = some (.bool false) := by have := hM16.cell 0 rfl 1; simpa using this
            have v5 : w16.cell? ⟨bH, 2, none⟩ = some (.int .i64 ag) := by have := hM16.cell 0 rfl 2; simpa using this
            have v6 : bH < w16.heap.size := (hM16.box 0 rfl).2.1
            have HBn := Lib.hid (hB16.alloc hB16.size (.cells #[.int .i64 m, .bool false, .int .i64 ag] 50))
            clear hM16 hb16 hB16 HMb HA2 p0 p1 p2 p3 q0 q2 HW15
            go_wp2
            go_roundw
            case rel => exact ⟨k + 1, by omega, by go_num, by rw [Hc1.out], HBn.out⟩
            case measure => simp [intOf]; omega
          · have HH := Lib.hid (has_no _ R (k : Int) wr (HI6.out.later hBr) hin)
            have hc1 := cntH_out hin
            have hc2 := cntH_le R k
            obtain ⟨cc, hcc⟩ : ∃ cc, cntH R k = cc := ⟨_, rfl⟩
            rw [hcc] at hc1 hc2 ⊢
            have Hc1 := Lib.hid hc1
            have HBr := Lib.hid hBr
            clear hin hBr hc1 hcc
            go_wp2_with fail
            refine HH.out.mono ?_
            rintro e w13 ⟨rfl, rfl⟩
            clear HH
            go_wp2
            go_roundw
            case rel => exact ⟨k + 1, by omega, by go_num, by rw [Hc1.out]; go_num, HBr.out⟩
            case measure => simp [intOf]; omega
        · obtain rfl : k = nR := by omega
          rw [← Hcnt.out]
          have hBw := HB6.out.trans (hBr.mono HB6.out.size)
          have HBd := Lib.hid hBw.drew
          have HQ1 : Hid (∀ X, Below W4.heap.size W4 X → Calls Try.prog 27 #[.agg #[.slice aw ws.length cw, .slice ar rs.length cr]] X fun e w' => e = .returned (.int .i64 n1) ∧ Below X.heap.size X w') := Lib.hid (fun X hX => HSz.out X _ _ ((Hw.out.later HM4.out.below).later hX) ((Hr.out.later HM4.out.below).later hX))
          clear hBr hBw HAt HI1 HI2
          go_wp2
          go_region_held3 (fun X => X.cell? ⟨w.heap.size, 0, none⟩ = some (.slice aw ws.length cw) ∧ X.cell? ⟨w.heap.size, 1, none⟩ = some (.slice ar rs.length cr) ∧ X.cell? ⟨b3, 0, none⟩ = some (.slice a1 n1 d1) ∧ X.cell? ⟨b3, 1, none⟩ = some (.slice a2 n2 d2))
            (first | exact HCs.out _ HBd.out | exact HCs.out _ hB9)
            (first
              | (go_at_call 27
                 refine (HQ1.out _ HBd.out).mono ?_
                 rintro e w9 ⟨rfl, hb9⟩
                 have hB9 := HBd.out.trans (hb9.mono HBd.out.size)
                 clear hb9))
          have HB := Lib.hid (HM4.out.call hB9).below
          clear hB9 HQ1 HCs HM4 HBd
          go_wp2
          go_ret
          exact ⟨rfl, HB.out⟩
  · have HU := Lib.hid (unsound_any _ _ ws rs w2 (Hw.out.later HM2.out.below) (Hr.out.later HM2.out.below) hn)
    clear hn
    go_wp2_with fail
    refine HU.out.mono ?_
    rintro e w3 ⟨rfl, hb3⟩
    have HB := Lib.hid (HM2.out.call hb3).below
    clear hb3
    go_wp2
    go_ret
    exact ⟨rfl, HB.out⟩
theorem fingersFew_law (W : World) (v0 v1 : Value) (g0 : ∃ ws rs, IsArena W v0 ws rs) (g1 : ∃ i : Int, v1 = .int .i64 i) :
    Calls Try.prog 6 #[v0, v1] W fun e w' => e = .returned (.bool true) ∧ Below W.heap.size W w' := by
  obtain ⟨ws, rs, vw, vr, rfl, hw, hr⟩ := g0
  obtain ⟨r, rfl⟩ := g1
  exact fingersFew_walk vw vr ws rs r W hw hr
end Go.Proofs.Ytgdodbdipbomfaa
