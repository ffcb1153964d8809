/- MarkLives, walked. -/
import Derived.Test.YtigdpdndnghldaaNd
import Derived.Test.YtigdpdndnghldaaBu
import Derived.Test.YtigdpdndnghldaaBv
import Derived.Test.YtigdpdndnghldaaBj
import Derived.Test.YtigdpdndnghldaaSy
namespace Go.Proofs.Ytigdpdndnghldaa
open Go.RowKit Go.Shelf

set_option maxRecDepth 100000 in
set_option maxHeartbeats 1000000 in
theorem kplace_yes (v : Value) (l : List Int) (x : Int) (k : Nat) (w : World) (hl : IsInts w v l) (hx : l[k]? = some x) (hf : ∀ j, j < k → l[j]? ≠ some x) (hs : l.length ≤ 1000) :
    Calls Try.prog 31 #[v, .int .i64 x] w fun e w' => e = .returned (.int .i64 k) ∧ w' = w := by
  have Hl := Lib.hid hl
  have Hx := Lib.hid hx
  have Hf := Lib.hid hf
  obtain ⟨a, c, rfl, _⟩ := hl.slice
  obtain ⟨n, hn⟩ : ∃ n, l.length = n := ⟨_, rfl⟩
  have hkn := (List.getElem?_eq_some_iff.1 hx).1
  rw [hn] at hkn hs ⊢
  have Hn := Lib.hid hn
  clear hl hx hf hn
  go_enter Try.func31, Try.ntmps31
  go_wp2
  go_loopw [5] (fun i wr => ∃ j : Nat, j ≤ k ∧ i = .int .i64 j ∧ wr = w) (fun i _ => n - (intOf i).toNat)
  case atStart => exact ⟨0, Nat.zero_le _, rfl, rfl⟩
  case round =>
    obtain ⟨j, hj, rfl, rfl⟩ := hrel
    obtain ⟨y, hy⟩ := get_some l j (by rw [Hn.out]; omega)
    obtain ⟨b, off, cap', hv, _, hb1, d1, _⟩ := Hl.out.at (Below.refl _ _) hy
    rw [Hn.out] at hv
    cases hv
    have hjn : j < n := by omega
    by_cases hjk : j = k
    · subst hjk
      have hyx : y = x := by rw [Hx.out] at hy; exact (Option.some.inj hy).symm
      subst hyx
      have e1 : (y == y) = true := by simp
      clear hy
      go_wp2
      go_ret
      exact ⟨rfl, rfl⟩
    · have hne : y ≠ x := fun e => Hf.out j (by omega) (by rw [hy, e])
      have e1 : (y == x) = false := by simpa using hne
      clear hy hne
      go_wp2
      go_roundw
      case rel => exact ⟨j + 1, by omega, by go_num, trivial⟩
      case measure => simp [intOf]; omega

theorem mkO_other (os : List Ob) (M : List Int) {i : Nat} (hi : i < (flat os).length) (hn : (i : Int) ∉ starts os) : (flat (mkO os M))[i]? = (flat os)[i]? := by
  obtain ⟨k, o, ho, hc⟩ := at_split os i hi
  have hk := (List.getElem?_eq_some_iff.1 ho).1
  rcases hc with rfl | ⟨j, hj, rfl⟩
  · exact absurd (starts_mem.2 ⟨k, hk, rfl⟩) hn
  · have hx := List.getElem?_eq_getElem hj
    rw [flat_field ho hx]
    exact mkO_field os M hk (by rw [obj_at' ho]; exact hx)
/-- A beginning, its header before and behind. -/
theorem mkO_at {ws : List Int} {os : List Ob} (hL : Laid ws os) (M : List Int) {i : Nat} (hn : (i : Int) ∈ starts os) :
    ∃ (k : Nat) (h : Int), k < os.length ∧ (starts os)[k]? = some (i : Int) ∧ (∀ j, j < k → (starts os)[j]? ≠ some (i : Int)) ∧ (flat os)[i]? = some h ∧ isHead h ∧ (flat (mkO os M))[i]? = some (hdS h (decide ((k : Int) ∈ M))) := by
  obtain ⟨k, hk, e⟩ := starts_mem.1 hn
  obtain rfl : i = place os k := by omega
  obtain ⟨o, ho⟩ := get_some os k hk
  refine ⟨k, o.1, hk, starts_get hk, ?_, flat_head ho, (hL.good ho).1, ?_⟩
  · intro j hj hjs
    have h1 := starts_get (os := os) (show j < os.length by omega)
    rw [hjs] at h1
    have h2 := List.pairwise_iff_getElem.1 (starts_rise os) j k (by rw [starts_len]; omega) (by rw [starts_len]; omega) hj
    have h3 := starts_get hk
    rw [List.getElem?_eq_getElem (by rw [starts_len]; omega)] at hjs h3
    have h4 := Option.some.inj hjs
    have h5 := Option.some.inj h3
    omega
  · rw [mkO_head os M hk]
    unfold hdM
    rw [obj_at' ho]

set_option maxRecDepth 100000 in
set_option maxHeartbeats 4000000 in
theorem markLives_walk (vw vr : Value) (ws rs : List Int) (w : World) (hw : IsW w vw ws) (hr : IsW w vr rs) :
    Calls Try.prog 7 #[.agg #[vw, vr]] w fun e w' => e = .returned (.bool true) ∧ Below w.heap.size w w' := by
  have Hw := Lib.hid hw
  have Hr := Lib.hid hr
  obtain ⟨aw, cw, rfl, hmw⟩ := hw.slice
  obtain ⟨ar, cr, rfl, hmr⟩ := hr.slice
  have hM0 := (Mem.start w).alloc #[.slice aw ws.length cw, .slice ar rs.length cr] 24
  have HC := Lib.hid (sound_any _ _ ws rs _ (hw.later hM0.below) (hr.later hM0.below))
  have HM0 := Lib.hid hM0
  clear hw hr hM0 hmw hmr
  go_enter Try.func7, Try.ntmps7
  go_wp2_with fail
  refine HC.out.mono ?_
  rintro e w2 ⟨hb, hcase⟩
  have hM2 := HM0.out.call hb
  have c0 : w2.cell? ⟨w.heap.size, 0, none⟩ = some (.slice aw ws.length cw) := by have := hM2.cell 0 rfl 0; simpa using this
  have c1 : w2.cell? ⟨w.heap.size, 1, none⟩ = some (.slice ar rs.length cr) := by have := hM2.cell 0 rfl 1; simpa using this
  have z0 : w.heap.size < w2.heap.size := (hM2.box 0 rfl).2.1
  have HM2 := Lib.hid hM2
  clear hb hM2 HC HM0
  rcases hcase with ⟨rfl, os, hS⟩ | ⟨rfl, hn⟩
  · obtain ⟨F, hF⟩ := ord_exists (read_rng hS)
    have h64 : ∀ x ∈ allW rs os, w64 x := fun x hx => by
      rcases List.mem_append.1 hx with h | h
      · exact Hr.out.all x h
      · exact Hw.out.all x (fieldsOf_mem hS.laid x h)
    have HCp := Lib.hid (mark_any _ _ ws rs os F 1 w2 (Hw.out.later HM2.out.below) (Hr.out.later HM2.out.below) hS h64 hF)
    have HP := Lib.hid (And.intro hS (And.intro hF h64))
    have hws := hS.words
    have hrs := hS.roots
    clear hS hF h64
    go_wp2_with fail
    refine HCp.out.mono ?_
    rintro e w4 ⟨a1, n1, d1, a2, n2, d2, c, rfl, hb4, hc4⟩
    rcases hc4 with ⟨rfl, _, _, rfl, rfl, h1, h2⟩ | ⟨_, hbad⟩
    · have hM4 := HM2.out.call hb4
      have p0 : w4.cell? ⟨w.heap.size, 0, none⟩ = some (.slice aw ws.length cw) := by have := hM4.cell 0 rfl 0; simpa using this
      have p1 : w4.cell? ⟨w.heap.size, 1, none⟩ = some (.slice ar rs.length cr) := by have := hM4.cell 0 rfl 1; simpa using this
      have pz : w.heap.size < w4.heap.size := (hM4.box 0 rfl).2.1
      have hM5 := hM4.alloc #[.slice a1 ws.length d1, .slice a2 rs.length d2] 24
      obtain ⟨b3, hb3⟩ : ∃ b3, w4.heap.size = b3 := ⟨_, rfl⟩
      obtain ⟨W5, hW5⟩ : ∃ W5, w4.alloc (.cells #[.slice a1 ws.length d1, .slice a2 rs.length d2] 24) = W5 := ⟨_, rfl⟩
      have hB5 : Below w4.heap.size w4 W5 := by rw [← hW5]; exact (Below.refl _ _).alloc (Nat.le_refl _) _
      rw [hb3, hW5] at hM5
      have hIw := h1.later hB5
      have hIr := h2.later hB5
      have HWd := Lib.hid (words_any _ _ rs rs W5 hIr (Hr.out.later hM5.below) (by omega))
      have HIw := Lib.hid hIw
      have HIr := Lib.hid hIr
      have HM5 := Lib.hid hM5
      have HW5 := Lib.hid hW5
      have Hb3 := Lib.hid hb3
      clear hM4 hM5 hb4 hB5 hW5 hb3 HCp h1 h2 hIw hIr c0 c1 z0
      go_wp2_with fail
      rw [Hb3.out, HW5.out]
      refine HWd.out.mono ?_
      rintro e w6 ⟨rfl, q6, rfl⟩
      have hM6 := HM5.out.drewN q6
      obtain ⟨w6, hw6⟩ : ∃ w6, W5.drewN q6 = w6 := ⟨_, rfl⟩
      have hB6 : Below W5.heap.size W5 w6 := by rw [← hw6]; exact below_drewN (Below.refl _ _) q6
      rw [hw6] at hM6 ⊢
      have r0 : w6.cell? ⟨w.heap.size, 0, none⟩ = some (.slice aw ws.length cw) := by have := hM6.cell 1 rfl 0; simpa using this
      have r1 : w6.cell? ⟨w.heap.size, 1, none⟩ = some (.slice ar rs.length cr) := by have := hM6.cell 1 rfl 1; simpa using this
      have rz : w.heap.size < w6.heap.size := (hM6.box 1 rfl).2.1
      have HSt := Lib.hid (rStarts_any _ ws w6 (Hw.out.later hM6.below) hws)
      have HM6 := Lib.hid hM6
      have HIw6 := Lib.hid (HIw.out.later hB6)
      have HIr6 := Lib.hid (HIr.out.later hB6)
      have Hfl : Hid ((flat (mkO os F)).length = ws.length) := Lib.hid (by rw [mkO_flat, ← HP.out.1.laid.1])
      have e0 : decide (rs = rs) = true := by simp
      clear hM6 hB6 hw6 HWd HM5 HIw HIr HW5 p0 p1 pz
      go_wp2_with fail
      refine HSt.out.mono ?_
      rintro e w7 hcase
      rcases hcase with ⟨os', sv, hL', rfl, hM7⟩ | ⟨hno, _⟩
      · obtain rfl := HP.out.1.laid.unique hL'
        have hM8 := HM6.out.callMem hM7
        have r0 : w7.cell? ⟨w.heap.size, 0, none⟩ = some (.slice aw ws.length cw) := by have := hM8.cell 2 rfl 0; simpa using this
        have r1 : w7.cell? ⟨w.heap.size, 1, none⟩ = some (.slice ar rs.length cr) := by have := hM8.cell 2 rfl 1; simpa using this
        have rz : w.heap.size < w7.heap.size := (hM8.box 2 rfl).2.1
        have HRd := Lib.hid (rread_yes _ _ ws rs os w7 (Hw.out.later hM8.below) (Hr.out.later hM8.below) HP.out.1)
        have hcnt := hL'.count
        have HM8 := Lib.hid hM8
        have HB7 := Lib.hid hM7.below
        clear hM7 hM8 HSt HM6
        go_wp2_with fail
        refine HRd.out.mono ?_
        rintro e w8 ⟨gv, rfl, hG, hb8⟩
        have HRe := Lib.hid (reachR_any (readG os rs) (by show (os.map _).length ≤ 1000; rw [List.length_map]; omega) gv w8 hG.here)
        have hM9 := HM8.out.call hb8
        have HM9 := Lib.hid hM9
        have HB8 := Lib.hid hb8
        clear hG hM9 hb8 HRd HM8 r0 r1 rz
        go_wp2_with fail
        refine HRe.out.mono ?_
        rintro e w9 ⟨vl, L, rfl, hLr, hM10⟩
        have hM11 := HM9.out.callMem hM10
        have hgl : (readG os rs).objs.length = os.length := by show (os.map _).length = _; rw [List.length_map]
        have hLlen : L.length ≤ 256 := by
          have h1 := nodup_sub_len L (upTo (readG os rs).objs.length) (hLr.rising.imp (fun h => by omega)) (fun x hx => mem_upTo.2 (hLr.rng x hx))
          rw [upTo_len, hgl] at h1; omega
        have hIL := isInts_of_own (hM11.ownI 0 rfl) (by omega) (fun x hx => by have := hLr.rng x hx; rw [hgl] at this; unfold i64ok; omega)
        have hIS := isInts_of_own (hM11.ownI 1 rfl) (by rw [starts_len]; omega) (starts_64 hL' (by omega))
        have hfound := reach_found (read_rng HP.out.1) hLr HP.out.2.1
        obtain ⟨al, cl, rfl, _⟩ := hIL.slice
        obtain ⟨as_, cs, rfl, _⟩ := hIS.slice
        have hBa := HB7.out.trans ((HB8.out.trans (hM10.below.mono HB8.out.size)).mono HB7.out.size)
        have HIw9 := Lib.hid (HIw6.out.later hBa)
        have HIr9 := Lib.hid (HIr6.out.later hBa)
        have HCs : Hid (∀ X, Below w9.heap.size w9 X → X.cell? ⟨b3, 0, none⟩ = some (.slice a1 ws.length d1) ∧ X.cell? ⟨b3, 1, none⟩ = some (.slice a2 rs.length d2) ∧ X.cell? ⟨w.heap.size, 0, none⟩ = some (.slice aw ws.length cw) ∧ X.cell? ⟨w.heap.size, 1, none⟩ = some (.slice ar rs.length cr) ∧ b3 < X.heap.size ∧ w.heap.size < X.heap.size ∧ Below w.heap.size w X) := Lib.hid (fun X hX => by
          have hMX := hM11.call hX
          refine ⟨?_, ?_, ?_, ?_, (hMX.box 2 rfl).2.1, (hMX.box 3 rfl).2.1, hMX.below⟩
          · have := hMX.cell 2 rfl 0; simpa using this
          · have := hMX.cell 2 rfl 1; simpa using this
          · have := hMX.cell 3 rfl 0; simpa using this
          · have := hMX.cell 3 rfl 1; simpa using this)
        have HIL := Lib.hid hIL
        have HIS := Lib.hid hIS
        have Hfound := Lib.hid hfound
        have HL' := Lib.hid hL'
        obtain ⟨N, hN⟩ : ∃ N, ws.length = N := ⟨_, rfl⟩
        have HN := Lib.hid hN
        rw [hN] at hws HCs Hfl ⊢
        have hcnt2 : (starts os).length ≤ 1000 := by rw [starts_len]; omega
        have Hcnt := Lib.hid hcnt2
        clear hcnt hM10 hM11 hgl hLlen hIL hIS hfound hBa hL' hN hcnt2 HRe HM9 HIw6 HIr6 HB7 HB8 hLr
        go_wp2
        go_loopw [8] (fun i wr => ∃ k : Nat, k ≤ N ∧ i = .int .i64 k ∧ Below w9.heap.size w9 wr) (fun i _ => N - (intOf i).toNat)
        case atStart => exact ⟨0, Nat.zero_le _, rfl, Below.refl _ _⟩
        case round =>
          obtain ⟨k, hk, rfl, hBr⟩ := hrel
          obtain ⟨x0, x1, x2, x3, x4, x5, hBw⟩ := HCs.out _ hBr
          by_cases hlt : k < N
          · by_cases hin : (k : Int) ∈ starts os
            · have HH := Lib.hid (has_yes _ (starts os) (k : Int) wr (HIS.out.later hBr) hin)
              obtain ⟨i, h, hi, hs1, hs2, hh1, hh2, hh3⟩ := mkO_at HL'.out F hin
              rw [← HL'.out.1] at hh1
              obtain ⟨mk, hmk⟩ : ∃ mk, decide ((i : Int) ∈ F) = mk := ⟨_, rfl⟩
              rw [hmk] at hh3
              obtain ⟨f1, f2, f3, f4, _⟩ := hdS_parts hh2 mk
              have hA1 := headAt_yes _ (.slice a2 rs.length d2) (flat (mkO os F)) rs k _ wr (HIw9.out.later hBr) (HIr9.out.later hBr) hh3 f4
              rw [f1, f2, f3, HN.out] at hA1
              have HA2 : Hid (∀ X, Below w9.heap.size w9 X → Calls Try.prog 30 #[.agg #[.slice aw N cw, .slice ar rs.length cr], .int .i64 k] X fun e w' => e = .returned (.tuple #[.agg #[.int .i64 (h % 256), .bool (h / 256 % 2 == 1), .int .i64 (h / 512 % 8)], .bool true]) ∧ Below X.heap.size X w') := Lib.hid (fun X hX => by
                have hb := (HCs.out X hX).2.2.2.2.2.2
                have := headAt_yes _ (.slice ar rs.length cr) ws rs k h X (Hw.out.later hb) (Hr.out.later hb) hh1 hh2
                rwa [HN.out] at this)
              have HPl : Hid (∀ X, Below w9.heap.size w9 X → Calls Try.prog 31 #[.slice as_ (starts os).length cs, .int .i64 k] X fun e w' => e = .returned (.int .i64 i) ∧ w' = X) := Lib.hid (fun X hX => kplace_yes _ (starts os) k i X (HIS.out.later hX) hs1 hs2 Hcnt.out)
              have HHa : Hid (∀ X, Below w9.heap.size w9 X → Calls Try.prog 26 #[.slice al L.length cl, .int .i64 i] X fun e w' => e = .returned (.bool mk) ∧ X = w') := Lib.hid (fun X hX => by
                have := has_any _ L (i : Int) X (HIL.out.later hX)
                have e : hasB L (i : Int) = mk := by
                  rw [← hmk]
                  by_cases hiF : (i : Int) ∈ F
                  · simp [hasB, hiF, (Hfound.out _).1 hiF]
                  · have hnL : (i : Int) ∉ L := fun h => hiF ((Hfound.out _).2 h)
                    simp [hasB, hiF, hnL]
                rwa [e] at this)
              obtain ⟨m, hm⟩ : ∃ m, h % 256 = m := ⟨_, rfl⟩
              obtain ⟨bk, hbk⟩ : ∃ bk, (h / 256 % 2 == 1) = bk := ⟨_, rfl⟩
              obtain ⟨ag, hag⟩ : ∃ ag, h / 512 % 8 = ag := ⟨_, rfl⟩
              rw [hm, hag] at hA1
              rw [hm, hbk, hag] at HA2
              have HA1 := Lib.hid hA1
              have HBr := Lib.hid hBr
              clear hin hi hs1 hs2 hh1 hh2 hh3 f1 f2 f3 f4 hA1 hm hbk hag hmk hBr hBw
              go_wp2_with fail
              refine HH.out.mono ?_
              rintro e w13 ⟨rfl, rfl⟩
              clear HH
              go_wp2_with fail
              refine HA1.out.mono ?_
              rintro e w14 ⟨rfl, hb14⟩
              have hB14 := HBr.out.trans (hb14.mono HBr.out.size)
              obtain ⟨y0, y1, y2, y3, y4, y5, hBw⟩ := HCs.out _ hB14
              have hMb := (Mem.start w14).alloc #[.int .i64 m, .bool mk, .int .i64 ag] 35
              obtain ⟨bH, hbH⟩ : ∃ bH, w14.heap.size = bH := ⟨_, rfl⟩
              obtain ⟨W15, hW15⟩ : ∃ W15, w14.alloc (.cells #[.int .i64 m, .bool mk, .int .i64 ag] 35) = W15 := ⟨_, rfl⟩
              have hB15 : Below w9.heap.size w9 W15 := by rw [← hW15]; exact hB14.alloc hB14.size _
              rw [hW15] at hMb
              have HMb := Lib.hid hMb
              have HbH := Lib.hid hbH
              have HW15 := Lib.hid hW15
              have HB15 := Lib.hid hB15
              clear hB14 hb14 hMb hbH hW15 hB15 HA1 hBw x0 x1 x2 x3 x4 x5
              go_wp2_with fail
              rw [HbH.out, HW15.out]
              refine (HA2.out _ HB15.out).mono ?_
              rintro e w16 ⟨rfl, hb16⟩
              have hM16 := HMb.out.call hb16
              have hM17 := hM16.alloc #[.int .i64 m, .bool bk, .int .i64 ag] 35
              have hB16 := HB15.out.trans (hb16.mono HB15.out.size)
              obtain ⟨bG, hbG⟩ : ∃ bG, w16.heap.size = bG := ⟨_, rfl⟩
              obtain ⟨W17, hW17⟩ : ∃ W17, w16.alloc (.cells #[.int .i64 m, .bool bk, .int .i64 ag] 35) = W17 := ⟨_, rfl⟩
              have hB17 : Below w9.heap.size w9 W17 := by rw [← hW17]; exact hB16.alloc hB16.size _
              rw [hbG, hW17, HbH.out] at hM17
              have HM17 := Lib.hid hM17
              have HbG := Lib.hid hbG
              have HW17 := Lib.hid hW17
              have HB17 := Lib.hid hB17
              have hg9 : w9.heap.size ≤ bG := by rw [← hbG]; exact hB16.size
              have Hg9 := Lib.hid hg9
              clear hM16 hb16 hB16 hM17 hbG hW17 hB17 hg9 HMb HA2 y0 y1 y2 y3 y4 y5
              go_wp2_with fail
              rw [HbG.out, HW17.out]
              refine (HPl.out _ HB17.out).mono ?_
              rintro e w18 ⟨rfl, rfl⟩
              go_wp2_with fail
              refine (HHa.out _ HB17.out).mono ?_
              rintro e w19 ⟨rfl, rfl⟩
              have u0 : w18.cell? ⟨bG, 1, none⟩ = some (.bool bk) := by have := HM17.out.cell 0 rfl 1; simpa using this
              have u1 : w18.frozen? ⟨bG, 1, none⟩ = false := HM17.out.free 0 rfl 1
              have u2 : bG < w18.heap.size := (HM17.out.box 0 rfl).2.1
              have hM20 := HM17.out.setBox 0 rfl 1 (.bool mk)
              have v0 : (w18.setCell ⟨bG, 1, none⟩ (.bool mk)).cell? ⟨bG, 0, none⟩ = some (.int .i64 m) := by have := hM20.cell 0 rfl 0; simpa using this
              have v1 : (w18.setCell ⟨bG, 1, none⟩ (.bool mk)).cell? ⟨bG, 1, none⟩ = some (.bool mk) := by have := hM20.cell 0 rfl 1; simpa using this
              have v2 : (w18.setCell ⟨bG, 1, none⟩ (.bool mk)).cell? ⟨bG, 2, none⟩ = some (.int .i64 ag) := by have := hM20.cell 0 rfl 2; simpa using this
              have v3 : (w18.setCell ⟨bG, 1, none⟩ (.bool mk)).cell? ⟨bH, 0, none⟩ = some (.int .i64 m) := by have := hM20.cell 1 rfl 0; simpa using this
              have v4 : (w18.setCell ⟨bG, 1, none⟩ (.bool mk)).cell? ⟨bH, 1, none⟩ = some (.bool mk) := by have := hM20.cell 1 rfl 1; simpa using this
              have v5 : (w18.setCell ⟨bG, 1, none⟩ (.bool mk)).cell? ⟨bH, 2, none⟩ = some (.int .i64 ag) := by have := hM20.cell 1 rfl 2; simpa using this
              have v6 : bH < w18.heap.size := (HM17.out.box 1 rfl).2.1
              have HBn := Lib.hid (HB17.out.setCell (p := ⟨bG, 1, none⟩) Hg9.out (.bool mk))
              clear hM20 HM17 HPl HHa HW17 HW15
              go_wp2
              go_roundw
              case rel => exact ⟨k + 1, by omega, by go_num, HBn.out⟩
              case measure => simp [intOf]; omega
            · have HH := Lib.hid (has_no _ (starts os) (k : Int) wr (HIS.out.later hBr) hin)
              obtain ⟨x, hx⟩ := get_some (flat os) k (by rw [← HL'.out.1, HN.out]; exact hlt)
              have hy : (flat (mkO os F))[k]? = some x := by rw [mkO_other os F (by rw [← HL'.out.1, HN.out]; exact hlt) hin]; exact hx
              rw [← HL'.out.1] at hx
              obtain ⟨b', off', cap', hv, _, g1, d1', _⟩ := Hw.out.at hBw hx
              rw [HN.out] at hv
              cases hv
              obtain ⟨b'', off'', cap'', hv, _, g2, d2', _⟩ := HIw9.out.at hBr hy
              rw [Hfl.out] at hv
              cases hv
              have q1 : (x != x) = false := by simp
              have HBr := Lib.hid hBr
              clear hx hy hin hBr hBw
              go_wp2_with fail
              refine HH.out.mono ?_
              rintro e w13 ⟨rfl, rfl⟩
              clear HH
              go_wp2
              go_quiet (fail)
              go_wp2
              go_roundw
              case rel => exact ⟨k + 1, by omega, by go_num, below_drewN HBr.out _⟩
              case measure => simp [intOf]; omega
          · obtain rfl : k = N := by omega
            have HB := Lib.hid hBw
            clear hBw hBr
            go_wp2
            go_ret
            exact ⟨rfl, HB.out⟩
      · exact absurd HP.out.1.laid (hno _)
    · omega
  · have HU := Lib.hid (unsound_any _ _ ws rs w2 (Hw.out.later HM2.out.below) (Hr.out.later HM2.out.below) hn)
    clear hn
    go_wp2_with fail
    refine HU.out.mono ?_
    rintro e w3 ⟨rfl, hb3⟩
    have HB := Lib.hid (HM2.out.call hb3).below
    clear hb3
    go_wp2
    go_ret
    exact ⟨rfl, HB.out⟩
end Go.Proofs.Ytigdpdndnghldaa
