/- visit.Visit at a sound arena, walked. -/
import Derived.Test.YtgdodbdipbomfaaKd
import Derived.Test.YtgdodbdipbomfaaNa
import Derived.Deep.RegionLaw
namespace Go.Proofs.Ytgdodbdipbomfaa
open Go.RowKit Go.Shelf Go.Maps

set_option maxRecDepth 100000 in
set_option maxHeartbeats 4000000 in
theorem visitA_yes (vw vr : Value) (ws rs : List Int) (os : List Ob) (F : List Int) (r : Nat) (w : World) (hw : IsW w vw ws) (hr : IsW w vr rs) (hE : Env ws rs os F r) :
    Calls Try.prog 14 #[.agg #[vw, vr]] w fun e w' => ∃ v1 v2 ov M, e = .returned (.tuple #[.agg #[v1, v2], ov, .int .i64 0]) ∧ M.Nodup ∧ (∀ x, x ∈ M ↔ x ∈ F) ∧ Came os rs M ∧ Mem w.heap.size w w' [rowW 60 v1 (flat (mkO os F)), rowW 60 v2 rs, rowI 3 ov (M.map (plS os))] := by
  have Hw := Lib.hid hw
  have Hr := Lib.hid hr
  have HE := Lib.hid (And.intro hE hw.all)
  obtain ⟨aw, cw, rfl, hmw⟩ := hw.slice
  obtain ⟨ar, cr, rfl, hmr⟩ := hr.slice
  have hM0 := (((Mem.start w).alloc #[.slice aw ws.length cw, .slice ar rs.length cr] 24).allocAt (w.heap.size + 1) (by simp) #[.slice none 0 0, .slice none 0 0] 24)
  have HC := Lib.hid (acheck_any _ _ ws rs _ (hw.later hM0.below) (hr.later hM0.below))
  have HM0 := Lib.hid hM0
  have hrs := hE.sound.roots
  have hws := hE.sound.words
  clear hw hr hM0 hE hmw hmr
  go_enter Try.func14, Try.ntmps14
  go_wp2_with fail
  refine HC.out.mono ?_
  rintro e w2 ⟨c, rfl, hb, hcase⟩
  rcases hcase with ⟨rfl, _⟩ | ⟨_, hno⟩
  · have hM2 := HM0.out.call hb
    have c0 : w2.cell? ⟨w.heap.size, 0, none⟩ = some (.slice aw ws.length cw) := by have := hM2.cell 1 rfl 0; simpa using this
    have c1 : w2.cell? ⟨w.heap.size, 1, none⟩ = some (.slice ar rs.length cr) := by have := hM2.cell 1 rfl 1; simpa using this
    have z0 : w.heap.size < w2.heap.size := (hM2.box 1 rfl).2.1
    have HCl := Lib.hid (cleared_any _ _ ws rs os w2 (Hw.out.later hM2.below) (Hr.out.later hM2.below) HE.out.1.sound)
    have HM2 := Lib.hid hM2
    clear hb hM2 HM0 HC
    go_wp2_with fail
    refine HCl.out.mono ?_
    rintro e w5 ⟨v1, v2, rfl, hM5⟩
    obtain ⟨a1, n1, c1', rfl⟩ := own_slice (hM5.row 0 rfl)
    obtain ⟨a2, n2, c2', rfl⟩ := own_slice (hM5.row 1 rfl)
    obtain ⟨b6, hb6⟩ : ∃ b6, w5.heap.size = b6 := ⟨_, rfl⟩
    have hM5b := HM2.out.callMem hM5
    have hM6 := (((hM5b.allocAt b6 hb6 #[.slice a1 n1 c1', .slice a2 n2 c2'] 24).newMapAt mapII (b6 + 1) (by simp [hb6])).nilI 3).allocAt (b6 + 1 + 1) (by simp [hb6]) #[.slice a1 n1 c1', .map (some (b6 + 1)), .slice none 0 0] 77
    obtain ⟨W6, hW6⟩ : ∃ W6, ((w5.alloc (.cells #[.slice a1 n1 c1', .slice a2 n2 c2'] 24)).alloc (.map #[] 0)).alloc (.cells #[.slice a1 n1 c1', .map (some (b6 + 1)), .slice none 0 0] 77) = W6 := ⟨_, rfl⟩
    rw [hW6] at hM6
    obtain ⟨L, hLe⟩ : ∃ L, [rowW 60 (.slice a2 n2 c2') rs, ebox b6 #[.slice a1 n1 c1', .slice a2 n2 c2'] 24, ebox (w.heap.size + 1) #[.slice none 0 0, .slice none 0 0] 24, ebox w.heap.size #[.slice aw ws.length cw, .slice ar rs.length cr] 24] = L := ⟨_, rfl⟩
    have hM7 : Mem w.heap.size w W6 (ownV (b6 + 1 + 1) (b6 + 1) (.slice a1 n1 c1') (.slice none 0 0) os [] (fun _ => 0) [] (sumD os fun _ => 0) (fun _ => none) ++ L) := by
      rw [← hLe]
      unfold ownV
      rw [sumD_zero, wT_nil]
      exact hM6.pick0 [0, 4, 2, 1, 5, 3, 6, 7] (by decide) rfl
    have d1 : w5.cell? ⟨w.heap.size, 1, none⟩ = some (.slice ar rs.length cr) := by have := hM5b.cell 3 rfl 1; simpa using this
    have dz : w.heap.size < w5.heap.size := (hM5b.box 3 rfl).2.1
    have dz1 : w.heap.size < w5.heap.size + 1 := by omega
    have dz2 : w.heap.size < w5.heap.size + 1 + 1 := by omega
    have HM7 := Lib.hid hM7
    have HLe := Lib.hid hLe
    have Hb6 := Lib.hid hb6
    have HW6 := Lib.hid hW6
    have hmm := @run_makeMap Try.prog
    clear hM5 hM5b hM6 hM7 hb6 hW6 hLe c0 c1 z0 HCl HM2
    obtain ⟨n, hn⟩ : ∃ n, rs.length = n := ⟨_, rfl⟩
    have Hn := Lib.hid hn
    rw [hn] at d1 hrs
    rw [hn]
    clear hn
    go_wp2_with fail
    rw [Hb6.out, HW6.out]
    clear d1 dz dz1 dz2 hmm
    have HV0 : Hid (VR os rs F [] (fun _ => 0) ∧ Tab os (fun _ => 0) (fun _ => none)) := Lib.hid ⟨⟨List.nodup_nil, by simp, by simp, fun _ _ => rfl, fun i hi => by simp at hi, fun k x h => by simp at h⟩, fun k _ => rfl⟩
    go_loopw [28] (fun i wr => ∃ (k : Nat) (ov : Value) (M : List Int) (D : Int → Nat) (f : Int → Option Value), k ≤ n ∧ i = .int .i64 k ∧ VR os rs F M D ∧ Tab os D f ∧ (∀ y ∈ rs.take k, y % 2 = 0 → (idx os (y / 2) : Int) ∈ M) ∧ Mem w.heap.size w wr (ownV (b6 + 1 + 1) (b6 + 1) (.slice a1 n1 c1') ov os M D [] (sumD os D) f ++ L)) (fun i _ => n - (intOf i).toNat)
    case atStart => exact ⟨0, _, [], _, _, Nat.zero_le _, rfl, HV0.out.1, HV0.out.2, by simp, HM7.out⟩
    case round =>
      clear HM7 HV0
      obtain ⟨k, ov, M, D, f, hk, rfl, hV, hT, hR, hM⟩ := hrel
      by_cases hlt : k < n
      · obtain ⟨y, hy⟩ := get_some rs k (by rw [Hn.out]; exact hlt)
        obtain ⟨b, off, cap2, hv, hb, hb1, d1, hy64⟩ := Hr.out.at hM.below hy
        rw [Hn.out] at hv
        cases hv
        have hrt := HE.out.1.root y (List.mem_of_getElem? hy)
        have Hnext : Hid (∀ M2 : List Int, (∀ x ∈ M, x ∈ M2) → (y % 2 = 0 → (idx os (y / 2) : Int) ∈ M2) → ∀ z ∈ rs.take (k + 1), z % 2 = 0 → (idx os (z / 2) : Int) ∈ M2) := Lib.hid (fun M2 h1 h2 z hz he => by
          rw [take_succ_some _ _ _ hy] at hz
          rcases List.mem_append.1 hz with h | h
          · exact h1 _ (hR z h he)
          · simp at h; subst h; exact h2 he)
        have HM := Lib.hid hM
        have HV := Lib.hid (And.intro hV hT)
        rcases hrt.2.1 with hodd | ⟨heven, hsm, hst⟩
        · have HRf := Lib.hid (aref_int y wr hy64.1 hy64.2 hodd)
          have Hno := Lib.hid (fun h : y % 2 = 0 => show (idx os (y / 2) : Int) ∈ M by omega)
          clear hM hy hrt hV hT hR hodd hy64
          go_wp2_with fail
          refine HRf.out.mono ?_
          rintro e w7 ⟨rfl, rfl⟩
          clear HRf
          go_wp2
          go_roundw
          case rel => exact ⟨k + 1, ov, M, D, f, by omega, by go_num, HV.out.1, HV.out.2, Hnext.out M (fun x h => h) Hno.out, HM.out⟩
          case measure => simp [intOf]; omega
        · obtain ⟨j, hj, hyj⟩ := starts_mem.1 hst
          have hjF : (j : Int) ∈ F := by
            rcases hrt.1 with h | h
            · omega
            · rwa [hyj, idx_place hj] at h
          have hroot : HasRef os rs j := ⟨y, List.mem_of_getElem? hy, heven, by rw [hyj, idx_place hj]⟩
          have hRf := aref_ref y wr hy64.1 hsm heven
          have hidx : (idx os (y / 2) : Int) = j := by rw [hyj, idx_place hj]
          have hh := wT_head os M D [] hj
          have hM1 := hM
          unfold ownV at hM1
          obtain ⟨g, cw', hv, hg2, dh, _⟩ := hM1.wordsAt 1 rfl hh
          rw [wT_len, ← HE.out.1.sound.laid.1] at hv
          injection hv with hv1 hv2 hv3
          subst hv1 hv2 hv3
          have hCm := fun hjM => climb_any w wr (b6 + 1 + 1) (b6 + 1) g ws.length c1' r ov ws rs os F M D f L j HE.out.1 HE.out.2 rfl hj hV hjM hjF hroot hT hM
          obtain ⟨oj, hoj⟩ := get_some os j hj
          have htf := HE.out.1.sound.laid.fit hoj
          obtain ⟨t, ht⟩ : ∃ t, place os j = t := ⟨_, rfl⟩
          rw [hyj, ht] at hRf
          rw [ht] at dh htf hCm
          have htn : t < ws.length := by omega
          have htn2 : (t : Int) < ws.length := by omega
          have hgd := (hd_good HE.out.1.sound.laid hj).1
          have hp := hdS_parts hgd (decide ((j : Int) ∈ M))
          obtain ⟨h, hhe⟩ : ∃ h, hdM os M j = h := ⟨_, rfl⟩
          rw [hhe] at dh
          have hB := mbit_any h wr (by rw [← hhe]; exact hp.2.2.2.1)
          rw [show (h / 256 % 2 == 1) = decide ((j : Int) ∈ M) by rw [← hhe]; exact hp.2.1] at hB
          have e0 : wr.cell? ⟨b6 + 1 + 1, 0, none⟩ = some (.slice (some ⟨g, 0, none⟩) ws.length c1') := by have := hM1.cell 0 rfl 0; simpa using this
          have ez : b6 + 1 + 1 < wr.heap.size := (hM1.box 0 rfl).2.1
          have HRf := Lib.hid hRf
          have Hidx := Lib.hid hidx
          by_cases hjM : (j : Int) ∈ M
          · rw [decide_eq_true hjM] at hB
            have HB := Lib.hid hB
            have HjM := Lib.hid hjM
            clear hM hM1 hy hrt hV hT hR heven hy64 hst hyj hjF hroot hRf hidx hh hCm hoj htf ht hgd hp hhe hB hjM hj hg2
            go_wp2_with fail
            refine HRf.out.mono ?_
            rintro e w7 ⟨rfl, rfl⟩
            clear HRf
            go_wp2_with fail
            refine HB.out.mono ?_
            rintro e w7 ⟨rfl, rfl⟩
            clear HB
            go_wp2
            go_roundw
            case rel => exact ⟨k + 1, ov, M, D, f, by omega, by go_num, HV.out.1, HV.out.2, Hnext.out M (fun x h => h) (fun _ => by rw [Hidx.out]; exact HjM.out), HM.out⟩
            case measure => simp [intOf]; omega
          · rw [decide_eq_false hjM] at hB
            have HB := Lib.hid hB
            have HCm := Lib.hid (hCm hjM)
            clear hM hM1 hy hrt hV hT hR heven hy64 hst hyj hjF hroot hRf hidx hh hCm hoj htf ht hgd hp hhe hB hjM hj hg2
            go_wp2_with fail
            refine HRf.out.mono ?_
            rintro e w7 ⟨rfl, rfl⟩
            clear HRf
            go_wp2_with fail
            refine HB.out.mono ?_
            rintro e w7 ⟨rfl, rfl⟩
            clear HB
            go_wp2_with fail
            refine HCm.out.mono ?_
            rintro e w8 ⟨rfl, ov2, M2, D2, f2, hV2, hs2, hi2, hT2, hM2⟩
            have HM2 := Lib.hid hM2
            have HV2 := Lib.hid (And.intro hV2 (And.intro hs2 (And.intro hi2 hT2)))
            clear hM2 hV2 hs2 hi2 hT2 HCm HM HV d1 dh e0 ez
            go_wp2
            go_roundw
            case rel => exact ⟨k + 1, ov2, M2, D2, f2, by omega, by go_num, HV2.out.1, HV2.out.2.2.2, Hnext.out M2 HV2.out.2.1 (fun _ => by rw [Hidx.out]; exact HV2.out.2.2.1), HM2.out⟩
            case measure => simp [intOf]; omega
      · obtain rfl : k = n := by omega
        rw [show rs.take k = rs by rw [← Hn.out, List.take_length]] at hR
        have hall := hV.all HE.out.1.sound HE.out.1.ord hR
        have hP := And.intro hV.nodup (And.intro hall hV.came)
        have hmk : mkO os M = mkO os F := mkO_same os fun j _ => hall j
        have hM1 := hM
        unfold ownV at hM1
        rw [wT_nil, hmk] at hM1
        rw [← HLe.out] at hM1
        obtain ⟨a3, n3, c3, rfl⟩ := own_slice (hM1.row 3 rfl)
        have d0 : wr.cell? ⟨b6, 0, none⟩ = some (.slice a1 n1 c1') := by have := hM1.cell 5 rfl 0; simpa using this
        have d1 : wr.cell? ⟨b6, 1, none⟩ = some (.slice a2 n2 c2') := by have := hM1.cell 5 rfl 1; simpa using this
        have d2 : wr.cell? ⟨b6 + 1 + 1, 2, none⟩ = some (.slice a3 n3 c3) := by have := hM1.cell 0 rfl 2; simpa using this
        have r0 : wr.cell? ⟨w.heap.size + 1, 0, none⟩ = some (.slice none 0 0) := by have := hM1.cell 6 rfl 0; simpa using this
        have r1 : wr.cell? ⟨w.heap.size + 1, 1, none⟩ = some (.slice none 0 0) := by have := hM1.cell 6 rfl 1; simpa using this
        have r2 : wr.frozen? ⟨w.heap.size + 1, 0, none⟩ = false := hM1.free 6 rfl 0
        have r3 : wr.frozen? ⟨w.heap.size + 1, 1, none⟩ = false := hM1.free 6 rfl 1
        have rz : w.heap.size + 1 < wr.heap.size := (hM1.box 6 rfl).2.1
        have rz6 : b6 < wr.heap.size := (hM1.box 5 rfl).2.1
        have rz8 : b6 + 1 + 1 < wr.heap.size := (hM1.box 0 rfl).2.1
        have HP := Lib.hid hP
        have HMf := Lib.hid (((hM1.setBox 6 rfl 0 (.slice a1 n1 c1')).setBox 6 rfl 1 (.slice a2 n2 c2')).drew)
        clear hM hM1 hV hT hR hall hP hmk hlt HLe
        go_wp2
        go_region_law (fail)
        all_goals
          go_wp2_with fail
          obtain ⟨W9, hW9⟩ : ∃ W9, W9 = ((wr.setCell ⟨w.heap.size + 1, 0, none⟩ (.slice a1 n1 c1')).setCell ⟨w.heap.size + 1, 1, none⟩ (.slice a2 n2 c2')).drew := ⟨_, rfl⟩
          have hM8 := HMf.out
          rw [← hW9] at hM8 ⊢
          have s0 : W9.cell? ⟨w.heap.size + 1, 0, none⟩ = some (.slice a1 n1 c1') := by have := hM8.cell 6 rfl 0; simpa using this
          have s1 : W9.cell? ⟨w.heap.size + 1, 1, none⟩ = some (.slice a2 n2 c2') := by have := hM8.cell 6 rfl 1; simpa using this
          refine bodyPost_ret (v := .tuple #[.agg #[.slice a1 n1 c1', .slice a2 n2 c2'], .slice a3 n3 c3, .int .i64 0]) (by simp [results, Try.results14, go_sem, s0, s1]) rfl ⟨_, _, _, M, rfl, HP.out.1, HP.out.2.1, HP.out.2.2, ?_⟩
          exact hM8.pick0 [1, 4, 3] (by decide) rfl
  · exact absurd HE.out.1.sound (hno _)
end Go.Proofs.Ytgdodbdipbomfaa
