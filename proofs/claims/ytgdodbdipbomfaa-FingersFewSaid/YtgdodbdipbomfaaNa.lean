/- mark.Cleared, walked. -/
import Derived.Test.YtgdodbdipbomfaaSk
namespace Go.Proofs.Ytgdodbdipbomfaa
open Go.RowKit Go.Shelf

/-- The first k headers cleared. -/
def hdK (os : List Ob) (k : Nat) (i : Int) : Int := if i < k then hdS (obj os i).1 false else (obj os i).1
theorem hdK_zero (os : List Ob) : allO os (hdK os 0) = os := by
  rw [allO_ext os (he := fun i => (obj os i).1) fun k _ => by unfold hdK; rw [if_neg (by omega)]]
  exact allO_self
theorem hdK_all (os : List Ob) : allO os (hdK os os.length) = mkO os [] := by
  refine allO_ext os fun k hk => ?_
  unfold hdK hdM
  rw [if_pos (by omega)]; simp
theorem hdK_succ (os : List Ob) {k : Nat} (h : k < os.length) : (flat (allO os (hdK os k))).set (place os k) (hdS (obj os k).1 false) = flat (allO os (hdK os (k + 1))) := by
  rw [allO_set os _ h]
  congr 1
  refine allO_ext os fun j _ => ?_
  unfold hdK
  by_cases e : j = k
  · subst e; rw [if_pos rfl, if_pos (by omega)]
  · rw [if_neg (by omega)]
    by_cases e2 : (j : Int) < k
    · rw [if_pos e2, if_pos (by omega)]
    · rw [if_neg e2, if_neg (by omega)]

set_option maxRecDepth 100000 in
set_option maxHeartbeats 2000000 in
theorem cleared_any (vw vr : Value) (ws rs : List Int) (os : List Ob) (w : World) (hw : IsW w vw ws) (hr : IsW w vr rs) (hS : Sound ws rs os) :
    Calls Try.prog 39 #[.agg #[vw, vr]] w fun e w' => ∃ v1 v2, e = .returned (.agg #[v1, v2]) ∧ Mem w.heap.size w w' [rowW 60 v1 (flat (mkO os [])), rowW 60 v2 rs] := by
  have Hw := Lib.hid hw
  have Hr := Lib.hid hr
  obtain ⟨aw, cw, rfl, hmw⟩ := hw.slice
  obtain ⟨ar, cr, rfl, hmr⟩ := hr.slice
  have hM0 := (((Mem.start w).alloc #[.slice aw ws.length cw, .slice ar rs.length cr] 24).allocAt (w.heap.size + 1) (by simp) #[.slice none 0 0, .slice none 0 0] 24)
  obtain ⟨W, hW⟩ : ∃ W, (w.alloc (.cells #[.slice aw ws.length cw, .slice ar rs.length cr] 24)).alloc (.cells #[.slice none 0 0, .slice none 0 0] 24) = W := ⟨_, rfl⟩
  rw [hW] at hM0
  have hws := hS.words
  have hrs := hS.roots
  have Q1 : Hid (∀ X, Below w.heap.size w X → Calls Try.prog 72 #[.slice aw ws.length cw] X fun e w' => ∃ v', e = .returned v' ∧ Mem X.heap.size X w' [rowW 60 v' ws]) := Lib.hid fun X hX => cloneW_any _ ws X (Hw.out.later hX) (by omega)
  have Q2 : Hid (∀ X, Below w.heap.size w X → Calls Try.prog 72 #[.slice ar rs.length cr] X fun e w' => ∃ v', e = .returned v' ∧ Mem X.heap.size X w' [rowW 60 v' rs]) := Lib.hid fun X hX => cloneW_any _ rs X (Hr.out.later hX) (by omega)
  have HCs : Hid (∀ X, Below W.heap.size W X → X.cell? ⟨w.heap.size, 0, none⟩ = some (.slice aw ws.length cw) ∧ X.cell? ⟨w.heap.size, 1, none⟩ = some (.slice ar rs.length cr)) := Lib.hid (fun X hX => by
    have hMX := hM0.call hX
    refine ⟨?_, ?_⟩
    · have := hMX.cell 1 rfl 0; simpa using this
    · have := hMX.cell 1 rfl 1; simpa using this)
  have HB0 := Lib.hid (Below.refl W.heap.size W).drew
  have HBa : Hid (∀ o, Below W.heap.size W (W.alloc o).drew) := Lib.hid fun o => ((Below.refl W.heap.size W).alloc (Nat.le_refl _) o).drew
  have HMd := Lib.hid hM0.drew
  have HMa := Lib.hid (hM0.alloc #[.slice none 0 0, .slice none 0 0] 24).drew
  have HW := Lib.hid hW
  have HS := Lib.hid hS
  have HrB : Hid (∀ X, Below W.heap.size W X → Below w.heap.size w X) := Lib.hid fun X hX => (hM0.call hX).below
  clear hw hr hM0 hW hS hmw hmr
  go_enter Try.func39, Try.ntmps39
  go_wp2
  rw [HW.out]
  go_cut [3] (fun s3 W' => ∃ (b : Nat) (a1 : Option Addr) (n1 c1 : Nat) (a2 : Option Addr) (n2 c2 : Nat), s3 = .pointer (some ⟨b, 0, none⟩) ∧ Mem w.heap.size w W' [ebox b #[.slice a1 n1 c1, .slice a2 n2 c2] 24, rowW 60 (.slice a2 n2 c2) rs, rowW 60 (.slice a1 n1 c1) ws, ebox (w.heap.size + 1) #[.slice none 0 0, .slice none 0 0] 24, ebox w.heap.size #[.slice aw ws.length cw, .slice ar rs.length cr] 24])
  case first =>
    go_region_held3 (fun X => X.cell? ⟨w.heap.size, 0, none⟩ = some (.slice aw ws.length cw) ∧ X.cell? ⟨w.heap.size, 1, none⟩ = some (.slice ar rs.length cr))
      (first | exact HCs.out _ HB0.out | exact HCs.out _ (HBa.out _) | exact HCs.out _ hB4 | exact HCs.out _ (hB4.alloc hB4.size _) | exact HCs.out _ hB5 | exact HCs.out _ (hB5.alloc hB5.size _) | exact HCs.out _ ((hB5.setCell (Nat.le_refl _) _).setCell (Nat.le_refl _) _) | exact HCs.out _ ((hB5.setCell hB4.size _).setCell hB4.size _))
      (first
        | (go_at_call 72
           refine (Q2.out _ (HrB.out _ hB4)).mono ?_
           rintro e w5 ⟨v2, rfl, hM5'⟩
           obtain ⟨a2, n2, c2, rfl⟩ := own_slice (hM5'.row 0 rfl)
           have hB5 := hB4.trans (hM5'.below.mono hB4.size)
           have hM5 := hM4.callMem hM5'
           try have p0 : w5.cell? ⟨W.heap.size, 0, none⟩ = some (.slice none 0 0) := (by have := hM5.cell 2 rfl 0; simpa using this)
           try have p1 : w5.cell? ⟨W.heap.size, 1, none⟩ = some (.slice none 0 0) := (by have := hM5.cell 2 rfl 1; simpa using this)
           try have p2 : w5.frozen? ⟨W.heap.size, 0, none⟩ = false := hM5.free 2 rfl 0
           try have p3 : w5.frozen? ⟨W.heap.size, 1, none⟩ = false := hM5.free 2 rfl 1
           try have p4 : W.heap.size < w5.heap.size := (hM5.box 2 rfl).2.1
           clear hM5')
        | (go_at_call 72
           refine (Q2.out _ (HrB.out _ (hB4.alloc hB4.size _))).mono ?_
           rintro e w5 ⟨v2, rfl, hM5'⟩
           obtain ⟨a2, n2, c2, rfl⟩ := own_slice (hM5'.row 0 rfl)
           have hB5 := (hB4.alloc hB4.size (.cells #[.slice none 0 0, .slice none 0 0] 24)).trans (hM5'.below.mono (by have := hB4.size; simp; omega))
           have hM5 := (hM4.alloc #[.slice none 0 0, .slice none 0 0] 24).callMem hM5'
           have p0 : w5.cell? ⟨w4.heap.size, 0, none⟩ = some (.slice none 0 0) := (by have := hM5.cell 1 rfl 0; simpa using this)
           have p1 : w5.cell? ⟨w4.heap.size, 1, none⟩ = some (.slice none 0 0) := (by have := hM5.cell 1 rfl 1; simpa using this)
           have p2 : w5.frozen? ⟨w4.heap.size, 0, none⟩ = false := hM5.free 1 rfl 0
           have p3 : w5.frozen? ⟨w4.heap.size, 1, none⟩ = false := hM5.free 1 rfl 1
           have p4 : w4.heap.size < w5.heap.size := (hM5.box 1 rfl).2.1
           clear hM5')
        | (go_at_call 72
           refine (Q1.out _ (HrB.out _ HB0.out)).mono ?_
           rintro e w4 ⟨v1, rfl, hM4'⟩
           obtain ⟨a1, n1, c1', rfl⟩ := own_slice (hM4'.row 0 rfl)
           have hB4 := HB0.out.trans (hM4'.below.mono HB0.out.size)
           have hM4 := HMd.out.callMem hM4'
           clear hM4')
        | (go_at_call 72
           refine (Q1.out _ (HrB.out _ (HBa.out _))).mono ?_
           rintro e w4 ⟨v1, rfl, hM4'⟩
           obtain ⟨a1, n1, c1', rfl⟩ := own_slice (hM4'.row 0 rfl)
           have hB4 := (HBa.out _).trans (hM4'.below.mono (HBa.out _).size)
           have hM4 := HMa.out.callMem hM4'
           clear hM4'))
    all_goals
      go_wp2_with fail
      go_meet
      refine ⟨_, a1, n1, c1', a2, n2, c2, rfl, ?_⟩
      first
        | exact hM5.alloc _ _
        | exact ((hM5.setBox 1 rfl 0 (.slice a1 n1 c1')).setBox 1 rfl 1 (.slice a2 n2 c2)).pick0 [1, 0, 2, 3, 4] (by decide) rfl
        | exact ((hM5.setBox 2 rfl 0 (.slice a1 n1 c1')).setBox 2 rfl 1 (.slice a2 n2 c2)).pick0 [2, 0, 1, 3, 4] (by decide) rfl
  case rest =>
    obtain ⟨b, a1, n1, c1, a2, n2, c2, rfl, hM⟩ := hcut
    have p0 : wc.cell? ⟨w.heap.size, 0, none⟩ = some (.slice aw ws.length cw) := by have := hM.cell 4 rfl 0; simpa using this
    have p1 : wc.cell? ⟨w.heap.size, 1, none⟩ = some (.slice ar rs.length cr) := by have := hM.cell 4 rfl 1; simpa using this
    have pz : w.heap.size < wc.heap.size := (hM.box 4 rfl).2.1
    have HBg := Lib.hid (begins_any _ (.slice ar rs.length cr) ws os wc (Hw.out.later hM.below) ⟨_, _, _, rfl⟩ HS.out.laid hws)
    have HM := Lib.hid hM
    clear hM HCs HB0 HBa HMd HMa HrB Q1 Q2
    go_wp2_with fail
    refine HBg.out.mono ?_
    rintro e w6 ⟨rv, rfl, hM6⟩
    have hM7 := HM.out.callMem hM6
    have hL := HS.out.laid
    obtain ⟨n, hn⟩ : ∃ n, os.length = n := ⟨_, rfl⟩
    have hcnt := hL.count
    have h64 := starts_64 hL (by omega)
    have hsl : (starts os).length = n := by rw [starts_len, hn]
    obtain ⟨ab, cb, rfl⟩ := own_row (hM7.row 0 rfl)
    rw [hsl] at hM7
    have hM8 : Mem w.heap.size w w6 ([ebox b #[.slice a1 n1 c1, .slice a2 n2 c2] 24, rowW 60 (.slice a1 n1 c1) (flat (allO os (hdK os 0))), rowI 3 (.slice ab n cb) (starts os), rowW 60 (.slice a2 n2 c2) rs, ebox (w.heap.size + 1) #[.slice none 0 0, .slice none 0 0] 24]) := by
      rw [hdK_zero, ← hL.1]
      exact hM7.pick0 [1, 3, 0, 2, 4] (by decide) rfl
    have HM8 := Lib.hid hM8
    have HL := Lib.hid hL
    have Hn := Lib.hid hn
    have hn256 : n ≤ 256 := by omega
    clear hM6 hM7 hM8 HBg HM p0 p1 pz hL hcnt h64 hsl hn
    rw [starts_len, Hn.out]
    go_wp2
    go_loopw [16] (fun i wr => ∃ k : Nat, k ≤ n ∧ i = .int .i64 k ∧ Mem w.heap.size w wr [ebox b #[.slice a1 n1 c1, .slice a2 n2 c2] 24, rowW 60 (.slice a1 n1 c1) (flat (allO os (hdK os k))), rowI 3 (.slice ab n cb) (starts os), rowW 60 (.slice a2 n2 c2) rs, ebox (w.heap.size + 1) #[.slice none 0 0, .slice none 0 0] 24]) (fun i _ => n - (intOf i).toNat)
    case atStart => exact ⟨0, Nat.zero_le _, rfl, HM8.out⟩
    case round =>
      clear HM8
      obtain ⟨k, hk, rfl, hM⟩ := hrel
      by_cases hlt : k < n
      · have hko : k < os.length := by rw [Hn.out]; exact hlt
        have hgd := (hd_good HL.out hko).1
        have hhd := flat_head (allO_get os (hdK os k) hko)
        rw [allO_place os _ (Nat.le_of_lt hko)] at hhd
        have hst := starts_get hko
        have hsuc := hdK_succ os hko
        have hft := HL.out.fit (obj_get (os := os) (i := (k : Int)) ⟨by omega, by omega⟩)
        rw [Int.toNat_natCast] at hft
        have hfl := allO_flat os (hdK os k)
        rw [← HL.out.1] at hfl
        obtain ⟨q, hq⟩ : ∃ q, place os k = q := ⟨_, rfl⟩
        rw [hq] at hhd hst hsuc hft
        have hkk : hdK os k k = (obj os k).1 := by unfold hdK; rw [if_neg (by omega)]
        simp only [hkk] at hhd
        obtain ⟨h, hhe⟩ : ∃ h, (obj os k).1 = h := ⟨_, rfl⟩
        rw [hhe] at hgd hhd hsuc
        obtain ⟨y, hy⟩ : ∃ y, hdS h false = y := ⟨_, rfl⟩
        rw [hy] at hsuc
        have HSet : Hid (∀ X, Calls Try.prog 74 #[.int .u64 h, .bool false] X fun e w' => e = .returned (.int .u64 y) ∧ w' = X) := Lib.hid (fun X => by
          have := mset_any h false X hgd
          rwa [hy] at this)
        obtain ⟨g1, cp1, hv, hg1, d1, f1⟩ := hM.wordsAt 1 rfl hhd
        rw [hfl] at hv
        cases hv
        obtain ⟨g2, cp2, hv, _, hg2, hc2, _⟩ := hM.intsAt 2 rfl (by rintro e; rw [e] at hst; simp at hst)
        rw [starts_len, Hn.out] at hv
        cases hv
        have d2 := hc2 k _ hst
        have c1 : wr.drew.cell? ⟨b, 0, none⟩ = some (.slice (some ⟨g1, 0, none⟩) ws.length c1) := by have := hM.drew.cell 0 rfl 0; simpa using this
        have c2 : wr.drew.cell? ⟨g1, q, none⟩ = some (.int .u64 h) := d1
        have bz : b < wr.heap.size := (hM.box 0 rfl).2.1
        have q1 : q < ws.length := by omega
        have q2 : (q : Int) < ws.length := by omega
        have Hsuc := Lib.hid hsuc
        have Hfl := Lib.hid hfl
        have HM := Lib.hid hM
        clear hM hgd hhd hst hsuc hft hfl hq hkk hhe hy hc2 hko
        go_wp2_with fail
        go_region_law (first
          | (go_simp
             refine (HSet.out _).mono ?_
             rintro e w2 ⟨rfl, rfl⟩))
        all_goals
          have hz := ((HM.out.setW 1 rfl Hfl.out q y).drew)
          rw [Hsuc.out] at hz
          have Hz := Lib.hid hz
          clear hz d1 f1 c1 c2 HM d2 bz HSet hg1 hg2
          go_wp2
          go_roundw
          case rel => exact ⟨k + 1, by omega, by go_num, Hz.out⟩
          case measure => simp [intOf]; omega
      · obtain rfl : k = n := by omega
        rw [← Hn.out, hdK_all] at hM
        have c1' : wr.cell? ⟨b, 0, none⟩ = some (.slice a1 n1 c1) := by have := hM.cell 0 rfl 0; simpa using this
        have c2' : wr.cell? ⟨b, 1, none⟩ = some (.slice a2 n2 c2) := by have := hM.cell 0 rfl 1; simpa using this
        have bz : b < wr.heap.size := (hM.box 0 rfl).2.1
        have r0 : wr.cell? ⟨w.heap.size + 1, 0, none⟩ = some (.slice none 0 0) := by have := hM.cell 4 rfl 0; simpa using this
        have r1 : wr.cell? ⟨w.heap.size + 1, 1, none⟩ = some (.slice none 0 0) := by have := hM.cell 4 rfl 1; simpa using this
        have r2 : wr.frozen? ⟨w.heap.size + 1, 0, none⟩ = false := hM.free 4 rfl 0
        have r3 : wr.frozen? ⟨w.heap.size + 1, 1, none⟩ = false := hM.free 4 rfl 1
        have rz : w.heap.size + 1 < wr.heap.size := (hM.box 4 rfl).2.1
        have hM7 := (hM.setBox 4 rfl 0 (.slice a1 n1 c1)).setBox 4 rfl 1 (.slice a2 n2 c2)
        have HM7 := Lib.hid hM7
        clear hM hM7
        go_wp2
        obtain ⟨W6, hW6⟩ : ∃ W6, W6 = (wr.setCell ⟨w.heap.size + 1, 0, none⟩ (.slice a1 n1 c1)).setCell ⟨w.heap.size + 1, 1, none⟩ (.slice a2 n2 c2) := ⟨_, rfl⟩
        have hM8 := HM7.out
        rw [← hW6] at hM8 ⊢
        have s0 : W6.cell? ⟨w.heap.size + 1, 0, none⟩ = some (.slice a1 n1 c1) := by have := hM8.cell 4 rfl 0; simpa using this
        have s1 : W6.cell? ⟨w.heap.size + 1, 1, none⟩ = some (.slice a2 n2 c2) := by have := hM8.cell 4 rfl 1; simpa using this
        refine bodyPost_ret (v := .agg #[.slice a1 n1 c1, .slice a2 n2 c2]) (by simp [results, Try.results39, go_sem, s0, s1]) rfl ⟨_, _, rfl, ?_⟩
        exact hM8.pick0 [1, 3] (by decide) rfl
end Go.Proofs.Ytgdodbdipbomfaa
