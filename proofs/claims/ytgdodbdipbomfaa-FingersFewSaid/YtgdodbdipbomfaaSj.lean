/- mark.Bit, mark.Set and the marker's visit, walked. -/
import Derived.Test.YtgdodbdipbomfaaSg
import Derived.Test.YtgdodbdipbomfaaBase2
import Derived.StillTailTactics
import Derived.Deep.RegionLaw
import Derived.Deep.DrawnRows
import Derived.Deep.RegionHeld3
import Derived.Deep.DeepCutAuto
namespace Go.Proofs.Ytgdodbdipbomfaa
open Go.RowKit Go.Shelf

set_option maxHeartbeats 400000 in
theorem mbit_any (n : Int) (w : World) (h : isHead n) :
    Calls Try.prog 41 #[.int .u64 n] w fun e w' => e = .returned (.bool (n / 256 % 2 == 1)) ∧ w' = w := by
  have h1 := (hdS_bits h).2.2
  obtain ⟨b, hb⟩ : ∃ b, (n / 256 % 2 == 1) = b := ⟨_, rfl⟩
  rw [hb] at h1 ⊢
  clear h hb
  go_enter Try.func41, Try.ntmps41
  go_wp2
  go_ret
  exact ⟨rfl, rfl⟩
set_option maxHeartbeats 400000 in
theorem mset_any (n : Int) (b : Bool) (w : World) (h : isHead n) :
    Calls Try.prog 74 #[.int .u64 n, .bool b] w fun e w' => e = .returned (.int .u64 (hdS n b)) ∧ w' = w := by
  obtain ⟨h1, h2, _⟩ := hdS_bits h
  clear h
  cases b
  · obtain ⟨y, hy⟩ : ∃ y, hdS n false = y := ⟨_, rfl⟩
    rw [hy] at h2 ⊢
    clear h1 hy
    go_enter Try.func74, Try.ntmps74
    go_wp2
    go_ret
    exact ⟨rfl, rfl⟩
  · obtain ⟨y, hy⟩ : ∃ y, hdS n true = y := ⟨_, rfl⟩
    rw [hy] at h1 ⊢
    clear h2 hy
    go_enter Try.func74, Try.ntmps74
    go_wp2
    go_ret
    exact ⟨rfl, rfl⟩

def plS (os : List Ob) (i : Int) : Int := (place os i.toNat : Nat)
def ownK (bM : Nat) (wv rv sv : Value) (os : List Ob) (r : Nat) (s : KS) : List Ent :=
  [ebox bM #[wv, rv, sv, .int .i64 r, .bool s.lost] 87, rowW 60 wv (flat (mkO os s.M)), rowI 3 sv (s.S.map (plS os))]
theorem visW_odd {os : List Ob} {r : Nat} {x : Int} {s : KS} (h : x % 2 = 1) : visW os r x s = s := if_pos h
theorem visW_old {os : List Ob} {r : Nat} {x : Int} {s : KS} (h : x % 2 = 0) (hin : (idx os (x / 2) : Int) ∈ s.M) : visW os r x s = s := by
  unfold visW vis; rw [if_neg (by omega), if_pos hin]
theorem visW_full {os : List Ob} {r : Nat} {x : Int} {s : KS} (h : x % 2 = 0) (hin : (idx os (x / 2) : Int) ∉ s.M) (hr : s.S.length = r) : visW os r x s = ⟨s.M ++ [(idx os (x / 2) : Int)], s.S, true⟩ := by
  unfold visW vis; rw [if_neg (by omega), if_neg hin, if_pos hr]
theorem visW_push {os : List Ob} {r : Nat} {x : Int} {s : KS} (h : x % 2 = 0) (hin : (idx os (x / 2) : Int) ∉ s.M) (hr : s.S.length ≠ r) : visW os r x s = ⟨s.M ++ [(idx os (x / 2) : Int)], s.S ++ [(idx os (x / 2) : Int)], s.lost⟩ := by
  unfold visW vis; rw [if_neg (by omega), if_neg hin, if_neg hr]
theorem mkO_head (os : List Ob) (M : List Int) {k : Nat} (h : k < os.length) : (flat (mkO os M))[place os k]? = some (hdM os M k) := by
  have := flat_head (allO_get os (hdM os M) h)
  rwa [allO_place os _ (Nat.le_of_lt h)] at this
theorem mkO_flat (os : List Ob) (M : List Int) : (flat (mkO os M)).length = (flat os).length := allO_flat _ _

set_option maxRecDepth 100000 in
set_option maxHeartbeats 2000000 in
theorem visit_any (w0 w : World) (bM r : Nat) (wv rv sv : Value) (ws : List Int) (os : List Ob) (F : List Int) (s : KS) (L : List Ent) (x : Int) (hL : Laid ws os)
    (hx64 : w64 x) (hx : RefOk os x) (hI : KInv F r s) (hr : r ≤ 64) (hM : Mem w0.heap.size w0 w (ownK bM wv rv sv os r s ++ L)) :
    Calls Try.prog 46 #[.pointer (some ⟨bM, 0, none⟩), .int .u64 x] w fun e w' => e = .returned (.tuple #[]) ∧ ∃ sv', Mem w0.heap.size w0 w' (ownK bM wv rv sv' os r (visW os r x s) ++ L) := by
  rcases hx with hodd | ⟨heven, hx512, hin⟩
  · have HR := Lib.hid (aref_int x w hx64.1 hx64.2 hodd)
    have HM := Lib.hid hM
    have Hv := Lib.hid (visW_odd (os := os) (r := r) (s := s) hodd)
    clear hM hL hI hodd hx64
    go_enter Try.func46, Try.ntmps46
    go_wp2_with fail
    refine HR.out.mono ?_
    rintro e w1 ⟨rfl, rfl⟩
    clear HR
    go_wp2
    refine bodyPost_ret (results_none rfl _ _ _) rfl ?_
    exact ⟨rfl, sv, by rw [Hv.out]; exact HM.out⟩
  · obtain ⟨i, hi, hxi⟩ := starts_mem.1 hin
    have hgd := (hd_good hL hi).1
    have hm4 := hd_good hL hi
    obtain ⟨o, ho⟩ := get_some os i hi
    have hft := hL.fit ho
    have hR := aref_ref x w hx64.1 hx512 heven
    have hidx : idx os (x / 2) = i := by rw [hxi, idx_place hi]
    have hh := mkO_head os s.M hi
    obtain ⟨q, hq⟩ : ∃ q, place os i = q := ⟨_, rfl⟩
    rw [hxi, hq] at hR
    rw [hq] at hh hft
    have HR := Lib.hid hR
    have hM0 := hM
    unfold ownK at hM
    have hfl := mkO_flat os s.M
    rw [← hL.1] at hfl
    obtain ⟨g, cw, rfl, hg, d1, f1⟩ := hM.wordsAt 1 rfl hh
    obtain ⟨sa, sc, rfl⟩ := own_row (hM.row 2 rfl)
    rw [List.length_map] at hM hM0
    rw [hfl] at hM hM0
    obtain ⟨n, hn⟩ : ∃ n, ws.length = n := ⟨_, rfl⟩
    rw [hn] at hM hM0 hft
    have hqn : q < n := by omega
    have hqn2 : (q : Int) < n := by omega
    obtain ⟨h, hhe⟩ : ∃ h, hdM os s.M i = h := ⟨_, rfl⟩
    rw [hhe] at d1
    have hhd : isHead h := by rw [← hhe]; exact (hdS_parts hgd _).2.2.2.1
    have e0 : w.cell? ⟨bM, 0, none⟩ = some (.slice (some ⟨g, 0, none⟩) n cw) := by have := hM.cell 0 rfl 0; simpa using this
    have ez : bM < w.heap.size := (hM.box 0 rfl).2.1
    have hB := mbit_any h w hhd
    by_cases hiM : (i : Int) ∈ s.M
    · have hb : (h / 256 % 2 == 1) = true := by rw [← hhe]; unfold hdM; rw [(hdS_parts hgd _).2.1]; exact decide_eq_true hiM
      rw [hb] at hB
      have HB := Lib.hid hB
      have Hv := Lib.hid (visW_old (os := os) (r := r) (s := s) heven (by rw [hidx]; exact hiM))
      have HM := Lib.hid hM0
      have Hfl2 := Lib.hid (hfl.trans hn)
      clear hM hM0 hL hI heven hx64 hgd ho hft hR hidx hh hq hfl hn hhe hhd hB hb hin hxi hm4
      go_enter Try.func46, Try.ntmps46
      go_wp2_with fail
      refine HR.out.mono ?_
      rintro e w1 ⟨rfl, rfl⟩
      clear HR
      go_wp2_with fail
      refine HB.out.mono ?_
      rintro e w1 ⟨rfl, rfl⟩
      clear HB
      go_wp2
      refine bodyPost_ret (results_none rfl _ _ _) rfl ?_
      exact ⟨rfl, _, by rw [Hv.out, Hfl2.out]; exact HM.out⟩
    · have hb : (h / 256 % 2 == 1) = false := by rw [← hhe]; unfold hdM; rw [(hdS_parts hgd _).2.1]; exact decide_eq_false hiM
      rw [hb] at hB
      have hs1 : hdS h true = hdS (obj os i).1 true := by rw [← hhe]; exact hdS_twice hgd _ _
      have HB := Lib.hid hB
      have Hmk := Lib.hid (mkO_mark os s.M hi)
      rw [← hs1, hq] at Hmk
      obtain ⟨y, hy⟩ : ∃ y, hdS h true = y := ⟨_, rfl⟩
      rw [hy] at Hmk
      have HSet : Hid (∀ X, Calls Try.prog 74 #[.int .u64 h, .bool true] X fun e w' => e = .returned (.int .u64 y) ∧ w' = X) := Lib.hid (fun X => by
        have := mset_any h true X hhd
        rwa [hy] at this)
      have Hfull := Lib.hid (fun hz => visW_full (os := os) (r := r) (s := s) heven (by rw [hidx]; exact hiM) hz)
      have Hpush := Lib.hid (fun hz => visW_push (os := os) (r := r) (s := s) heven (by rw [hidx]; exact hiM) hz)
      rw [hidx] at Hfull Hpush
      have hSr := hI.room
      obtain ⟨m, hm⟩ : ∃ m, s.S.length = m := ⟨_, rfl⟩
      have hml : (s.S.map (plS os)).length = m := by rw [List.length_map, hm]
      rw [hm] at hM hM0
      rw [hm] at hSr Hfull Hpush
      have HM := Lib.hid hM0
      have Hml := Lib.hid hml
      have Hpl : Hid (plS os (i : Int) = q) := Lib.hid (by unfold plS; rw [Int.toNat_natCast, hq])
      have Hfl2 := Lib.hid (hfl.trans hn)
      clear hM hM0 hL hI heven hx64 hgd ho hft hR hidx hh hq hfl hn hhe hhd hB hb hin hxi hs1 hy hm hml hm4
      go_enter Try.func46, Try.ntmps46
      go_wp2_with fail
      refine HR.out.mono ?_
      rintro e w1 ⟨rfl, rfl⟩
      clear HR
      go_wp2_with fail
      refine HB.out.mono ?_
      rintro e w1 ⟨rfl, rfl⟩
      clear HB
      have c0 : w1.drew.cell? ⟨bM, 0, none⟩ = some (.slice (some ⟨g, 0, none⟩) n cw) := e0
      have c1 : w1.drew.cell? ⟨g, q, none⟩ = some (.int .u64 h) := d1
      go_wp2
      go_cut [4] (fun s4 W => s4 = .int .i64 q ∧ Mem w0.heap.size w0 W (ownK bM (.slice (some ⟨g, 0, none⟩) n cw) rv (.slice sa m sc) os r ⟨s.M ++ [(i : Int)], s.S, s.lost⟩ ++ L))
      case first =>
        go_region_law (first
          | (go_simp
             refine (HSet.out _).mono ?_
             rintro e w2 ⟨rfl, rfl⟩))
        all_goals
          go_wp2_with fail
          go_meet
          refine ⟨rfl, ?_⟩
          have hz := ((HM.out.setW 1 rfl Hfl2.out q y).drew)
          rw [Hmk.out] at hz
          exact hz
      case rest =>
        clear e0 d1 f1 c0 c1 HM ez HSet
        obtain ⟨rfl, hM⟩ := hcut
        have HM := Lib.hid hM
        unfold ownK at hM
        have c2 : wc.cell? ⟨bM, 2, none⟩ = some (.slice sa m sc) := by have := hM.cell 0 rfl 2; simpa using this
        have c3 : wc.cell? ⟨bM, 3, none⟩ = some (.int .i64 r) := by have := hM.cell 0 rfl 3; simpa using this
        have c4 : wc.cell? ⟨bM, 4, none⟩ = some (.bool s.lost) := by have := hM.cell 0 rfl 4; simpa using this
        have f4 : wc.frozen? ⟨bM, 4, none⟩ = false := hM.free 0 rfl 4
        have ez : bM < wc.heap.size := (hM.box 0 rfl).2.1
        clear hM
        by_cases hmr : m = r
        · have q1 : ((m : Int) == (r : Int)) = true := by simp [hmr]
          have Hv := Lib.hid (Hfull.out hmr)
          clear Hfull Hpush
          go_wp2
          go_quiet (fail)
          have hMq := HM.out.drewN nq
          unfold ownK at hMq
          have d4 : (wc.drewN nq).cell? ⟨bM, 4, none⟩ = some (.bool s.lost) := by have := hMq.cell 0 rfl 4; simpa using this
          have g4 : (wc.drewN nq).frozen? ⟨bM, 4, none⟩ = false := hMq.free 0 rfl 4
          have HMq := Lib.hid (hMq.setBox 0 rfl 4 (.bool true))
          clear hMq HM
          go_wp2
          refine bodyPost_ret (results_none rfl _ _ _) rfl ?_
          exact ⟨rfl, _, by rw [Hv.out, Hfl2.out]; exact HMq.out⟩
        · have q1 : ((m : Int) == (r : Int)) = false := by simp; omega
          have Hv := Lib.hid (Hpush.out hmr)
          clear Hfull Hpush
          go_wp2
          go_quiet (fail)
          have hMq := HM.out.drewN nq
          unfold ownK at hMq
          have d2 : (wc.drewN nq).cell? ⟨bM, 2, none⟩ = some (.slice sa m sc) := by have := hMq.cell 0 rfl 2; simpa using this
          have HMq := Lib.hid hMq
          have hml : (s.S.map (plS os)).length ≤ 1000000 := by rw [Hml.out]; omega
          clear hMq HM
          go_wp2_with (at_builtin; refine Mem.wp_appI elemInts rfl (.tmp 57) (.tmp 59) rfl HMq.out 2 rfl rfl _ (q : Int) _ _ rfl rfl hml ?_; intro ad n1 cp w6 hn1 hM6 hs6 hk6 ha6; have p2 : w6.cell? ⟨bM, 2, none⟩ = some (.slice sa m sc) := (by have := hM6.cell 0 rfl 2; simpa using this); have p3 : w6.frozen? ⟨bM, 2, none⟩ = false := hM6.free 0 rfl 2)
          refine bodyPost_end (results_none rfl _ _ _) rfl ?_
          refine ⟨rfl, .slice ad n1 cp, ?_⟩
          rw [Hv.out, Hfl2.out]
          exact (hM6.setBox 0 rfl 2 (.slice ad n1 cp)).cast (by simp [ownK, Hpl.out])
end Go.Proofs.Ytgdodbdipbomfaa
