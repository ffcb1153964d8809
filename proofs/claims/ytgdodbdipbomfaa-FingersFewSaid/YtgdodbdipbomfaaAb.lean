/- The references on words and rows of words, walked: Unhead, Unpack, Starts, Fields. -/
import Derived.Test.YtgdodbdipbomfaaBase2
import Derived.Test.YtgdodbdipbomfaaBase1
namespace Go.Proofs.Ytgdodbdipbomfaa
open Go.RowKit

theorem elemWords : Elem Try.prog 22 60 1 8 (.int .u64 0) := ⟨by kernel_rfl, info_parts (by kernel_rfl), rfl, by decide⟩
def headV (n : Int) : Value := .agg #[.int .i64 (n % 256), .bool (n / 256 % 2 == 1), .int .i64 (n / 512 % 8)]
set_option maxHeartbeats 400000 in
theorem rUnhead_yes (n : Int) (w : World) (hn : w64 n) (hh : isHead n) :
    Calls Try.prog 43 #[.int .u64 n] w fun e w' => e = .returned (.tuple #[headV n, .int .i64 0]) ∧ Below w.heap.size w w' := by
  obtain ⟨h0, h1⟩ := hn
  obtain ⟨h2, h3⟩ := (isHead_iff n).1 hh
  clear hh
  go_enter Try.func43, Try.ntmps43
  go_wp2
  refine bodyPost_ret (v := .tuple #[headV n, .int .i64 0]) (by simp [results, Try.results43, go_sem, headV]) rfl ⟨rfl, ?_⟩
  exact (by repeat (first | exact Below.refl _ _ | refine Below.setCell ?_ (by first | exact Nat.le_refl _ | (simp; done) | (simp; omega) | (simp at *; omega)) _ | refine Below.alloc ?_ (by first | exact Nat.le_refl _ | (simp; done) | (simp; omega) | (simp at *; omega)) _ | refine Below.drew ?_ | refine Below.trans ?_ (Below.mono (by assumption) (by first | exact Nat.le_refl _ | (simp; done) | (simp; omega) | (simp at *; omega)))))
set_option maxHeartbeats 400000 in
theorem rUnhead_no (n : Int) (w : World) (hn : w64 n) (hh : ¬ isHead n) :
    Calls Try.prog 43 #[.int .u64 n] w fun e w' => e = .returned (.tuple #[.agg #[.int .i64 0, .bool false, .int .i64 0], .int .i64 4]) ∧ Below w.heap.size w w' := by
  obtain ⟨h0, h1⟩ := hn
  by_cases h2 : n % 256 ≤ 4
  · have h3 : (n / 4096 != 2902710697328640) = true := by simpa using fun h => hh ((isHead_iff n).2 ⟨h2, h⟩)
    clear hh
    go_enter Try.func43, Try.ntmps43
    go_wp2
    refine bodyPost_ret (v := .tuple #[.agg #[.int .i64 0, .bool false, .int .i64 0], .int .i64 4]) (by simp [results, Try.results43, go_sem]) rfl ⟨rfl, ?_⟩
    exact (by repeat (first | exact Below.refl _ _ | refine Below.setCell ?_ (by first | exact Nat.le_refl _ | (simp; done) | (simp; omega) | (simp at *; omega)) _ | refine Below.alloc ?_ (by first | exact Nat.le_refl _ | (simp; done) | (simp; omega) | (simp at *; omega)) _ | refine Below.drew ?_ | refine Below.trans ?_ (Below.mono (by assumption) (by first | exact Nat.le_refl _ | (simp; done) | (simp; omega) | (simp at *; omega)))))
  · clear hh
    go_enter Try.func43, Try.ntmps43
    go_wp2
    refine bodyPost_ret (v := .tuple #[.agg #[.int .i64 0, .bool false, .int .i64 0], .int .i64 4]) (by simp [results, Try.results43, go_sem]) rfl ⟨rfl, ?_⟩
    exact (by repeat (first | exact Below.refl _ _ | refine Below.setCell ?_ (by first | exact Nat.le_refl _ | (simp; done) | (simp; omega) | (simp at *; omega)) _ | refine Below.alloc ?_ (by first | exact Nat.le_refl _ | (simp; done) | (simp; omega) | (simp at *; omega)) _ | refine Below.drew ?_ | refine Below.trans ?_ (Below.mono (by assumption) (by first | exact Nat.le_refl _ | (simp; done) | (simp; omega) | (simp at *; omega)))))
set_option maxHeartbeats 400000 in
theorem rUnpack_int (n : Int) (w : World) (hn : w64 n) (hh : n % 2 = 1) :
    Calls Try.prog 71 #[.int .u64 n] w fun e w' => e = .returned (.tuple #[.agg #[.bool false, .int .i64 (wrap64 n / 2)], .int .i64 0]) ∧ Below w.heap.size w w' := by
  obtain ⟨h0, h1⟩ := hn
  by_cases h2 : n / 2 > 4611686018427387903
  · have hv : Hid (wrap64 n / 2 = n / 2 - 4611686018427387904 - 4611686018427387904) := Lib.hid (by unfold wrap64; omega)
    go_enter Try.func71, Try.ntmps71
    go_wp2
    refine bodyPost_ret (v := .tuple #[.agg #[.bool false, .int .i64 (n / 2 - 4611686018427387904 - 4611686018427387904)], .int .i64 0]) (by simp [results, Try.results71, go_sem]) rfl ⟨by rw [hv.out], ?_⟩
    exact (by repeat (first | exact Below.refl _ _ | refine Below.setCell ?_ (by first | exact Nat.le_refl _ | (simp; done) | (simp; omega) | (simp at *; omega)) _ | refine Below.alloc ?_ (by first | exact Nat.le_refl _ | (simp; done) | (simp; omega) | (simp at *; omega)) _ | refine Below.drew ?_ | refine Below.trans ?_ (Below.mono (by assumption) (by first | exact Nat.le_refl _ | (simp; done) | (simp; omega) | (simp at *; omega)))))
  · have hv : Hid (wrap64 n / 2 = n / 2) := Lib.hid (by unfold wrap64; omega)
    go_enter Try.func71, Try.ntmps71
    go_wp2
    refine bodyPost_ret (v := .tuple #[.agg #[.bool false, .int .i64 (n / 2)], .int .i64 0]) (by simp [results, Try.results71, go_sem]) rfl ⟨by rw [hv.out], ?_⟩
    exact (by repeat (first | exact Below.refl _ _ | refine Below.setCell ?_ (by first | exact Nat.le_refl _ | (simp; done) | (simp; omega) | (simp at *; omega)) _ | refine Below.alloc ?_ (by first | exact Nat.le_refl _ | (simp; done) | (simp; omega) | (simp at *; omega)) _ | refine Below.drew ?_ | refine Below.trans ?_ (Below.mono (by assumption) (by first | exact Nat.le_refl _ | (simp; done) | (simp; omega) | (simp at *; omega)))))
set_option maxHeartbeats 400000 in
theorem rUnpack_ref (n : Int) (w : World) (h0 : 0 ≤ n) (h1 : n < 512) (hh : n % 2 = 0) :
    Calls Try.prog 71 #[.int .u64 n] w fun e w' => e = .returned (.tuple #[.agg #[.bool true, .int .i64 (n / 2)], .int .i64 0]) ∧ Below w.heap.size w w' := by
  have h2 : ¬ n / 2 ≥ 256 := by omega
  go_enter Try.func71, Try.ntmps71
  go_wp2
  refine bodyPost_ret (v := .tuple #[.agg #[.bool true, .int .i64 (n / 2)], .int .i64 0]) (by simp [results, Try.results71, go_sem]) rfl ⟨rfl, ?_⟩
  exact (by repeat (first | exact Below.refl _ _ | refine Below.setCell ?_ (by first | exact Nat.le_refl _ | (simp; done) | (simp; omega) | (simp at *; omega)) _ | refine Below.alloc ?_ (by first | exact Nat.le_refl _ | (simp; done) | (simp; omega) | (simp at *; omega)) _ | refine Below.drew ?_ | refine Below.trans ?_ (Below.mono (by assumption) (by first | exact Nat.le_refl _ | (simp; done) | (simp; omega) | (simp at *; omega)))))
set_option maxHeartbeats 400000 in
theorem rUnpack_no (n : Int) (w : World) (h0 : 512 ≤ n) (h1 : n < 18446744073709551616) (hh : n % 2 = 0) :
    Calls Try.prog 71 #[.int .u64 n] w fun e w' => e = .returned (.tuple #[.agg #[.bool false, .int .i64 0], .int .i64 2]) ∧ Below w.heap.size w w' := by
  have h2 : n / 2 ≥ 256 := by omega
  go_enter Try.func71, Try.ntmps71
  go_wp2
  refine bodyPost_ret (v := .tuple #[.agg #[.bool false, .int .i64 0], .int .i64 2]) (by simp [results, Try.results71, go_sem]) rfl ⟨rfl, ?_⟩
  exact (by repeat (first | exact Below.refl _ _ | refine Below.setCell ?_ (by first | exact Nat.le_refl _ | (simp; done) | (simp; omega) | (simp at *; omega)) _ | refine Below.alloc ?_ (by first | exact Nat.le_refl _ | (simp; done) | (simp; omega) | (simp at *; omega)) _ | refine Below.drew ?_ | refine Below.trans ?_ (Below.mono (by assumption) (by first | exact Nat.le_refl _ | (simp; done) | (simp; omega) | (simp at *; omega)))))

def StartsSays (ws : List Int) (w w' : World) (e : Ending) : Prop :=
  (∃ os r, Laid ws os ∧ e = .returned (.tuple #[r, .bool true]) ∧ Mem w.heap.size w w' [rowI 3 r (starts os)]) ∨
  ((∀ os, ¬ Laid ws os) ∧ e = .returned (.tuple #[.slice none 0 0, .bool false]) ∧ Below w.heap.size w w')
set_option maxRecDepth 100000 in
set_option maxHeartbeats 1000000 in
theorem rStarts_any (v : Value) (ws : List Int) (w : World) (hw : IsW w v ws) (hsm : ws.length ≤ 256) :
    Calls Try.prog 15 #[v] w fun e w' => StartsSays ws w w' e := by
  have Hw := Lib.hid hw
  obtain ⟨a, cap, rfl, hm⟩ := hw.slice
  clear hw
  go_enter Try.func15, Try.ntmps15
  go_wp2
  go_loopw [4, 5] (fun r i wr => ∃ (os : List Ob) (k : Nat), Part ws os k ∧ i = .int .i64 k ∧ Mem w.heap.size w wr [rowI 3 r (starts os)]) (fun _ i _ => ws.length - (intOf i).toNat)
  case atStart => exact ⟨[], 0, Part.start ws, rfl, (Mem.start w).nilI _⟩
  case round =>
    obtain ⟨os, k, hP, rfl, hM⟩ := hrel
    have hkl := hP.le
    by_cases hlt : k < ws.length
    · obtain ⟨n, hn⟩ := get_some ws k hlt
      obtain ⟨b, off, cap2, hv, _, hb, d0, hn64⟩ := Hw.out.at hM.below hn
      cases hv
      have HN := Lib.hid (hP.next hn)
      have HP := Lib.hid hP
      have HM := Lib.hid hM
      clear hP hn hM
      by_cases hh : isHead n
      · obtain ⟨m, hmn⟩ : ∃ m : Nat, n % 256 = m := ⟨(n % 256).toNat, by omega⟩
        have hm4 : m ≤ 4 := by have := hh.1; omega
        have hU := rUnhead_yes n wr hn64 hh
        rw [headV, hmn] at hU
        rw [hmn] at HN
        have HU := Lib.hid hU
        have Hmn := Lib.hid hmn
        have Hh := Lib.hid hh
        clear hh hU hmn
        go_wp2_with fail
        refine HU.out.mono ?_
        rintro e w2 ⟨rfl, hb2⟩
        have HM2 := Lib.hid ((HM.out.call hb2).alloc #[.int .i64 m, .bool (n / 256 % 2 == 1), .int .i64 (n / 512 % 8)] 50)
        have HB2 := Lib.hid hb2
        clear hb2 HU HM
        rcases HN.out with ⟨hno, hbr⟩ | ⟨fs, _, hfit, hfl, hP2, _⟩
        · have q1 : ¬ (k : Int) + 1 + m ≤ ws.length := fun h => hno ⟨Hh.out, h⟩
          have Hbr := Lib.hid hbr
          clear hbr hno
          go_wp2
          go_ret2
          exact .inr ⟨Hbr.out.not, rfl, HM2.out.below⟩
        · have hfm : fs.length = m := by omega
          have q1 : (k : Int) + 1 + m ≤ ws.length := hfit
          have q2 : k + 1 + m ≤ ws.length := by omega
          rw [hfm] at hP2
          have HP2 := Lib.hid hP2
          have Hst := Lib.hid (starts_snoc os (n, fs))
          have Hcnt : Hid ((starts os).length ≤ 1000000) := Lib.hid (by
            rw [starts_len]
            obtain ⟨rest, h1, _, _⟩ := HP.out
            have : os.length ≤ (flat os).length := (Laid.count (ws := flat os) (os := os) ⟨rfl, by obtain ⟨_, _, h, _⟩ := HP.out; exact h⟩)
            rw [h1, List.length_append] at hsm; omega)
          have Hk : Hid (k = (flat os).length) := Lib.hid (by obtain ⟨_, _, _, h⟩ := HP.out; exact h)
          clear hP2 hfl hfm HP HN hfit
          go_wp2_with (at_builtin; refine Mem.wp_appI elemInts rfl (.tmp 32) (.tmp 34) rfl HM2.out 1 rfl rfl _ (k : Int) _ _ rfl (by simp) Hcnt.out ?_; intro ad n1 cp w6 hn1 hM6 hs6 hk6 ha6; have r0 : w6.cell? ⟨w2.heap.size, 0, none⟩ = some (.int .i64 m) := (by have := hM6.cell 0 rfl 0; simpa using this))
          go_roundw
          case rel => exact ⟨_, k + 1 + m, HP2.out, by go_num, (hM6.drop (List.sublist_cons_self _ _)).cast (by rw [Hst.out, ← Hk.out]; rfl)⟩
          case measure => simp [intOf]; omega
      · have HU := Lib.hid (rUnhead_no n wr hn64 hh)
        have Hh := Lib.hid hh
        clear hh
        go_wp2_with fail
        refine HU.out.mono ?_
        rintro e w2 ⟨rfl, hb2⟩
        have HM2 := Lib.hid ((HM.out.call hb2).alloc_ (.cells #[.int .i64 0, .bool false, .int .i64 0] 50))
        rcases HN.out with ⟨_, hbr⟩ | ⟨fs, hy, _⟩
        · have Hbr := Lib.hid hbr
          clear hbr hb2 HU HN
          go_wp2
          go_ret2
          exact .inr ⟨Hbr.out.not, rfl, HM2.out.below⟩
        · exact absurd hy Hh.out
    · obtain rfl : k = ws.length := by omega
      have HM := Lib.hid hM
      have HP := Lib.hid hP
      clear hM hP
      go_wp2
      go_ret2
      exact .inl ⟨os, _, HP.out.done, rfl, HM.out⟩
end Go.Proofs.Ytgdodbdipbomfaa
