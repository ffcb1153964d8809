/- arena.Fields, walked. -/
import Derived.Test.YtgdodbdipbomfaaAi
namespace Go.Proofs.Ytgdodbdipbomfaa
open Go.RowKit

theorem isW_none (w : World) (a : Option Addr) : IsW w (.slice a 0 0) [] := ⟨⟨_, _, rfl, Nat.zero_le _⟩, _, _, rfl, by simp, by simp⟩
theorem isW_one (w : World) (x : Int) (t : TypeId) (hx : w64 x) : IsW (w.alloc (.cells #[.int .u64 x] t)) (.slice (some ⟨w.heap.size, 0, none⟩) 1 1) [x] := by
  refine ⟨⟨_, _, rfl, by simp⟩, some ⟨w.heap.size, 0, none⟩, 1, rfl, by simp, ?_⟩
  intro k y hk
  cases k with
  | zero => simp at hk; subst hk; exact ⟨w.heap.size, 0, rfl, by simp, by rw [World.cell?_alloc_new]; rfl, hx⟩
  | succ k => simp at hk

set_option maxRecDepth 100000 in
set_option maxHeartbeats 1000000 in
/-- arena.Fields tells the same part of the row, whatever was made since. -/
theorem aFields_fix (w0 : World) (v : Value) (ws fs : List Int) (k m : Nat) (n : Int) (hw : IsW w0 v ws) (hn : ws[k]? = some n) (hh : isHead n) (hm : n % 256 = m) (hfl : fs.length = m) (hf : ∀ j x, fs[j]? = some x → ws[k + 1 + j]? = some x) (hfit : k + 1 + m ≤ ws.length) (hsm : ws.length ≤ 256) :
    ∃ a c, IsW w0 (.slice a m c) fs ∧ ∀ w, Below w0.heap.size w0 w → Calls Try.prog 49 #[v, .int .i64 k] w fun e w' => e = .returned (.slice a m c) ∧ Below w.heap.size w w' := by
  obtain ⟨b, off, cw, rfl, _, hb0, _, hn64⟩ := hw.at (Below.refl _ _) hn
  have Hw := Lib.hid hw
  have Hnn := Lib.hid hn
  have hcw := hw.cap
  have hm4 : m ≤ 4 := by have := hh.1; omega
  have hpart := hw.part rfl (k + 1) fs hf (by omega)
  rw [hfl] at hpart
  obtain ⟨lo, hlo⟩ : ∃ lo, k + 1 = lo := ⟨_, rfl⟩
  obtain ⟨hi, hhi⟩ : ∃ hi, lo + m = hi := ⟨_, rfl⟩
  have Hhh := Lib.hid hh
  have Hmm := Lib.hid hm
  have e1 : IntKind.i64.wrap ((k : Int) + 1) = (lo : Int) := by rw [IntWalk.i64_in _ (by omega)]; omega
  have e2 : IntKind.i64.wrap ((lo : Int) + m) = (hi : Int) := by rw [IntWalk.i64_in _ (by omega)]; omega
  have e3 : lo ≤ hi := by omega
  have e4 : hi ≤ cw := by omega
  have e5 : (lo : Int) ≤ hi := by omega
  have e6 : (hi : Int) ≤ cw := by omega
  have hkl := (List.getElem?_eq_some_iff.1 hn).1
  have hmd : hi - lo = m := by omega
  by_cases hx0 : cw = lo
  · have h0 : fs = [] := List.eq_nil_of_length_eq_zero (by omega)
    have e7 : hi ≤ lo := by omega
    have e8 : (hi : Int) ≤ lo := by omega
    have hm0 : m = 0 := by omega
    subst h0
    refine ⟨some ⟨b, off, none⟩, 0, by rw [hm0]; exact isW_none _ _, fun w hB => ?_⟩
    have Hm0 := Lib.hid hm0
    obtain ⟨b', off', cap', hv, hb, _, d0, _⟩ := Hw.out.at hB Hnn.out
    cases hv
    have hU := unhead_yes n w hn64.1 hn64.2 Hhh.out
    rw [Hmm.out] at hU
    have HU := Lib.hid hU
    clear hw hn hh hm hfl hf hU hpart hlo hhi e4 e6 hcw hb0 hB hm0 hmd
    go_enter Try.func49, Try.ntmps49
    go_wp2_with fail
    refine HU.out.mono ?_
    rintro e w2 ⟨rfl, hb2⟩
    have HB := Lib.hid (((Below.refl w.heap.size w).trans hb2).alloc hb2.size (.cells #[.int .i64 m, .bool (n / 256 % 2 == 1), .int .i64 (n / 512 % 8)] 50))
    clear hb2 HU
    go_wp2
    go_ret
    exact ⟨by rw [Hm0.out]; rfl, HB.out⟩
  · refine ⟨_, _, hpart, fun w hB => ?_⟩
    obtain ⟨b', off', cap', hv, hb, _, d0, _⟩ := Hw.out.at hB Hnn.out
    cases hv
    have hU := unhead_yes n w hn64.1 hn64.2 Hhh.out
    rw [Hmm.out] at hU
    have HU := Lib.hid hU
    rw [hlo]
    have Hmd := Lib.hid hmd
    clear hw hn hh hm hfl hf hU hpart hlo hhi hcw hb0 hB hmd
    go_enter Try.func49, Try.ntmps49
    go_wp2_with fail
    refine HU.out.mono ?_
    rintro e w2 ⟨rfl, hb2⟩
    have HB := Lib.hid (((Below.refl w.heap.size w).trans hb2).alloc hb2.size (.cells #[.int .i64 m, .bool (n / 256 % 2 == 1), .int .i64 (n / 512 % 8)] 50))
    clear hb2 HU
    go_wp2
    go_ret
    exact ⟨by rw [Hmd.out]; rfl, HB.out⟩
theorem aFields_any (v : Value) (ws fs : List Int) (k m : Nat) (n : Int) (w : World) (hw : IsW w v ws) (hn : ws[k]? = some n) (hh : isHead n) (hm : n % 256 = m) (hfl : fs.length = m) (hf : ∀ j x, fs[j]? = some x → ws[k + 1 + j]? = some x) (hfit : k + 1 + m ≤ ws.length) (hsm : ws.length ≤ 256) :
    Calls Try.prog 49 #[v, .int .i64 k] w fun e w' => ∃ r, e = .returned r ∧ IsW w' r fs ∧ Below w.heap.size w w' := by
  obtain ⟨a, c, h1, h2⟩ := aFields_fix w v ws fs k m n hw hn hh hm hfl hf hfit hsm
  exact (h2 w (Below.refl _ _)).mono fun _ _ ⟨he, hb⟩ => ⟨_, he, h1.later hb, hb⟩
end Go.Proofs.Ytgdodbdipbomfaa
