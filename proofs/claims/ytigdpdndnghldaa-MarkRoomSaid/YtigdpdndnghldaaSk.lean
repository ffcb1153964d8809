/- arena.Fields with its address; the marker's drain, walked. -/
import Derived.Test.YtigdpdndnghldaaSj
import Derived.Deep.LoopGhost
namespace Go.Proofs.Ytigdpdndnghldaa
open Go.RowKit Go.Shelf

set_option maxRecDepth 100000 in
set_option maxHeartbeats 1000000 in
/-- arena.Fields, and where what it tells lies. -/
theorem aFields_at (w : World) (b off nw cw : Nat) (ws fs : List Int) (k m : Nat) (n : Int) (hw : IsW w (.slice (some ⟨b, off, none⟩) nw cw) ws) (hn : ws[k]? = some n) (hh : isHead n) (hm : n % 256 = m) (hfl : fs.length = m) (hfit : k + 1 + m ≤ ws.length) (hsm : ws.length ≤ 256) :
    ∃ a c, (m = 0 ∨ a = some ⟨b, off + (k + 1), none⟩) ∧ Calls Try.prog 47 #[.slice (some ⟨b, off, none⟩) nw cw, .int .i64 k] w fun e w' => e = .returned (.slice a m c) ∧ Below w.heap.size w w' := by
  obtain ⟨b, off, cw, hvv, _, hb0, _, hn64⟩ := hw.at (Below.refl _ _) hn
  cases hvv
  have Hw := Lib.hid hw
  have Hnn := Lib.hid hn
  have hcw := hw.cap
  have hm4 : m ≤ 4 := by have := hh.1; omega
  obtain ⟨lo, hlo⟩ : ∃ lo, k + 1 = lo := ⟨_, rfl⟩
  obtain ⟨hi, hhi⟩ : ∃ hi, lo + m = hi := ⟨_, rfl⟩
  have Hhh := Lib.hid hh
  have Hmm := Lib.hid hm
  have e1 : IntKind.i64.wrap ((k : Int) + 1) = (lo : Int) := by rw [IntWalk.i64_in _ (by omega)]; omega
  have e2 : IntKind.i64.wrap ((lo : Int) + m) = (hi : Int) := by rw [IntWalk.i64_in _ (by omega)]; omega
  have e3 : lo ≤ hi := by omega
  have e4 : hi ≤ cw := by omega
  have e5 : (lo : Int) ≤ hi := by omega
  have e6 : (hi : Int) ≤ cw := by omega
  have hkl := (List.getElem?_eq_some_iff.1 hn).1
  have hmd : hi - lo = m := by omega
  by_cases hx0 : cw = lo
  · have h0 : fs = [] := List.eq_nil_of_length_eq_zero (by omega)
    have e7 : hi ≤ lo := by omega
    have e8 : (hi : Int) ≤ lo := by omega
    have hm0 : m = 0 := by omega
    subst h0
    refine ⟨some ⟨b, off, none⟩, 0, .inl hm0, ?_⟩
    have Hm0 := Lib.hid hm0
    obtain ⟨b', off', cap', hv, hb, _, d0, _⟩ := Hw.out.at (Below.refl _ _) Hnn.out
    cases hv
    have hU := unhead_yes n w hn64.1 hn64.2 Hhh.out
    rw [Hmm.out] at hU
    have HU := Lib.hid hU
    clear hw hn hh hm hfl hU hlo hhi e4 e6 hcw hb0 hm0 hmd
    go_enter Try.func47, Try.ntmps47
    go_wp2_with fail
    refine HU.out.mono ?_
    rintro e w2 ⟨rfl, hb2⟩
    have HB := Lib.hid (((Below.refl w.heap.size w).trans hb2).alloc hb2.size (.cells #[.int .i64 m, .bool (n / 256 % 2 == 1), .int .i64 (n / 512 % 8)] 35))
    clear hb2 HU
    go_wp2
    go_ret
    exact ⟨by rw [Hm0.out]; rfl, HB.out⟩
  · refine ⟨_, cw - (k + 1), .inr rfl, ?_⟩
    obtain ⟨b', off', cap', hv, hb, _, d0, _⟩ := Hw.out.at (Below.refl _ _) Hnn.out
    cases hv
    have hU := unhead_yes n w hn64.1 hn64.2 Hhh.out
    rw [Hmm.out] at hU
    have HU := Lib.hid hU
    rw [hlo]
    have Hmd := Lib.hid hmd
    clear hw hn hh hm hfl hU hlo hhi hcw hb0 hmd
    go_enter Try.func47, Try.ntmps47
    go_wp2_with fail
    refine HU.out.mono ?_
    rintro e w2 ⟨rfl, hb2⟩
    have HB := Lib.hid (((Below.refl w.heap.size w).trans hb2).alloc hb2.size (.cells #[.int .i64 m, .bool (n / 256 % 2 == 1), .int .i64 (n / 512 % 8)] 35))
    clear hb2 HU
    go_wp2
    go_ret
    exact ⟨by rw [Hmd.out]; rfl, HB.out⟩
end Go.Proofs.Ytigdpdndnghldaa
