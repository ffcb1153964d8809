/- arena.Fields, walked. -/
import Derived.Test.YtigdpdndnghldaaAi
namespace Go.Proofs.Ytigdpdndnghldaa
open Go.RowKit

theorem isW_none (w : World) (a : Option Addr) : IsW w (.slice a 0 0) [] := ⟨⟨_, _, rfl, Nat.zero_le _⟩, _, _, rfl, by simp, by simp⟩
set_option maxRecDepth 100000 in
set_option maxHeartbeats 1000000 in
theorem aFields_any (v : Value) (ws fs : List Int) (k m : Nat) (n : Int) (w : World) (hw : IsW w v ws) (hn : ws[k]? = some n) (hh : isHead n) (hm : n % 256 = m) (hfl : fs.length = m) (hf : ∀ j x, fs[j]? = some x → ws[k + 1 + j]? = some x) (hfit : k + 1 + m ≤ ws.length) (hsm : ws.length ≤ 256) :
    Calls Try.prog 47 #[v, .int .i64 k] w fun e w' => ∃ r, e = .returned r ∧ IsW w' r fs ∧ Below w.heap.size w w' := by
  obtain ⟨b, off, cw, rfl, _, hb, d0, hn64⟩ := hw.at (Below.refl _ _) hn
  have hcw := hw.cap
  have hm4 : m ≤ 4 := by have := hh.1; omega
  have hU := unhead_yes n w hn64.1 hn64.2 hh
  rw [hm] at hU
  have HU := Lib.hid hU
  have hpart := hw.part rfl (k + 1) fs hf (by omega)
  rw [hfl] at hpart
  obtain ⟨lo, hlo⟩ : ∃ lo, k + 1 = lo := ⟨_, rfl⟩
  obtain ⟨hi, hhi⟩ : ∃ hi, lo + m = hi := ⟨_, rfl⟩
  rw [hlo, show m = hi - lo by omega] at hpart
  have Hpart := Lib.hid hpart
  have e1 : IntKind.i64.wrap ((k : Int) + 1) = (lo : Int) := by rw [IntWalk.i64_in _ (by omega)]; omega
  have e2 : IntKind.i64.wrap ((lo : Int) + m) = (hi : Int) := by rw [IntWalk.i64_in _ (by omega)]; omega
  have e3 : lo ≤ hi := by omega
  have e4 : hi ≤ cw := by omega
  have e5 : (lo : Int) ≤ hi := by omega
  have e6 : (hi : Int) ≤ cw := by omega
  have hkl := (List.getElem?_eq_some_iff.1 hn).1
  by_cases hx0 : cw = lo
  · have h0 : fs = [] := List.eq_nil_of_length_eq_zero (by omega)
    have e7 : hi ≤ lo := by omega
    have e8 : (hi : Int) ≤ lo := by omega
    subst h0
    clear hw hn hh hm hfl hf hU hpart hlo hhi e4 e6 hcw
    go_enter Try.func47, Try.ntmps47
    go_wp2_with fail
    refine HU.out.mono ?_
    rintro e w2 ⟨rfl, hb2⟩
    have HB := Lib.hid (((Below.refl w.heap.size w).trans hb2).alloc hb2.size (.cells #[.int .i64 m, .bool (n / 256 % 2 == 1), .int .i64 (n / 512 % 8)] 35))
    clear hb2 HU
    go_wp2
    go_ret
    exact ⟨_, rfl, isW_none _ _, HB.out⟩
  · clear hw hn hh hm hfl hf hU hpart hlo hhi hcw
    go_enter Try.func47, Try.ntmps47
    go_wp2_with fail
    refine HU.out.mono ?_
    rintro e w2 ⟨rfl, hb2⟩
    have HB := Lib.hid (((Below.refl w.heap.size w).trans hb2).alloc hb2.size (.cells #[.int .i64 m, .bool (n / 256 % 2 == 1), .int .i64 (n / 512 % 8)] 35))
    clear hb2 HU
    go_wp2
    go_ret
    exact ⟨_, rfl, Hpart.out.later HB.out, HB.out⟩
end Go.Proofs.Ytigdpdndnghldaa
