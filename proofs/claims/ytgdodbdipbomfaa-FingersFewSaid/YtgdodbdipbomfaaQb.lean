/- slices.ContainsFunc at ints; Squeeze's two closures, walked. -/
import Derived.Test.YtgdodbdipbomfaaQa
import Derived.Test.YtgdodbdipbomfaaAs
import Derived.Test.YtgdodbdipbomfaaSj
import Derived.StillTailTactics
import Derived.Deep.RegionHeld3
namespace Go.Proofs.Ytgdodbdipbomfaa
open Go.RowKit Go.Shelf Go.Maps

set_option maxRecDepth 100000 in
set_option maxHeartbeats 1000000 in
theorem indexFunc_any (f : Nat) (bxs : Array Value) (v : Value) (l : List Int) (p : Int → Bool) (w : World) (hl : IsInts w v l) (hent : ∀ args w, (callFunc f args).run Try.prog w = .ok (.enter f args) w)
    (hstep : ∀ x ∈ l, ∀ X, Below w.heap.size w X → Calls Try.prog f (#[.int .i64 x] ++ bxs) X fun e w' => e = .returned (.bool (p x)) ∧ Below X.heap.size X w') :
    Calls Try.prog 81 #[v, .func (.func f) #[] bxs] w fun e w' => ∃ r : Int, e = .returned (.int .i64 r) ∧ decide (r ≥ 0) = l.any p ∧ Below w.heap.size w w' := by
  have Hl := Lib.hid hl
  have Hs := Lib.hid hstep
  obtain ⟨a, cap, rfl, hm⟩ := hl.slice
  obtain ⟨n, hn⟩ : ∃ n, l.length = n := ⟨_, rfl⟩
  have Hn := Lib.hid hn
  rw [hn] at hm ⊢
  clear hl hstep hn
  go_enter Try.func81, Try.ntmps81
  go_wp2
  go_loopw [8] (fun i wr => ∃ k : Nat, k ≤ n ∧ i = .int .i64 k ∧ (l.take k).any p = false ∧ Below w.heap.size w wr) (fun i _ => n - (intOf i).toNat)
  case atStart => exact ⟨0, Nat.zero_le _, rfl, by simp, Below.refl _ _⟩
  case round =>
    obtain ⟨k, hk, rfl, hT, hB⟩ := hrel
    by_cases hlt : k < n
    · obtain ⟨x, hx⟩ := get_some l k (by rw [Hn.out]; exact hlt)
      obtain ⟨b, off, cap2, hv, _, hb1, d0, _⟩ := Hl.out.at hB hx
      rw [Hn.out] at hv
      cases hv
      have HC := Lib.hid (Hs.out x (List.mem_of_getElem? hx) wr hB)
      obtain ⟨bp, hbp⟩ : ∃ bp, p x = bp := ⟨_, rfl⟩
      have Hany : Hid (bp = true → l.any p = true) := Lib.hid (fun h => List.any_eq_true.2 ⟨x, List.mem_of_getElem? hx, hbp.trans h⟩)
      have Hno : Hid (bp = false → (l.take (k + 1)).any p = false) := Lib.hid (fun h => by rw [take_succ_some _ _ _ hx, List.any_append, hT]; simp [hbp, h])
      rw [hbp] at HC
      have HB := Lib.hid hB
      have e1 : (k : Int) < n := by omega
      clear hB hx hT hbp
      go_wp2_with fail
      refine HC.out.mono ?_
      rintro e w2 ⟨rfl, hb2⟩
      have HB2 := Lib.hid (HB.out.trans (hb2.mono HB.out.size))
      clear hb2 HC HB
      cases bp with
      | true =>
        have Ha := Lib.hid (Hany.out rfl)
        clear Hany Hno
        go_wp2
        go_ret
        exact ⟨_, rfl, by rw [Ha.out]; simp, HB2.out⟩
      | false =>
        have Ha := Lib.hid (Hno.out rfl)
        clear Hany Hno
        go_wp2
        go_roundw
        case rel => exact ⟨k + 1, by omega, by go_num, Ha.out, HB2.out⟩
        case measure => simp [intOf]; omega
    · obtain rfl : k = n := by omega
      rw [show l.take k = l by rw [← Hn.out, List.take_length]] at hT
      have HT := Lib.hid hT
      have HB := Lib.hid hB
      clear hT hB
      go_wp2
      go_ret
      exact ⟨_, rfl, by rw [HT.out]; rfl, HB.out⟩
set_option maxRecDepth 100000 in
set_option maxHeartbeats 1000000 in
theorem containsFunc_any (f : Nat) (bxs : Array Value) (v : Value) (l : List Int) (p : Int → Bool) (w : World) (hl : IsInts w v l) (hent : ∀ args w, (callFunc f args).run Try.prog w = .ok (.enter f args) w)
    (hstep : ∀ x ∈ l, ∀ X, Below w.heap.size w X → Calls Try.prog f (#[.int .i64 x] ++ bxs) X fun e w' => e = .returned (.bool (p x)) ∧ Below X.heap.size X w') :
    Calls Try.prog 50 #[v, .func (.func f) #[] bxs] w fun e w' => e = .returned (.bool (l.any p)) ∧ Below w.heap.size w w' := by
  have HC := Lib.hid (indexFunc_any f bxs v l p w hl hent hstep)
  clear hl hstep
  go_enter Try.func50, Try.ntmps50
  go_wp2_with fail
  refine HC.out.mono ?_
  rintro e w2 ⟨r, rfl, hr, hb⟩
  have HB := Lib.hid hb
  obtain ⟨bp, hbp⟩ : ∃ bp, l.any p = bp := ⟨_, rfl⟩
  rw [hbp] at hr
  have Hbp := Lib.hid hbp
  clear hb HC hbp
  go_wp2
  go_ret
  exact ⟨by rw [Hbp.out]; rfl, HB.out⟩
set_option maxRecDepth 100000 in
set_option maxHeartbeats 1000000 in
/-- Has an object not so many fields? -/
theorem sq1_any (w0 w : World) (b7 b3 : Nat) (aM : Option Addr) (nM cM : Nat) (fn : Int) (ws : List Int) (k m : Nat) (n : Int) (hw : IsW w0 (.slice aM nM cM) ws) (hn : ws[k]? = some n) (hh : isHead n) (hm : n % 256 = m) (hf : ∃ fs : List Int, fs.length = m ∧ ∀ j x, fs[j]? = some x → ws[k + 1 + j]? = some x) (hfit : k + 1 + m ≤ ws.length) (hsm : ws.length ≤ 256)
    (hC : ∀ X, Below w0.heap.size w0 X → X.cell? ⟨b7, 0, none⟩ = some (.slice aM nM cM) ∧ X.cell? ⟨b3, 0, none⟩ = some (.int .i64 fn)) (hB : Below w0.heap.size w0 w) :
    Calls Try.prog 51 #[.int .i64 k, .pointer (some ⟨b7, 0, none⟩), .pointer (some ⟨b3, 0, none⟩)] w fun e w' => e = .returned (.bool ((m : Int) != fn)) ∧ Below w.heap.size w w' := by
  obtain ⟨fs, hfl, hfx⟩ := hf
  obtain ⟨af, cf, _, hQ⟩ := aFields_fix w0 _ ws fs k m n hw hn hh hm hfl hfx hfit hsm
  have HQ := Lib.hid hQ
  have HC := Lib.hid hC
  have HB := Lib.hid hB
  have HBd := Lib.hid hB.drew
  obtain ⟨c0, c1⟩ := hC w hB
  clear hfl hfx hQ hw hn hh hm hfit hsm hC hB
  go_enter Try.func51, Try.ntmps51
  go_wp2
  go_region_held3 (fun X => X.cell? ⟨b7, 0, none⟩ = some (.slice aM nM cM) ∧ X.cell? ⟨b3, 0, none⟩ = some (.int .i64 fn))
    (first | exact HC.out _ HBd.out | exact HC.out _ hB2)
    (first
      | (go_at_call 49
         with_reducible refine (HQ.out _ HBd.out).mono ?_
         rintro e w2 ⟨rfl, hb2⟩
         have hB2 := HBd.out.trans (hb2.mono HBd.out.size)
         have hB3 := ((Below.refl w.heap.size w).drew).trans hb2
         clear hb2))
  have HB3 := Lib.hid hB3
  clear hB2 hB3 HQ HC HB HBd c0 c1
  go_wp2
  go_ret
  exact ⟨rfl, HB3.out⟩
set_option maxRecDepth 100000 in
set_option maxHeartbeats 1000000 in
/-- Does an object live? -/
theorem lives_any (w : World) (b7 g o nM cM : Nat) (k : Nat) (n : Int) (hh : isHead n) (hk : k < nM) (hc : w.cell? ⟨b7, 0, none⟩ = some (.slice (some ⟨g, o, none⟩) nM cM)) (hd : w.cell? ⟨g, o + k, none⟩ = some (.int .u64 n)) :
    Calls Try.prog 52 #[.int .i64 k, .pointer (some ⟨b7, 0, none⟩)] w fun e w' => e = .returned (.bool (n / 256 % 2 == 1)) ∧ w' = w := by
  have HB := Lib.hid (mbit_any n w hh)
  have hk2 : (k : Int) < nM := by omega
  clear hh
  go_enter Try.func52, Try.ntmps52
  go_wp2_with fail
  refine HB.out.mono ?_
  rintro e w2 ⟨rfl, rfl⟩
  clear HB
  go_wp2
  go_ret
  exact ⟨rfl, rfl⟩
end Go.Proofs.Ytgdodbdipbomfaa
