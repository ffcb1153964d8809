/- Buddies: the yard, and the first place at a level, walked. -/
import Derived.Test.YtmbcfbehchpfbaaXc
import Derived.Test.YtmbcfbehchpfbaaMr
import Derived.Test.YtmbcfbehchpfbaaUj
import Derived.Deep.LoopGhost
namespace Go.Proofs.Ytmbcfbehchpfbaa
open Go.RowKit Go.Maps

/-- Which places are free at a level, as a map tells it. -/
def frV (f : Nat → Bool) : Int → Option Value := fun x => if 0 ≤ x ∧ f x.toNat = true then some (.int .i64 1) else none
theorem frV_nat (f : Nat → Bool) (p : Nat) : frV f (p : Int) = if f p = true then some (.int .i64 1) else none := by
  unfold frV; simp
theorem frV_some {f : Nat → Bool} {x : Int} {v : Value} (h : frV f x = some v) : ∃ p : Nat, x = (p : Int) ∧ f p = true ∧ v = .int .i64 1 := by
  unfold frV at h
  split at h
  · rename_i hc
    cases h
    exact ⟨x.toNat, by omega, hc.2, rfl⟩
  · cases h
def FirstSays (B : Nat) (w0 : World) (L : List Ent) (r : Int) (e : Ending) (w' : World) : Prop := e = .returned (.int .i64 r) ∧ Mem B w0 w' L
set_option maxRecDepth 100000 in
set_option maxHeartbeats 2000000 in
theorem first_any (B : Nat) (w0 w : World) (L : List Ent) (i b n : Nat) (f : Nat → Bool) (N : Nat) (hN : N ≤ 1000) (hM : Mem B w0 w L) (hi : L[i]? = some (gmap mapII b n (frV f))) (hf : ∀ p, f p = true → p < N) :
    Calls Try.prog 73 #[.map (some b)] w (FirstSays B w0 L (optI (minAt f N))) := by
  have HM := Lib.hid hM
  have Hi := Lib.hid hi
  have Hf := Lib.hid hf
  clear hM hi hf
  go_enter Try.func73, Try.ntmps73
  go_wp2_with (at_range; refine Mem.wp_rangeG (M := mapII) rfl _ rfl HM.out i Hi.out rfl ?_; intro w5 r cn mo ro hM9 hR9 hcnt hr9 hs9 hb9)
  go_frame
  have HM9 := Lib.hid hM9
  have HR9 := Lib.hid hR9
  clear hM9 hR9 hr9 hb9 hcnt hs9
  go_loopg [3] cn (fun gk s3 wr => ∃ (left : Int → Bool) (ro : Obj) (best : Int), s3 = .int .i64 best ∧ (best = -1 ∨ ∃ p : Nat, best = (p : Int) ∧ p < N ∧ f p = true) ∧ (∀ p : Nat, f p = true → left (p : Int) = false → 0 ≤ best ∧ best ≤ (p : Int)) ∧ Ranging mapII b r n (frV f) left gk mo ro ∧ Mem B w0 wr (efix r ro :: L.set i (efix b mo)))
  case atStart => exact ⟨_, _, -1, rfl, .inl rfl, (fun p hp hl => by rw [frV_nat, if_pos hp] at hl; cases hl), HR9.out, HM9.out⟩
  case round =>
    clear HM9 HR9
    obtain ⟨left, ro5, best, rfl, hb0, hb1, hR, hM⟩ := hrel
    have HMr := Lib.hid hM
    have HR := Lib.hid hR
    have HB0 := Lib.hid hb0
    have HB1 := Lib.hid hb1
    have hbb : best = -1 ∨ (0 ≤ best ∧ best < 1000) := by rcases hb0 with h | ⟨p, h1, h2, _⟩ <;> omega
    have hkl : i < L.length := (List.getElem?_eq_some_iff.1 Hi.out).1
    have hkm : (efix r ro5 :: L.set i (efix b mo))[i + 1]? = some (efix b mo) := by simp [hkl]
    have Hkm := Lib.hid hkm
    clear hM hR hb0 hb1 hkm
    go_wp2_with (first
      | (at_next; refine Mem.wp_nextII rfl _ rfl HMr.out 0 (i + 1) rfl Hkm.out HR.out rfl ?_ ?_; (focus (intro hc0 hl0)); rotate_left; (focus (intro x v w6 c6 ro6 hx6 hl6 hf6 hM11 hR11 hlt6 hs6 hen6; obtain ⟨p, rfl, hp, rfl⟩ := frV_some hf6))))
    · go_roundg c6
      case rel => exact ⟨_, ro6, (p : Int), rfl, .inr ⟨p, rfl, Hf.out p hp, hp⟩, (fun q hq hl => by
        by_cases hqp : (q : Int) = (p : Int)
        · omega
        · have := HB1.out q hq (by simpa [hqp] using hl)
          omega), hR11, hM11⟩
      case measure => exact hlt6
    · go_roundg c6
      case rel => exact ⟨_, ro6, best, rfl, HB0.out, (fun q hq hl => by
        by_cases hqp : (q : Int) = (p : Int)
        · omega
        · have := HB1.out q hq (by simpa [hqp] using hl)
          omega), hR11, hM11⟩
      case measure => exact hlt6
    · go_roundg c6
      case rel => exact ⟨_, ro6, (p : Int), rfl, .inr ⟨p, rfl, Hf.out p hp, hp⟩, (fun q hq hl => by
        by_cases hqp : (q : Int) = (p : Int)
        · omega
        · have := HB1.out q hq (by simpa [hqp] using hl)
          omega), hR11, hM11⟩
      case measure => exact hlt6
    · have hMe := HMr.out.rangeEnd (i + 1) Hkm.out HR.out
      have hMe2 : Mem B w0 wr L := (hMe.drop (L' := L) (by
        have e : (efix r ro5 :: L.set i (efix b mo)).set (i + 1) (gmap mapII b n (frV f)) = efix r ro5 :: L := by
          rw [List.set_cons_succ, List.set_set]
          congr 1
          have hx : L[i] = gmap mapII b n (frV f) := by have := Hi.out; rw [List.getElem?_eq_getElem hkl] at this; exact Option.some.inj this
          rw [← hx, List.set_getElem_self]
        rw [e]; exact List.sublist_cons_self _ _))
      have hres : best = optI (minAt f N) := by
        have hb1 := HB1.out
        cases hmin : minAt f N with
        | none =>
          have hno := minAt_none hmin
          rcases HB0.out with h | ⟨p, h1, h2, h3⟩
          · exact h
          · rw [hno p h2] at h3; cases h3
        | some q =>
          obtain ⟨h1, h2, h3⟩ := minAt_some hmin
          have hq := hb1 q h2 (hl0 _ (by unfold i64ok; omega))
          rcases HB0.out with h | ⟨p, h4, h5, h6⟩
          · omega
          · rcases Nat.lt_or_ge p q with h7 | h7
            · rw [h3 p h7] at h6; cases h6
            · unfold optI; simp only []; omega
      go_ret
      exact ⟨by rw [← hres]; rfl, hMe2⟩
end Go.Proofs.Ytmbcfbehchpfbaa
