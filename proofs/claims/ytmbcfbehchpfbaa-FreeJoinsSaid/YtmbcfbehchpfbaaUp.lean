/- FreeJoins, walked. -/
import Derived.Test.YtmbcfbehchpfbaaUo
namespace Go.Proofs.Ytmbcfbehchpfbaa
open Go.RowKit

set_option maxRecDepth 100000 in
set_option maxHeartbeats 1000000 in
theorem freeJoins_yes (size pol : Int) (v : Value) (l : List (Int × Int)) (w : World) (hl : IsTup 2 encA w v l) (h64 : AsksOk l) :
    Calls Try.prog 4 #[.int .i64 size, .int .i64 pol, v] w fun e w' => e = .returned (.bool true) ∧ Below w.heap.size w w' := by
  have HP := Lib.hid (fplay_any size pol v l w hl h64)
  obtain ⟨al, cl, rfl, hlm⟩ := hl.slice
  clear hl h64
  go_enter Try.func4, Try.ntmps4
  go_wp2_with fail
  with_reducible refine HP.out.mono ?_
  rintro e w1 ⟨cv, av, fv, rfl, hb1, hor⟩
  clear HP
  rcases hor with ⟨hne, rfl, rfl, rfl⟩ | ⟨he, N, rfl, hN1, hN2, hp, hn, hC, hA, hF⟩
  · have q1 : (errF size pol l.length != 0) = true := by simpa using hne
    have HB := Lib.hid hb1
    clear hne hb1
    go_wp2
    go_ret
    exact ⟨rfl, HB.out.alloc HB.out.size _⟩
  · have q1 : (errF (N : Int) pol l.length != 0) = false := by simp [he]
    have hI := freeInv hN1 pol l l.length (Nat.le_refl _)
    obtain ⟨aC, cC, rfl, _⟩ := hC.slice
    obtain ⟨aA, cA, rfl, _⟩ := hA.slice
    obtain ⟨fr, hfr⟩ : ∃ fr, (stateF N pol l l.length).fr = fr := ⟨_, rfl⟩
    have hends := hI.ends
    have hrise := hI.rise
    have hlen := hI.len
    rw [hfr] at hends hrise hF hlen
    obtain ⟨m, hm⟩ : ∃ m, fr.length = m := ⟨_, rfl⟩
    obtain ⟨aF, cF, rfl, _⟩ := hF.slice
    rw [hm] at hlen hF ⊢
    have hm2 : m ≤ 129 := by omega
    rw [codesF_len, atsF_len] at *
    have HF := Lib.hid hF
    have HR := Lib.hid hrise
    have HE := Lib.hid hends
    have HM := Lib.hid hm
    obtain ⟨b1, hb1e⟩ : ∃ b1, w1.heap.size = b1 := ⟨_, rfl⟩
    obtain ⟨W1, hW1⟩ : ∃ W1, w1.alloc (.cells #[.slice aC l.length cC, .slice aA l.length cA, .slice aF m cF] 27) = W1 := ⟨_, rfl⟩
    have c0 : W1.cell? ⟨b1, 0, none⟩ = some (.slice aC l.length cC) := by rw [← hW1, ← hb1e]; simp
    have c2 : W1.cell? ⟨b1, 2, none⟩ = some (.slice aF m cF) := by rw [← hW1, ← hb1e]; simp
    have z1 : b1 < W1.heap.size := by rw [← hW1, ← hb1e]; simp
    have hB := hb1.alloc hb1.size (.cells #[.slice aC l.length cC, .slice aA l.length cA, .slice aF m cF] 27)
    rw [hW1] at hB
    have hF1 : IsTup 2 encB W1 (.slice aF m cF) fr := hF.later (hW1 ▸ (Below.refl w1.heap.size w1).alloc (Nat.le_refl _) _)
    have HF1 := Lib.hid hF1
    have HB := Lib.hid hB
    have HW1 := Lib.hid hW1
    have Hb1 := Lib.hid hb1e
    clear hF hrise hends hm hb1e hW1 hF1 hB hb1 HF hI hfr he hC hA
    go_wp2_with fail
    rw [HW1.out, Hb1.out]
    go_loopw [9] (fun i wr => ∃ k : Nat, 1 ≤ k ∧ (k ≤ m ∨ k = 1) ∧ i = .int .i64 (k : Int) ∧ Below W1.heap.size W1 wr) (fun i _ => m - (intOf i).toNat)
    case atStart => exact ⟨1, Nat.le_refl _, .inr rfl, rfl, Below.refl _ _⟩
    case round =>
      obtain ⟨k, hk1, hk2, rfl, hB2⟩ := hrel
      have d0 : wr.cell? ⟨b1, 0, none⟩ = some (.slice aC l.length cC) := (hB2.cell (p := ⟨_, _, none⟩) z1).trans c0
      have d2 : wr.cell? ⟨b1, 2, none⟩ = some (.slice aF m cF) := (hB2.cell (p := ⟨_, _, none⟩) z1).trans c2
      have dz : b1 < wr.heap.size := Nat.lt_of_lt_of_le z1 hB2.size
      by_cases hlt : k < m
      · obtain ⟨j, rfl⟩ : ∃ j, k = j + 1 := ⟨k - 1, by omega⟩
        obtain ⟨x, hx⟩ := get_some fr j (by rw [HM.out]; omega)
        obtain ⟨y, hy⟩ := get_some fr (j + 1) (by rw [HM.out]; omega)
        obtain ⟨bb, off, cap2, hv, _, hz, hcx⟩ := HF1.out.at hB2 hx
        obtain ⟨bb', off', cap2', hv', _, _, hcy⟩ := HF1.out.at hB2 hy
        rw [HM.out] at hv hv'
        cases hv
        cases hv'
        have x0 := hcx 0 _ rfl
        have x1 := hcx 1 _ rfl
        have y0 := hcy 0 _ rfl
        rw [Nat.add_zero] at x0 y0
        have hxy : x.1 + x.2 < y.1 := by
          have := List.pairwise_iff_getElem.1 HR.out j (j + 1) (by rw [HM.out]; omega) (by rw [HM.out]; omega) (by omega)
          rw [(List.getElem?_eq_some_iff.1 hx).2, (List.getElem?_eq_some_iff.1 hy).2] at this
          exact this
        have hx256 := HE.out x (List.mem_of_getElem? hx)
        have w1' : IntKind.i64.wrap (((j + 1 : Nat) : Int) - 1) = (j : Int) := by rw [IntKind.wrap_i64]; omega
        have w2' : ((j + 1 : Nat) : Int) - 1 = (j : Int) := by omega
        have w3' : IntKind.i64.wrap ((x.1 : Int) + (x.2 : Int)) = (x.1 : Int) + (x.2 : Int) := by rw [IntKind.wrap_i64]; omega
        have qf : decide ((x.1 : Int) + (x.2 : Int) ≥ (y.1 : Int)) = false := decide_eq_false (by omega)
        have r1 : j < m := by omega
        have r2 : (j : Int) < (m : Int) := by omega
        have r3 : (0 : Int) ≤ (j : Int) := by omega
        have r4 : (j : Int) + 1 < (m : Int) := by omega
        have HB2 := Lib.hid hB2
        clear hB2 hx hy hcx hcy
        go_wp2
        go_quiet (fail)
        go_wp2
        go_roundw
        case rel => exact ⟨j + 1 + 1, by omega, .inl (by omega), by go_num, below_drewN HB2.out _⟩
        case measure => simp [intOf]; omega
      · have HB2 := Lib.hid (HB.out.trans (hB2.mono HB.out.size))
        clear hB2
        go_wp2
        go_ret
        exact ⟨by simp, HB2.out⟩
theorem freeJoins_walk (W : World) (v0 v1 v2 : Value) (g0 : ∃ x : Int, v0 = .int .i64 x ∧ i64ok x) (g1 : ∃ x : Int, v1 = .int .i64 x ∧ i64ok x) (g2 : ∃ l : List (Int × Int), IsTup 2 encA W v2 l ∧ AsksOk l ∧ l.length ≤ 17592186044416) :
    Calls Try.prog 4 #[v0, v1, v2] W fun e w' => e = .returned (.bool true) ∧ Below W.heap.size W w' := by
  obtain ⟨x, rfl, _⟩ := g0
  obtain ⟨y, rfl, _⟩ := g1
  obtain ⟨l, hl, h64, _⟩ := g2
  exact freeJoins_yes x y v2 l W hl h64
end Go.Proofs.Ytmbcfbehchpfbaa
