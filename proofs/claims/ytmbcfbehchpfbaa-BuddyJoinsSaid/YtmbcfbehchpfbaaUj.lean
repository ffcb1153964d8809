/- Free words: pick, walked. -/
import Derived.Test.YtmbcfbehchpfbaaUi
namespace Go.Proofs.Ytmbcfbehchpfbaa
open Go.RowKit

def optI : Option Nat → Int
  | none => -1
  | some i => (i : Int)
def PickSays (r : Int) (w : World) (e : Ending) (w' : World) : Prop := e = .returned (.int .i64 r) ∧ Below w.heap.size w w'
set_option maxRecDepth 100000 in
set_option maxHeartbeats 1000000 in
theorem pick_any (Bl : Nat) (v hv : Value) (fr : List (Nat × Nat)) (pol : Int) (last nn : Nat) (w : World) (hv0 : IsTup 2 encB w v fr) (hl : fr.length ≤ 1000) (hH : HowOk w hv (rankF pol last))
    (h0 : w.cell? ⟨Bl, 0, none⟩ = some v) (z0 : Bl < w.heap.size) :
    Calls Try.prog 50 #[.pointer (some ⟨Bl, 0, none⟩), .int .i64 (nn : Int), hv] w (PickSays (optI (pickTo pol last nn fr fr.length)) w) := by
  obtain ⟨f, bxs, rfl, hent, hcall⟩ := hH
  obtain ⟨n, hn⟩ : ∃ n, fr.length = n := ⟨_, rfl⟩
  obtain ⟨a, cap, rfl, hm⟩ := hv0.slice
  have Hv := Lib.hid hv0
  have HN := Lib.hid hn
  have HC := Lib.hid hcall
  rw [hn] at hl hm h0 ⊢
  clear hv0 hn hcall
  go_enter Try.func50, Try.ntmps50
  go_wp2
  go_loopw [7, 15] (fun b i wr => ∃ k : Nat, k ≤ n ∧ b = .int .i64 (optI (pickTo pol last nn fr k)) ∧ i = .int .i64 (k : Int) ∧ Below w.heap.size w wr) (fun _ i _ => n - (intOf i).toNat)
  case atStart => exact ⟨0, Nat.zero_le _, rfl, rfl, Below.refl _ _⟩
  case round =>
    obtain ⟨k, hk, rfl, rfl, hB⟩ := hrel
    by_cases hlt : k < n
    · obtain ⟨b, hb⟩ := get_some fr k (by rw [HN.out]; omega)
      obtain ⟨bb, off, cap2, he, _, hz, hc⟩ := Hv.out.at hB hb
      cases he
      have c0 := hc 0 _ rfl
      have c1 := hc 1 _ rfl
      rw [Nat.add_zero] at c0
      have hgd : fr.getD k (0, 0) = b := by rw [List.getD_eq_getElem?_getD, hb]; rfl
      have hpk : pickTo pol last nn fr (k + 1) = if nn ≤ b.2 ∧ ratherF pol last fr k (pickTo pol last nn fr k) = true then some k else pickTo pol last nn fr k := by rw [← hgd]; rfl
      have d0 : wr.cell? ⟨Bl, 0, none⟩ = some (.slice (some ⟨bb, off, none⟩) n cap) := (hB.cell (p := ⟨_, _, none⟩) z0).trans h0
      have dz : Bl < wr.heap.size := Nat.lt_of_lt_of_le z0 hB.size
      have HB := Lib.hid hB
      by_cases hn : nn ≤ b.2
      · have q1 : decide ((b.2 : Int) ≥ (nn : Int)) = true := decide_eq_true (by omega)
        have q1n : decide (nn ≤ b.2) = true := decide_eq_true hn
        cases hp : pickTo pol last nn fr k with
        | none =>
          rw [hp, if_pos ⟨hn, rfl⟩] at hpk
          have HP := Lib.hid hpk
          have q2 : decide ((-1 : Int) < 0) = true := rfl
          clear hpk hp hgd hc hb hB hn
          unfold optI
          simp only []
          go_wp2
          go_quiet (fail)
          go_wp2
          go_roundw
          case rel => exact ⟨k + 1, by omega, by rw [HP.out], by go_num, below_drewN (HB.out.alloc HB.out.size _) _⟩
          case measure => simp [intOf]; omega
        | some j =>
          rw [hp] at hpk
          obtain ⟨hjk, _, _⟩ := pick_some hp
          obtain ⟨b2, hb2⟩ := get_some fr j (by rw [HN.out]; omega)
          obtain ⟨bb', off', cap', he, _, _, hc2⟩ := Hv.out.at hB hb2
          cases he
          have e0 := hc2 0 _ rfl
          have e1 := hc2 1 _ rfl
          rw [Nat.add_zero] at e0
          have hgd2 : fr.getD j (0, 0) = b2 := by rw [List.getD_eq_getElem?_getD, hb2]; rfl
          have hra : ratherF pol last fr k (some j) = decide (rankF pol last b < rankF pol last b2) := by simp only [ratherF, hgd, hgd2]
          rw [hra] at hpk
          have HP := Lib.hid hpk
          have q2 : decide ((j : Int) < 0) = false := decide_eq_false (by omega)
          have q2b : ((j : Int) < 0) = False := by simp
          have q3 : (0 : Int) ≤ (j : Int) := by omega
          have q4 : j < n := by omega
          have q5 : (j : Int) < (n : Int) := by omega
          have hBx : Below w.heap.size w (wr.alloc (.cells #[.int .i64 (b.1 : Int), .int .i64 (b.2 : Int)] 34)).drew := (HB.out.alloc HB.out.size _).drew
          have HCx := Lib.hid (HC.out _ hBx b b2)
          have HBx := Lib.hid hBx
          have Hn2 := Lib.hid hn
          clear hpk hp hgd hgd2 hra hc hb hb2 hB hn hc2 hBx
          have zb : bb < wr.heap.size := by assumption
          unfold optI
          simp only []
          unfold blk at HCx
          go_wp2
          go_region_held3 (fun X => X.cell? ⟨wr.heap.size, 0, none⟩ = some (.int .i64 (b.1 : Int)) ∧ X.cell? ⟨wr.heap.size, 1, none⟩ = some (.int .i64 (b.2 : Int)) ∧ X.cell? ⟨Bl, 0, none⟩ = some (.slice (some ⟨bb, off, none⟩) n cap) ∧ X.cell? ⟨bb, off + j * 2, none⟩ = some (.int .i64 (b2.1 : Int)) ∧ X.cell? ⟨bb, off + j * 2 + 1, none⟩ = some (.int .i64 (b2.2 : Int)))
            (first | exact ⟨by simp, by simp, ((show Below wr.heap.size wr _ from (by repeat (first | exact Below.refl _ _ | assumption | refine Below.setCell ?_ (by first | exact Nat.le_refl _ | (simp; done) | (simp; omega) | (simp at *; omega)) _ | refine Below.alloc ?_ (by first | exact Nat.le_refl _ | (simp; done) | (simp; omega) | (simp at *; omega)) _ | refine Below.drew ?_))).cell (p := ⟨_, _, none⟩) dz).trans d0, ((show Below wr.heap.size wr _ from (by repeat (first | exact Below.refl _ _ | assumption | refine Below.setCell ?_ (by first | exact Nat.le_refl _ | (simp; done) | (simp; omega) | (simp at *; omega)) _ | refine Below.alloc ?_ (by first | exact Nat.le_refl _ | (simp; done) | (simp; omega) | (simp at *; omega)) _ | refine Below.drew ?_))).cell (p := ⟨_, _, none⟩) zb).trans e0, ((show Below wr.heap.size wr _ from (by repeat (first | exact Below.refl _ _ | assumption | refine Below.setCell ?_ (by first | exact Nat.le_refl _ | (simp; done) | (simp; omega) | (simp at *; omega)) _ | refine Below.alloc ?_ (by first | exact Nat.le_refl _ | (simp; done) | (simp; omega) | (simp at *; omega)) _ | refine Below.drew ?_))).cell (p := ⟨_, _, none⟩) zb).trans e1⟩ | exact ⟨r0, r1, r2, r3, r4⟩)
            (   (go_simp
                 refine HCx.out.mono ?_
                 rintro e w5 ⟨c, rfl, hci, hb5⟩
                 obtain ⟨tt, htt⟩ : ∃ tt, decide (c < 0) = tt := ⟨_, rfl⟩
                 have hct : tt = decide (rankF pol last b < rankF pol last b2) := by rw [← htt]; exact decide_eq_decide.2 hci
                 have HT := Lib.hid hct
                 have HB5 := Lib.hid (HBx.out.trans (hb5.mono HBx.out.size))
                 have r0 : w5.cell? ⟨wr.heap.size, 0, none⟩ = some (.int .i64 (b.1 : Int)) := by rw [hb5.cell (p := ⟨_, _, none⟩) (by simp)]; simp
                 have r1 : w5.cell? ⟨wr.heap.size, 1, none⟩ = some (.int .i64 (b.2 : Int)) := by rw [hb5.cell (p := ⟨_, _, none⟩) (by simp)]; simp
                 have r2 : w5.cell? ⟨Bl, 0, none⟩ = some (.slice (some ⟨bb, off, none⟩) n cap) := by rw [hb5.cell (p := ⟨_, _, none⟩) (by simp; omega)]; exact ((show Below wr.heap.size wr _ from (by repeat (first | exact Below.refl _ _ | assumption | refine Below.setCell ?_ (by first | exact Nat.le_refl _ | (simp; done) | (simp; omega) | (simp at *; omega)) _ | refine Below.alloc ?_ (by first | exact Nat.le_refl _ | (simp; done) | (simp; omega) | (simp at *; omega)) _ | refine Below.drew ?_))).cell (p := ⟨_, _, none⟩) dz).trans d0
                 have r3 : w5.cell? ⟨bb, off + j * 2, none⟩ = some (.int .i64 (b2.1 : Int)) := by rw [hb5.cell (p := ⟨_, _, none⟩) (by simp; omega)]; exact ((show Below wr.heap.size wr _ from (by repeat (first | exact Below.refl _ _ | assumption | refine Below.setCell ?_ (by first | exact Nat.le_refl _ | (simp; done) | (simp; omega) | (simp at *; omega)) _ | refine Below.alloc ?_ (by first | exact Nat.le_refl _ | (simp; done) | (simp; omega) | (simp at *; omega)) _ | refine Below.drew ?_))).cell (p := ⟨_, _, none⟩) zb).trans e0
                 have r4 : w5.cell? ⟨bb, off + j * 2 + 1, none⟩ = some (.int .i64 (b2.2 : Int)) := by rw [hb5.cell (p := ⟨_, _, none⟩) (by simp; omega)]; exact ((show Below wr.heap.size wr _ from (by repeat (first | exact Below.refl _ _ | assumption | refine Below.setCell ?_ (by first | exact Nat.le_refl _ | (simp; done) | (simp; omega) | (simp at *; omega)) _ | refine Below.alloc ?_ (by first | exact Nat.le_refl _ | (simp; done) | (simp; omega) | (simp at *; omega)) _ | refine Below.drew ?_))).cell (p := ⟨_, _, none⟩) zb).trans e1
                 clear hct hci hb5))
          cases tt with
          | true =>
            go_wp2
            go_roundw
            case rel => exact ⟨k + 1, by omega, by rw [HP.out, if_pos ⟨Hn2.out, HT.out.symm⟩], by go_num, HB5.out⟩
            case measure => simp [intOf]; omega
          | false =>
            go_wp2
            go_roundw
            case rel => exact ⟨k + 1, by omega, by rw [HP.out, if_neg (fun h => by have := HT.out; rw [h.2] at this; cases this)], by go_num, HB5.out⟩
            case measure => simp [intOf]; omega
      · have q1 : decide ((b.2 : Int) ≥ (nn : Int)) = false := decide_eq_false (by omega)
        have q1n : decide (nn ≤ b.2) = false := decide_eq_false hn
        rw [if_neg (fun h => hn h.1)] at hpk
        have HP := Lib.hid hpk
        obtain ⟨c, hcx⟩ : ∃ c, optI (pickTo pol last nn fr k) = c := ⟨_, rfl⟩
        have HX := Lib.hid hcx
        rw [hcx]
        clear hpk hgd hc hb hB hn hcx
        go_wp2
        go_quiet (fail)
        go_wp2
        go_roundw
        case rel => exact ⟨k + 1, by omega, by rw [HP.out, HX.out], by go_num, below_drewN (HB.out.alloc HB.out.size _) _⟩
        case measure => simp [intOf]; omega
    · obtain rfl : k = n := by omega
      have HB := Lib.hid hB
      obtain ⟨c, hcx⟩ : ∃ c, optI (pickTo pol last nn fr k) = c := ⟨_, rfl⟩
      have HX := Lib.hid hcx
      clear hB hcx
      rw [HX.out]
      go_wp2
      go_ret
      exact ⟨by rw [HX.out]; rfl, HB.out⟩
end Go.Proofs.Ytmbcfbehchpfbaa
