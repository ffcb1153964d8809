/- Free words: how, pick and the search, walked. -/
import Derived.Test.YtmbcfbehchpfbaaUh
import Derived.Laws.EntriesVeiled
namespace Go.Proofs.Ytmbcfbehchpfbaa
open Go.RowKit

theorem callF (f : Nat) (h : ∀ args w, (callFunc f args).run Try.prog w = .ok (.enter f args) w) (w : World) (rk : Nat × Nat → Int) (bxs : Array Value)
    (hc : ∀ wr, Below w.heap.size w wr → ∀ a b : Nat × Nat, Calls Try.prog f (#[blk a, blk b] ++ bxs) wr fun e w' => ∃ c : Int, e = .returned (.int .i64 c) ∧ (c < 0 ↔ rk a < rk b) ∧ Below wr.heap.size wr w') : HowOk w (.func (.func f) #[] bxs) rk := ⟨f, bxs, rfl, h, hc⟩
def HowSays (pol : Int) (last : Nat) (w : World) (e : Ending) (w' : World) : Prop := ∃ v, e = .returned (.tuple #[v, .bool true]) ∧ HowOk w' v (rankF pol last) ∧ Below w.heap.size w w'
set_option maxRecDepth 100000 in
set_option maxHeartbeats 1000000 in
theorem how_yes (pol : Int) (last Bl : Nat) (w : World) (hp : 1 ≤ pol ∧ pol ≤ 4) (h2 : w.cell? ⟨Bl, 2, none⟩ = some (.int .i64 (last : Int))) (z2 : Bl < w.heap.size) :
    Calls Try.prog 32 #[.pointer (some ⟨Bl, 0, none⟩), .int .i64 pol] w (HowSays pol last w) := by
  have hp4 : pol = 1 ∨ pol = 2 ∨ pol = 4 ∨ pol = 3 := by omega
  have H2 := Lib.hid h2
  clear h2 hp
  rcases hp4 with rfl | rfl | rfl | rfl
  · go_enter Try.func32, Try.ntmps32
    go_wp2
    go_ret2
    refine ⟨_, rfl, callF _ (fun _ _ => rfl) _ _ _ fun wr hb a b => (how1_any a b wr).mono ?_, (by repeat (first | exact Below.refl _ _ | refine Below.setCell ?_ (by first | exact Nat.le_refl _ | (simp; done) | (simp; omega) | (simp at *; omega)) _ | refine Below.alloc ?_ (by first | exact Nat.le_refl _ | (simp; done) | (simp; omega) | (simp at *; omega)) _ | refine Below.drew ?_ | refine Below.trans ?_ (Below.mono (by assumption) (by first | exact Nat.le_refl _ | (simp; done) | (simp; omega) | (simp at *; omega)))))⟩
    rintro e w' ⟨rfl, hb2⟩
    exact ⟨_, rfl, by simp [rankF], hb2⟩
  · go_enter Try.func32, Try.ntmps32
    go_wp2
    go_ret2
    refine ⟨_, rfl, callF _ (fun _ _ => rfl) _ _ _ fun wr hb a b => (how2_any a b wr).mono ?_, (by repeat (first | exact Below.refl _ _ | refine Below.setCell ?_ (by first | exact Nat.le_refl _ | (simp; done) | (simp; omega) | (simp at *; omega)) _ | refine Below.alloc ?_ (by first | exact Nat.le_refl _ | (simp; done) | (simp; omega) | (simp at *; omega)) _ | refine Below.drew ?_ | refine Below.trans ?_ (Below.mono (by assumption) (by first | exact Nat.le_refl _ | (simp; done) | (simp; omega) | (simp at *; omega)))))⟩
    rintro e w' ⟨rfl, hb2⟩
    exact ⟨_, rfl, by rw [cmp3_lt]; simp [rankF], hb2⟩
  · go_enter Try.func32, Try.ntmps32
    go_wp2
    go_ret2
    refine ⟨_, rfl, callF _ (fun _ _ => rfl) _ _ _ fun wr hb a b => (how3_any a b wr).mono ?_, (by repeat (first | exact Below.refl _ _ | refine Below.setCell ?_ (by first | exact Nat.le_refl _ | (simp; done) | (simp; omega) | (simp at *; omega)) _ | refine Below.alloc ?_ (by first | exact Nat.le_refl _ | (simp; done) | (simp; omega) | (simp at *; omega)) _ | refine Below.drew ?_ | refine Below.trans ?_ (Below.mono (by assumption) (by first | exact Nat.le_refl _ | (simp; done) | (simp; omega) | (simp at *; omega)))))⟩
    rintro e w' ⟨rfl, hb2⟩
    exact ⟨_, rfl, by rw [cmp3_lt]; simp [rankF], hb2⟩
  · go_enter Try.func32, Try.ntmps32
    go_wp2
    go_ret2
    refine ⟨_, rfl, callF _ (fun _ _ => rfl) _ _ _ fun wr hb a b => (how5_any (w.heap.size + 1) w.heap.size Bl last a b wr ?_ ?_ ?_ ?_ ?_ ?_).mono ?_, (by repeat (first | exact Below.refl _ _ | refine Below.setCell ?_ (by first | exact Nat.le_refl _ | (simp; done) | (simp; omega) | (simp at *; omega)) _ | refine Below.alloc ?_ (by first | exact Nat.le_refl _ | (simp; done) | (simp; omega) | (simp at *; omega)) _ | refine Below.drew ?_ | refine Below.trans ?_ (Below.mono (by assumption) (by first | exact Nat.le_refl _ | (simp; done) | (simp; omega) | (simp at *; omega)))))⟩
    · rw [hb.cell (p := ⟨_, _, none⟩) (by simp)]; simp
    · rw [hb.cell (p := ⟨_, _, none⟩) (by simp; omega)]; simp
    · rw [hb.cell (p := ⟨_, _, none⟩) (by simp; omega)]; exact ((show Below w.heap.size w _ from (by repeat (first | exact Below.refl _ _ | refine Below.setCell ?_ (by first | exact Nat.le_refl _ | (simp; done) | (simp; omega) | (simp at *; omega)) _ | refine Below.alloc ?_ (by first | exact Nat.le_refl _ | (simp; done) | (simp; omega) | (simp at *; omega)) _ | refine Below.drew ?_ | refine Below.trans ?_ (Below.mono (by assumption) (by first | exact Nat.le_refl _ | (simp; done) | (simp; omega) | (simp at *; omega)))))).cell (p := ⟨_, _, none⟩) z2).trans H2.out
    · have := hb.size; simp at this; omega
    · have := hb.size; simp at this; omega
    · have := hb.size; simp at this; omega
    · rintro e w' ⟨rfl, hb2⟩
      refine ⟨_, rfl, ?_, hb2⟩
      rw [cmp3_lt]; simp [rankF, lateN]
set_option maxHeartbeats 1000000 in
theorem how_no (pol : Int) (Bl : Nat) (w : World) (hp : ¬ (1 ≤ pol ∧ pol ≤ 4)) :
    Calls Try.prog 32 #[.pointer (some ⟨Bl, 0, none⟩), .int .i64 pol] w fun e w' => e = .returned (.tuple #[.nilFunc, .bool false]) ∧ Below w.heap.size w w' := by
  have q1 : (pol == 1) = false := beq_eq_false_iff_ne.2 (by omega)
  have q2 : (pol == 2) = false := beq_eq_false_iff_ne.2 (by omega)
  have q3 : (pol == 4) = false := beq_eq_false_iff_ne.2 (by omega)
  have q4 : (pol == 3) = false := beq_eq_false_iff_ne.2 (by omega)
  clear hp
  go_enter Try.func32, Try.ntmps32
  go_wp2
  go_ret2
  exact ⟨rfl, (by repeat (first | exact Below.refl _ _ | refine Below.setCell ?_ (by first | exact Nat.le_refl _ | (simp; done) | (simp; omega) | (simp at *; omega)) _ | refine Below.alloc ?_ (by first | exact Nat.le_refl _ | (simp; done) | (simp; omega) | (simp at *; omega)) _ | refine Below.drew ?_ | refine Below.trans ?_ (Below.mono (by assumption) (by first | exact Nat.le_refl _ | (simp; done) | (simp; omega) | (simp at *; omega)))))⟩

/-! ### where one is put in -/
theorem below_lt {fr : List (Nat × Nat)} {x : Int} {i : Nat} (h : Rise fr) {b : Nat × Nat} (hb : fr[i]? = some b) : (b.1 : Int) < x ↔ i < belowF fr x := by
  unfold Rise at h
  unfold belowF
  induction fr generalizing i with
  | nil => simp at hb
  | cons y fr ih =>
    rw [List.pairwise_cons] at h
    rw [List.countP_cons]
    have key : ∀ c ∈ fr, y.1 < c.1 := fun c hc => by have := h.1 c hc; omega
    cases i with
    | zero =>
      simp at hb; subst hb
      by_cases h1 : (y.1 : Int) < x
      · simp [h1]
      · have h0 : fr.countP (fun b => decide ((b.1 : Int) < x)) = 0 := by
          rw [List.countP_eq_zero]; intro c hc; have := key c hc; simp; omega
        simp [h1, h0]
    | succ i =>
      have hb' : fr[i]? = some b := by simpa using hb
      have := ih (i := i) h.2 hb'
      by_cases h1 : (y.1 : Int) < x
      · simp [h1]; exact this
      · have h0 : fr.countP (fun b => decide ((b.1 : Int) < x)) = 0 := by
          rw [List.countP_eq_zero]; intro c hc; have := key c hc; simp; omega
        have := key b (List.mem_of_getElem? hb')
        simp [h1, h0]; omega
theorem below_le (fr : List (Nat × Nat)) (x : Int) : belowF fr x ≤ fr.length := List.countP_le_length
def SrchSays (i : Nat) (w : World) (e : Ending) (w' : World) : Prop := ∃ b, e = .returned (.tuple #[.int .i64 (i : Int), .bool b]) ∧ Below w.heap.size w w'
set_option maxRecDepth 100000 in
set_option maxHeartbeats 1000000 in
theorem search_blk (v : Value) (fr : List (Nat × Nat)) (x : Int) (w : World) (hv : IsTup 2 encB w v fr) (hr : Rise fr) (hl : fr.length ≤ 1000) :
    Calls Try.prog 52 #[v, .int .i64 x, .func (.func 53) #[] #[]] w (SrchSays (belowF fr x) w) := by
  obtain ⟨n, hn⟩ : ∃ n, fr.length = n := ⟨_, rfl⟩
  obtain ⟨p, hp⟩ : ∃ p, belowF fr x = p := ⟨_, rfl⟩
  have hpn : p ≤ n := by have := below_le fr x; omega
  obtain ⟨a, cap, rfl, hm⟩ := hv.slice
  have Hlt : Hid (∀ i b, fr[i]? = some b → ((b.1 : Int) < x ↔ i < p)) := fun i b hb => by rw [← hp]; exact below_lt hr hb
  have Hv := Lib.hid hv
  have HN := Lib.hid hn
  rw [hp]
  rw [hn] at hl hm ⊢
  clear hv hr hn hp
  go_enter Try.func52, Try.ntmps52
  go_wp2
  go_loopw [9, 10] (fun i j wr => ∃ (i0 j0 : Nat), i0 ≤ p ∧ p ≤ j0 ∧ j0 ≤ n ∧ i = .int .i64 (i0 : Int) ∧ j = .int .i64 (j0 : Int) ∧ Below w.heap.size w wr) (fun i j _ => (intOf j - intOf i).toNat)
  case atStart => exact ⟨0, n, Nat.zero_le _, hpn, Nat.le_refl _, rfl, rfl, Below.refl _ _⟩
  case round =>
    obtain ⟨i0, j0, h1, h2, h3, rfl, rfl, hB⟩ := hrel
    by_cases hlt : i0 < j0
    · obtain ⟨b, hb⟩ := get_some fr ((i0 + j0) / 2) (by rw [HN.out]; omega)
      obtain ⟨bb, off, cap2, he, _, hz, hc⟩ := Hv.out.at hB hb
      cases he
      have c0 := hc 0 _ rfl
      have c1 := hc 1 _ rfl
      rw [Nat.add_zero] at c0
      have Hb := Lib.hid (Hlt.out _ b hb)
      have HB := Lib.hid hB
      clear hc hb hB
      go_wp2_with fail
      refine (give1_any b x wr).mono ?_
      rintro e w2 ⟨rfl, hb2⟩
      have HB2 := Lib.hid (HB.out.trans (hb2.mono HB.out.size))
      clear hb2 c0 c1
      obtain ⟨c, hcx⟩ : ∃ c, cmp3 (b.1 : Int) x = c := ⟨_, rfl⟩
      have hci : c < 0 ↔ (i0 + j0) / 2 < p := by rw [← hcx, cmp3_lt]; exact Hb.out
      rw [hcx]
      clear hcx
      by_cases hc0 : c < 0
      · have hp := hci.1 hc0
        clear hci
        go_wp2
        go_roundw
        case rel => exact ⟨(i0 + j0) / 2 + 1, j0, by omega, h2, h3, by go_num, rfl, HB2.out⟩
        case measure => simp [intOf]; omega
      · have hp : ¬ (i0 + j0) / 2 < p := fun h => hc0 (hci.2 h)
        clear hci
        go_wp2
        go_roundw
        case rel => exact ⟨i0, (i0 + j0) / 2, h1, by omega, by omega, rfl, by go_num, HB2.out⟩
        case measure => simp [intOf]; omega
    · obtain rfl : i0 = p := by omega
      obtain rfl : j0 = i0 := by omega
      by_cases hn : j0 < n
      · obtain ⟨b, hb⟩ := get_some fr j0 (by rw [HN.out]; omega)
        obtain ⟨bb, off, cap2, he, _, hz, hc⟩ := Hv.out.at hB hb
        cases he
        have c0 := hc 0 _ rfl
        have c1 := hc 1 _ rfl
        rw [Nat.add_zero] at c0
        have HB := Lib.hid hB
        clear hc hb hB
        go_wp2_with fail
        refine (give1_any b x wr).mono ?_
        rintro e w2 ⟨rfl, hb2⟩
        have HB2 := Lib.hid (HB.out.trans (hb2.mono HB.out.size))
        clear hb2 c0 c1
        go_wp2
        go_ret2
        exact ⟨_, rfl, HB2.out⟩
      · have HB := Lib.hid hB
        clear hB
        go_wp2
        go_ret2
        exact ⟨_, rfl, HB.out⟩
end Go.Proofs.Ytmbcfbehchpfbaa
