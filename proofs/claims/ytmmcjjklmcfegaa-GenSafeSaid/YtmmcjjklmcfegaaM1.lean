/- heap.Known, there, wrong, walked. -/
import Derived.Test.YtmmcjjklmcfegaaBase1
namespace Go.Proofs.Ytmmcjjklmcfegaa
open Go.RowKit Go.Shelf

/-- A Do as a value. -/
def dV (d : Dd) : Value := .agg #[.int .i64 d.kind, .int .i64 d.to_, .int .i64 d.frm, .int .i64 d.at_, .int .i64 d.n]
def badR (r : Int) : Bool := decide (r < 0 ∨ 8 ≤ r)

set_option maxRecDepth 100000 in
theorem known_any (k t f a n : Int) (w : World) :
    Calls Try.prog 88 #[.agg #[.int .i64 k, .int .i64 t, .int .i64 f, .int .i64 a, .int .i64 n]] w fun e w' => e = .returned (.bool (decide (1 ≤ k ∧ k ≤ 7))) ∧ Below w.heap.size w w' := by
  have hB := (Below.refl w.heap.size w).alloc (Nat.le_refl _) (.cells #[.int .i64 k, .int .i64 t, .int .i64 f, .int .i64 a, .int .i64 n] 58)
  have HB := Lib.hid hB
  clear hB
  go_enter Try.func88, Try.ntmps88
  by_cases h1 : 1 ≤ k
  · by_cases h2 : k ≤ 7
    · go_wp2
      go_ret
      exact ⟨by simp [h1, h2], HB.out⟩
    · go_wp2
      go_ret
      exact ⟨by simp; omega, HB.out⟩
  · go_wp2
    go_ret
    exact ⟨by simp; omega, HB.out⟩
set_option maxRecDepth 100000 in
theorem there1_any (r : Int) (w : World) : Calls Try.prog 113 #[.int .i64 r] w fun e w' => e = .returned (.bool (badR r)) ∧ Below w.heap.size w w' := by
  go_enter Try.func113, Try.ntmps113
  by_cases h1 : r < 0
  · go_wp2
    go_ret
    exact ⟨by simp [badR, h1], Below.refl _ _⟩
  · by_cases h2 : 8 ≤ r
    · go_wp2
      go_ret
      exact ⟨by simp [badR, h2], Below.refl _ _⟩
    · go_wp2
      go_ret
      exact ⟨by simp [badR, h1, h2], Below.refl _ _⟩
set_option maxRecDepth 100000 in
theorem there_any (v : Value) (r : Int) (w : World) (hl : IsInts w v [r]) : Calls Try.prog 89 #[v] w fun e w' => e = .returned (.bool (!badR r)) ∧ Below w.heap.size w w' := by
  have HC := Lib.hid (containsFunc_any 113 #[] v [r] badR w hl (fun _ _ => rfl) (fun x _ X _ => there1_any x X))
  obtain ⟨b, hb⟩ : ∃ b, badR r = b := ⟨_, rfl⟩
  have Hb := Lib.hid hb
  clear hl
  go_enter Try.func89, Try.ntmps89
  go_wp2_with fail
  refine HC.out.mono ?_
  rintro e w1 ⟨rfl, hb1⟩
  simp only [List.any_cons, List.any_nil, Bool.or_false, hb]
  have HB := Lib.hid hb1
  clear hb1 hb HC
  go_wp2
  go_ret
  exact ⟨by simp [Hb.out], HB.out⟩

theorem badR_yes {r : Int} (h : r < 0 ∨ 8 ≤ r) : badR r = true := by simpa [badR] using h
theorem badR_no {r : Int} (h : ¬ (r < 0 ∨ 8 ≤ r)) : badR r = false := by simp only [badR, h, decide_false]
set_option maxRecDepth 100000 in
set_option maxHeartbeats 4000000 in
theorem wrong_any (k t f a n : Int) (ht : i64ok t) (hf : i64ok f) (w : World) :
    Calls Try.prog 63 #[.agg #[.int .i64 k, .int .i64 t, .int .i64 f, .int .i64 a, .int .i64 n]] w fun e w' => e = .returned (.int .i64 (wrongC ⟨k, t, f, a, n⟩)) ∧ Below w.heap.size w w' := by
  have hM0 := (Mem.start w).alloc #[.int .i64 k, .int .i64 t, .int .i64 f, .int .i64 a, .int .i64 n] 58
  obtain ⟨c, hc⟩ : ∃ c, wrongC ⟨k, t, f, a, n⟩ = c := ⟨_, rfl⟩
  rw [hc]
  simp only [wrongC] at hc
  have Hc := Lib.hid hc
  have HM0 := Lib.hid hM0
  by_cases hk0 : 1 ≤ k ∧ k ≤ 7
  · obtain ⟨hk1, hk7⟩ := hk0
    by_cases e1 : k = 1
    · subst e1
      by_cases b1 : t < 0 ∨ 8 ≤ t
      · skip
        have hcv : c = 2 := by have h := Hc.out; (repeat' split at h) <;> omega
        subst hcv
        have HK := known_any 1 t f a n
        rw [show decide ((1 : Int) ≤ 1 ∧ (1 : Int) ≤ 7) = true by decide] at HK
        have HK := Lib.hid HK
        clear hc hM0 Hc
        have HTt := fun W : World => there_any (.slice (some ⟨W.heap.size, 0, none⟩) 1 1) t (W.alloc (.cells #[.int .i64 t] 3)) (isInts_one W t _ ht)
        simp only [badR_yes (by omega : t < 0 ∨ 8 ≤ t)] at HTt
        have HTt := Lib.hid HTt
        have p0 : (w.alloc (.cells #[.int .i64 1, .int .i64 t, .int .i64 f, .int .i64 a, .int .i64 n] 58)).cell? ⟨w.heap.size, 0, none⟩ = some (.int .i64 1) := (by simp)
        have p1 : (w.alloc (.cells #[.int .i64 1, .int .i64 t, .int .i64 f, .int .i64 a, .int .i64 n] 58)).cell? ⟨w.heap.size, 1, none⟩ = some (.int .i64 t) := (by simp)
        have p2 : (w.alloc (.cells #[.int .i64 1, .int .i64 t, .int .i64 f, .int .i64 a, .int .i64 n] 58)).cell? ⟨w.heap.size, 2, none⟩ = some (.int .i64 f) := (by simp)
        have p3 : (w.alloc (.cells #[.int .i64 1, .int .i64 t, .int .i64 f, .int .i64 a, .int .i64 n] 58)).cell? ⟨w.heap.size, 3, none⟩ = some (.int .i64 a) := (by simp)
        have p4 : (w.alloc (.cells #[.int .i64 1, .int .i64 t, .int .i64 f, .int .i64 a, .int .i64 n] 58)).cell? ⟨w.heap.size, 4, none⟩ = some (.int .i64 n) := (by simp)
        go_enter Try.func63, Try.ntmps63
        go_wp2_with fail
        refine (HK.out _).mono ?_
        rintro e w1 ⟨rfl, hb1⟩
        have hM1 := HM0.out.call hb1
        have q0 : w1.cell? ⟨w.heap.size, 0, none⟩ = some (.int .i64 1) := (by have := hM1.cell 0 rfl 0; simpa using this)
        have q1 : w1.cell? ⟨w.heap.size, 1, none⟩ = some (.int .i64 t) := (by have := hM1.cell 0 rfl 1; simpa using this)
        have q2 : w1.cell? ⟨w.heap.size, 2, none⟩ = some (.int .i64 f) := (by have := hM1.cell 0 rfl 2; simpa using this)
        have q3 : w1.cell? ⟨w.heap.size, 3, none⟩ = some (.int .i64 a) := (by have := hM1.cell 0 rfl 3; simpa using this)
        have q4 : w1.cell? ⟨w.heap.size, 4, none⟩ = some (.int .i64 n) := (by have := hM1.cell 0 rfl 4; simpa using this)
        go_wp2_with fail
        refine (HTt.out _).mono ?_
        rintro e w2 ⟨rfl, hb2⟩
        have hM2 := (hM1.alloc_ _).call hb2
        have q20 : w2.cell? ⟨w.heap.size, 0, none⟩ = some (.int .i64 1) := (by have := hM2.cell 0 rfl 0; simpa using this)
        have q21 : w2.cell? ⟨w.heap.size, 1, none⟩ = some (.int .i64 t) := (by have := hM2.cell 0 rfl 1; simpa using this)
        have q22 : w2.cell? ⟨w.heap.size, 2, none⟩ = some (.int .i64 f) := (by have := hM2.cell 0 rfl 2; simpa using this)
        have q23 : w2.cell? ⟨w.heap.size, 3, none⟩ = some (.int .i64 a) := (by have := hM2.cell 0 rfl 3; simpa using this)
        have q24 : w2.cell? ⟨w.heap.size, 4, none⟩ = some (.int .i64 n) := (by have := hM2.cell 0 rfl 4; simpa using this)
        have HB := Lib.hid hM2.below
        go_wp2
        go_ret
        exact ⟨rfl, HB.out⟩
      · skip
        by_cases b2 : n < 0
        · skip
          have hcv : c = 3 := by have h := Hc.out; (repeat' split at h) <;> omega
          subst hcv
          have HK := known_any 1 t f a n
          rw [show decide ((1 : Int) ≤ 1 ∧ (1 : Int) ≤ 7) = true by decide] at HK
          have HK := Lib.hid HK
          clear hc hM0 Hc
          have HTt := fun W : World => there_any (.slice (some ⟨W.heap.size, 0, none⟩) 1 1) t (W.alloc (.cells #[.int .i64 t] 3)) (isInts_one W t _ ht)
          simp only [badR_no (by omega : ¬ (t < 0 ∨ 8 ≤ t))] at HTt
          have HTt := Lib.hid HTt
          have p0 : (w.alloc (.cells #[.int .i64 1, .int .i64 t, .int .i64 f, .int .i64 a, .int .i64 n] 58)).cell? ⟨w.heap.size, 0, none⟩ = some (.int .i64 1) := (by simp)
          have p1 : (w.alloc (.cells #[.int .i64 1, .int .i64 t, .int .i64 f, .int .i64 a, .int .i64 n] 58)).cell? ⟨w.heap.size, 1, none⟩ = some (.int .i64 t) := (by simp)
          have p2 : (w.alloc (.cells #[.int .i64 1, .int .i64 t, .int .i64 f, .int .i64 a, .int .i64 n] 58)).cell? ⟨w.heap.size, 2, none⟩ = some (.int .i64 f) := (by simp)
          have p3 : (w.alloc (.cells #[.int .i64 1, .int .i64 t, .int .i64 f, .int .i64 a, .int .i64 n] 58)).cell? ⟨w.heap.size, 3, none⟩ = some (.int .i64 a) := (by simp)
          have p4 : (w.alloc (.cells #[.int .i64 1, .int .i64 t, .int .i64 f, .int .i64 a, .int .i64 n] 58)).cell? ⟨w.heap.size, 4, none⟩ = some (.int .i64 n) := (by simp)
          go_enter Try.func63, Try.ntmps63
          go_wp2_with fail
          refine (HK.out _).mono ?_
          rintro e w1 ⟨rfl, hb1⟩
          have hM1 := HM0.out.call hb1
          have q0 : w1.cell? ⟨w.heap.size, 0, none⟩ = some (.int .i64 1) := (by have := hM1.cell 0 rfl 0; simpa using this)
          have q1 : w1.cell? ⟨w.heap.size, 1, none⟩ = some (.int .i64 t) := (by have := hM1.cell 0 rfl 1; simpa using this)
          have q2 : w1.cell? ⟨w.heap.size, 2, none⟩ = some (.int .i64 f) := (by have := hM1.cell 0 rfl 2; simpa using this)
          have q3 : w1.cell? ⟨w.heap.size, 3, none⟩ = some (.int .i64 a) := (by have := hM1.cell 0 rfl 3; simpa using this)
          have q4 : w1.cell? ⟨w.heap.size, 4, none⟩ = some (.int .i64 n) := (by have := hM1.cell 0 rfl 4; simpa using this)
          go_wp2_with fail
          refine (HTt.out _).mono ?_
          rintro e w2 ⟨rfl, hb2⟩
          have hM2 := (hM1.alloc_ _).call hb2
          have q20 : w2.cell? ⟨w.heap.size, 0, none⟩ = some (.int .i64 1) := (by have := hM2.cell 0 rfl 0; simpa using this)
          have q21 : w2.cell? ⟨w.heap.size, 1, none⟩ = some (.int .i64 t) := (by have := hM2.cell 0 rfl 1; simpa using this)
          have q22 : w2.cell? ⟨w.heap.size, 2, none⟩ = some (.int .i64 f) := (by have := hM2.cell 0 rfl 2; simpa using this)
          have q23 : w2.cell? ⟨w.heap.size, 3, none⟩ = some (.int .i64 a) := (by have := hM2.cell 0 rfl 3; simpa using this)
          have q24 : w2.cell? ⟨w.heap.size, 4, none⟩ = some (.int .i64 n) := (by have := hM2.cell 0 rfl 4; simpa using this)
          have HB := Lib.hid hM2.below
          go_wp2
          go_ret
          exact ⟨rfl, HB.out⟩
        · skip
          by_cases b3 : 4 < n
          · skip
            have hcv : c = 3 := by have h := Hc.out; (repeat' split at h) <;> omega
            subst hcv
            have HK := known_any 1 t f a n
            rw [show decide ((1 : Int) ≤ 1 ∧ (1 : Int) ≤ 7) = true by decide] at HK
            have HK := Lib.hid HK
            clear hc hM0 Hc
            have HTt := fun W : World => there_any (.slice (some ⟨W.heap.size, 0, none⟩) 1 1) t (W.alloc (.cells #[.int .i64 t] 3)) (isInts_one W t _ ht)
            simp only [badR_no (by omega : ¬ (t < 0 ∨ 8 ≤ t))] at HTt
            have HTt := Lib.hid HTt
            have p0 : (w.alloc (.cells #[.int .i64 1, .int .i64 t, .int .i64 f, .int .i64 a, .int .i64 n] 58)).cell? ⟨w.heap.size, 0, none⟩ = some (.int .i64 1) := (by simp)
            have p1 : (w.alloc (.cells #[.int .i64 1, .int .i64 t, .int .i64 f, .int .i64 a, .int .i64 n] 58)).cell? ⟨w.heap.size, 1, none⟩ = some (.int .i64 t) := (by simp)
            have p2 : (w.alloc (.cells #[.int .i64 1, .int .i64 t, .int .i64 f, .int .i64 a, .int .i64 n] 58)).cell? ⟨w.heap.size, 2, none⟩ = some (.int .i64 f) := (by simp)
            have p3 : (w.alloc (.cells #[.int .i64 1, .int .i64 t, .int .i64 f, .int .i64 a, .int .i64 n] 58)).cell? ⟨w.heap.size, 3, none⟩ = some (.int .i64 a) := (by simp)
            have p4 : (w.alloc (.cells #[.int .i64 1, .int .i64 t, .int .i64 f, .int .i64 a, .int .i64 n] 58)).cell? ⟨w.heap.size, 4, none⟩ = some (.int .i64 n) := (by simp)
            go_enter Try.func63, Try.ntmps63
            go_wp2_with fail
            refine (HK.out _).mono ?_
            rintro e w1 ⟨rfl, hb1⟩
            have hM1 := HM0.out.call hb1
            have q0 : w1.cell? ⟨w.heap.size, 0, none⟩ = some (.int .i64 1) := (by have := hM1.cell 0 rfl 0; simpa using this)
            have q1 : w1.cell? ⟨w.heap.size, 1, none⟩ = some (.int .i64 t) := (by have := hM1.cell 0 rfl 1; simpa using this)
            have q2 : w1.cell? ⟨w.heap.size, 2, none⟩ = some (.int .i64 f) := (by have := hM1.cell 0 rfl 2; simpa using this)
            have q3 : w1.cell? ⟨w.heap.size, 3, none⟩ = some (.int .i64 a) := (by have := hM1.cell 0 rfl 3; simpa using this)
            have q4 : w1.cell? ⟨w.heap.size, 4, none⟩ = some (.int .i64 n) := (by have := hM1.cell 0 rfl 4; simpa using this)
            go_wp2_with fail
            refine (HTt.out _).mono ?_
            rintro e w2 ⟨rfl, hb2⟩
            have hM2 := (hM1.alloc_ _).call hb2
            have q20 : w2.cell? ⟨w.heap.size, 0, none⟩ = some (.int .i64 1) := (by have := hM2.cell 0 rfl 0; simpa using this)
            have q21 : w2.cell? ⟨w.heap.size, 1, none⟩ = some (.int .i64 t) := (by have := hM2.cell 0 rfl 1; simpa using this)
            have q22 : w2.cell? ⟨w.heap.size, 2, none⟩ = some (.int .i64 f) := (by have := hM2.cell 0 rfl 2; simpa using this)
            have q23 : w2.cell? ⟨w.heap.size, 3, none⟩ = some (.int .i64 a) := (by have := hM2.cell 0 rfl 3; simpa using this)
            have q24 : w2.cell? ⟨w.heap.size, 4, none⟩ = some (.int .i64 n) := (by have := hM2.cell 0 rfl 4; simpa using this)
            have HB := Lib.hid hM2.below
            go_wp2
            go_ret
            exact ⟨rfl, HB.out⟩
          · skip
            have hcv : c = 0 := by have h := Hc.out; (repeat' split at h) <;> omega
            subst hcv
            have HK := known_any 1 t f a n
            rw [show decide ((1 : Int) ≤ 1 ∧ (1 : Int) ≤ 7) = true by decide] at HK
            have HK := Lib.hid HK
            clear hc hM0 Hc
            have HTt := fun W : World => there_any (.slice (some ⟨W.heap.size, 0, none⟩) 1 1) t (W.alloc (.cells #[.int .i64 t] 3)) (isInts_one W t _ ht)
            simp only [badR_no (by omega : ¬ (t < 0 ∨ 8 ≤ t))] at HTt
            have HTt := Lib.hid HTt
            have p0 : (w.alloc (.cells #[.int .i64 1, .int .i64 t, .int .i64 f, .int .i64 a, .int .i64 n] 58)).cell? ⟨w.heap.size, 0, none⟩ = some (.int .i64 1) := (by simp)
            have p1 : (w.alloc (.cells #[.int .i64 1, .int .i64 t, .int .i64 f, .int .i64 a, .int .i64 n] 58)).cell? ⟨w.heap.size, 1, none⟩ = some (.int .i64 t) := (by simp)
            have p2 : (w.alloc (.cells #[.int .i64 1, .int .i64 t, .int .i64 f, .int .i64 a, .int .i64 n] 58)).cell? ⟨w.heap.size, 2, none⟩ = some (.int .i64 f) := (by simp)
            have p3 : (w.alloc (.cells #[.int .i64 1, .int .i64 t, .int .i64 f, .int .i64 a, .int .i64 n] 58)).cell? ⟨w.heap.size, 3, none⟩ = some (.int .i64 a) := (by simp)
            have p4 : (w.alloc (.cells #[.int .i64 1, .int .i64 t, .int .i64 f, .int .i64 a, .int .i64 n] 58)).cell? ⟨w.heap.size, 4, none⟩ = some (.int .i64 n) := (by simp)
            go_enter Try.func63, Try.ntmps63
            go_wp2_with fail
            refine (HK.out _).mono ?_
            rintro e w1 ⟨rfl, hb1⟩
            have hM1 := HM0.out.call hb1
            have q0 : w1.cell? ⟨w.heap.size, 0, none⟩ = some (.int .i64 1) := (by have := hM1.cell 0 rfl 0; simpa using this)
            have q1 : w1.cell? ⟨w.heap.size, 1, none⟩ = some (.int .i64 t) := (by have := hM1.cell 0 rfl 1; simpa using this)
            have q2 : w1.cell? ⟨w.heap.size, 2, none⟩ = some (.int .i64 f) := (by have := hM1.cell 0 rfl 2; simpa using this)
            have q3 : w1.cell? ⟨w.heap.size, 3, none⟩ = some (.int .i64 a) := (by have := hM1.cell 0 rfl 3; simpa using this)
            have q4 : w1.cell? ⟨w.heap.size, 4, none⟩ = some (.int .i64 n) := (by have := hM1.cell 0 rfl 4; simpa using this)
            go_wp2_with fail
            refine (HTt.out _).mono ?_
            rintro e w2 ⟨rfl, hb2⟩
            have hM2 := (hM1.alloc_ _).call hb2
            have q20 : w2.cell? ⟨w.heap.size, 0, none⟩ = some (.int .i64 1) := (by have := hM2.cell 0 rfl 0; simpa using this)
            have q21 : w2.cell? ⟨w.heap.size, 1, none⟩ = some (.int .i64 t) := (by have := hM2.cell 0 rfl 1; simpa using this)
            have q22 : w2.cell? ⟨w.heap.size, 2, none⟩ = some (.int .i64 f) := (by have := hM2.cell 0 rfl 2; simpa using this)
            have q23 : w2.cell? ⟨w.heap.size, 3, none⟩ = some (.int .i64 a) := (by have := hM2.cell 0 rfl 3; simpa using this)
            have q24 : w2.cell? ⟨w.heap.size, 4, none⟩ = some (.int .i64 n) := (by have := hM2.cell 0 rfl 4; simpa using this)
            have HB := Lib.hid hM2.below
            go_wp2
            go_ret
            exact ⟨rfl, HB.out⟩
    · by_cases e2 : k = 2
      · subst e2
        by_cases b1 : t < 0 ∨ 8 ≤ t
        · skip
          have hcv : c = 2 := by have h := Hc.out; (repeat' split at h) <;> omega
          subst hcv
          have HK := known_any 2 t f a n
          rw [show decide ((1 : Int) ≤ 2 ∧ (2 : Int) ≤ 7) = true by decide] at HK
          have HK := Lib.hid HK
          clear hc hM0 Hc
          have HTt := fun W : World => there_any (.slice (some ⟨W.heap.size, 0, none⟩) 1 1) t (W.alloc (.cells #[.int .i64 t] 3)) (isInts_one W t _ ht)
          simp only [badR_yes (by omega : t < 0 ∨ 8 ≤ t)] at HTt
          have HTt := Lib.hid HTt
          have p0 : (w.alloc (.cells #[.int .i64 2, .int .i64 t, .int .i64 f, .int .i64 a, .int .i64 n] 58)).cell? ⟨w.heap.size, 0, none⟩ = some (.int .i64 2) := (by simp)
          have p1 : (w.alloc (.cells #[.int .i64 2, .int .i64 t, .int .i64 f, .int .i64 a, .int .i64 n] 58)).cell? ⟨w.heap.size, 1, none⟩ = some (.int .i64 t) := (by simp)
          have p2 : (w.alloc (.cells #[.int .i64 2, .int .i64 t, .int .i64 f, .int .i64 a, .int .i64 n] 58)).cell? ⟨w.heap.size, 2, none⟩ = some (.int .i64 f) := (by simp)
          have p3 : (w.alloc (.cells #[.int .i64 2, .int .i64 t, .int .i64 f, .int .i64 a, .int .i64 n] 58)).cell? ⟨w.heap.size, 3, none⟩ = some (.int .i64 a) := (by simp)
          have p4 : (w.alloc (.cells #[.int .i64 2, .int .i64 t, .int .i64 f, .int .i64 a, .int .i64 n] 58)).cell? ⟨w.heap.size, 4, none⟩ = some (.int .i64 n) := (by simp)
          go_enter Try.func63, Try.ntmps63
          go_wp2_with fail
          refine (HK.out _).mono ?_
          rintro e w1 ⟨rfl, hb1⟩
          have hM1 := HM0.out.call hb1
          have q0 : w1.cell? ⟨w.heap.size, 0, none⟩ = some (.int .i64 2) := (by have := hM1.cell 0 rfl 0; simpa using this)
          have q1 : w1.cell? ⟨w.heap.size, 1, none⟩ = some (.int .i64 t) := (by have := hM1.cell 0 rfl 1; simpa using this)
          have q2 : w1.cell? ⟨w.heap.size, 2, none⟩ = some (.int .i64 f) := (by have := hM1.cell 0 rfl 2; simpa using this)
          have q3 : w1.cell? ⟨w.heap.size, 3, none⟩ = some (.int .i64 a) := (by have := hM1.cell 0 rfl 3; simpa using this)
          have q4 : w1.cell? ⟨w.heap.size, 4, none⟩ = some (.int .i64 n) := (by have := hM1.cell 0 rfl 4; simpa using this)
          go_wp2_with fail
          refine (HTt.out _).mono ?_
          rintro e w2 ⟨rfl, hb2⟩
          have hM2 := (hM1.alloc_ _).call hb2
          have q20 : w2.cell? ⟨w.heap.size, 0, none⟩ = some (.int .i64 2) := (by have := hM2.cell 0 rfl 0; simpa using this)
          have q21 : w2.cell? ⟨w.heap.size, 1, none⟩ = some (.int .i64 t) := (by have := hM2.cell 0 rfl 1; simpa using this)
          have q22 : w2.cell? ⟨w.heap.size, 2, none⟩ = some (.int .i64 f) := (by have := hM2.cell 0 rfl 2; simpa using this)
          have q23 : w2.cell? ⟨w.heap.size, 3, none⟩ = some (.int .i64 a) := (by have := hM2.cell 0 rfl 3; simpa using this)
          have q24 : w2.cell? ⟨w.heap.size, 4, none⟩ = some (.int .i64 n) := (by have := hM2.cell 0 rfl 4; simpa using this)
          have HB := Lib.hid hM2.below
          go_wp2
          go_ret
          exact ⟨rfl, HB.out⟩
        · skip
          by_cases b2 : n < -4611686018427387904
          · skip
            have hcv : c = 3 := by have h := Hc.out; (repeat' split at h) <;> omega
            subst hcv
            have HK := known_any 2 t f a n
            rw [show decide ((1 : Int) ≤ 2 ∧ (2 : Int) ≤ 7) = true by decide] at HK
            have HK := Lib.hid HK
            clear hc hM0 Hc
            have HTt := fun W : World => there_any (.slice (some ⟨W.heap.size, 0, none⟩) 1 1) t (W.alloc (.cells #[.int .i64 t] 3)) (isInts_one W t _ ht)
            simp only [badR_no (by omega : ¬ (t < 0 ∨ 8 ≤ t))] at HTt
            have HTt := Lib.hid HTt
            have p0 : (w.alloc (.cells #[.int .i64 2, .int .i64 t, .int .i64 f, .int .i64 a, .int .i64 n] 58)).cell? ⟨w.heap.size, 0, none⟩ = some (.int .i64 2) := (by simp)
            have p1 : (w.alloc (.cells #[.int .i64 2, .int .i64 t, .int .i64 f, .int .i64 a, .int .i64 n] 58)).cell? ⟨w.heap.size, 1, none⟩ = some (.int .i64 t) := (by simp)
            have p2 : (w.alloc (.cells #[.int .i64 2, .int .i64 t, .int .i64 f, .int .i64 a, .int .i64 n] 58)).cell? ⟨w.heap.size, 2, none⟩ = some (.int .i64 f) := (by simp)
            have p3 : (w.alloc (.cells #[.int .i64 2, .int .i64 t, .int .i64 f, .int .i64 a, .int .i64 n] 58)).cell? ⟨w.heap.size, 3, none⟩ = some (.int .i64 a) := (by simp)
            have p4 : (w.alloc (.cells #[.int .i64 2, .int .i64 t, .int .i64 f, .int .i64 a, .int .i64 n] 58)).cell? ⟨w.heap.size, 4, none⟩ = some (.int .i64 n) := (by simp)
            go_enter Try.func63, Try.ntmps63
            go_wp2_with fail
            refine (HK.out _).mono ?_
            rintro e w1 ⟨rfl, hb1⟩
            have hM1 := HM0.out.call hb1
            have q0 : w1.cell? ⟨w.heap.size, 0, none⟩ = some (.int .i64 2) := (by have := hM1.cell 0 rfl 0; simpa using this)
            have q1 : w1.cell? ⟨w.heap.size, 1, none⟩ = some (.int .i64 t) := (by have := hM1.cell 0 rfl 1; simpa using this)
            have q2 : w1.cell? ⟨w.heap.size, 2, none⟩ = some (.int .i64 f) := (by have := hM1.cell 0 rfl 2; simpa using this)
            have q3 : w1.cell? ⟨w.heap.size, 3, none⟩ = some (.int .i64 a) := (by have := hM1.cell 0 rfl 3; simpa using this)
            have q4 : w1.cell? ⟨w.heap.size, 4, none⟩ = some (.int .i64 n) := (by have := hM1.cell 0 rfl 4; simpa using this)
            go_wp2_with fail
            refine (HTt.out _).mono ?_
            rintro e w2 ⟨rfl, hb2⟩
            have hM2 := (hM1.alloc_ _).call hb2
            have q20 : w2.cell? ⟨w.heap.size, 0, none⟩ = some (.int .i64 2) := (by have := hM2.cell 0 rfl 0; simpa using this)
            have q21 : w2.cell? ⟨w.heap.size, 1, none⟩ = some (.int .i64 t) := (by have := hM2.cell 0 rfl 1; simpa using this)
            have q22 : w2.cell? ⟨w.heap.size, 2, none⟩ = some (.int .i64 f) := (by have := hM2.cell 0 rfl 2; simpa using this)
            have q23 : w2.cell? ⟨w.heap.size, 3, none⟩ = some (.int .i64 a) := (by have := hM2.cell 0 rfl 3; simpa using this)
            have q24 : w2.cell? ⟨w.heap.size, 4, none⟩ = some (.int .i64 n) := (by have := hM2.cell 0 rfl 4; simpa using this)
            have HB := Lib.hid hM2.below
            go_wp2
            go_ret
            exact ⟨rfl, HB.out⟩
          · skip
            by_cases b3 : 4611686018427387903 < n
            · skip
              have hcv : c = 3 := by have h := Hc.out; (repeat' split at h) <;> omega
              subst hcv
              have HK := known_any 2 t f a n
              rw [show decide ((1 : Int) ≤ 2 ∧ (2 : Int) ≤ 7) = true by decide] at HK
              have HK := Lib.hid HK
              clear hc hM0 Hc
              have HTt := fun W : World => there_any (.slice (some ⟨W.heap.size, 0, none⟩) 1 1) t (W.alloc (.cells #[.int .i64 t] 3)) (isInts_one W t _ ht)
              simp only [badR_no (by omega : ¬ (t < 0 ∨ 8 ≤ t))] at HTt
              have HTt := Lib.hid HTt
              have p0 : (w.alloc (.cells #[.int .i64 2, .int .i64 t, .int .i64 f, .int .i64 a, .int .i64 n] 58)).cell? ⟨w.heap.size, 0, none⟩ = some (.int .i64 2) := (by simp)
              have p1 : (w.alloc (.cells #[.int .i64 2, .int .i64 t, .int .i64 f, .int .i64 a, .int .i64 n] 58)).cell? ⟨w.heap.size, 1, none⟩ = some (.int .i64 t) := (by simp)
              have p2 : (w.alloc (.cells #[.int .i64 2, .int .i64 t, .int .i64 f, .int .i64 a, .int .i64 n] 58)).cell? ⟨w.heap.size, 2, none⟩ = some (.int .i64 f) := (by simp)
              have p3 : (w.alloc (.cells #[.int .i64 2, .int .i64 t, .int .i64 f, .int .i64 a, .int .i64 n] 58)).cell? ⟨w.heap.size, 3, none⟩ = some (.int .i64 a) := (by simp)
              have p4 : (w.alloc (.cells #[.int .i64 2, .int .i64 t, .int .i64 f, .int .i64 a, .int .i64 n] 58)).cell? ⟨w.heap.size, 4, none⟩ = some (.int .i64 n) := (by simp)
              go_enter Try.func63, Try.ntmps63
              go_wp2_with fail
              refine (HK.out _).mono ?_
              rintro e w1 ⟨rfl, hb1⟩
              have hM1 := HM0.out.call hb1
              have q0 : w1.cell? ⟨w.heap.size, 0, none⟩ = some (.int .i64 2) := (by have := hM1.cell 0 rfl 0; simpa using this)
              have q1 : w1.cell? ⟨w.heap.size, 1, none⟩ = some (.int .i64 t) := (by have := hM1.cell 0 rfl 1; simpa using this)
              have q2 : w1.cell? ⟨w.heap.size, 2, none⟩ = some (.int .i64 f) := (by have := hM1.cell 0 rfl 2; simpa using this)
              have q3 : w1.cell? ⟨w.heap.size, 3, none⟩ = some (.int .i64 a) := (by have := hM1.cell 0 rfl 3; simpa using this)
              have q4 : w1.cell? ⟨w.heap.size, 4, none⟩ = some (.int .i64 n) := (by have := hM1.cell 0 rfl 4; simpa using this)
              go_wp2_with fail
              refine (HTt.out _).mono ?_
              rintro e w2 ⟨rfl, hb2⟩
              have hM2 := (hM1.alloc_ _).call hb2
              have q20 : w2.cell? ⟨w.heap.size, 0, none⟩ = some (.int .i64 2) := (by have := hM2.cell 0 rfl 0; simpa using this)
              have q21 : w2.cell? ⟨w.heap.size, 1, none⟩ = some (.int .i64 t) := (by have := hM2.cell 0 rfl 1; simpa using this)
              have q22 : w2.cell? ⟨w.heap.size, 2, none⟩ = some (.int .i64 f) := (by have := hM2.cell 0 rfl 2; simpa using this)
              have q23 : w2.cell? ⟨w.heap.size, 3, none⟩ = some (.int .i64 a) := (by have := hM2.cell 0 rfl 3; simpa using this)
              have q24 : w2.cell? ⟨w.heap.size, 4, none⟩ = some (.int .i64 n) := (by have := hM2.cell 0 rfl 4; simpa using this)
              have HB := Lib.hid hM2.below
              go_wp2
              go_ret
              exact ⟨rfl, HB.out⟩
            · skip
              have hcv : c = 0 := by have h := Hc.out; (repeat' split at h) <;> omega
              subst hcv
              have HK := known_any 2 t f a n
              rw [show decide ((1 : Int) ≤ 2 ∧ (2 : Int) ≤ 7) = true by decide] at HK
              have HK := Lib.hid HK
              clear hc hM0 Hc
              have HTt := fun W : World => there_any (.slice (some ⟨W.heap.size, 0, none⟩) 1 1) t (W.alloc (.cells #[.int .i64 t] 3)) (isInts_one W t _ ht)
              simp only [badR_no (by omega : ¬ (t < 0 ∨ 8 ≤ t))] at HTt
              have HTt := Lib.hid HTt
              have p0 : (w.alloc (.cells #[.int .i64 2, .int .i64 t, .int .i64 f, .int .i64 a, .int .i64 n] 58)).cell? ⟨w.heap.size, 0, none⟩ = some (.int .i64 2) := (by simp)
              have p1 : (w.alloc (.cells #[.int .i64 2, .int .i64 t, .int .i64 f, .int .i64 a, .int .i64 n] 58)).cell? ⟨w.heap.size, 1, none⟩ = some (.int .i64 t) := (by simp)
              have p2 : (w.alloc (.cells #[.int .i64 2, .int .i64 t, .int .i64 f, .int .i64 a, .int .i64 n] 58)).cell? ⟨w.heap.size, 2, none⟩ = some (.int .i64 f) := (by simp)
              have p3 : (w.alloc (.cells #[.int .i64 2, .int .i64 t, .int .i64 f, .int .i64 a, .int .i64 n] 58)).cell? ⟨w.heap.size, 3, none⟩ = some (.int .i64 a) := (by simp)
              have p4 : (w.alloc (.cells #[.int .i64 2, .int .i64 t, .int .i64 f, .int .i64 a, .int .i64 n] 58)).cell? ⟨w.heap.size, 4, none⟩ = some (.int .i64 n) := (by simp)
              go_enter Try.func63, Try.ntmps63
              go_wp2_with fail
              refine (HK.out _).mono ?_
              rintro e w1 ⟨rfl, hb1⟩
              have hM1 := HM0.out.call hb1
              have q0 : w1.cell? ⟨w.heap.size, 0, none⟩ = some (.int .i64 2) := (by have := hM1.cell 0 rfl 0; simpa using this)
              have q1 : w1.cell? ⟨w.heap.size, 1, none⟩ = some (.int .i64 t) := (by have := hM1.cell 0 rfl 1; simpa using this)
              have q2 : w1.cell? ⟨w.heap.size, 2, none⟩ = some (.int .i64 f) := (by have := hM1.cell 0 rfl 2; simpa using this)
              have q3 : w1.cell? ⟨w.heap.size, 3, none⟩ = some (.int .i64 a) := (by have := hM1.cell 0 rfl 3; simpa using this)
              have q4 : w1.cell? ⟨w.heap.size, 4, none⟩ = some (.int .i64 n) := (by have := hM1.cell 0 rfl 4; simpa using this)
              go_wp2_with fail
              refine (HTt.out _).mono ?_
              rintro e w2 ⟨rfl, hb2⟩
              have hM2 := (hM1.alloc_ _).call hb2
              have q20 : w2.cell? ⟨w.heap.size, 0, none⟩ = some (.int .i64 2) := (by have := hM2.cell 0 rfl 0; simpa using this)
              have q21 : w2.cell? ⟨w.heap.size, 1, none⟩ = some (.int .i64 t) := (by have := hM2.cell 0 rfl 1; simpa using this)
              have q22 : w2.cell? ⟨w.heap.size, 2, none⟩ = some (.int .i64 f) := (by have := hM2.cell 0 rfl 2; simpa using this)
              have q23 : w2.cell? ⟨w.heap.size, 3, none⟩ = some (.int .i64 a) := (by have := hM2.cell 0 rfl 3; simpa using this)
              have q24 : w2.cell? ⟨w.heap.size, 4, none⟩ = some (.int .i64 n) := (by have := hM2.cell 0 rfl 4; simpa using this)
              have HB := Lib.hid hM2.below
              go_wp2
              go_ret
              exact ⟨rfl, HB.out⟩
      · by_cases e7 : k = 7
        · subst e7
          by_cases b1 : f < 0 ∨ 8 ≤ f
          · skip
            have hcv : c = 2 := by have h := Hc.out; (repeat' split at h) <;> omega
            subst hcv
            have HK := known_any 7 t f a n
            rw [show decide ((1 : Int) ≤ 7 ∧ (7 : Int) ≤ 7) = true by decide] at HK
            have HK := Lib.hid HK
            clear hc hM0 Hc
            have HTf := fun W : World => there_any (.slice (some ⟨W.heap.size, 0, none⟩) 1 1) f (W.alloc (.cells #[.int .i64 f] 3)) (isInts_one W f _ hf)
            simp only [badR_yes (by omega : f < 0 ∨ 8 ≤ f)] at HTf
            have HTf := Lib.hid HTf
            have p0 : (w.alloc (.cells #[.int .i64 7, .int .i64 t, .int .i64 f, .int .i64 a, .int .i64 n] 58)).cell? ⟨w.heap.size, 0, none⟩ = some (.int .i64 7) := (by simp)
            have p1 : (w.alloc (.cells #[.int .i64 7, .int .i64 t, .int .i64 f, .int .i64 a, .int .i64 n] 58)).cell? ⟨w.heap.size, 1, none⟩ = some (.int .i64 t) := (by simp)
            have p2 : (w.alloc (.cells #[.int .i64 7, .int .i64 t, .int .i64 f, .int .i64 a, .int .i64 n] 58)).cell? ⟨w.heap.size, 2, none⟩ = some (.int .i64 f) := (by simp)
            have p3 : (w.alloc (.cells #[.int .i64 7, .int .i64 t, .int .i64 f, .int .i64 a, .int .i64 n] 58)).cell? ⟨w.heap.size, 3, none⟩ = some (.int .i64 a) := (by simp)
            have p4 : (w.alloc (.cells #[.int .i64 7, .int .i64 t, .int .i64 f, .int .i64 a, .int .i64 n] 58)).cell? ⟨w.heap.size, 4, none⟩ = some (.int .i64 n) := (by simp)
            go_enter Try.func63, Try.ntmps63
            go_wp2_with fail
            refine (HK.out _).mono ?_
            rintro e w1 ⟨rfl, hb1⟩
            have hM1 := HM0.out.call hb1
            have q0 : w1.cell? ⟨w.heap.size, 0, none⟩ = some (.int .i64 7) := (by have := hM1.cell 0 rfl 0; simpa using this)
            have q1 : w1.cell? ⟨w.heap.size, 1, none⟩ = some (.int .i64 t) := (by have := hM1.cell 0 rfl 1; simpa using this)
            have q2 : w1.cell? ⟨w.heap.size, 2, none⟩ = some (.int .i64 f) := (by have := hM1.cell 0 rfl 2; simpa using this)
            have q3 : w1.cell? ⟨w.heap.size, 3, none⟩ = some (.int .i64 a) := (by have := hM1.cell 0 rfl 3; simpa using this)
            have q4 : w1.cell? ⟨w.heap.size, 4, none⟩ = some (.int .i64 n) := (by have := hM1.cell 0 rfl 4; simpa using this)
            go_wp2_with fail
            refine (HTf.out _).mono ?_
            rintro e w2 ⟨rfl, hb2⟩
            have hM2 := (hM1.alloc_ _).call hb2
            have q20 : w2.cell? ⟨w.heap.size, 0, none⟩ = some (.int .i64 7) := (by have := hM2.cell 0 rfl 0; simpa using this)
            have q21 : w2.cell? ⟨w.heap.size, 1, none⟩ = some (.int .i64 t) := (by have := hM2.cell 0 rfl 1; simpa using this)
            have q22 : w2.cell? ⟨w.heap.size, 2, none⟩ = some (.int .i64 f) := (by have := hM2.cell 0 rfl 2; simpa using this)
            have q23 : w2.cell? ⟨w.heap.size, 3, none⟩ = some (.int .i64 a) := (by have := hM2.cell 0 rfl 3; simpa using this)
            have q24 : w2.cell? ⟨w.heap.size, 4, none⟩ = some (.int .i64 n) := (by have := hM2.cell 0 rfl 4; simpa using this)
            have HB := Lib.hid hM2.below
            go_wp2
            go_ret
            exact ⟨rfl, HB.out⟩
          · skip
            have hcv : c = 0 := by have h := Hc.out; (repeat' split at h) <;> omega
            subst hcv
            have HK := known_any 7 t f a n
            rw [show decide ((1 : Int) ≤ 7 ∧ (7 : Int) ≤ 7) = true by decide] at HK
            have HK := Lib.hid HK
            clear hc hM0 Hc
            have HTf := fun W : World => there_any (.slice (some ⟨W.heap.size, 0, none⟩) 1 1) f (W.alloc (.cells #[.int .i64 f] 3)) (isInts_one W f _ hf)
            simp only [badR_no (by omega : ¬ (f < 0 ∨ 8 ≤ f))] at HTf
            have HTf := Lib.hid HTf
            have p0 : (w.alloc (.cells #[.int .i64 7, .int .i64 t, .int .i64 f, .int .i64 a, .int .i64 n] 58)).cell? ⟨w.heap.size, 0, none⟩ = some (.int .i64 7) := (by simp)
            have p1 : (w.alloc (.cells #[.int .i64 7, .int .i64 t, .int .i64 f, .int .i64 a, .int .i64 n] 58)).cell? ⟨w.heap.size, 1, none⟩ = some (.int .i64 t) := (by simp)
            have p2 : (w.alloc (.cells #[.int .i64 7, .int .i64 t, .int .i64 f, .int .i64 a, .int .i64 n] 58)).cell? ⟨w.heap.size, 2, none⟩ = some (.int .i64 f) := (by simp)
            have p3 : (w.alloc (.cells #[.int .i64 7, .int .i64 t, .int .i64 f, .int .i64 a, .int .i64 n] 58)).cell? ⟨w.heap.size, 3, none⟩ = some (.int .i64 a) := (by simp)
            have p4 : (w.alloc (.cells #[.int .i64 7, .int .i64 t, .int .i64 f, .int .i64 a, .int .i64 n] 58)).cell? ⟨w.heap.size, 4, none⟩ = some (.int .i64 n) := (by simp)
            go_enter Try.func63, Try.ntmps63
            go_wp2_with fail
            refine (HK.out _).mono ?_
            rintro e w1 ⟨rfl, hb1⟩
            have hM1 := HM0.out.call hb1
            have q0 : w1.cell? ⟨w.heap.size, 0, none⟩ = some (.int .i64 7) := (by have := hM1.cell 0 rfl 0; simpa using this)
            have q1 : w1.cell? ⟨w.heap.size, 1, none⟩ = some (.int .i64 t) := (by have := hM1.cell 0 rfl 1; simpa using this)
            have q2 : w1.cell? ⟨w.heap.size, 2, none⟩ = some (.int .i64 f) := (by have := hM1.cell 0 rfl 2; simpa using this)
            have q3 : w1.cell? ⟨w.heap.size, 3, none⟩ = some (.int .i64 a) := (by have := hM1.cell 0 rfl 3; simpa using this)
            have q4 : w1.cell? ⟨w.heap.size, 4, none⟩ = some (.int .i64 n) := (by have := hM1.cell 0 rfl 4; simpa using this)
            go_wp2_with fail
            refine (HTf.out _).mono ?_
            rintro e w2 ⟨rfl, hb2⟩
            have hM2 := (hM1.alloc_ _).call hb2
            have q20 : w2.cell? ⟨w.heap.size, 0, none⟩ = some (.int .i64 7) := (by have := hM2.cell 0 rfl 0; simpa using this)
            have q21 : w2.cell? ⟨w.heap.size, 1, none⟩ = some (.int .i64 t) := (by have := hM2.cell 0 rfl 1; simpa using this)
            have q22 : w2.cell? ⟨w.heap.size, 2, none⟩ = some (.int .i64 f) := (by have := hM2.cell 0 rfl 2; simpa using this)
            have q23 : w2.cell? ⟨w.heap.size, 3, none⟩ = some (.int .i64 a) := (by have := hM2.cell 0 rfl 3; simpa using this)
            have q24 : w2.cell? ⟨w.heap.size, 4, none⟩ = some (.int .i64 n) := (by have := hM2.cell 0 rfl 4; simpa using this)
            have HB := Lib.hid hM2.below
            go_wp2
            go_ret
            exact ⟨rfl, HB.out⟩
        · skip
          by_cases b1 : t < 0 ∨ 8 ≤ t
          · skip
            have hcv : c = 2 := by have h := Hc.out; (repeat' split at h) <;> omega
            subst hcv
            have HK := known_any k t f a n
            have x1 : (k == 1) = false := by simpa using e1
            have x2 : (k == 2) = false := by simpa using e2
            have x7 : (k != 7) = true := by simpa using e7
            rw [show decide (1 ≤ k ∧ k ≤ 7) = true by simp; omega] at HK
            have HK := Lib.hid HK
            clear hc hM0 Hc
            have HTt := fun W : World => there_any (.slice (some ⟨W.heap.size, 0, none⟩) 1 1) t (W.alloc (.cells #[.int .i64 t] 3)) (isInts_one W t _ ht)
            simp only [badR_yes (by omega : t < 0 ∨ 8 ≤ t)] at HTt
            have HTt := Lib.hid HTt
            have p0 : (w.alloc (.cells #[.int .i64 k, .int .i64 t, .int .i64 f, .int .i64 a, .int .i64 n] 58)).cell? ⟨w.heap.size, 0, none⟩ = some (.int .i64 k) := (by simp)
            have p1 : (w.alloc (.cells #[.int .i64 k, .int .i64 t, .int .i64 f, .int .i64 a, .int .i64 n] 58)).cell? ⟨w.heap.size, 1, none⟩ = some (.int .i64 t) := (by simp)
            have p2 : (w.alloc (.cells #[.int .i64 k, .int .i64 t, .int .i64 f, .int .i64 a, .int .i64 n] 58)).cell? ⟨w.heap.size, 2, none⟩ = some (.int .i64 f) := (by simp)
            have p3 : (w.alloc (.cells #[.int .i64 k, .int .i64 t, .int .i64 f, .int .i64 a, .int .i64 n] 58)).cell? ⟨w.heap.size, 3, none⟩ = some (.int .i64 a) := (by simp)
            have p4 : (w.alloc (.cells #[.int .i64 k, .int .i64 t, .int .i64 f, .int .i64 a, .int .i64 n] 58)).cell? ⟨w.heap.size, 4, none⟩ = some (.int .i64 n) := (by simp)
            go_enter Try.func63, Try.ntmps63
            go_wp2_with fail
            refine (HK.out _).mono ?_
            rintro e w1 ⟨rfl, hb1⟩
            have hM1 := HM0.out.call hb1
            have q0 : w1.cell? ⟨w.heap.size, 0, none⟩ = some (.int .i64 k) := (by have := hM1.cell 0 rfl 0; simpa using this)
            have q1 : w1.cell? ⟨w.heap.size, 1, none⟩ = some (.int .i64 t) := (by have := hM1.cell 0 rfl 1; simpa using this)
            have q2 : w1.cell? ⟨w.heap.size, 2, none⟩ = some (.int .i64 f) := (by have := hM1.cell 0 rfl 2; simpa using this)
            have q3 : w1.cell? ⟨w.heap.size, 3, none⟩ = some (.int .i64 a) := (by have := hM1.cell 0 rfl 3; simpa using this)
            have q4 : w1.cell? ⟨w.heap.size, 4, none⟩ = some (.int .i64 n) := (by have := hM1.cell 0 rfl 4; simpa using this)
            go_wp2_with fail
            refine (HTt.out _).mono ?_
            rintro e w2 ⟨rfl, hb2⟩
            have hM2 := (hM1.alloc_ _).call hb2
            have q20 : w2.cell? ⟨w.heap.size, 0, none⟩ = some (.int .i64 k) := (by have := hM2.cell 0 rfl 0; simpa using this)
            have q21 : w2.cell? ⟨w.heap.size, 1, none⟩ = some (.int .i64 t) := (by have := hM2.cell 0 rfl 1; simpa using this)
            have q22 : w2.cell? ⟨w.heap.size, 2, none⟩ = some (.int .i64 f) := (by have := hM2.cell 0 rfl 2; simpa using this)
            have q23 : w2.cell? ⟨w.heap.size, 3, none⟩ = some (.int .i64 a) := (by have := hM2.cell 0 rfl 3; simpa using this)
            have q24 : w2.cell? ⟨w.heap.size, 4, none⟩ = some (.int .i64 n) := (by have := hM2.cell 0 rfl 4; simpa using this)
            have HB := Lib.hid hM2.below
            go_wp2
            go_ret
            exact ⟨rfl, HB.out⟩
          · skip
            by_cases b2 : f < 0 ∨ 8 ≤ f
            · skip
              have hcv : c = 2 := by have h := Hc.out; (repeat' split at h) <;> omega
              subst hcv
              have HK := known_any k t f a n
              have x1 : (k == 1) = false := by simpa using e1
              have x2 : (k == 2) = false := by simpa using e2
              have x7 : (k != 7) = true := by simpa using e7
              rw [show decide (1 ≤ k ∧ k ≤ 7) = true by simp; omega] at HK
              have HK := Lib.hid HK
              clear hc hM0 Hc
              have HTt := fun W : World => there_any (.slice (some ⟨W.heap.size, 0, none⟩) 1 1) t (W.alloc (.cells #[.int .i64 t] 3)) (isInts_one W t _ ht)
              simp only [badR_no (by omega : ¬ (t < 0 ∨ 8 ≤ t))] at HTt
              have HTt := Lib.hid HTt
              have HTf := fun W : World => there_any (.slice (some ⟨W.heap.size, 0, none⟩) 1 1) f (W.alloc (.cells #[.int .i64 f] 3)) (isInts_one W f _ hf)
              simp only [badR_yes (by omega : f < 0 ∨ 8 ≤ f)] at HTf
              have HTf := Lib.hid HTf
              have p0 : (w.alloc (.cells #[.int .i64 k, .int .i64 t, .int .i64 f, .int .i64 a, .int .i64 n] 58)).cell? ⟨w.heap.size, 0, none⟩ = some (.int .i64 k) := (by simp)
              have p1 : (w.alloc (.cells #[.int .i64 k, .int .i64 t, .int .i64 f, .int .i64 a, .int .i64 n] 58)).cell? ⟨w.heap.size, 1, none⟩ = some (.int .i64 t) := (by simp)
              have p2 : (w.alloc (.cells #[.int .i64 k, .int .i64 t, .int .i64 f, .int .i64 a, .int .i64 n] 58)).cell? ⟨w.heap.size, 2, none⟩ = some (.int .i64 f) := (by simp)
              have p3 : (w.alloc (.cells #[.int .i64 k, .int .i64 t, .int .i64 f, .int .i64 a, .int .i64 n] 58)).cell? ⟨w.heap.size, 3, none⟩ = some (.int .i64 a) := (by simp)
              have p4 : (w.alloc (.cells #[.int .i64 k, .int .i64 t, .int .i64 f, .int .i64 a, .int .i64 n] 58)).cell? ⟨w.heap.size, 4, none⟩ = some (.int .i64 n) := (by simp)
              go_enter Try.func63, Try.ntmps63
              go_wp2_with fail
              refine (HK.out _).mono ?_
              rintro e w1 ⟨rfl, hb1⟩
              have hM1 := HM0.out.call hb1
              have q0 : w1.cell? ⟨w.heap.size, 0, none⟩ = some (.int .i64 k) := (by have := hM1.cell 0 rfl 0; simpa using this)
              have q1 : w1.cell? ⟨w.heap.size, 1, none⟩ = some (.int .i64 t) := (by have := hM1.cell 0 rfl 1; simpa using this)
              have q2 : w1.cell? ⟨w.heap.size, 2, none⟩ = some (.int .i64 f) := (by have := hM1.cell 0 rfl 2; simpa using this)
              have q3 : w1.cell? ⟨w.heap.size, 3, none⟩ = some (.int .i64 a) := (by have := hM1.cell 0 rfl 3; simpa using this)
              have q4 : w1.cell? ⟨w.heap.size, 4, none⟩ = some (.int .i64 n) := (by have := hM1.cell 0 rfl 4; simpa using this)
              go_wp2_with fail
              refine (HTt.out _).mono ?_
              rintro e w2 ⟨rfl, hb2⟩
              have hM2 := (hM1.alloc_ _).call hb2
              have q20 : w2.cell? ⟨w.heap.size, 0, none⟩ = some (.int .i64 k) := (by have := hM2.cell 0 rfl 0; simpa using this)
              have q21 : w2.cell? ⟨w.heap.size, 1, none⟩ = some (.int .i64 t) := (by have := hM2.cell 0 rfl 1; simpa using this)
              have q22 : w2.cell? ⟨w.heap.size, 2, none⟩ = some (.int .i64 f) := (by have := hM2.cell 0 rfl 2; simpa using this)
              have q23 : w2.cell? ⟨w.heap.size, 3, none⟩ = some (.int .i64 a) := (by have := hM2.cell 0 rfl 3; simpa using this)
              have q24 : w2.cell? ⟨w.heap.size, 4, none⟩ = some (.int .i64 n) := (by have := hM2.cell 0 rfl 4; simpa using this)
              go_wp2_with fail
              refine (HTf.out _).mono ?_
              rintro e w3 ⟨rfl, hb3⟩
              have hM3 := (hM2.alloc_ _).call hb3
              have q30 : w3.cell? ⟨w.heap.size, 0, none⟩ = some (.int .i64 k) := (by have := hM3.cell 0 rfl 0; simpa using this)
              have q31 : w3.cell? ⟨w.heap.size, 1, none⟩ = some (.int .i64 t) := (by have := hM3.cell 0 rfl 1; simpa using this)
              have q32 : w3.cell? ⟨w.heap.size, 2, none⟩ = some (.int .i64 f) := (by have := hM3.cell 0 rfl 2; simpa using this)
              have q33 : w3.cell? ⟨w.heap.size, 3, none⟩ = some (.int .i64 a) := (by have := hM3.cell 0 rfl 3; simpa using this)
              have q34 : w3.cell? ⟨w.heap.size, 4, none⟩ = some (.int .i64 n) := (by have := hM3.cell 0 rfl 4; simpa using this)
              have HB := Lib.hid hM3.below
              go_wp2
              go_ret
              exact ⟨rfl, HB.out⟩
            · skip
              have hcv : c = 0 := by have h := Hc.out; (repeat' split at h) <;> omega
              subst hcv
              have HK := known_any k t f a n
              have x1 : (k == 1) = false := by simpa using e1
              have x2 : (k == 2) = false := by simpa using e2
              have x7 : (k != 7) = true := by simpa using e7
              rw [show decide (1 ≤ k ∧ k ≤ 7) = true by simp; omega] at HK
              have HK := Lib.hid HK
              clear hc hM0 Hc
              have HTt := fun W : World => there_any (.slice (some ⟨W.heap.size, 0, none⟩) 1 1) t (W.alloc (.cells #[.int .i64 t] 3)) (isInts_one W t _ ht)
              simp only [badR_no (by omega : ¬ (t < 0 ∨ 8 ≤ t))] at HTt
              have HTt := Lib.hid HTt
              have HTf := fun W : World => there_any (.slice (some ⟨W.heap.size, 0, none⟩) 1 1) f (W.alloc (.cells #[.int .i64 f] 3)) (isInts_one W f _ hf)
              simp only [badR_no (by omega : ¬ (f < 0 ∨ 8 ≤ f))] at HTf
              have HTf := Lib.hid HTf
              have p0 : (w.alloc (.cells #[.int .i64 k, .int .i64 t, .int .i64 f, .int .i64 a, .int .i64 n] 58)).cell? ⟨w.heap.size, 0, none⟩ = some (.int .i64 k) := (by simp)
              have p1 : (w.alloc (.cells #[.int .i64 k, .int .i64 t, .int .i64 f, .int .i64 a, .int .i64 n] 58)).cell? ⟨w.heap.size, 1, none⟩ = some (.int .i64 t) := (by simp)
              have p2 : (w.alloc (.cells #[.int .i64 k, .int .i64 t, .int .i64 f, .int .i64 a, .int .i64 n] 58)).cell? ⟨w.heap.size, 2, none⟩ = some (.int .i64 f) := (by simp)
              have p3 : (w.alloc (.cells #[.int .i64 k, .int .i64 t, .int .i64 f, .int .i64 a, .int .i64 n] 58)).cell? ⟨w.heap.size, 3, none⟩ = some (.int .i64 a) := (by simp)
              have p4 : (w.alloc (.cells #[.int .i64 k, .int .i64 t, .int .i64 f, .int .i64 a, .int .i64 n] 58)).cell? ⟨w.heap.size, 4, none⟩ = some (.int .i64 n) := (by simp)
              go_enter Try.func63, Try.ntmps63
              go_wp2_with fail
              refine (HK.out _).mono ?_
              rintro e w1 ⟨rfl, hb1⟩
              have hM1 := HM0.out.call hb1
              have q0 : w1.cell? ⟨w.heap.size, 0, none⟩ = some (.int .i64 k) := (by have := hM1.cell 0 rfl 0; simpa using this)
              have q1 : w1.cell? ⟨w.heap.size, 1, none⟩ = some (.int .i64 t) := (by have := hM1.cell 0 rfl 1; simpa using this)
              have q2 : w1.cell? ⟨w.heap.size, 2, none⟩ = some (.int .i64 f) := (by have := hM1.cell 0 rfl 2; simpa using this)
              have q3 : w1.cell? ⟨w.heap.size, 3, none⟩ = some (.int .i64 a) := (by have := hM1.cell 0 rfl 3; simpa using this)
              have q4 : w1.cell? ⟨w.heap.size, 4, none⟩ = some (.int .i64 n) := (by have := hM1.cell 0 rfl 4; simpa using this)
              go_wp2_with fail
              refine (HTt.out _).mono ?_
              rintro e w2 ⟨rfl, hb2⟩
              have hM2 := (hM1.alloc_ _).call hb2
              have q20 : w2.cell? ⟨w.heap.size, 0, none⟩ = some (.int .i64 k) := (by have := hM2.cell 0 rfl 0; simpa using this)
              have q21 : w2.cell? ⟨w.heap.size, 1, none⟩ = some (.int .i64 t) := (by have := hM2.cell 0 rfl 1; simpa using this)
              have q22 : w2.cell? ⟨w.heap.size, 2, none⟩ = some (.int .i64 f) := (by have := hM2.cell 0 rfl 2; simpa using this)
              have q23 : w2.cell? ⟨w.heap.size, 3, none⟩ = some (.int .i64 a) := (by have := hM2.cell 0 rfl 3; simpa using this)
              have q24 : w2.cell? ⟨w.heap.size, 4, none⟩ = some (.int .i64 n) := (by have := hM2.cell 0 rfl 4; simpa using this)
              go_wp2_with fail
              refine (HTf.out _).mono ?_
              rintro e w3 ⟨rfl, hb3⟩
              have hM3 := (hM2.alloc_ _).call hb3
              have q30 : w3.cell? ⟨w.heap.size, 0, none⟩ = some (.int .i64 k) := (by have := hM3.cell 0 rfl 0; simpa using this)
              have q31 : w3.cell? ⟨w.heap.size, 1, none⟩ = some (.int .i64 t) := (by have := hM3.cell 0 rfl 1; simpa using this)
              have q32 : w3.cell? ⟨w.heap.size, 2, none⟩ = some (.int .i64 f) := (by have := hM3.cell 0 rfl 2; simpa using this)
              have q33 : w3.cell? ⟨w.heap.size, 3, none⟩ = some (.int .i64 a) := (by have := hM3.cell 0 rfl 3; simpa using this)
              have q34 : w3.cell? ⟨w.heap.size, 4, none⟩ = some (.int .i64 n) := (by have := hM3.cell 0 rfl 4; simpa using this)
              have HB := Lib.hid hM3.below
              go_wp2
              go_ret
              exact ⟨rfl, HB.out⟩
  · by_cases e1 : k = 1
    · omega
    · by_cases e2 : k = 2
      · omega
      · skip
        have hcv : c = 5 := by have h := Hc.out; (repeat' split at h) <;> omega
        subst hcv
        have HK := known_any k t f a n
        rw [show decide (1 ≤ k ∧ k ≤ 7) = false by simp; omega] at HK
        have HK := Lib.hid HK
        clear hc hM0 Hc
        have p0 : (w.alloc (.cells #[.int .i64 k, .int .i64 t, .int .i64 f, .int .i64 a, .int .i64 n] 58)).cell? ⟨w.heap.size, 0, none⟩ = some (.int .i64 k) := (by simp)
        have p1 : (w.alloc (.cells #[.int .i64 k, .int .i64 t, .int .i64 f, .int .i64 a, .int .i64 n] 58)).cell? ⟨w.heap.size, 1, none⟩ = some (.int .i64 t) := (by simp)
        have p2 : (w.alloc (.cells #[.int .i64 k, .int .i64 t, .int .i64 f, .int .i64 a, .int .i64 n] 58)).cell? ⟨w.heap.size, 2, none⟩ = some (.int .i64 f) := (by simp)
        have p3 : (w.alloc (.cells #[.int .i64 k, .int .i64 t, .int .i64 f, .int .i64 a, .int .i64 n] 58)).cell? ⟨w.heap.size, 3, none⟩ = some (.int .i64 a) := (by simp)
        have p4 : (w.alloc (.cells #[.int .i64 k, .int .i64 t, .int .i64 f, .int .i64 a, .int .i64 n] 58)).cell? ⟨w.heap.size, 4, none⟩ = some (.int .i64 n) := (by simp)
        go_enter Try.func63, Try.ntmps63
        go_wp2_with fail
        refine (HK.out _).mono ?_
        rintro e w1 ⟨rfl, hb1⟩
        have hM1 := HM0.out.call hb1
        have q0 : w1.cell? ⟨w.heap.size, 0, none⟩ = some (.int .i64 k) := (by have := hM1.cell 0 rfl 0; simpa using this)
        have q1 : w1.cell? ⟨w.heap.size, 1, none⟩ = some (.int .i64 t) := (by have := hM1.cell 0 rfl 1; simpa using this)
        have q2 : w1.cell? ⟨w.heap.size, 2, none⟩ = some (.int .i64 f) := (by have := hM1.cell 0 rfl 2; simpa using this)
        have q3 : w1.cell? ⟨w.heap.size, 3, none⟩ = some (.int .i64 a) := (by have := hM1.cell 0 rfl 3; simpa using this)
        have q4 : w1.cell? ⟨w.heap.size, 4, none⟩ = some (.int .i64 n) := (by have := hM1.cell 0 rfl 4; simpa using this)
        have HB := Lib.hid hM1.below
        go_wp2
        go_ret
        exact ⟨rfl, HB.out⟩
end Go.Proofs.Ytmmcjjklmcfegaa
