/- MarkRoom, walked. -/
import Derived.Test.YtigdpdndnghldaaNd
namespace Go.Proofs.Ytigdpdndnghldaa
open Go.RowKit Go.Shelf

set_option maxRecDepth 100000 in
set_option maxHeartbeats 4000000 in
theorem markRoom_walk (vw vr : Value) (ws rs : List Int) (r s : Int) (w : World) (hw : IsW w vw ws) (hr : IsW w vr rs) :
    Calls Try.prog 8 #[.agg #[vw, vr], .int .i64 r, .int .i64 s] w fun e w' => e = .returned (.bool true) ∧ Below w.heap.size w w' := by
  have Hw := Lib.hid hw
  have Hr := Lib.hid hr
  obtain ⟨aw, cw, rfl, hmw⟩ := hw.slice
  obtain ⟨ar, cr, rfl, hmr⟩ := hr.slice
  have hM0 := (Mem.start w).alloc #[.slice aw ws.length cw, .slice ar rs.length cr] 24
  have HC := Lib.hid (sound_any _ _ ws rs _ (hw.later hM0.below) (hr.later hM0.below))
  have HM0 := Lib.hid hM0
  clear hw hr hM0 hmw hmr
  go_enter Try.func8, Try.ntmps8
  go_wp2_with fail
  refine HC.out.mono ?_
  rintro e w2 ⟨hb, hcase⟩
  have hM2 := HM0.out.call hb
  have c0 : w2.cell? ⟨w.heap.size, 0, none⟩ = some (.slice aw ws.length cw) := by have := hM2.cell 0 rfl 0; simpa using this
  have c1 : w2.cell? ⟨w.heap.size, 1, none⟩ = some (.slice ar rs.length cr) := by have := hM2.cell 0 rfl 1; simpa using this
  have z0 : w.heap.size < w2.heap.size := (hM2.box 0 rfl).2.1
  have HM2 := Lib.hid hM2
  clear hb hM2 HC HM0
  rcases hcase with ⟨rfl, os, hS⟩ | ⟨rfl, hn⟩
  · obtain ⟨F, hF⟩ := ord_exists (read_rng hS)
    have h64 : ∀ x ∈ allW rs os, w64 x := fun x hx => by
      rcases List.mem_append.1 hx with h | h
      · exact Hr.out.all x h
      · exact Hw.out.all x (fieldsOf_mem hS.laid x h)
    have HCp := Lib.hid (mark_any _ _ ws rs os F r w2 (Hw.out.later HM2.out.below) (Hr.out.later HM2.out.below) hS h64 hF)
    have HP := Lib.hid (And.intro hS (And.intro hF h64))
    have hws := hS.words
    have hrs := hS.roots
    clear hS hF h64
    go_wp2_with fail
    refine HCp.out.mono ?_
    rintro e w4 ⟨a1, n1, d1, a2, n2, d2, c, rfl, hb4, hc4⟩
    have hM5 := (HM2.out.call hb4).alloc #[.slice a1 n1 d1, .slice a2 n2 d2] 24
    obtain ⟨b3, hb3⟩ : ∃ b3, w4.heap.size = b3 := ⟨_, rfl⟩
    obtain ⟨W5, hW5⟩ : ∃ W5, w4.alloc (.cells #[.slice a1 n1 d1, .slice a2 n2 d2] 24) = W5 := ⟨_, rfl⟩
    have hB5 : Below w4.heap.size w4 W5 := by rw [← hW5]; exact (Below.refl _ _).alloc (Nat.le_refl _) _
    have p0 : w4.cell? ⟨w.heap.size, 0, none⟩ = some (.slice aw ws.length cw) := by have := (HM2.out.call hb4).cell 0 rfl 0; simpa using this
    have p1 : w4.cell? ⟨w.heap.size, 1, none⟩ = some (.slice ar rs.length cr) := by have := (HM2.out.call hb4).cell 0 rfl 1; simpa using this
    have pz : w.heap.size < w4.heap.size := ((HM2.out.call hb4).box 0 rfl).2.1
    rw [hb3, hW5] at hM5
    have hc5 : (c = 0 ∧ 1 ≤ r ∧ r ≤ 64 ∧ n1 = ws.length ∧ n2 = rs.length ∧ IsW W5 (.slice a1 n1 d1) (flat (mkO os F)) ∧ IsW W5 (.slice a2 n2 d2) rs) ∨ (c ≠ 0 ∧ (r < 1 ∨ 64 < r)) := by
      rcases hc4 with ⟨h1, h2, h3, h4, h5, h6, h7⟩ | h
      · exact .inl ⟨h1, h2, h3, h4, h5, h6.later hB5, h7.later hB5⟩
      · exact .inr h
    have HCp2 := Lib.hid (mark_any _ _ ws rs os F s W5 (Hw.out.later hM5.below) (Hr.out.later hM5.below) HP.out.1 HP.out.2.2 HP.out.2.1)
    have HM5 := Lib.hid hM5
    have HW5 := Lib.hid hW5
    have Hb3 := Lib.hid hb3
    have Hc5 := Lib.hid hc5
    clear hM5 hB5 hb4 hc4 hW5 hb3 hc5 HCp c0 c1 z0
    go_wp2_with fail
    rw [Hb3.out, HW5.out]
    refine HCp2.out.mono ?_
    rintro e w6 ⟨a3, n3, d3, a4, n4, d4, x, rfl, hb6, hc6⟩
    clear p0 p1 pz
    have hM7 := (HM5.out.call hb6).alloc #[.slice a3 n3 d3, .slice a4 n4 d4] 24
    obtain ⟨b5, hb5⟩ : ∃ b5, w6.heap.size = b5 := ⟨_, rfl⟩
    obtain ⟨W7, hW7⟩ : ∃ W7, w6.alloc (.cells #[.slice a3 n3 d3, .slice a4 n4 d4] 24) = W7 := ⟨_, rfl⟩
    have hB7 : Below w6.heap.size w6 W7 := by rw [← hW7]; exact (Below.refl _ _).alloc (Nat.le_refl _) _
    rw [hb5, hW7] at hM7
    have HB := Lib.hid hM7.below
    by_cases hgood : (1 ≤ r ∧ r ≤ 64) ∧ 1 ≤ s ∧ s ≤ 64
    · rcases Hc5.out with ⟨rfl, _, _, rfl, rfl, h1, h2⟩ | ⟨_, h⟩
      · rcases hc6 with ⟨rfl, _, _, rfl, rfl, h3, h4⟩ | ⟨_, h⟩
        · have hfl : (flat (mkO os F)).length = ws.length := by rw [mkO_flat, ← HP.out.1.laid.1]
          have HA := Lib.hid (arenas_same _ _ _ _ _ _ W7 ((h1.later hb6).later hB7) ((h2.later hb6).later hB7) (h3.later hB7) (h4.later hB7) (by rw [hfl]; omega) (by omega))
          have hM6 := HM5.out.call hb6
          have q0 : w6.cell? ⟨b3, 0, none⟩ = some (.slice a1 ws.length d1) := by have := hM6.cell 0 rfl 0; simpa using this
          have q1 : w6.cell? ⟨b3, 1, none⟩ = some (.slice a2 rs.length d2) := by have := hM6.cell 0 rfl 1; simpa using this
          have y3 : b3 < w6.heap.size := (hM6.box 0 rfl).2.1
          have g1 : decide (r < 1) = false := decide_eq_false (by omega)
          have g2 : decide (s < 1) = false := decide_eq_false (by omega)
          have g3 : decide (r > 64) = false := decide_eq_false (by omega)
          have g4 : decide (s > 64) = false := decide_eq_false (by omega)
          have HM7 := Lib.hid hM7
          have Hb5 := Lib.hid hb5
          have HW7 := Lib.hid hW7
          clear hb6 hM6 hM7 hb5 hW7 hB7 h1 h2 h3 h4 hfl hgood Hc5 HP HCp2
          go_wp2_with fail
          rw [Hb5.out, HW7.out]
          refine HA.out.mono ?_
          rintro e w8 ⟨rfl, hb8⟩
          have hM8 := HM7.out.call hb8
          have r0 : w8.cell? ⟨b3, 0, none⟩ = some (.slice a1 ws.length d1) := by have := hM8.cell 1 rfl 0; simpa using this
          have r1 : w8.cell? ⟨w.heap.size, 0, none⟩ = some (.slice aw ws.length cw) := by have := hM8.cell 2 rfl 0; simpa using this
          have r2 : b3 < w8.heap.size := (hM8.box 1 rfl).2.1
          have r3 : w.heap.size < w8.heap.size := (hM8.box 2 rfl).2.1
          have HB8 := Lib.hid hM8.below
          clear hM8 hb8 HA q0 q1 y3 HM7
          go_wp2
          go_ret
          exact ⟨rfl, HB8.out⟩
        · omega
      · omega
    · have hbad : (c != 0) = true ∨ (c == 0) = true ∧ (x != 0) = true := by
        rcases Hc5.out with ⟨h, h1, h2, _⟩ | ⟨h, _⟩
        · rcases hc6 with ⟨_, h3, h4, _⟩ | ⟨h', _⟩
          · exact absurd ⟨⟨h1, h2⟩, h3, h4⟩ hgood
          · exact .inr ⟨by simp [h], by simpa using h'⟩
        · exact .inl (by simpa using h)
      have Hg := Lib.hid hgood
      have Hb5 := Lib.hid hb5
      have HW7 := Lib.hid hW7
      clear hM7 hB7 hb6 hc6 Hc5 HP HCp2 hb5 hW7 hgood HM5
      have hcs : decide (r < 1) = true ∨ (decide (r < 1) = false ∧ decide (s < 1) = true) ∨ (decide (r < 1) = false ∧ decide (s < 1) = false ∧ decide (r > 64) = true) ∨ (decide (r < 1) = false ∧ decide (s < 1) = false ∧ decide (r > 64) = false ∧ decide (s > 64) = true) := by
        have := Hg.out
        simp only [decide_eq_true_eq, decide_eq_false_iff_not]
        omega
      rcases hcs with h1 | ⟨h1, h2⟩ | ⟨h1, h2, h3⟩ | ⟨h1, h2, h3, h4⟩ <;> rcases hbad with k1 | ⟨k1, k2⟩ <;> (try have k0 : (c != 0) = false := by simpa using k1) <;>
        (go_wp2
         rw [HW7.out]
         go_ret
         exact ⟨rfl, HB.out⟩)
  · have HU := Lib.hid (unsound_any _ _ ws rs w2 (Hw.out.later HM2.out.below) (Hr.out.later HM2.out.below) hn)
    clear hn
    go_wp2_with fail
    refine HU.out.mono ?_
    rintro e w3 ⟨rfl, hb3⟩
    have HB := Lib.hid (HM2.out.call hb3).below
    clear hb3
    go_wp2
    go_ret
    exact ⟨rfl, HB.out⟩
end Go.Proofs.Ytigdpdndnghldaa
