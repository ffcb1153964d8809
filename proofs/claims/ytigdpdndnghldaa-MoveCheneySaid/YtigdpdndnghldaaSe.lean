/- MoveCheney, walked. -/
import Derived.Test.YtigdpdndnghldaaSd
import Derived.Test.YtigdpdndnghldaaBw
import Derived.Test.YtigdpdndnghldaaVa
namespace Go.Proofs.Ytigdpdndnghldaa
open Go.RowKit Go.Shelf

set_option maxRecDepth 100000 in
set_option maxHeartbeats 4000000 in
theorem moveCheney_walk (vw vr : Value) (ws rs : List Int) (w : World) (hw : IsW w vw ws) (hr : IsW w vr rs) :
    Calls Try.prog 10 #[.agg #[vw, vr]] w fun e w' => e = .returned (.bool true) ∧ Below w.heap.size w w' := by
  have Hw := Lib.hid hw
  have Hr := Lib.hid hr
  obtain ⟨aw, cw, rfl, hmw⟩ := hw.slice
  obtain ⟨ar, cr, rfl, hmr⟩ := hr.slice
  have hM0 := (Mem.start w).alloc #[.slice aw ws.length cw, .slice ar rs.length cr] 24
  have HC := Lib.hid (sound_any _ _ ws rs _ (hw.later hM0.below) (hr.later hM0.below))
  have HM0 := Lib.hid hM0
  clear hw hr hM0
  go_enter Try.func10, Try.ntmps10
  go_wp2_with fail
  refine HC.out.mono ?_
  rintro e w2 ⟨hb, hcase⟩
  have hM2 := HM0.out.call hb
  have c0 : w2.cell? ⟨w.heap.size, 0, none⟩ = some (.slice aw ws.length cw) := by have := hM2.cell 0 rfl 0; simpa using this
  have c1 : w2.cell? ⟨w.heap.size, 1, none⟩ = some (.slice ar rs.length cr) := by have := hM2.cell 0 rfl 1; simpa using this
  have z0 : w.heap.size < w2.heap.size := (hM2.box 0 rfl).2.1
  have HM2 := Lib.hid hM2
  clear hb hM2 HC HM0
  rcases hcase with ⟨rfl, os, hS⟩ | ⟨rfl, hn⟩
  · obtain ⟨F, hF⟩ := ord_exists (read_rng hS)
    have h64 : ∀ x ∈ allW rs os, w64 x := fun x hx => by
      rcases List.mem_append.1 hx with h | h
      · exact Hr.out.all x h
      · exact Hw.out.all x (fieldsOf_mem hS.laid x h)
    have HCp := Lib.hid (copy_any _ _ ws rs os F w2 (Hw.out.later HM2.out.below) (Hr.out.later HM2.out.below) hS hF)
    obtain ⟨os1, rs1, e1, e2, hS1, w1, w2', hl1, hO1, m1, m2, hhead⟩ := twice_plain hS h64 hF
    have hrd := rel_read hS h64 (ord_keeps hS hF) (hdC os)
    rw [← e1, ← e2] at HCp hrd
    have h641 : ∀ x ∈ allW rs1 os1, w64 x := fun x hx => by
      rcases List.mem_append.1 hx with h | h
      · exact w2' x h
      · exact w1 x (fieldsOf_mem hS1.laid x h)
    have hFt := fits_read hS h64
    have hcl := hF.closedF (read_rng hS)
    obtain ⟨N, hN⟩ : ∃ N, placeF os F F.length = N := ⟨_, rfl⟩
    have hl3 := hl1
    rw [hN] at hl1
    have hN256 : N ≤ 256 := by have := hS1.words; omega
    have hrl : rs1.length ≤ 8 := hS1.roots
    have Hl1 := Lib.hid hl1
    have HP := Lib.hid (And.intro hS (And.intro hF (And.intro hS1 (And.intro hcl (And.intro hl3 (And.intro hrd (And.intro h64 (And.intro h641 hFt))))))))
    have Hw1 := Lib.hid w1
    have Hw2 := Lib.hid w2'
    clear hS hF h64 e1 e2 hS1 w1 w2' hl1 hO1 m1 m2 hhead h641 hN hrd hcl hl3 hFt
    go_wp2_with fail
    refine HCp.out.mono ?_
    rintro e w4 ⟨tv, r, rfl, hM4⟩
    have hT := isW_of_own (hM4.ownW 0 rfl) (by rw [Hl1.out]; omega) Hw1.out
    have hR := isW_of_own (hM4.ownW 1 rfl) (by omega) Hw2.out
    obtain ⟨at1, ct1, rfl, _⟩ := hT.slice
    obtain ⟨ar1, cr1, rfl, _⟩ := hR.slice
    rw [Hl1.out]
    have hM5 := (HM2.out.call hM4.below).alloc #[.slice at1 N ct1, .slice ar1 rs1.length cr1] 24
    obtain ⟨b3, hb3⟩ : ∃ b3, w4.heap.size = b3 := ⟨_, rfl⟩
    obtain ⟨W5, hW5⟩ : ∃ W5, w4.alloc (.cells #[.slice at1 N ct1, .slice ar1 rs1.length cr1] 24) = W5 := ⟨_, rfl⟩
    have hB5 : Below w4.heap.size w4 W5 := by rw [← hW5]; exact (Below.refl _ _).alloc (Nat.le_refl _) _
    rw [hb3, hW5] at hM5
    rw [Hl1.out] at hT
    have HT5 := Lib.hid (hT.later hB5)
    have HR5 := Lib.hid (hR.later hB5)
    have HwA := Lib.hid (Hw.out.later hM5.below)
    have HrA := Lib.hid (Hr.out.later hM5.below)
    have HM5 := Lib.hid hM5
    have HW5 := Lib.hid hW5
    have Hb3 := Lib.hid hb3
    clear hM4 hT hR hM5 hB5 hW5 hb3 HCp c0 c1 z0
    have Q1 : Hid (∀ X, Below W5.heap.size W5 X → Calls Try.prog 35 #[.agg #[.slice at1 N ct1, .slice ar1 rs1.length cr1], .agg #[.slice aw ws.length cw, .slice ar rs.length cr]] X fun e w' => e = .returned (.bool true) ∧ Below X.heap.size X w') := Lib.hid (fun X hX => by
      obtain ⟨hS, hF, hS1, hcl, hl3, hrd, h64, h641, hFt⟩ := HP.out
      rw [← Hl1.out]
      exact left_yes _ _ _ _ (flat os1) rs1 ws rs os1 os F F X (by rw [Hl1.out]; exact HT5.out.later hX) (HR5.out.later hX) (HwA.out.later hX) (HrA.out.later hX) hS1 hS hF hcl hl3 hrd h64 h641)
    have Q2 : Hid (∀ X, Below W5.heap.size W5 X → Calls Try.prog 29 #[.agg #[.slice at1 N ct1, .slice ar1 rs1.length cr1]] X fun e w' => ∃ v, e = .returned v ∧ IsGraph w' v (readG os1 rs1) ∧ Below X.heap.size X w') := Lib.hid (fun X hX => by
      obtain ⟨hS, hF, hS1, hcl, hl3, hrd, h64, h641, hFt⟩ := HP.out
      rw [← Hl1.out]
      refine (rread_yes _ _ (flat os1) rs1 os1 X (by rw [Hl1.out]; exact HT5.out.later hX) (HR5.out.later hX) hS1).mono ?_
      rintro e w' ⟨v, rfl, hg, hb⟩
      exact ⟨v, rfl, hg.here, hb⟩)
    have Q3 : Hid (∀ X, Below W5.heap.size W5 X → Calls Try.prog 29 #[.agg #[.slice aw ws.length cw, .slice ar rs.length cr]] X fun e w' => ∃ v, e = .returned v ∧ IsGraph w' v (readG os rs) ∧ Below X.heap.size X w') := Lib.hid (fun X hX => by
      obtain ⟨hS, hF, hS1, hcl, hl3, hrd, h64, h641, hFt⟩ := HP.out
      refine (rread_yes _ _ ws rs os X (HwA.out.later hX) (HrA.out.later hX) hS).mono ?_
      rintro e w' ⟨v, rfl, hg, hb⟩
      exact ⟨v, rfl, hg.here, hb⟩)
    have Q4 : Hid (∀ X v, IsGraph X v (readG os rs) → Calls Try.prog 36 #[v] X fun e w' => ∃ v, e = .returned v ∧ IsGraph w' v (readG os1 rs1) ∧ Below X.heap.size X w') := Lib.hid (fun X v hv => by
      obtain ⟨hS, hF, hS1, hcl, hl3, hrd, h64, h641, hFt⟩ := HP.out
      refine (canonF_any _ hFt F hF v X hv).mono ?_
      rintro e w' ⟨v, rfl, hg, hb⟩
      rw [← hrd] at hg
      exact ⟨v, rfl, hg.here, hb⟩)
    have Q5 : Hid (∀ X u v, IsGraph X u (readG os1 rs1) → IsGraph X v (readG os1 rs1) → Calls Try.prog 23 #[u, v] X fun e w' => e = .returned (.bool true) ∧ Below X.heap.size X w') := Lib.hid (fun X u v hu hv => graphs_same u v _ X hu hv)
    have HCs : Hid (∀ X, Below W5.heap.size W5 X → X.cell? ⟨b3, 0, none⟩ = some (.slice at1 N ct1) ∧ X.cell? ⟨b3, 1, none⟩ = some (.slice ar1 rs1.length cr1) ∧ X.cell? ⟨w.heap.size, 0, none⟩ = some (.slice aw ws.length cw) ∧ X.cell? ⟨w.heap.size, 1, none⟩ = some (.slice ar rs.length cr)) := Lib.hid (fun X hX => by
      have hMX := HM5.out.call hX
      refine ⟨?_, ?_, ?_, ?_⟩
      · have := hMX.cell 0 rfl 0; simpa using this
      · have := hMX.cell 0 rfl 1; simpa using this
      · have := hMX.cell 1 rfl 0; simpa using this
      · have := hMX.cell 1 rfl 1; simpa using this)
    have HBd := Lib.hid ((Below.refl W5.heap.size W5).drew)
    clear HP Hw1 Hw2 HT5 HR5 HwA HrA
    go_wp2
    rw [Hb3.out, HW5.out]
    go_region_held3 (fun X => X.cell? ⟨b3, 0, none⟩ = some (.slice at1 N ct1) ∧ X.cell? ⟨b3, 1, none⟩ = some (.slice ar1 rs1.length cr1) ∧ X.cell? ⟨w.heap.size, 0, none⟩ = some (.slice aw ws.length cw) ∧ X.cell? ⟨w.heap.size, 1, none⟩ = some (.slice ar rs.length cr))
      (first | exact HCs.out _ HBd.out | exact HCs.out _ hB8 | exact HCs.out _ hB9 | exact HCs.out _ hB10 | exact HCs.out _ hB11 | exact HCs.out _ hB12)
      (first
        | (go_at_call 35
           refine (Q1.out _ HBd.out).mono ?_
           rintro e w8 ⟨rfl, hb8⟩
           have hB8 := HBd.out.trans (hb8.mono HBd.out.size)
           clear hb8)
        | (go_at_call 29
           refine (Q3.out _ hB9).mono ?_
           rintro e w10 ⟨v2, rfl, hg2, hb10⟩
           have hB10 := hB9.trans (hb10.mono hB9.size)
           have hg1a := hg1.later hb10
           clear hb10)
        | (go_at_call 29
           refine (Q2.out _ hB8).mono ?_
           rintro e w9 ⟨v1, rfl, hg1, hb9⟩
           have hB9 := hB8.trans (hb9.mono hB8.size)
           clear hb9)
        | (go_at_call 36
           refine (Q4.out _ _ hg2).mono ?_
           rintro e w11 ⟨v3, rfl, hg3, hb11⟩
           have hB11 := hB10.trans (hb11.mono hB10.size)
           have hg1b := hg1a.later hb11
           clear hb11)
        | (go_at_call 23
           refine (Q5.out _ _ _ hg1b hg3).mono ?_
           rintro e w12 ⟨rfl, hb12⟩
           have hB12 := hB11.trans (hb12.mono hB11.size)
           clear hb12))
    have HB := Lib.hid (HM5.out.call hB12).below
    clear hB8 hB9 hB10 hB11 hB12 hg1 hg2 hg1a hg1b hg3 Q1 Q2 Q3 Q4 Q5 HCs
    go_wp2
    go_ret
    exact ⟨rfl, HB.out⟩
  · have HU := Lib.hid (unsound_any _ _ ws rs w2 (Hw.out.later HM2.out.below) (Hr.out.later HM2.out.below) hn)
    clear hn
    go_wp2_with fail
    refine HU.out.mono ?_
    rintro e w3 ⟨rfl, hb3⟩
    have HB := Lib.hid (HM2.out.call hb3).below
    clear hb3
    go_wp2
    go_ret
    exact ⟨rfl, HB.out⟩
end Go.Proofs.Ytigdpdndnghldaa
