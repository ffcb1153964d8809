/- The law file's left, walked. -/
import Derived.Test.YtgdodbdipbomfaaSb
namespace Go.Proofs.Ytgdodbdipbomfaa
open Go.RowKit Go.Shelf

set_option maxRecDepth 100000 in
set_option maxHeartbeats 4000000 in
theorem left_yes (ub vb ua va : Value) (ws1 rs1 ws rs : List Int) (os1 os : List Ob) (F L : List Int) (w : World) (hb1 : IsW w ub ws1) (hb2 : IsW w vb rs1) (ha1 : IsW w ua ws) (ha2 : IsW w va rs)
    (hS1 : Sound ws1 rs1 os1) (hS : Sound ws rs os) (hF : OrdS (readG os rs) F) (hL : ClosedF (readG os rs) L) (hlen : ws1.length = placeF os F F.length)
    (hrd : readG os1 rs1 = renumP (readG os rs) L (fun y => plc L y 0)) (h64 : ∀ x ∈ allW rs os, w64 x) (h641 : ∀ x ∈ allW rs1 os1, w64 x) :
    Calls Try.prog 24 #[.agg #[ub, vb], .agg #[ua, va]] w fun e w' => e = .returned (.bool true) ∧ Below w.heap.size w w' := by
  obtain ⟨a1, c1, rfl, _⟩ := hb1.slice
  obtain ⟨a2, c2, rfl, _⟩ := hb2.slice
  obtain ⟨a3, c3, rfl, _⟩ := ha1.slice
  obtain ⟨a4, c4, rfl, _⟩ := ha2.slice
  have hM0 := ((Mem.start w).alloc #[.slice a1 ws1.length c1, .slice a2 rs1.length c2] 24).allocAt (w.heap.size + 1) (by simp) #[.slice a3 ws.length c3, .slice a4 rs.length c4] 24
  obtain ⟨W, hW⟩ : ∃ W, (w.alloc (.cells #[.slice a1 ws1.length c1, .slice a2 rs1.length c2] 24)).alloc (.cells #[.slice a3 ws.length c3, .slice a4 rs.length c4] 24) = W := ⟨_, rfl⟩
  rw [hW] at hM0
  have hG1 := fits_read hS1 h641
  have hI := iso_back hL
  have hLb := lab_back (fits_read hS h64).objs hL
  rw [← hrd] at hI
  obtain ⟨N, hN⟩ : ∃ N, ws1.length = N := ⟨_, rfl⟩
  rw [hN] at hM0 hW hlen
  have Q1 : Hid (∀ X, Below W.heap.size W X → Calls Try.prog 12 #[.agg #[.slice a1 N c1, .slice a2 rs1.length c2]] X fun e w' => e = .returned (.bool true) ∧ Below X.heap.size X w') := Lib.hid (fun X hX => by
    rw [← hN]
    exact sound_yes _ _ _ _ os1 X ((hb1.later hM0.below).later hX) ((hb2.later hM0.below).later hX) hS1)
  have Q2 : Hid (∀ X, Below W.heap.size W X → Calls Try.prog 27 #[.agg #[.slice a3 ws.length c3, .slice a4 rs.length c4]] X fun e w' => e = .returned (.int .i64 N) ∧ Below X.heap.size X w') := Lib.hid (fun X hX => by
    have := size_any _ _ ws rs os F X ((ha1.later hM0.below).later hX) ((ha2.later hM0.below).later hX) hS hF
    rwa [← hlen] at this)
  have Q3 : Hid (∀ X, Below W.heap.size W X → Calls Try.prog 17 #[.agg #[.slice a1 N c1, .slice a2 rs1.length c2]] X fun e w' => ∃ v, e = .returned v ∧ IsGraph w' v (readG os1 rs1) ∧ Below X.heap.size X w') := Lib.hid (fun X hX => by
    rw [← hN]
    refine (rread_yes _ _ _ _ os1 X ((hb1.later hM0.below).later hX) ((hb2.later hM0.below).later hX) hS1).mono ?_
    rintro e w' ⟨v, rfl, hg, hb⟩
    exact ⟨v, rfl, hg.here, hb⟩)
  have Q4 : Hid (∀ X, Below W.heap.size W X → Calls Try.prog 17 #[.agg #[.slice a3 ws.length c3, .slice a4 rs.length c4]] X fun e w' => ∃ v, e = .returned v ∧ IsGraph w' v (readG os rs) ∧ Below X.heap.size X w') := Lib.hid (fun X hX => by
    refine (rread_yes _ _ _ _ os X ((ha1.later hM0.below).later hX) ((ha2.later hM0.below).later hX) hS).mono ?_
    rintro e w' ⟨v, rfl, hg, hb⟩
    exact ⟨v, rfl, hg.here, hb⟩)
  have Q5 : Hid (∀ X u v, IsGraph X u (readG os1 rs1) → IsGraph X v (readG os rs) → Calls Try.prog 54 #[u, v] X fun e w' => e = .returned (.bool true) ∧ Below X.heap.size X w') := Lib.hid (fun X u v hu hv => sameF_iso _ _ _ _ hI hLb hG1 u v X hu hv)
  have HCs : Hid (∀ X, Below W.heap.size W X → X.cell? ⟨w.heap.size, 0, none⟩ = some (.slice a1 N c1) ∧ X.cell? ⟨w.heap.size, 1, none⟩ = some (.slice a2 rs1.length c2) ∧ X.cell? ⟨w.heap.size + 1, 0, none⟩ = some (.slice a3 ws.length c3) ∧ X.cell? ⟨w.heap.size + 1, 1, none⟩ = some (.slice a4 rs.length c4)) := Lib.hid (fun X hX => by
    have hMX := hM0.call hX
    refine ⟨?_, ?_, ?_, ?_⟩
    · have := hMX.cell 1 rfl 0; simpa using this
    · have := hMX.cell 1 rfl 1; simpa using this
    · have := hMX.cell 0 rfl 0; simpa using this
    · have := hMX.cell 0 rfl 1; simpa using this)
  have HM0 := Lib.hid hM0
  have HBd := Lib.hid ((Below.refl W.heap.size W).drew)
  have HW := Lib.hid hW
  have Hn := Lib.hid hN
  have q0 : ((N : Int) == (N : Int)) = true := by simp
  clear hb1 hb2 ha1 ha2 hS1 hS hF hL hlen hrd h64 h641 hM0 hW hG1 hI hLb hN
  go_enter Try.func24, Try.ntmps24
  go_wp2
  rw [Hn.out, HW.out]
  go_region_held3 (fun X => X.cell? ⟨w.heap.size, 0, none⟩ = some (.slice a1 N c1) ∧ X.cell? ⟨w.heap.size, 1, none⟩ = some (.slice a2 rs1.length c2) ∧ X.cell? ⟨w.heap.size + 1, 0, none⟩ = some (.slice a3 ws.length c3) ∧ X.cell? ⟨w.heap.size + 1, 1, none⟩ = some (.slice a4 rs.length c4))
    (first | exact HCs.out _ HBd.out | exact HCs.out _ hB8 | exact HCs.out _ hB9 | exact HCs.out _ hB10 | exact HCs.out _ hB11 | exact HCs.out _ hB12)
    (first
      | (go_at_call 12
         refine (Q1.out _ HBd.out).mono ?_
         rintro e w8 ⟨rfl, hb8⟩
         have hB8 := HBd.out.trans (hb8.mono HBd.out.size)
         clear hb8)
      | (go_at_call 27
         refine (Q2.out _ hB8).mono ?_
         rintro e w9 ⟨rfl, hb9⟩
         have hB9 := hB8.trans (hb9.mono hB8.size)
         clear hb9)
      | (go_at_call 17
         refine (Q4.out _ hB10).mono ?_
         rintro e w11 ⟨v2, rfl, hg2, hb11⟩
         have hB11 := hB10.trans (hb11.mono hB10.size)
         have hg1' := hg1.later hb11
         clear hb11)
      | (go_at_call 17
         refine (Q3.out _ hB9).mono ?_
         rintro e w10 ⟨v1, rfl, hg1, hb10⟩
         have hB10 := hB9.trans (hb10.mono hB9.size)
         clear hb10)
      | (go_at_call 54
         refine (Q5.out _ _ _ hg1' hg2).mono ?_
         rintro e w12 ⟨rfl, hb12⟩
         have hB12 := hB11.trans (hb12.mono hB11.size)
         clear hb12))
  have HB := Lib.hid (HM0.out.call hB12).below
  clear hB8 hB9 hB10 hB11 hB12 hg1 hg2 hg1' Q1 Q2 Q3 Q4 Q5 HCs
  go_wp2
  go_ret
  exact ⟨rfl, HB.out⟩
end Go.Proofs.Ytgdodbdipbomfaa
