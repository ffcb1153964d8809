/- SlideSame, walked. -/
import Derived.Test.YtigdpdndnghldaaJe
import Derived.Test.YtigdpdndnghldaaSd
import Derived.Test.YtigdpdndnghldaaNd
namespace Go.Proofs.Ytigdpdndnghldaa
open Go.RowKit Go.Shelf Go.Maps

/-- slide.Slide, its rows as they may be read. -/
theorem slide_is (vw vr : Value) (ws rs : List Int) (os : List Ob) (F : List Int) (w : World) (hw : IsW w vw ws) (hr : IsW w vr rs) (hS : Sound ws rs os) (h64 : ∀ x ∈ allW rs os, w64 x) (hF : OrdS (readG os rs) F)
    (os1 : List Ob) (rs1 : List Int) (e1 : relO os (riseN F os.length) (hdD os) = os1) (e2 : rs.map (mvW os (riseN F os.length)) = rs1) (hS1 : Sound (flat os1) rs1 os1) (w1 : ∀ x ∈ flat os1, w64 x) (w2 : ∀ x ∈ rs1, w64 x) (n1 n2 : Nat) (hn1 : (flat os1).length = n1) (hn2 : rs1.length = n2) :
    Calls Try.prog 37 #[.agg #[vw, vr]] w fun e w' => ∃ a1 c1 a2 c2, e = .returned (.tuple #[.agg #[.slice a1 n1 c1, .slice a2 n2 c2], .int .i64 0]) ∧ IsW w' (.slice a1 n1 c1) (flat os1) ∧ IsW w' (.slice a2 n2 c2) rs1 ∧ Below w.heap.size w w' := by
  refine (slide_yes vw vr ws rs os F w hw hr hS h64 hF).mono ?_
  rintro e w' ⟨v1, v2, rfl, hM⟩
  rw [e1, e2] at hM
  have h1 := isW_of_own (hM.ownW 0 rfl) (by have := hS1.words; omega) w1
  have h2 := isW_of_own (hM.ownW 1 rfl) (by have := hS1.roots; omega) w2
  obtain ⟨a1, c1, rfl, _⟩ := h1.slice
  obtain ⟨a2, c2, rfl, _⟩ := h2.slice
  rw [hn1] at h1 ⊢
  rw [hn2] at h2 ⊢
  exact ⟨_, _, _, _, rfl, h1, h2, hM.below⟩
/-- All that is asked of the data: what is moved down again stays. -/
theorem slide_again {ws rs : List Int} {os : List Ob} {F : List Int} (h : Sound ws rs os) (hw : ∀ x ∈ allW rs os, w64 x) (hF : OrdS (readG os rs) F) :
    ∃ R os1 rs1 F1, R = riseN F os.length ∧ relO os (riseN F os.length) (hdD os) = os1 ∧ rs.map (mvW os (riseN F os.length)) = rs1 ∧ Sound (flat os1) rs1 os1 ∧ (∀ x ∈ flat os1, w64 x) ∧ (∀ x ∈ rs1, w64 x) ∧ (flat os1).length = placeF os F F.length ∧ ClosedF (readG os rs) R ∧
      readG os1 rs1 = renumP (readG os rs) R (fun y => plc R y 0) ∧ os1.length = R.length ∧ (∀ x ∈ allW rs1 os1, w64 x) ∧ OrdS (readG os1 rs1) F1 ∧ riseN F1 os1.length = upTo os1.length ∧ relO os1 (riseN F1 os1.length) (hdD os1) = os1 ∧ rs1.map (mvW os1 (riseN F1 os1.length)) = rs1 := by
  obtain ⟨R, os1, rs1, rfl, h1, h2, hS1, w1, w2, hl, hc, hrd, hlen⟩ := slide_plain h hw hF
  obtain ⟨F1, hF1⟩ := ord_exists (read_rng hS1)
  have hup : riseN F1 os1.length = upTo os1.length := rise_upTo (by rw [hlen]; exact slide_all hc hrd hF hF1 (read_rng hS1) (fun x hx => (rise_mem h hF).1 hx))
  have hst := rel_stays hS1 (fun o ho => by
    rw [h1] at ho
    obtain ⟨i, hi, rfl⟩ := List.mem_map.1 ho
    exact hdS_twice (h.laid.good (obj_get ((rise_keeps h hF).rng i hi))).1 false false)
  refine ⟨_, os1, rs1, F1, rfl, h1.symm, h2.symm, hS1, w1, w2, hl, hc, hrd, hlen, ?_, hF1, hup, by rw [hup]; exact hst.1, by rw [hup]; exact hst.2⟩
  intro x hx
  rcases List.mem_append.1 hx with h | h
  · exact w2 x h
  · exact w1 x (fieldsOf_mem hS1.laid x h)

set_option maxRecDepth 100000 in
set_option maxHeartbeats 4000000 in
theorem slideSame_walk (vw vr : Value) (ws rs : List Int) (w : World) (hw : IsW w vw ws) (hr : IsW w vr rs) :
    Calls Try.prog 12 #[.agg #[vw, vr]] w fun e w' => e = .returned (.bool true) ∧ Below w.heap.size w w' := by
  have Hw := Lib.hid hw
  have Hr := Lib.hid hr
  obtain ⟨aw, cw, rfl, hmw⟩ := hw.slice
  obtain ⟨ar, cr, rfl, hmr⟩ := hr.slice
  have hM0 := (Mem.start w).alloc #[.slice aw ws.length cw, .slice ar rs.length cr] 24
  have HC := Lib.hid (sound_any _ _ ws rs _ (hw.later hM0.below) (hr.later hM0.below))
  have HM0 := Lib.hid hM0
  clear hw hr hM0
  go_enter Try.func12, Try.ntmps12
  go_wp2_with fail
  refine HC.out.mono ?_
  rintro e w2 ⟨hb, hcase⟩
  have hM2 := HM0.out.call hb
  have c0 : w2.cell? ⟨w.heap.size, 0, none⟩ = some (.slice aw ws.length cw) := by have := hM2.cell 0 rfl 0; simpa using this
  have c1 : w2.cell? ⟨w.heap.size, 1, none⟩ = some (.slice ar rs.length cr) := by have := hM2.cell 0 rfl 1; simpa using this
  have z0 : w.heap.size < w2.heap.size := (hM2.box 0 rfl).2.1
  have HM2 := Lib.hid hM2
  clear hb hM2 HC HM0
  rcases hcase with ⟨rfl, os, hS⟩ | ⟨rfl, hn⟩
  · obtain ⟨F, hF⟩ := ord_exists (read_rng hS)
    have h64 : ∀ x ∈ allW rs os, w64 x := fun x hx => by
      rcases List.mem_append.1 hx with h | h
      · exact Hr.out.all x h
      · exact Hw.out.all x (fieldsOf_mem hS.laid x h)
    obtain ⟨R, os1, rs1, F1, hR, e1, e2, hS1, w1, w2', hl1, hc, hrd, hlen, h641, hF1, hup, e3, e4⟩ := slide_again hS h64 hF
    obtain ⟨n1, hn1⟩ : ∃ n1, (flat os1).length = n1 := ⟨_, rfl⟩
    obtain ⟨n2, hn2⟩ : ∃ n2, rs1.length = n2 := ⟨_, rfl⟩
    have HSl := Lib.hid (slide_is _ _ ws rs os F w2 (Hw.out.later HM2.out.below) (Hr.out.later HM2.out.below) hS h64 hF os1 rs1 e1 e2 hS1 w1 w2' n1 n2 hn1 hn2)
    have HSl2 : Hid (∀ X u v, IsW X u (flat os1) → IsW X v rs1 → Calls Try.prog 37 #[.agg #[u, v]] X fun e w' => ∃ a1 c1 a2 c2, e = .returned (.tuple #[.agg #[.slice a1 n1 c1, .slice a2 n2 c2], .int .i64 0]) ∧ IsW w' (.slice a1 n1 c1) (flat os1) ∧ IsW w' (.slice a2 n2 c2) rs1 ∧ Below X.heap.size X w') := Lib.hid (fun X u v hu hv => slide_is u v (flat os1) rs1 os1 F1 X hu hv hS1 h641 hF1 os1 rs1 e3 e4 hS1 w1 w2' n1 n2 hn1 hn2)
    have HLf : Hid (∀ X u v p q, IsW X u (flat os1) → IsW X v rs1 → IsW X p ws → IsW X q rs → Calls Try.prog 35 #[.agg #[u, v], .agg #[p, q]] X fun e w' => e = .returned (.bool true) ∧ Below X.heap.size X w') := Lib.hid (fun X u v p q hu hv hp hq => left_yes u v p q (flat os1) rs1 ws rs os1 os F R X hu hv hp hq hS1 hS hF hc hl1 hrd h64 h641)
    have HAr : Hid (∀ X u v p q, IsW X u (flat os1) → IsW X v rs1 → IsW X p (flat os1) → IsW X q rs1 → Calls Try.prog 32 #[.agg #[u, v], .agg #[p, q]] X fun e w' => e = .returned (.bool true) ∧ Below X.heap.size X w') := Lib.hid (fun X u v p q hu hv hp hq => arenas_same u v p q (flat os1) rs1 X hu hv hp hq (by have := hS1.words; omega) (by have := hS1.roots; omega))
    clear hS hF h64 hR e1 e2 hS1 w1 w2' hl1 hc hrd hlen h641 hF1 hup e3 e4 hn1 hn2
    go_wp2_with fail
    refine HSl.out.mono ?_
    rintro e w3 ⟨a1, d1, a2, d2, rfl, hi1, hi2, hb3⟩
    have hM3 := HM2.out.call hb3
    have hM4 := hM3.alloc #[.slice a1 n1 d1, .slice a2 n2 d2] 24
    obtain ⟨b3, hb3e⟩ : ∃ b3, w3.heap.size = b3 := ⟨_, rfl⟩
    obtain ⟨W4, hW4⟩ : ∃ W4, w3.alloc (.cells #[.slice a1 n1 d1, .slice a2 n2 d2] 24) = W4 := ⟨_, rfl⟩
    have hB4 : Below w3.heap.size w3 W4 := by rw [← hW4]; exact (Below.refl _ _).alloc (Nat.le_refl _) _
    rw [hb3e, hW4] at hM4
    have HSl3 := Lib.hid (HSl2.out W4 _ _ (hi1.later hB4) (hi2.later hB4))
    have HI1 := Lib.hid (hi1.later hB4)
    have HI2 := Lib.hid (hi2.later hB4)
    have HM4 := Lib.hid hM4
    have HW4 := Lib.hid hW4
    have Hb3 := Lib.hid hb3e
    clear hM3 hM4 hb3 hb3e hW4 hB4 hi1 hi2 HSl HSl2 c0 c1 z0 HM2
    go_wp2_with fail
    rw [Hb3.out, HW4.out]
    refine HSl3.out.mono ?_
    rintro e w5 ⟨a3, d3, a4, d4, rfl, hi3, hi4, hb5⟩
    have hM5 := HM4.out.call hb5
    have hM6 := hM5.alloc #[.slice a3 n1 d3, .slice a4 n2 d4] 24
    have y0 : w5.cell? ⟨b3, 0, none⟩ = some (.slice a1 n1 d1) := by have := hM5.cell 0 rfl 0; simpa using this
    have y1 : w5.cell? ⟨b3, 1, none⟩ = some (.slice a2 n2 d2) := by have := hM5.cell 0 rfl 1; simpa using this
    have y2 : w5.cell? ⟨w.heap.size, 0, none⟩ = some (.slice aw ws.length cw) := by have := hM5.cell 1 rfl 0; simpa using this
    have y3 : w5.cell? ⟨w.heap.size, 1, none⟩ = some (.slice ar rs.length cr) := by have := hM5.cell 1 rfl 1; simpa using this
    have yz3 : b3 < w5.heap.size := (hM5.box 0 rfl).2.1
    have yz0 : w.heap.size < w5.heap.size := (hM5.box 1 rfl).2.1
    obtain ⟨b5, hb5e⟩ : ∃ b5, w5.heap.size = b5 := ⟨_, rfl⟩
    obtain ⟨W6, hW6⟩ : ∃ W6, w5.alloc (.cells #[.slice a3 n1 d3, .slice a4 n2 d4] 24) = W6 := ⟨_, rfl⟩
    have hB6 : Below w5.heap.size w5 W6 := by rw [← hW6]; exact (Below.refl _ _).alloc (Nat.le_refl _) _
    rw [hb5e, hW6] at hM6
    have hB46 : Below W4.heap.size W4 W6 := hb5.trans (hB6.mono hb5.size)
    have HL := Lib.hid (HLf.out W6 _ _ _ _ (HI1.out.later hB46) (HI2.out.later hB46) (Hw.out.later hM6.below) (Hr.out.later hM6.below))
    have HI3 := Lib.hid (hi3.later hB6)
    have HI4 := Lib.hid (hi4.later hB6)
    have HI1 := Lib.hid (HI1.out.later hB46)
    have HI2 := Lib.hid (HI2.out.later hB46)
    have HM6 := Lib.hid hM6
    have HW6 := Lib.hid hW6
    have Hb5 := Lib.hid hb5e
    clear hM5 hM6 hb5 hb5e hW6 hB6 hB46 hi3 hi4 HSl3 HM4 HLf HW4 Hb3
    go_wp2_with fail
    rw [Hb5.out, HW6.out]
    refine HL.out.mono ?_
    rintro e w7 ⟨rfl, hb7⟩
    have hM7 := HM6.out.call hb7
    have x0 : w7.cell? ⟨b3, 0, none⟩ = some (.slice a1 n1 d1) := by have := hM7.cell 1 rfl 0; simpa using this
    have x1 : w7.cell? ⟨b3, 1, none⟩ = some (.slice a2 n2 d2) := by have := hM7.cell 1 rfl 1; simpa using this
    have x2 : w7.cell? ⟨b5, 0, none⟩ = some (.slice a3 n1 d3) := by have := hM7.cell 0 rfl 0; simpa using this
    have x3 : w7.cell? ⟨b5, 1, none⟩ = some (.slice a4 n2 d4) := by have := hM7.cell 0 rfl 1; simpa using this
    have xz3 : b3 < w7.heap.size := (hM7.box 1 rfl).2.1
    have xz5 : b5 < w7.heap.size := (hM7.box 0 rfl).2.1
    have HA := Lib.hid (HAr.out w7 _ _ _ _ (HI1.out.later hb7) (HI2.out.later hb7) (HI3.out.later hb7) (HI4.out.later hb7))
    have HM7 := Lib.hid hM7
    clear hM7 hb7 HL HM6 HI1 HI2 HI3 HI4 HAr y0 y1 y2 y3 yz3 yz0 HW6 Hb5
    go_wp2_with fail
    refine HA.out.mono ?_
    rintro e w8 ⟨rfl, hb8⟩
    have HB := Lib.hid (HM7.out.call hb8).below
    clear hb8 HA HM7
    go_wp2
    go_ret
    exact ⟨rfl, HB.out⟩
  · have HU := Lib.hid (unsound_any _ _ ws rs w2 (Hw.out.later HM2.out.below) (Hr.out.later HM2.out.below) hn)
    clear hn
    go_wp2_with fail
    refine HU.out.mono ?_
    rintro e w3 ⟨rfl, hb3⟩
    have HB := Lib.hid (HM2.out.call hb3).below
    clear hb3
    go_wp2
    go_ret
    exact ⟨rfl, HB.out⟩
end Go.Proofs.Ytigdpdndnghldaa
