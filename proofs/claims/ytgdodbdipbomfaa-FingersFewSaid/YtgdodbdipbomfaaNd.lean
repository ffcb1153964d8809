/- mark.Mark at any room; ragpickerref.Arenas of the same, walked. -/
import Derived.Test.YtgdodbdipbomfaaNb
import Derived.Test.YtgdodbdipbomfaaBi
import Derived.Deep.QuietTactic
namespace Go.Proofs.Ytgdodbdipbomfaa
open Go.RowKit Go.Shelf

/-- Mark at a sound arena and any room. -/
theorem mark_any (vw vr : Value) (ws rs : List Int) (os : List Ob) (F : List Int) (r : Int) (w : World) (hw : IsW w vw ws) (hr : IsW w vr rs) (hS : Sound ws rs os) (h64 : ∀ x ∈ allW rs os, w64 x) (hF : OrdS (readG os rs) F) :
    Calls Try.prog 21 #[.agg #[vw, vr], .int .i64 r] w fun e w' => ∃ a1 n1 c1 a2 n2 c2 c, e = .returned (.tuple #[.agg #[.slice a1 n1 c1, .slice a2 n2 c2], .int .i64 c]) ∧ Below w.heap.size w w' ∧
      ((c = 0 ∧ 1 ≤ r ∧ r ≤ 64 ∧ n1 = ws.length ∧ n2 = rs.length ∧ IsW w' (.slice a1 n1 c1) (flat (mkO os F)) ∧ IsW w' (.slice a2 n2 c2) rs) ∨ (c ≠ 0 ∧ (r < 1 ∨ 64 < r))) := by
  by_cases hg : 1 ≤ r ∧ r ≤ 64
  · obtain ⟨rn, rfl⟩ : ∃ rn : Nat, r = rn := ⟨r.toNat, by omega⟩
    have hws := hw.all
    have hrs := hr.all
    refine (mark_yes vw vr ws rs os F rn w hw hr ⟨hS, h64, hF, by omega⟩ (by omega)).mono ?_
    rintro e w' ⟨v1, v2, rfl, hM⟩
    have h1 := isW_of_own (hM.ownW 0 rfl) (by rw [mkO_flat, ← hS.laid.1]; have := hS.words; omega) (mkO_64 hS.laid (by rw [← hS.laid.1]; exact hws) F)
    have h2 := isW_of_own (hM.ownW 1 rfl) (by have := hS.roots; omega) hrs
    obtain ⟨a1, c1, rfl, _⟩ := h1.slice
    obtain ⟨a2, c2, rfl, _⟩ := h2.slice
    exact ⟨_, _, _, _, _, _, _, rfl, hM.below, .inl ⟨rfl, hg.1, hg.2, by rw [mkO_flat, ← hS.laid.1], rfl, h1, h2⟩⟩
  · refine (mark_no vw vr ws rs r w hw hr (.inr (by omega))).mono ?_
    rintro e w' ⟨c, rfl, hc, hb⟩
    exact ⟨_, _, _, _, _, _, _, rfl, hb, .inr ⟨hc, by omega⟩⟩

set_option maxRecDepth 100000 in
set_option maxHeartbeats 2000000 in
theorem arenas_same (u1 u2 v1 v2 : Value) (l m : List Int) (w : World) (h1 : IsW w u1 l) (h2 : IsW w u2 m) (h3 : IsW w v1 l) (h4 : IsW w v2 m) (hl : l.length ≤ 1000) (hm : m.length ≤ 1000) :
    Calls Try.prog 22 #[.agg #[u1, u2], .agg #[v1, v2]] w fun e w' => e = .returned (.bool true) ∧ Below w.heap.size w w' := by
  obtain ⟨a1, c1, rfl, _⟩ := h1.slice
  obtain ⟨a2, c2, rfl, _⟩ := h2.slice
  obtain ⟨a3, c3, rfl, _⟩ := h3.slice
  obtain ⟨a4, c4, rfl, _⟩ := h4.slice
  have hM0 := ((Mem.start w).alloc #[.slice a1 l.length c1, .slice a2 m.length c2] 24).allocAt (w.heap.size + 1) (by simp) #[.slice a3 l.length c3, .slice a4 m.length c4] 24
  obtain ⟨W, hW⟩ : ∃ W, (w.alloc (.cells #[.slice a1 l.length c1, .slice a2 m.length c2] 24)).alloc (.cells #[.slice a3 l.length c3, .slice a4 m.length c4] 24) = W := ⟨_, rfl⟩
  rw [hW] at hM0
  have Q1 : Hid (∀ X, Below W.heap.size W X → Calls Try.prog 32 #[.slice a1 l.length c1, .slice a3 l.length c3] X fun e w' => e = .returned (.bool true) ∧ Below X.heap.size X w') := Lib.hid (fun X hX => by
    refine (words_any _ _ l l X ((h1.later hM0.below).later hX) ((h3.later hM0.below).later hX) hl).mono ?_
    rintro e w' ⟨rfl, q, rfl⟩
    exact ⟨by simp, below_drewN (Below.refl _ _) q⟩)
  have Q2 : Hid (∀ X, Below W.heap.size W X → Calls Try.prog 32 #[.slice a2 m.length c2, .slice a4 m.length c4] X fun e w' => e = .returned (.bool true) ∧ Below X.heap.size X w') := Lib.hid (fun X hX => by
    refine (words_any _ _ m m X ((h2.later hM0.below).later hX) ((h4.later hM0.below).later hX) hm).mono ?_
    rintro e w' ⟨rfl, q, rfl⟩
    exact ⟨by simp, below_drewN (Below.refl _ _) q⟩)
  have c0 : W.cell? ⟨w.heap.size, 0, none⟩ = some (.slice a1 l.length c1) := by have := hM0.cell 1 rfl 0; simpa using this
  have c0' : W.cell? ⟨w.heap.size + 1, 0, none⟩ = some (.slice a3 l.length c3) := by have := hM0.cell 0 rfl 0; simpa using this
  have HM0 := Lib.hid hM0
  have HW := Lib.hid hW
  clear h1 h2 h3 h4 hM0 hW hl hm
  go_enter Try.func22, Try.ntmps22
  go_wp2_with fail
  rw [HW.out]
  refine (Q1.out _ (Below.refl _ _)).mono ?_
  rintro e w4 ⟨rfl, hb4⟩
  have hM4 := HM0.out.call hb4
  have d0 : w4.cell? ⟨w.heap.size, 1, none⟩ = some (.slice a2 m.length c2) := by have := hM4.cell 1 rfl 1; simpa using this
  have d1 : w4.cell? ⟨w.heap.size + 1, 1, none⟩ = some (.slice a4 m.length c4) := by have := hM4.cell 0 rfl 1; simpa using this
  have z0 : w.heap.size + 1 < w4.heap.size := (hM4.box 0 rfl).2.1
  have Hb4 := Lib.hid hb4
  have HM4 := Lib.hid hM4
  clear hM4 hb4
  go_wp2_with fail
  refine (Q2.out _ Hb4.out).mono ?_
  rintro e w5 ⟨rfl, hb5⟩
  have HB := Lib.hid (HM4.out.call hb5).below
  clear hb5
  go_wp2
  go_ret
  exact ⟨rfl, HB.out⟩
end Go.Proofs.Ytgdodbdipbomfaa
