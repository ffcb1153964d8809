/- VisitRestores, walked. -/
import Derived.Test.YtgdodbdipbomfaaKe
import Derived.Test.YtgdodbdipbomfaaNd
import Derived.Test.YtgdodbdipbomfaaAo
namespace Go.Proofs.Ytgdodbdipbomfaa
open Go.RowKit Go.Shelf Go.Maps

theorem own_cap {B : Nat} {w : World} {e : TypeId} {sz n n' c : Nat} {a : Option Addr} {xs : List Value} (h : w.ownsRow B e sz (.slice a n' c) n xs) : n ≤ c := by
  rcases h.2 with ⟨h1, h0⟩ | ⟨g, cap, cur, h1, _, _, hc, _⟩
  · cases h1; omega
  · cases h1; exact hc
/-- visit.Visit, its rows as they may be read. -/
theorem visitA_is (vw vr : Value) (ws rs : List Int) (os : List Ob) (F : List Int) (w : World) (hw : IsW w vw ws) (hr : IsW w vr rs) (hS : Sound ws rs os) (h64 : ∀ x ∈ allW rs os, w64 x) (hF : OrdS (readG os rs) F) (m : Nat) (hm : F.length = m) :
    Calls Try.prog 14 #[.agg #[vw, vr]] w fun e w' => ∃ a1 c1 a2 c2 a3 c3 M, e = .returned (.tuple #[.agg #[.slice a1 ws.length c1, .slice a2 rs.length c2], .slice a3 m c3, .int .i64 0]) ∧ M.length = m ∧ M.Nodup ∧ (∀ x, x ∈ M ↔ x ∈ F) ∧ Came os rs M ∧ m ≤ c3 ∧
      IsW w' (.slice a1 ws.length c1) (flat (mkO os F)) ∧ IsW w' (.slice a2 rs.length c2) rs ∧ IsInts w' (.slice a3 m c3) (M.map (plS os)) ∧ Below w.heap.size w w' := by
  have hws := hw.all
  have hrs := hr.all
  refine (visitA_yes vw vr ws rs os F 64 w hw hr ⟨hS, h64, hF, by decide⟩).mono ?_
  rintro e w' ⟨v1, v2, ov, M, rfl, hn, hall, hc, hM⟩
  have hMl : M.length = m := by
    rw [← hm]
    exact Nat.le_antisymm (nodup_sub_len M F hn fun x hx => (hall x).1 hx) (nodup_sub_len F M hF.nodup fun x hx => (hall x).2 hx)
  have hos : os.length ≤ 256 := by have := hS.laid.count; have := hS.words; omega
  have hrng := (ord_keeps hS hF).rng
  have hm256 : m ≤ 256 := by
    have := nodup_sub_len F (upTo os.length) hF.nodup (fun x hx => mem_upTo.2 (hrng x hx))
    rw [upTo_len] at this; omega
  have h1 := isW_of_own (hM.ownW 0 rfl) (by rw [mkO_flat, ← hS.laid.1]; have := hS.words; omega) (mkO_64 hS.laid (by rw [← hS.laid.1]; exact hws) F)
  have h2 := isW_of_own (hM.ownW 1 rfl) (by have := hS.roots; omega) hrs
  have h3 := isInts_of_own (hM.ownI 2 rfl) (by rw [List.length_map]; omega) (fun x hx => by
    obtain ⟨y, hy, rfl⟩ := List.mem_map.1 hx
    have h := hrng y ((hall y).1 hy)
    have h4 := place_mono (os := os) (show y.toNat ≤ os.length by omega)
    rw [place_all, ← hS.laid.1] at h4
    have h5 := hS.words
    unfold plS i64ok; omega)
  obtain ⟨a1, c1, rfl, _⟩ := h1.slice
  obtain ⟨a2, c2, rfl, _⟩ := h2.slice
  obtain ⟨a3, c3, rfl, _⟩ := h3.slice
  rw [mkO_flat, ← hS.laid.1] at h1 ⊢
  have hcap := own_cap (hM.row 2 rfl)
  rw [List.length_map, hMl] at h3 hcap ⊢
  exact ⟨_, _, _, _, _, _, M, rfl, hMl, hn, hall, hc, hcap, h1, h2, h3, hM.below⟩

set_option maxRecDepth 100000 in
set_option maxHeartbeats 4000000 in
theorem visitRestores_walk (vw vr : Value) (ws rs : List Int) (w : World) (hw : IsW w vw ws) (hr : IsW w vr rs) :
    Calls Try.prog 4 #[.agg #[vw, vr]] w fun e w' => e = .returned (.bool true) ∧ Below w.heap.size w w' := by
  have Hw := Lib.hid hw
  have Hr := Lib.hid hr
  obtain ⟨aw, cw, rfl, hmw⟩ := hw.slice
  obtain ⟨ar, cr, rfl, hmr⟩ := hr.slice
  have hM0 := (Mem.start w).alloc #[.slice aw ws.length cw, .slice ar rs.length cr] 24
  have HC := Lib.hid (sound_any _ _ ws rs _ (hw.later hM0.below) (hr.later hM0.below))
  have HM0 := Lib.hid hM0
  clear hw hr hM0
  go_enter Try.func4, Try.ntmps4
  go_wp2_with fail
  refine HC.out.mono ?_
  rintro e w2 ⟨hb, hcase⟩
  have hM2 := HM0.out.call hb
  have c0 : w2.cell? ⟨w.heap.size, 0, none⟩ = some (.slice aw ws.length cw) := by have := hM2.cell 0 rfl 0; simpa using this
  have c1 : w2.cell? ⟨w.heap.size, 1, none⟩ = some (.slice ar rs.length cr) := by have := hM2.cell 0 rfl 1; simpa using this
  have z0 : w.heap.size < w2.heap.size := (hM2.box 0 rfl).2.1
  have HM2 := Lib.hid hM2
  clear hb hM2 HC HM0
  rcases hcase with ⟨rfl, os, hS⟩ | ⟨rfl, hn⟩
  · obtain ⟨F, hF⟩ := ord_exists (read_rng hS)
    have h64 : ∀ x ∈ allW rs os, w64 x := fun x hx => by
      rcases List.mem_append.1 hx with h | h
      · exact Hr.out.all x h
      · exact Hw.out.all x (fieldsOf_mem hS.laid x h)
    obtain ⟨m, hm⟩ : ∃ m, F.length = m := ⟨_, rfl⟩
    have hmw2 : m ≤ ws.length := by
      have h1 := nodup_sub_len F (upTo os.length) hF.nodup (fun x hx => mem_upTo.2 ((ord_keeps hS hF).rng x hx))
      have h2 := hS.laid.count
      rw [upTo_len] at h1; omega
    have HVs := Lib.hid (visitA_is _ _ ws rs os F w2 (Hw.out.later HM2.out.below) (Hr.out.later HM2.out.below) hS h64 hF m hm)
    have HMk : Hid (∀ X u v, IsW X u ws → IsW X v rs → Calls Try.prog 21 #[.agg #[u, v], .int .i64 64] X fun e w' => ∃ a1 c1 a2 c2, e = .returned (.tuple #[.agg #[.slice a1 ws.length c1, .slice a2 rs.length c2], .int .i64 0]) ∧ IsW w' (.slice a1 ws.length c1) (flat (mkO os F)) ∧ IsW w' (.slice a2 rs.length c2) rs ∧ Below X.heap.size X w') := Lib.hid (fun X u v hu hv => by
      refine (mark_any u v ws rs os F 64 X hu hv hS h64 hF).mono ?_
      rintro e w' ⟨a1, n1, c1, a2, n2, c2, c, rfl, hb, ⟨rfl, _, _, rfl, rfl, h1, h2⟩ | ⟨_, hbad⟩⟩
      · exact ⟨_, _, _, _, rfl, h1, h2, hb⟩
      · omega)
    have HAr : Hid (∀ X u v p q, IsW X u (flat (mkO os F)) → IsW X v rs → IsW X p (flat (mkO os F)) → IsW X q rs → Calls Try.prog 22 #[.agg #[u, v], .agg #[p, q]] X fun e w' => e = .returned (.bool true) ∧ Below X.heap.size X w') := Lib.hid (fun X u v p q hu hv hp hq => arenas_same u v p q _ rs X hu hv hp hq (by rw [mkO_flat, ← hS.laid.1]; have := hS.words; omega) (by have := hS.roots; omega))
    have hws := hS.words
    clear hS hF h64 hm
    go_wp2_with fail
    refine HVs.out.mono ?_
    rintro e w3 ⟨a1, d1, a2, d2, a3, d3, M, rfl, _, _, _, _, _, hi1, hi2, _, hb3⟩
    have hM3 := HM2.out.call hb3
    have hM4 := hM3.alloc #[.slice a1 ws.length d1, .slice a2 rs.length d2] 24
    have y2 : w3.cell? ⟨w.heap.size, 0, none⟩ = some (.slice aw ws.length cw) := by have := hM3.cell 0 rfl 0; simpa using this
    have y3 : w3.cell? ⟨w.heap.size, 1, none⟩ = some (.slice ar rs.length cr) := by have := hM3.cell 0 rfl 1; simpa using this
    have yz : w.heap.size < w3.heap.size := (hM3.box 0 rfl).2.1
    obtain ⟨b3, hb3e⟩ : ∃ b3, w3.heap.size = b3 := ⟨_, rfl⟩
    obtain ⟨W4, hW4⟩ : ∃ W4, w3.alloc (.cells #[.slice a1 ws.length d1, .slice a2 rs.length d2] 24) = W4 := ⟨_, rfl⟩
    have hB4 : Below w3.heap.size w3 W4 := by rw [← hW4]; exact (Below.refl _ _).alloc (Nat.le_refl _) _
    rw [hb3e, hW4] at hM4
    have HMk4 := Lib.hid (HMk.out W4 _ _ (Hw.out.later hM4.below) (Hr.out.later hM4.below))
    have HI1 := Lib.hid (hi1.later hB4)
    have HI2 := Lib.hid (hi2.later hB4)
    have HM4 := Lib.hid hM4
    have HW4 := Lib.hid hW4
    have Hb3 := Lib.hid hb3e
    clear hM3 hM4 hb3 hb3e hW4 hB4 hi1 hi2 HVs HMk c0 c1 z0 HM2
    go_wp2_with fail
    rw [Hb3.out, HW4.out]
    refine HMk4.out.mono ?_
    rintro e w5 ⟨a5, d5, a6, d6, rfl, hi5, hi6, hb5⟩
    have hM5 := HM4.out.call hb5
    have hM6 := hM5.alloc #[.slice a5 ws.length d5, .slice a6 rs.length d6] 24
    have y0 : w5.cell? ⟨b3, 0, none⟩ = some (.slice a1 ws.length d1) := by have := hM5.cell 0 rfl 0; simpa using this
    have y1 : w5.cell? ⟨b3, 1, none⟩ = some (.slice a2 rs.length d2) := by have := hM5.cell 0 rfl 1; simpa using this
    have yz3 : b3 < w5.heap.size := (hM5.box 0 rfl).2.1
    obtain ⟨b5, hb5e⟩ : ∃ b5, w5.heap.size = b5 := ⟨_, rfl⟩
    obtain ⟨W6, hW6⟩ : ∃ W6, w5.alloc (.cells #[.slice a5 ws.length d5, .slice a6 rs.length d6] 24) = W6 := ⟨_, rfl⟩
    have hB6 : Below w5.heap.size w5 W6 := by rw [← hW6]; exact (Below.refl _ _).alloc (Nat.le_refl _) _
    rw [hb5e, hW6] at hM6
    have hB46 : Below W4.heap.size W4 W6 := hb5.trans (hB6.mono hb5.size)
    have HA := Lib.hid (HAr.out W6 _ _ _ _ (HI1.out.later hB46) (HI2.out.later hB46) (hi5.later hB6) (hi6.later hB6))
    have HM6 := Lib.hid hM6
    have HW6 := Lib.hid hW6
    have Hb5 := Lib.hid hb5e
    clear hM5 hM6 hb5 hb5e hW6 hB6 hB46 hi5 hi6 HMk4 HM4 HAr HI1 HI2 y2 y3 yz HW4 Hb3
    go_wp2_with fail
    rw [Hb5.out, HW6.out]
    refine HA.out.mono ?_
    rintro e w7 ⟨rfl, hb7⟩
    have hM7 := HM6.out.call hb7
    have x0 : w7.cell? ⟨b3, 0, none⟩ = some (.slice a1 ws.length d1) := by have := hM7.cell 1 rfl 0; simpa using this
    have x2 : w7.cell? ⟨w.heap.size, 0, none⟩ = some (.slice aw ws.length cw) := by have := hM7.cell 2 rfl 0; simpa using this
    have xz3 : b3 < w7.heap.size := (hM7.box 1 rfl).2.1
    have xz0 : w.heap.size < w7.heap.size := (hM7.box 2 rfl).2.1
    have HB := Lib.hid hM7.below
    have e1 : ((ws.length : Int) == (ws.length : Int)) = true := by simp
    have e2 : decide ((m : Int) ≤ (ws.length : Int)) = true := decide_eq_true (by omega)
    clear hM7 hb7 HA HM6 y0 y1 yz3 HW6 Hb5
    go_wp2
    go_ret
    exact ⟨rfl, HB.out⟩
  · have HU := Lib.hid (unsound_any _ _ ws rs w2 (Hw.out.later HM2.out.below) (Hr.out.later HM2.out.below) hn)
    clear hn
    go_wp2_with fail
    refine HU.out.mono ?_
    rintro e w3 ⟨rfl, hb3⟩
    have HB := Lib.hid (HM2.out.call hb3).below
    clear hb3
    go_wp2
    go_ret
    exact ⟨rfl, HB.out⟩
theorem visitRestores_law (W : World) (v0 : Value) (g0 : ∃ ws rs, IsArena W v0 ws rs) :
    Calls Try.prog 4 #[v0] W fun e w' => e = .returned (.bool true) ∧ Below W.heap.size W w' := by
  obtain ⟨ws, rs, vw, vr, rfl, hw, hr⟩ := g0
  exact visitRestores_walk vw vr ws rs W hw hr
end Go.Proofs.Ytgdodbdipbomfaa
