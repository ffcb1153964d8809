/- SlideMoves, walked. -/
import Derived.Test.YtigdpdndnghldaaJf
import Derived.Test.YtigdpdndnghldaaJh
import Derived.Test.YtigdpdndnghldaaBr
import Derived.Test.YtigdpdndnghldaaAo
import Derived.Deep.RegionHeld3
namespace Go.Proofs.Ytigdpdndnghldaa
open Go.RowKit Go.Shelf Go.Maps

/-- move.Copy, its rows as they may be read. -/
theorem copy_is (vw vr : Value) (ws rs : List Int) (os : List Ob) (F : List Int) (w : World) (hw : IsW w vw ws) (hr : IsW w vr rs) (hS : Sound ws rs os) (hF : OrdS (readG os rs) F)
    (T V : List Int) (e1 : flat (relO os F (hdC os)) = T) (e2 : rs.map (mvW os F) = V) (t1 : T.length ≤ 1000) (t2 : V.length ≤ 1000) (w1 : ∀ x ∈ T, w64 x) (w2 : ∀ x ∈ V, w64 x) (n1 n2 : Nat) (hn1 : T.length = n1) (hn2 : V.length = n2) :
    Calls Try.prog 34 #[.agg #[vw, vr]] w fun e w' => ∃ a1 c1 a2 c2, e = .returned (.tuple #[.agg #[.slice a1 n1 c1, .slice a2 n2 c2], .int .i64 0]) ∧ IsW w' (.slice a1 n1 c1) T ∧ IsW w' (.slice a2 n2 c2) V ∧ Below w.heap.size w w' := by
  refine (copy_any vw vr ws rs os F w hw hr hS hF).mono ?_
  rintro e w' ⟨v1, v2, rfl, hM⟩
  rw [e1, e2] at hM
  have h1 := isW_of_own (hM.ownW 0 rfl) (by omega) w1
  have h2 := isW_of_own (hM.ownW 1 rfl) (by omega) w2
  obtain ⟨a1, c1, rfl, _⟩ := h1.slice
  obtain ⟨a2, c2, rfl, _⟩ := h2.slice
  rw [hn1] at h1 ⊢
  rw [hn2] at h2 ⊢
  exact ⟨_, _, _, _, rfl, h1, h2, hM.below⟩

set_option maxRecDepth 100000 in
set_option maxHeartbeats 4000000 in
theorem slideMoves_walk (vw vr : Value) (ws rs : List Int) (w : World) (hw : IsW w vw ws) (hr : IsW w vr rs) :
    Calls Try.prog 14 #[.agg #[vw, vr]] w fun e w' => e = .returned (.bool true) ∧ Below w.heap.size w w' := by
  have Hw := Lib.hid hw
  have Hr := Lib.hid hr
  obtain ⟨aw, cw, rfl, hmw⟩ := hw.slice
  obtain ⟨ar, cr, rfl, hmr⟩ := hr.slice
  have hM0 := (Mem.start w).alloc #[.slice aw ws.length cw, .slice ar rs.length cr] 24
  have HC := Lib.hid (sound_any _ _ ws rs _ (hw.later hM0.below) (hr.later hM0.below))
  have HM0 := Lib.hid hM0
  clear hw hr hM0
  go_enter Try.func14, Try.ntmps14
  go_wp2_with fail
  refine HC.out.mono ?_
  rintro e w2 ⟨hb, hcase⟩
  have hM2 := HM0.out.call hb
  have c0 : w2.cell? ⟨w.heap.size, 0, none⟩ = some (.slice aw ws.length cw) := by have := hM2.cell 0 rfl 0; simpa using this
  have c1 : w2.cell? ⟨w.heap.size, 1, none⟩ = some (.slice ar rs.length cr) := by have := hM2.cell 0 rfl 1; simpa using this
  have z0 : w.heap.size < w2.heap.size := (hM2.box 0 rfl).2.1
  have HM2 := Lib.hid hM2
  clear hb hM2 HC HM0
  rcases hcase with ⟨rfl, os, hS⟩ | ⟨rfl, hn⟩
  · obtain ⟨F, hF⟩ := ord_exists (read_rng hS)
    have h64 : ∀ x ∈ allW rs os, w64 x := fun x hx => by
      rcases List.mem_append.1 hx with h | h
      · exact Hr.out.all x h
      · exact Hw.out.all x (fieldsOf_mem hS.laid x h)
    obtain ⟨R, os1, rs1, F1, hR, e1, e2, hS1, w1, w2', hl1, hc, hrd, hlen, h641, hF1, hup, e3, e4⟩ := slide_again hS h64 hF
    obtain ⟨g1, g2⟩ := moves_plain hS hF hR (by rw [hR]; exact e1.symm) (by rw [hR]; exact e2.symm) hS1 hc hrd hF1
    obtain ⟨n1, hn1⟩ : ∃ n1, (flat os1).length = n1 := ⟨_, rfl⟩
    obtain ⟨n2, hn2⟩ : ∃ n2, rs1.length = n2 := ⟨_, rfl⟩
    obtain ⟨T, hT⟩ : ∃ T, flat (relO os F (hdC os)) = T := ⟨_, rfl⟩
    obtain ⟨V, hV⟩ : ∃ V, rs.map (mvW os F) = V := ⟨_, rfl⟩
    have hK := ord_keeps hS hF
    have hT1 : T.length = n1 := by rw [← hT, rel_len, ← hl1, hn1]
    have hV1 : V.length = rs.length := by rw [← hV, List.length_map]
    have hwT := rel_w64 hS h64 hK (hd := hdC os) (fun i hi => (hdC_ok hS.laid (hK.rng i hi)).2.2.1)
    rw [hT, hV] at hwT
    have hT3 : T.length ≤ 1000 := by have := hS1.words; omega
    have hV3 : V.length ≤ 1000 := by have := hS.roots; omega
    have HSl := Lib.hid (slide_is _ _ ws rs os F w2 (Hw.out.later HM2.out.below) (Hr.out.later HM2.out.below) hS h64 hF os1 rs1 e1 e2 hS1 w1 w2' n1 n2 hn1 hn2)
    have HC1 : Hid (∀ X u v, IsW X u (flat os1) → IsW X v rs1 → Calls Try.prog 34 #[.agg #[u, v]] X fun e w' => ∃ a1 c1 a2 c2, e = .returned (.tuple #[.agg #[.slice a1 n1 c1, .slice a2 rs.length c2], .int .i64 0]) ∧ IsW w' (.slice a1 n1 c1) T ∧ IsW w' (.slice a2 rs.length c2) V ∧ Below X.heap.size X w') := Lib.hid (fun X u v hu hv => copy_is u v (flat os1) rs1 os1 F1 X hu hv hS1 hF1 T V (by rw [g1]; exact hT) (by rw [g2]; exact hV) hT3 hV3 hwT.1 hwT.2 n1 _ hT1 hV1)
    have HC2 : Hid (∀ X u v, IsW X u ws → IsW X v rs → Calls Try.prog 34 #[.agg #[u, v]] X fun e w' => ∃ a1 c1 a2 c2, e = .returned (.tuple #[.agg #[.slice a1 n1 c1, .slice a2 rs.length c2], .int .i64 0]) ∧ IsW w' (.slice a1 n1 c1) T ∧ IsW w' (.slice a2 rs.length c2) V ∧ Below X.heap.size X w') := Lib.hid (fun X u v hu hv => copy_is u v ws rs os F X hu hv hS hF T V hT hV hT3 hV3 hwT.1 hwT.2 n1 _ hT1 hV1)
    have HSz : Hid (∀ X u v, IsW X u ws → IsW X v rs → Calls Try.prog 33 #[.agg #[u, v]] X fun e w' => e = .returned (.int .i64 n1) ∧ Below X.heap.size X w') := Lib.hid (fun X u v hu hv => by
      have := size_any u v ws rs os F X hu hv hS hF
      rwa [← hl1, hn1] at this)
    have HAr : Hid (∀ X u v p q, IsW X u T → IsW X v V → IsW X p T → IsW X q V → Calls Try.prog 32 #[.agg #[u, v], .agg #[p, q]] X fun e w' => e = .returned (.bool true) ∧ Below X.heap.size X w') := Lib.hid (fun X u v p q hu hv hp hq => arenas_same u v p q T V X hu hv hp hq hT3 hV3)
    clear hS hF h64 hR e1 e2 hS1 w1 w2' hl1 hc hrd hlen h641 hF1 hup e3 e4 hn1 hn2 g1 g2 hT hV hK hT1 hV1 hwT hT3 hV3
    go_wp2_with fail
    refine HSl.out.mono ?_
    rintro e w3 ⟨a1, d1, a2, d2, rfl, hi1, hi2, hb3⟩
    have hM3 := HM2.out.call hb3
    have hM4 := hM3.alloc #[.slice a1 n1 d1, .slice a2 n2 d2] 24
    obtain ⟨b3, hb3e⟩ : ∃ b3, w3.heap.size = b3 := ⟨_, rfl⟩
    obtain ⟨W4, hW4⟩ : ∃ W4, w3.alloc (.cells #[.slice a1 n1 d1, .slice a2 n2 d2] 24) = W4 := ⟨_, rfl⟩
    have hB4 : Below w3.heap.size w3 W4 := by rw [← hW4]; exact (Below.refl _ _).alloc (Nat.le_refl _) _
    rw [hb3e, hW4] at hM4
    have HCa := Lib.hid (HC1.out W4 _ _ (hi1.later hB4) (hi2.later hB4))
    have HM4 := Lib.hid hM4
    have HW4 := Lib.hid hW4
    have Hb3 := Lib.hid hb3e
    clear hM3 hM4 hb3 hb3e hW4 hB4 hi1 hi2 HSl HC1 c0 c1 z0 HM2
    go_wp2_with fail
    rw [Hb3.out, HW4.out]
    refine HCa.out.mono ?_
    rintro e w5 ⟨a3, d3, a4, d4, rfl, hi3, hi4, hb5⟩
    have hM5 := HM4.out.call hb5
    have hM6 := hM5.alloc #[.slice a3 n1 d3, .slice a4 rs.length d4] 24
    have y2 : w5.cell? ⟨w.heap.size, 0, none⟩ = some (.slice aw ws.length cw) := by have := hM5.cell 1 rfl 0; simpa using this
    have y3 : w5.cell? ⟨w.heap.size, 1, none⟩ = some (.slice ar rs.length cr) := by have := hM5.cell 1 rfl 1; simpa using this
    have yz0 : w.heap.size < w5.heap.size := (hM5.box 1 rfl).2.1
    obtain ⟨b5, hb5e⟩ : ∃ b5, w5.heap.size = b5 := ⟨_, rfl⟩
    obtain ⟨W6, hW6⟩ : ∃ W6, w5.alloc (.cells #[.slice a3 n1 d3, .slice a4 rs.length d4] 24) = W6 := ⟨_, rfl⟩
    have hB6 : Below w5.heap.size w5 W6 := by rw [← hW6]; exact (Below.refl _ _).alloc (Nat.le_refl _) _
    rw [hb5e, hW6] at hM6
    have HCb := Lib.hid (HC2.out W6 _ _ (Hw.out.later hM6.below) (Hr.out.later hM6.below))
    have HI3 := Lib.hid (hi3.later hB6)
    have HI4 := Lib.hid (hi4.later hB6)
    have HM6 := Lib.hid hM6
    have HW6 := Lib.hid hW6
    have Hb5 := Lib.hid hb5e
    clear hM5 hM6 hb5 hb5e hW6 hB6 hi3 hi4 HCa HM4 HC2 HW4 Hb3
    go_wp2_with fail
    rw [Hb5.out, HW6.out]
    refine HCb.out.mono ?_
    rintro e w7 ⟨a5, d5, a6, d6, rfl, hi5, hi6, hb7⟩
    have hM7 := HM6.out.call hb7
    have hM8 := hM7.alloc #[.slice a5 n1 d5, .slice a6 rs.length d6] 24
    obtain ⟨b7, hb7e⟩ : ∃ b7, w7.heap.size = b7 := ⟨_, rfl⟩
    obtain ⟨W8, hW8⟩ : ∃ W8, w7.alloc (.cells #[.slice a5 n1 d5, .slice a6 rs.length d6] 24) = W8 := ⟨_, rfl⟩
    have hB8 : Below w7.heap.size w7 W8 := by rw [← hW8]; exact (Below.refl _ _).alloc (Nat.le_refl _) _
    rw [hb7e, hW8] at hM8
    have hB68 : Below W6.heap.size W6 W8 := hb7.trans (hB8.mono hb7.size)
    have HCs : Hid (∀ X, Below W8.heap.size W8 X → X.cell? ⟨w.heap.size, 0, none⟩ = some (.slice aw ws.length cw) ∧ X.cell? ⟨w.heap.size, 1, none⟩ = some (.slice ar rs.length cr) ∧ X.cell? ⟨b5, 0, none⟩ = some (.slice a3 n1 d3) ∧ X.cell? ⟨b5, 1, none⟩ = some (.slice a4 rs.length d4) ∧ X.cell? ⟨b7, 0, none⟩ = some (.slice a5 n1 d5) ∧ X.cell? ⟨b7, 1, none⟩ = some (.slice a6 rs.length d6)) := Lib.hid (fun X hX => by
      have hMX := hM8.call hX
      refine ⟨?_, ?_, ?_, ?_, ?_, ?_⟩
      · have := hMX.cell 3 rfl 0; simpa using this
      · have := hMX.cell 3 rfl 1; simpa using this
      · have := hMX.cell 1 rfl 0; simpa using this
      · have := hMX.cell 1 rfl 1; simpa using this
      · have := hMX.cell 0 rfl 0; simpa using this
      · have := hMX.cell 0 rfl 1; simpa using this)
    have HQ1 : Hid (∀ X, Below W8.heap.size W8 X → Calls Try.prog 33 #[.agg #[.slice aw ws.length cw, .slice ar rs.length cr]] X fun e w' => e = .returned (.int .i64 n1) ∧ Below X.heap.size X w') := Lib.hid (fun X hX => HSz.out X _ _ ((Hw.out.later hM8.below).later hX) ((Hr.out.later hM8.below).later hX))
    have HQ2 : Hid (∀ X, Below W8.heap.size W8 X → Calls Try.prog 32 #[.agg #[.slice a3 n1 d3, .slice a4 rs.length d4], .agg #[.slice a5 n1 d5, .slice a6 rs.length d6]] X fun e w' => e = .returned (.bool true) ∧ Below X.heap.size X w') := Lib.hid (fun X hX => HAr.out X _ _ _ _ ((HI3.out.later hB68).later hX) ((HI4.out.later hB68).later hX) ((hi5.later hB8).later hX) ((hi6.later hB8).later hX))
    have HBd := Lib.hid ((Below.refl W8.heap.size W8).drew)
    have HM8 := Lib.hid hM8
    have HW8 := Lib.hid hW8
    have Hb7 := Lib.hid hb7e
    clear hM7 hM8 hb7 hb7e hW8 hB8 hB68 hi5 hi6 HCb HM6 HI3 HI4 HAr HSz y2 y3 yz0 HW6 Hb5
    go_wp2
    rw [Hb7.out, HW8.out]
    go_region_held3 (fun X => X.cell? ⟨w.heap.size, 0, none⟩ = some (.slice aw ws.length cw) ∧ X.cell? ⟨w.heap.size, 1, none⟩ = some (.slice ar rs.length cr) ∧ X.cell? ⟨b5, 0, none⟩ = some (.slice a3 n1 d3) ∧ X.cell? ⟨b5, 1, none⟩ = some (.slice a4 rs.length d4) ∧ X.cell? ⟨b7, 0, none⟩ = some (.slice a5 n1 d5) ∧ X.cell? ⟨b7, 1, none⟩ = some (.slice a6 rs.length d6))
      (first | exact HCs.out _ HBd.out | exact HCs.out _ hB9 | exact HCs.out _ hB10)
      (first
        | (go_at_call 33
           refine (HQ1.out _ HBd.out).mono ?_
           rintro e w9 ⟨rfl, hb9⟩
           have hB9 := HBd.out.trans (hb9.mono HBd.out.size)
           clear hb9)
        | (go_at_call 32
           refine (HQ2.out _ hB9).mono ?_
           rintro e w10 ⟨rfl, hb10⟩
           have hB10 := hB9.trans (hb10.mono hB9.size)
           clear hb10))
    have HB := Lib.hid (HM8.out.call hB10).below
    clear hB9 hB10 HQ1 HQ2 HCs HM8 HBd
    go_wp2
    go_ret
    exact ⟨rfl, HB.out⟩
  · have HU := Lib.hid (unsound_any _ _ ws rs w2 (Hw.out.later HM2.out.below) (Hr.out.later HM2.out.below) hn)
    clear hn
    go_wp2_with fail
    refine HU.out.mono ?_
    rintro e w3 ⟨rfl, hb3⟩
    have HB := Lib.hid (HM2.out.call hb3).below
    clear hb3
    go_wp2
    go_ret
    exact ⟨rfl, HB.out⟩
theorem slideMoves_law (W : World) (v0 : Value) (g0 : ∃ ws rs, IsArena W v0 ws rs) :
    Calls Try.prog 14 #[v0] W fun e w' => e = .returned (.bool true) ∧ Below W.heap.size W w' := by
  obtain ⟨ws, rs, vw, vr, rfl, hw, hr⟩ := g0
  exact slideMoves_walk vw vr ws rs W hw hr
end Go.Proofs.Ytigdpdndnghldaa
