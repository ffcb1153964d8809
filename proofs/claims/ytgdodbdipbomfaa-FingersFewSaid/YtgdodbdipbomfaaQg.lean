/- FingersSame, walked. -/
import Derived.Test.YtgdodbdipbomfaaQf
import Derived.Test.YtgdodbdipbomfaaSd
import Derived.Test.YtgdodbdipbomfaaAo
namespace Go.Proofs.Ytgdodbdipbomfaa
open Go.RowKit Go.Shelf Go.Maps

/-- What was squeezed: sound, read renumbered; squeezed again it stays. -/
theorem squeezed_plain {ws rs : List Int} {os : List Ob} {F A : List Int} {fn : Int} (h : Sound ws rs os) (hw : ∀ x ∈ allW rs os, w64 x) (hF : OrdS (readG os rs) F) (hn : A.Nodup) (hall : ∀ x, x ∈ A ↔ x ∈ F) (hfn : 0 ≤ fn) (hz : Alike os (1 + fn.toNat)) :
    ∃ os1 rs1 F1, relO os A (hdD os) = os1 ∧ rs.map (mvW os A) = rs1 ∧ Sound (flat os1) rs1 os1 ∧ (∀ x ∈ flat os1, w64 x) ∧ (∀ x ∈ rs1, w64 x) ∧ (flat os1).length = placeF os F F.length ∧ ClosedF (readG os rs) A ∧
      readG os1 rs1 = renumP (readG os rs) A (fun y => plc A y 0) ∧ (∀ x ∈ allW rs1 os1, w64 x) ∧ OrdS (readG os1 rs1) F1 ∧ (∀ k : Nat, k < os1.length → ((obj os1 k).2.length : Int) = fn) ∧
      (∀ x, 0 ≤ x ∧ x < (os1.length : Int) → x ∈ F1) ∧ relO os1 (upTo os1.length) (hdD os1) = os1 ∧ rs1.map (mvW os1 (upTo os1.length)) = rs1 := by
  have hK0 := ord_keeps h hF
  have hK : Keeps os rs A := ⟨hn, fun x hx => hK0.rng x ((hall x).1 hx), fun x hx he => (hall _).2 (hK0.roots x hx he), fun i hi x hx he => (hall _).2 (hK0.fields i ((hall i).1 hi) x hx he)⟩
  have hH := rise_heads h hK.rng
  have hS1 := rel_sound h hw hK hH
  obtain ⟨w1, w2⟩ := rel_w64 h hw hK (hd := hdD os) (rise_64 h hK.rng)
  have hc0 := hF.closedF (read_rng h)
  have hc : ClosedF (readG os rs) A := ⟨hn, fun x hx => hc0.rng x ((hall x).1 hx), fun x hx => (hall x).2 (hc0.roots x hx), fun i hi x hx => (hall x).2 (hc0.fields i ((hall i).1 hi) x hx)⟩
  have hrd := rel_read h hw hK (hdD os)
  obtain ⟨F1, hF1⟩ := ord_exists (read_rng hS1)
  have hl : (relO os A (hdD os)).length = A.length := by unfold relO; rw [List.length_map]
  have hst := rel_stays hS1 (fun o ho => by
    obtain ⟨i, hi, rfl⟩ := List.mem_map.1 ho
    exact hdS_twice (h.laid.good (obj_get (hK.rng i hi))).1 false false)
  refine ⟨_, _, F1, rfl, rfl, hS1, w1, w2, ?_, hc, hrd, ?_, hF1, ?_, ?_, hst.1, hst.2⟩
  · rw [rel_len]
    unfold placeF
    rw [List.take_length, List.take_length]
    exact sum_same (szO os) hn hF.nodup hall
  · intro x hx
    rcases List.mem_append.1 hx with h' | h'
    · exact w2 x h'
    · exact w1 x (fieldsOf_mem hS1.laid x h')
  · intro k hk
    rw [hl] at hk
    obtain ⟨x, hx⟩ := get_some A k hk
    have hxr := hK.rng x (List.mem_of_getElem? hx)
    rw [obj_at' (rel_obj (hd := hdD os) hx)]
    have h1 := hz x.toNat (by omega)
    rw [show ((x.toNat : Nat) : Int) = x by omega] at h1
    unfold szO at h1
    simp only [List.length_map]
    omega
  · rw [hl]; exact slide_all hc hrd hF hF1 (read_rng hS1) (fun x hx => (hall x).1 hx)
/-- Where all live nobody goes. -/
theorem stay_all {F A : List Int} {n h : Nat} (hI : FI F n A.length h A) (hall : ∀ x, x ∈ A ↔ x ∈ F) (hF : ∀ x, 0 ≤ x ∧ x < (n : Int) → x ∈ F) (hr : ∀ x ∈ F, 0 ≤ x ∧ x < (n : Int)) : A = upTo n ∧ holes A = [] := by
  have h1 : A.length ≤ n := by
    have := nodup_sub_len A (upTo n) hI.nodup (fun x hx => mem_upTo.2 (hr x ((hall x).1 hx)))
    rwa [upTo_len] at this
  have h2 : n ≤ A.length := by
    have := nodup_sub_len (upTo n) A (nodup_upTo n) (fun x hx => (hall x).2 (hF x (mem_upTo.1 hx)))
    rwa [upTo_len] at this
  have hst : ∀ k : Nat, k < A.length → A[k]? = some (k : Int) := fun k hk => hI.stay k hk (hF k ⟨by omega, by omega⟩)
  refine ⟨?_, ?_⟩
  · refine List.ext_getElem? fun k => ?_
    by_cases hk : k < A.length
    · rw [hst k hk, upTo_get (by omega)]
    · rw [List.getElem?_eq_none (by omega), List.getElem?_eq_none (by rw [upTo_len]; omega)]
  · unfold holes
    rw [List.filter_eq_nil_iff]
    intro k hk
    have := mem_upTo.1 hk
    have h3 := hst k.toNat (by omega)
    rw [show ((k.toNat : Nat) : Int) = k by omega] at h3
    simp [h3]

set_option maxRecDepth 100000 in
set_option maxHeartbeats 4000000 in
theorem fingersSame_walk (vw vr : Value) (ws rs : List Int) (fn : Int) (w : World) (hw : IsW w vw ws) (hr : IsW w vr rs) :
    Calls Try.prog 5 #[.agg #[vw, vr], .int .i64 fn] w fun e w' => e = .returned (.bool true) ∧ Below w.heap.size w w' := by
  have Hw := Lib.hid hw
  have Hr := Lib.hid hr
  obtain ⟨aw, cw, rfl, hmw⟩ := hw.slice
  obtain ⟨ar, cr, rfl, hmr⟩ := hr.slice
  have hM0 := (Mem.start w).alloc #[.slice aw ws.length cw, .slice ar rs.length cr] 24
  have HC := Lib.hid (sound_any _ _ ws rs _ (hw.later hM0.below) (hr.later hM0.below))
  have HM0 := Lib.hid hM0
  clear hw hr hM0
  go_enter Try.func5, Try.ntmps5
  go_wp2_with fail
  refine HC.out.mono ?_
  rintro e w2 ⟨hb, hcase⟩
  have hM2 := HM0.out.call hb
  have c0 : w2.cell? ⟨w.heap.size, 0, none⟩ = some (.slice aw ws.length cw) := by have := hM2.cell 0 rfl 0; simpa using this
  have c1 : w2.cell? ⟨w.heap.size, 1, none⟩ = some (.slice ar rs.length cr) := by have := hM2.cell 0 rfl 1; simpa using this
  have z0 : w.heap.size < w2.heap.size := (hM2.box 0 rfl).2.1
  have HM2 := Lib.hid hM2
  clear hb hM2 HC HM0
  rcases hcase with ⟨rfl, os, hS⟩ | ⟨rfl, hn⟩
  · obtain ⟨F, hF⟩ := ord_exists (read_rng hS)
    have h64 : ∀ x ∈ allW rs os, w64 x := fun x hx => by
      rcases List.mem_append.1 hx with h | h
      · exact Hr.out.all x h
      · exact Hw.out.all x (fieldsOf_mem hS.laid x h)
    have HSq := Lib.hid (squeeze_any _ _ ws rs os F fn w2 (Hw.out.later HM2.out.below) (Hr.out.later HM2.out.below) hS h64 hF)
    have HP := Lib.hid (And.intro hS (And.intro hF h64))
    clear hS hF h64
    go_wp2_with fail
    refine HSq.out.mono ?_
    rintro e w3 (⟨c, hc0, rfl, hb3, _⟩ | ⟨v1, v2, A, h, c, hf0, hf4, hz, hI, hall, hcl, rfl, hM3⟩)
    · have e1 : (c != 0) = true := by simpa using hc0
      have HB := Lib.hid (((HM2.out.call hb3).alloc #[.slice none 0 0, .slice none 0 0] 24).below)
      clear hb3 HSq c0 c1 z0
      go_wp2
      go_ret
      exact ⟨rfl, HB.out⟩
    · obtain ⟨hS, hF, h64⟩ := HP.out
      obtain ⟨os1, rs1, F1, e1, e2, hS1, w1, w2', hl1, hcl1, hrd, h641, hF1, hlk, hall1, e3, e4⟩ := squeezed_plain hS h64 hF hI.nodup hall hf0 hz
      rw [e1, e2] at hM3
      have hi1 := isW_of_own (hM3.ownW 0 rfl) (by have := hS1.words; omega) w1
      have hi2 := isW_of_own (hM3.ownW 1 rfl) (by have := hS1.roots; omega) w2'
      obtain ⟨a1, d1, rfl, _⟩ := hi1.slice
      obtain ⟨a2, d2, rfl, _⟩ := hi2.slice
      obtain ⟨n1, hn1⟩ : ∃ n1, (flat os1).length = n1 := ⟨_, rfl⟩
      obtain ⟨n2, hn2⟩ : ∃ n2, rs1.length = n2 := ⟨_, rfl⟩
      rw [hn1] at hi1 hM3 ⊢
      rw [hn2] at hi2 hM3 ⊢
      have HSq2 : Hid (∀ X u v, IsW X u (flat os1) → IsW X v rs1 → Calls Try.prog 23 #[.agg #[u, v], .int .i64 fn] X fun e w' => ∃ a1 c1 a2 c2, e = .returned (.tuple #[.agg #[.slice a1 n1 c1, .slice a2 n2 c2], .int .i64 0, .int .i64 0]) ∧ IsW w' (.slice a1 n1 c1) (flat os1) ∧ IsW w' (.slice a2 n2 c2) rs1 ∧ Below X.heap.size X w') := Lib.hid (fun X u v hu hv => by
        refine (squeeze_any u v (flat os1) rs1 os1 F1 fn X hu hv hS1 h641 hF1).mono ?_
        rintro e w' (⟨c, _, _, _, hbad⟩ | ⟨v1, v2, A1, h1, c1, _, _, _, hI1, ha1, hc1, rfl, hM⟩)
        · rcases hbad with hb | hb | ⟨k, hk, hb⟩
          · omega
          · omega
          · exact absurd (hlk k hk) hb
        · have hrg := hF1.rng (read_rng hS1)
          rw [show (readG os1 rs1).objs.length = os1.length by unfold readG; simp] at hrg
          obtain ⟨s1, s2⟩ := stay_all hI1 ha1 hall1 hrg
          rw [s2] at hc1
          obtain rfl : c1 = 0 := by simpa using hc1
          rw [s1, e3, e4] at hM
          have j1 := isW_of_own (hM.ownW 0 rfl) (by have := hS1.words; omega) w1
          have j2 := isW_of_own (hM.ownW 1 rfl) (by have := hS1.roots; omega) w2'
          obtain ⟨x1, y1, rfl, _⟩ := j1.slice
          obtain ⟨x2, y2, rfl, _⟩ := j2.slice
          rw [hn1] at j1 ⊢
          rw [hn2] at j2 ⊢
          exact ⟨_, _, _, _, rfl, j1, j2, hM.below⟩)
      have HLf : Hid (∀ X u v p q, IsW X u (flat os1) → IsW X v rs1 → IsW X p ws → IsW X q rs → Calls Try.prog 24 #[.agg #[u, v], .agg #[p, q]] X fun e w' => e = .returned (.bool true) ∧ Below X.heap.size X w') := Lib.hid (fun X u v p q hu hv hp hq => left_yes u v p q (flat os1) rs1 ws rs os1 os F A X hu hv hp hq hS1 hS hF hcl1 hl1 hrd h64 h641)
      have HAr : Hid (∀ X u v p q, IsW X u (flat os1) → IsW X v rs1 → IsW X p (flat os1) → IsW X q rs1 → Calls Try.prog 22 #[.agg #[u, v], .agg #[p, q]] X fun e w' => e = .returned (.bool true) ∧ Below X.heap.size X w') := Lib.hid (fun X u v p q hu hv hp hq => arenas_same u v p q (flat os1) rs1 X hu hv hp hq (by have := hS1.words; omega) (by have := hS1.roots; omega))
      have hb3 := hM3.below
      clear hS hF h64 e1 e2 hS1 w1 w2' hl1 hcl1 hrd h641 hF1 hlk hall1 e3 e4 hn1 hn2 hf0 hf4 hz hI hall hcl hM3 HSq
      have hM4 := (HM2.out.call hb3).alloc #[.slice a1 n1 d1, .slice a2 n2 d2] 24
      obtain ⟨b3, hb3e⟩ : ∃ b3, w3.heap.size = b3 := ⟨_, rfl⟩
      obtain ⟨W4, hW4⟩ : ∃ W4, w3.alloc (.cells #[.slice a1 n1 d1, .slice a2 n2 d2] 24) = W4 := ⟨_, rfl⟩
      have hB4 : Below w3.heap.size w3 W4 := by rw [← hW4]; exact (Below.refl _ _).alloc (Nat.le_refl _) _
      rw [hb3e, hW4] at hM4
      have HSl3 := Lib.hid (HSq2.out W4 _ _ (hi1.later hB4) (hi2.later hB4))
      have HI1 := Lib.hid (hi1.later hB4)
      have HI2 := Lib.hid (hi2.later hB4)
      have HM4 := Lib.hid hM4
      have HW4 := Lib.hid hW4
      have Hb3 := Lib.hid hb3e
      clear hM4 hb3 hb3e hW4 hB4 hi1 hi2 HSq2 c0 c1 z0 HM2
      go_wp2_with fail
      rw [Hb3.out, HW4.out]
      refine HSl3.out.mono ?_
      rintro e w5 ⟨a3, d3, a4, d4, rfl, hi3, hi4, hb5⟩
      have hM5 := HM4.out.call hb5
      have hM6 := hM5.alloc #[.slice a3 n1 d3, .slice a4 n2 d4] 24
      have y0 : w5.cell? ⟨b3, 0, none⟩ = some (.slice a1 n1 d1) := by have := hM5.cell 0 rfl 0; simpa using this
      have y1 : w5.cell? ⟨b3, 1, none⟩ = some (.slice a2 n2 d2) := by have := hM5.cell 0 rfl 1; simpa using this
      have y2 : w5.cell? ⟨w.heap.size, 0, none⟩ = some (.slice aw ws.length cw) := by have := hM5.cell 1 rfl 0; simpa using this
      have y3 : w5.cell? ⟨w.heap.size, 1, none⟩ = some (.slice ar rs.length cr) := by have := hM5.cell 1 rfl 1; simpa using this
      have yz3 : b3 < w5.heap.size := (hM5.box 0 rfl).2.1
      have yz0 : w.heap.size < w5.heap.size := (hM5.box 1 rfl).2.1
      obtain ⟨b5, hb5e⟩ : ∃ b5, w5.heap.size = b5 := ⟨_, rfl⟩
      obtain ⟨W6, hW6⟩ : ∃ W6, w5.alloc (.cells #[.slice a3 n1 d3, .slice a4 n2 d4] 24) = W6 := ⟨_, rfl⟩
      have hB6 : Below w5.heap.size w5 W6 := by rw [← hW6]; exact (Below.refl _ _).alloc (Nat.le_refl _) _
      rw [hb5e, hW6] at hM6
      have hB46 : Below W4.heap.size W4 W6 := hb5.trans (hB6.mono hb5.size)
      have HL := Lib.hid (HLf.out W6 _ _ _ _ (HI1.out.later hB46) (HI2.out.later hB46) (Hw.out.later hM6.below) (Hr.out.later hM6.below))
      have HI3 := Lib.hid (hi3.later hB6)
      have HI4 := Lib.hid (hi4.later hB6)
      have HI1 := Lib.hid (HI1.out.later hB46)
      have HI2 := Lib.hid (HI2.out.later hB46)
      have HM6 := Lib.hid hM6
      have HW6 := Lib.hid hW6
      have Hb5 := Lib.hid hb5e
      clear hM5 hM6 hb5 hb5e hW6 hB6 hB46 hi3 hi4 HSl3 HM4 HLf HW4 Hb3
      go_wp2_with fail
      rw [Hb5.out, HW6.out]
      refine HL.out.mono ?_
      rintro e w7 ⟨rfl, hb7⟩
      have hM7 := HM6.out.call hb7
      have x0 : w7.cell? ⟨b3, 0, none⟩ = some (.slice a1 n1 d1) := by have := hM7.cell 1 rfl 0; simpa using this
      have x1 : w7.cell? ⟨b3, 1, none⟩ = some (.slice a2 n2 d2) := by have := hM7.cell 1 rfl 1; simpa using this
      have x2 : w7.cell? ⟨b5, 0, none⟩ = some (.slice a3 n1 d3) := by have := hM7.cell 0 rfl 0; simpa using this
      have x3 : w7.cell? ⟨b5, 1, none⟩ = some (.slice a4 n2 d4) := by have := hM7.cell 0 rfl 1; simpa using this
      have xz3 : b3 < w7.heap.size := (hM7.box 1 rfl).2.1
      have xz5 : b5 < w7.heap.size := (hM7.box 0 rfl).2.1
      have HA := Lib.hid (HAr.out w7 _ _ _ _ (HI1.out.later hb7) (HI2.out.later hb7) (HI3.out.later hb7) (HI4.out.later hb7))
      have HM7 := Lib.hid hM7
      clear hM7 hb7 HL HM6 HI1 HI2 HI3 HI4 HAr y0 y1 y2 y3 yz3 yz0 HW6 Hb5
      go_wp2_with fail
      refine HA.out.mono ?_
      rintro e w8 ⟨rfl, hb8⟩
      have HB := Lib.hid (HM7.out.call hb8).below
      clear hb8 HA HM7
      go_wp2
      go_ret
      exact ⟨rfl, HB.out⟩
  · have HU := Lib.hid (unsound_any _ _ ws rs w2 (Hw.out.later HM2.out.below) (Hr.out.later HM2.out.below) hn)
    clear hn
    go_wp2_with fail
    refine HU.out.mono ?_
    rintro e w3 ⟨rfl, hb3⟩
    have HB := Lib.hid (HM2.out.call hb3).below
    clear hb3
    go_wp2
    go_ret
    exact ⟨rfl, HB.out⟩
end Go.Proofs.Ytgdodbdipbomfaa
