/- slide.Slide at a sound arena, walked. -/
import Derived.Test.YtigdpdndnghldaaJd
import Derived.Test.YtigdpdndnghldaaNb
namespace Go.Proofs.Ytigdpdndnghldaa
open Go.RowKit Go.Shelf Go.Maps

theorem enter_slide1 : ∀ args w, (callFunc 69 args).run Try.prog w = .ok (.enter 69 args) w := fun _ _ => rfl
theorem tells_of {w0 w : World} {L : List Ent} {bm n : Nat} {os : List Ob} {F : List Int} (h : Mem w0.heap.size w0 w L) (k : Nat) (hk : L[k]? = some (gmap mapII bm n (nowF os (riseN F os.length) (riseN F os.length)))) (hp : ∀ i : Nat, i < os.length → i64ok (place os i : Int)) : Tells w bm os F (riseN F os.length) := by
  intro i X hi hF hX
  have hl := (gmap_look (M := mapII) ((h.call hX).get k hk) (x := (place os i : Int)) (hp i hi)).1
  rw [nowF_old hi (mem_riseN.2 ⟨⟨by omega, by omega⟩, hF⟩)] at hl
  exact hl
set_option maxRecDepth 100000 in
set_option maxHeartbeats 2000000 in
theorem slide_yes (vw vr : Value) (ws rs : List Int) (os : List Ob) (F : List Int) (w : World) (hw : IsW w vw ws) (hr : IsW w vr rs) (hS : Sound ws rs os) (h64 : ∀ x ∈ allW rs os, w64 x) (hF : OrdS (readG os rs) F) :
    Calls Try.prog 37 #[.agg #[vw, vr]] w fun e w' => ∃ v1 v2, e = .returned (.tuple #[.agg #[v1, v2], .int .i64 0]) ∧ Mem w.heap.size w w' [rowW 55 v1 (flat (relO os (riseN F os.length) (hdD os))), rowW 55 v2 (rs.map (mvW os (riseN F os.length)))] := by
  have Hw := Lib.hid hw
  have Hr := Lib.hid hr
  have hws64 := hw.all
  obtain ⟨aw, cw, rfl, hmw⟩ := hw.slice
  obtain ⟨ar, cr, rfl, hmr⟩ := hr.slice
  have hM0 := (((Mem.start w).alloc #[.slice aw ws.length cw, .slice ar rs.length cr] 24).allocAt (w.heap.size + 1) (by simp) #[.slice none 0 0, .slice none 0 0] 24)
  have hK := rise_keeps hS hF
  have hpl : ∀ j, placeF os (riseN F os.length) j ≤ 256 := fun j => by
    have h1 := placeF_le hK.nodup hK.rng j
    have h2 := hS.words
    rw [hS.laid.1] at h2; omega
  have hp64 : ∀ i : Nat, i < os.length → i64ok (place os i : Int) := fun i hi => by
    have h1 := place_mono (os := os) (Nat.le_of_lt hi)
    rw [place_all, ← hS.laid.1] at h1
    have h2 := hS.words
    unfold i64ok; omega
  obtain ⟨W1, hW1⟩ : ∃ W1, (w.alloc (.cells #[.slice aw ws.length cw, .slice ar rs.length cr] 24)).alloc (.cells #[.slice none 0 0, .slice none 0 0] 24) = W1 := ⟨_, rfl⟩
  rw [hW1] at hM0
  have HMk := Lib.hid (mark_yes _ _ ws rs os F 64 W1 (hw.later hM0.below) (hr.later hM0.below) ⟨hS, h64, hF, by decide⟩ (by decide))
  have hrs := hS.roots
  have HP := Lib.hid (And.intro hS (And.intro h64 (And.intro hF (And.intro hpl (And.intro hp64 hws64)))))
  have HM0 := Lib.hid hM0
  have HW1 := Lib.hid hW1
  clear hw hr hM0 hmw hmr hS h64 hF hK hpl hp64 hW1 hws64
  go_enter Try.func37, Try.ntmps37
  go_wp2_with fail
  rw [HW1.out]
  refine HMk.out.mono ?_
  rintro e w2 ⟨v1, v2, rfl, hM2⟩
  obtain ⟨a1, c1, rfl⟩ := own_row (hM2.row 0 rfl)
  obtain ⟨a2, c2, rfl⟩ := own_row (hM2.row 1 rfl)
  obtain ⟨N, hN⟩ : ∃ N, (flat (mkO os F)).length = N := ⟨_, rfl⟩
  have hN256 : N ≤ 256 := by rw [← hN, mkO_flat, ← HP.out.1.laid.1]; exact HP.out.1.words
  have hIM := isW_of_own (hM2.ownW 0 rfl) (by rw [hN]; omega) (mkO_64 HP.out.1.laid (by rw [← HP.out.1.laid.1]; exact HP.out.2.2.2.2.2) F)
  rw [hN] at hM2 hIM
  have hM3 := (HM0.out.callMem hM2).alloc #[.slice a1 N c1, .slice a2 rs.length c2] 24
  obtain ⟨b4, hb4⟩ : ∃ b4, w2.heap.size = b4 := ⟨_, rfl⟩
  obtain ⟨W3, hW3⟩ : ∃ W3, w2.alloc (.cells #[.slice a1 N c1, .slice a2 rs.length c2] 24) = W3 := ⟨_, rfl⟩
  have hB3 : Below w2.heap.size w2 W3 := by rw [← hW3]; exact (Below.refl _ _).alloc (Nat.le_refl _) _
  rw [hb4, hW3] at hM3
  have HSl := Lib.hid (slots_any _ ws rs os F W3 HP.out.1 HP.out.2.2.2.1 (hIM.later hB3))
  have hM3' : Mem w.heap.size w W3 [ebox b4 #[.slice a1 N c1, .slice a2 rs.length c2] 24, ebox (w.heap.size + 1) #[.slice none 0 0, .slice none 0 0] 24, ebox w.heap.size #[.slice aw ws.length cw, .slice ar rs.length cr] 24] := hM3.pick0 [0, 3, 4] (by decide) rfl
  have k0 : W3.cell? ⟨b4, 0, none⟩ = some (.slice a1 N c1) := by have := hM3'.cell 0 rfl 0; simpa using this
  have kz : b4 < W3.heap.size := (hM3'.box 0 rfl).2.1
  have HIM := Lib.hid (hIM.later hB3)
  have HM3 := Lib.hid hM3'
  have HW3 := Lib.hid hW3
  have Hb4 := Lib.hid hb4
  have HN := Lib.hid hN
  clear hM2 hM3 hM3' hIM hW3 hb4 hB3 hN HM0 HMk HW1
  rw [HN.out]
  go_wp2_with fail
  rw [Hb4.out, HW3.out]
  refine HSl.out.mono ?_
  rintro e w4 ⟨bm, nm, rfl, hM4⟩
  have hM5 := (HM3.out.callMem hM4).alloc #[.map (some bm)] 97
  obtain ⟨b6, hb6⟩ : ∃ b6, w4.heap.size = b6 := ⟨_, rfl⟩
  obtain ⟨W5, hW5⟩ : ∃ W5, w4.alloc (.cells #[.map (some bm)] 97) = W5 := ⟨_, rfl⟩
  have hB5 : Below w4.heap.size w4 W5 := by rw [← hW5]; exact (Below.refl _ _).alloc (Nat.le_refl _) _
  rw [hb6, hW5] at hM5
  have hIM5 := (HIM.out.later hM4.below).later hB5
  have hT5 := tells_of hM5 1 rfl HP.out.2.2.2.2.1
  have HTu := Lib.hid (sturned_any _ rs bm os F (riseN F os.length) W5 (Hr.out.later hM5.below) (by omega) hT5 HP.out.2.2.2.1 (fun x hx => idx_rise HP.out.1 HP.out.2.2.1 (.inl hx)))
  have k1 : W5.cell? ⟨w.heap.size, 1, none⟩ = some (.slice ar rs.length cr) := by have := hM5.cell 4 rfl 1; simpa using this
  have k6 : W5.cell? ⟨b6, 0, none⟩ = some (.map (some bm)) := by have := hM5.cell 0 rfl 0; simpa using this
  have kz1 : w.heap.size < W5.heap.size := (hM5.box 4 rfl).2.1
  have kz6 : b6 < W5.heap.size := (hM5.box 0 rfl).2.1
  have HIM5 := Lib.hid hIM5
  have HT5 := Lib.hid hT5
  have HM5 := Lib.hid hM5
  have HW5 := Lib.hid hW5
  have Hb6 := Lib.hid hb6
  have p0 : w4.cell? ⟨w.heap.size, 1, none⟩ = some (.slice ar rs.length cr) := by have := (HM3.out.callMem hM4).cell 3 rfl 1; simpa using this
  have pz : w.heap.size < w4.heap.size := ((HM3.out.callMem hM4).box 3 rfl).2.1
  clear hM4 hM5 hIM5 hT5 hW5 hb6 hB5 HM3 HIM HSl k0 kz HW3 Hb4
  go_wp2_with fail
  rw [Hb6.out, HW5.out]
  refine HTu.out.mono ?_
  rintro e w6 ⟨v3, rfl, hM6⟩
  obtain ⟨a3, n3, c3, rfl⟩ := own_slice (hM6.row 0 rfl)
  have hC : ∀ X, Below w6.heap.size w6 X → X.cell? ⟨b4, 0, none⟩ = some (.slice a1 N c1) ∧ X.cell? ⟨b6, 0, none⟩ = some (.map (some bm)) := fun X hX => by
    have hMX := (HM5.out.callMem hM6).call hX
    refine ⟨?_, ?_⟩
    · have := hMX.cell 3 rfl 0; simpa using this
    · have := hMX.cell 1 rfl 0; simpa using this
  have hM7 := ((Mem.start w6).nilW 55).alloc #[.slice none 0 0, .slice a3 n3 c3] 24
  obtain ⟨b7, hb7⟩ : ∃ b7, w6.heap.size = b7 := ⟨_, rfl⟩
  obtain ⟨W7, hW7⟩ : ∃ W7, w6.alloc (.cells #[.slice none 0 0, .slice a3 n3 c3] 24) = W7 := ⟨_, rfl⟩
  have hC6 := hC w6 (Below.refl _ _)
  have q0 := hC6.1
  have qz := cell_lt hC6.1
  have hM7' : Mem w6.heap.size w6 W7 (ownT b7 (.slice a3 n3 c3) os F [] (.slice none 0 0) ++ []) := by
    rw [List.append_nil]
    rw [hW7] at hM7
    exact hM7.cast (by unfold ownT; rw [hb7]; rfl)
  have hS2 := mkO_sound HP.out.1 F
  have HWk := Lib.hid (walk_any 69 #[.pointer (some ⟨b7, 0, none⟩), .pointer (some ⟨b4, 0, none⟩), .pointer (some ⟨b6, 0, none⟩)] (ownT b7 (.slice a3 n3 c3) os F) w6 W7 [] (.slice none 0 0) (.slice a1 N c1) (flat (mkO os F)) (HIM5.out.later hM6.below) hS2.words enter_slide1 hM7'
    (fun os1 x n fs k L' wr hP hP2 hh hfl hM => slide1_any w6 wr b7 b4 b6 bm (.slice a3 n3 c3) _ ws rs os F HP.out.1 HP.out.2.2.1 HP.out.2.1 HP.out.2.2.2.1 (HIM5.out.later hM6.below) (HT5.out.later hM6.below) hC os1 x n fs k L' hP hP2 hM))
  have HS2 := Lib.hid hS2
  have HM6 := Lib.hid (HM5.out.callMem hM6)
  have HW7 := Lib.hid hW7
  have Hb7 := Lib.hid hb7
  clear hM6 hM7 hM7' hC hC6 hS2 hW7 hb7 HTu HM5 HW5 Hb6 HIM5 HT5 k1 k6 kz1 kz6 p0 pz
  go_wp2_with fail
  rw [Hb7.out, HW7.out]
  refine HWk.out.mono ?_
  rintro e w8 (⟨os2, v1, hL2, rfl, hM⟩ | ⟨hno, _⟩)
  · obtain rfl := HS2.out.laid.unique hL2
    rw [List.append_nil] at hM
    unfold ownT at hM
    have hl : (mkO os F).length = os.length := allO_len os _
    rw [hl, relP_all] at hM
    obtain ⟨a5, c5, rfl⟩ := own_row (hM.row 1 rfl)
    obtain ⟨n5, hn5⟩ : ∃ n5, (flat (relO os (riseN F os.length) (hdD os))).length = n5 := ⟨_, rfl⟩
    rw [hn5] at hM
    have hM9 := HM6.out.callMem hM
    have d0 : w8.cell? ⟨b7, 0, none⟩ = some (.slice a5 n5 c5) := by have := hM9.cell 0 rfl 0; simpa using this
    have d1 : w8.cell? ⟨b7, 1, none⟩ = some (.slice a3 n3 c3) := by have := hM9.cell 0 rfl 1; simpa using this
    have dz : b7 < w8.heap.size := (hM9.box 0 rfl).2.1
    have r0 : w8.cell? ⟨w.heap.size + 1, 0, none⟩ = some (.slice none 0 0) := by have := hM9.cell 6 rfl 0; simpa using this
    have r1 : w8.cell? ⟨w.heap.size + 1, 1, none⟩ = some (.slice none 0 0) := by have := hM9.cell 6 rfl 1; simpa using this
    have r2 : w8.frozen? ⟨w.heap.size + 1, 0, none⟩ = false := hM9.free 6 rfl 0
    have r3 : w8.frozen? ⟨w.heap.size + 1, 1, none⟩ = false := hM9.free 6 rfl 1
    have rz : w.heap.size + 1 < w8.heap.size := (hM9.box 6 rfl).2.1
    have HM10 := Lib.hid ((hM9.setBox 6 rfl 0 (.slice a5 n5 c5)).setBox 6 rfl 1 (.slice a3 n3 c3))
    have Hn5 := Lib.hid hn5
    clear hM hM9 HWk HW7 Hb7 HM6 q0 qz hn5 hl HS2 hL2
    go_wp2
    obtain ⟨W9, hW9⟩ : ∃ W9, W9 = (w8.setCell ⟨w.heap.size + 1, 0, none⟩ (.slice a5 n5 c5)).setCell ⟨w.heap.size + 1, 1, none⟩ (.slice a3 n3 c3) := ⟨_, rfl⟩
    have hM8 := HM10.out
    rw [← hW9] at hM8 ⊢
    have s0 : W9.cell? ⟨w.heap.size + 1, 0, none⟩ = some (.slice a5 n5 c5) := by have := hM8.cell 6 rfl 0; simpa using this
    have s1 : W9.cell? ⟨w.heap.size + 1, 1, none⟩ = some (.slice a3 n3 c3) := by have := hM8.cell 6 rfl 1; simpa using this
    refine bodyPost_ret (v := .tuple #[.agg #[.slice a5 n5 c5, .slice a3 n3 c3], .int .i64 0]) (by simp [results, Try.results37, go_sem, s0, s1]) rfl ⟨_, _, rfl, ?_⟩
    exact hM8.pick0 [1, 2] (by decide) rfl
  · exact absurd HS2.out.laid (hno _)
end Go.Proofs.Ytigdpdndnghldaa
