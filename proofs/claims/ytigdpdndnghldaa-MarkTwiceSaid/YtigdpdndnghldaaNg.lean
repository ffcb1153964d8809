/- MarkTwice, walked. -/
import Derived.Test.YtigdpdndnghldaaNd
import Derived.Test.YtigdpdndnghldaaAm
import Derived.Test.YtigdpdndnghldaaBu
import Derived.Test.YtigdpdndnghldaaSy
import Derived.Deep.RegionHeld3
namespace Go.Proofs.Ytigdpdndnghldaa
open Go.RowKit Go.Shelf

theorem sum_filter (f : Int → Nat) (M : List Int) : ∀ L : List Int, (L.map fun i => if i ∈ M then (f i : Int) else 0).sum = (((L.filter fun i => decide (i ∈ M)).map f).sum : Nat)
  | [] => rfl
  | i :: L => by
    have h := sum_filter f M L
    by_cases hi : i ∈ M
    · rw [List.filter_cons_of_pos (by simpa using hi)]
      simp only [List.map_cons, List.sum_cons, if_pos hi, h]
      omega
    · rw [List.filter_cons_of_neg (by simpa using hi)]
      simp only [List.map_cons, List.sum_cons, if_neg hi, h]
      omega
/-- What is marked takes as many words. -/
theorem sumM_mk {ws : List Int} {os : List Ob} (hL : Laid ws os) {F : List Int} (hn : F.Nodup) (hr : ∀ x ∈ F, 0 ≤ x ∧ x < (os.length : Int)) : sumM (mkO os F) = (placeF os F F.length : Nat) := by
  have h1 : sumM (mkO os F) = ((upTo os.length).map fun i => if i ∈ F then (szO os i : Int) else 0).sum := by
    unfold sumM mkO allO rawO
    rw [List.map_map]
    congr 1
    refine List.map_congr_left fun i hi => ?_
    have hi2 := mem_upTo.1 hi
    obtain ⟨k, rfl⟩ : ∃ k : Nat, i = k := ⟨i.toNat, by omega⟩
    have hb := (hdS_parts (hd_good hL (k := k) (by omega)).1 (decide ((k : Int) ∈ F))).2.1
    show (if (hdM os F k / 256 % 2 == 1) = true then 1 + ((obj os k).2.length : Int) else 0) = _
    unfold hdM
    rw [hb]
    unfold szO
    by_cases h : (k : Int) ∈ F
    · rw [decide_eq_true h, if_pos rfl, if_pos h]; omega
    · rw [decide_eq_false h, if_neg (by simp), if_neg h]
  rw [h1, sum_filter]
  unfold placeF
  rw [List.take_length]
  congr 1
  refine sum_same (szO os) ((List.Nodup.sublist (List.filter_sublist) (by
    unfold upTo
    rw [List.Nodup, List.pairwise_map]
    exact List.nodup_range.imp (fun h e => h (by omega))))) hn fun x => ?_
  rw [List.mem_filter, mem_upTo]
  constructor
  · rintro ⟨_, h⟩; simpa using h
  · intro h; exact ⟨hr x h, by simpa using h⟩

set_option maxRecDepth 100000 in
set_option maxHeartbeats 4000000 in
theorem markTwice_walk (vw vr : Value) (ws rs : List Int) (r : Int) (w : World) (hw : IsW w vw ws) (hr : IsW w vr rs) :
    Calls Try.prog 9 #[.agg #[vw, vr], .int .i64 r] w fun e w' => e = .returned (.bool true) ∧ Below w.heap.size w w' := by
  have Hw := Lib.hid hw
  have Hr := Lib.hid hr
  obtain ⟨aw, cw, rfl, hmw⟩ := hw.slice
  obtain ⟨ar, cr, rfl, hmr⟩ := hr.slice
  have hM0 := (Mem.start w).alloc #[.slice aw ws.length cw, .slice ar rs.length cr] 24
  have HM0 := Lib.hid hM0
  by_cases hs : ∃ os, Sound ws rs os
  · obtain ⟨os, hS⟩ := hs
    obtain ⟨F, hF⟩ := ord_exists (read_rng hS)
    have h64 : ∀ x ∈ allW rs os, w64 x := fun x hx => by
      rcases List.mem_append.1 hx with h | h
      · exact hr.all x h
      · exact hw.all x (fieldsOf_mem hS.laid x h)
    have HCp := Lib.hid (mark_any _ _ ws rs os F r _ (hw.later hM0.below) (hr.later hM0.below) hS h64 hF)
    have HP := Lib.hid (And.intro hS (And.intro hF h64))
    have hws := hS.words
    have hrs := hS.roots
    clear hw hr hM0 hmw hmr hS hF h64
    go_enter Try.func9, Try.ntmps9
    go_wp2_with fail
    refine HCp.out.mono ?_
    rintro e w4 ⟨a1, n1, d1, a2, n2, d2, c, rfl, hb4, hc4⟩
    have hM4 := HM0.out.call hb4
    have hM5 := hM4.alloc #[.slice a1 n1 d1, .slice a2 n2 d2] 24
    obtain ⟨b3, hb3⟩ : ∃ b3, w4.heap.size = b3 := ⟨_, rfl⟩
    obtain ⟨W5, hW5⟩ : ∃ W5, w4.alloc (.cells #[.slice a1 n1 d1, .slice a2 n2 d2] 24) = W5 := ⟨_, rfl⟩
    have hB5 : Below w4.heap.size w4 W5 := by rw [← hW5]; exact (Below.refl _ _).alloc (Nat.le_refl _) _
    have p0 : w4.cell? ⟨w.heap.size, 0, none⟩ = some (.slice aw ws.length cw) := by have := hM4.cell 0 rfl 0; simpa using this
    have p1 : w4.cell? ⟨w.heap.size, 1, none⟩ = some (.slice ar rs.length cr) := by have := hM4.cell 0 rfl 1; simpa using this
    have pz : w.heap.size < w4.heap.size := (hM4.box 0 rfl).2.1
    rw [hb3, hW5] at hM5
    have HSo := Lib.hid (sound_yes _ _ ws rs os W5 (Hw.out.later hM5.below) (Hr.out.later hM5.below) HP.out.1)
    have HM5 := Lib.hid hM5
    have HW5 := Lib.hid hW5
    have Hb3 := Lib.hid hb3
    rcases hc4 with ⟨rfl, k1, k2, rfl, rfl, h1, h2⟩ | ⟨hc, hbad⟩
    · have g1 : decide (r < 1) = false := decide_eq_false (by omega)
      have g2 : decide (r > 64) = false := decide_eq_false (by omega)
      have hIw := h1.later hB5
      have hIr := h2.later hB5
      have HIw := Lib.hid hIw
      have HIr := Lib.hid hIr
      clear hM4 hM5 hb4 hB5 hW5 hb3 HCp h1 h2 hIw hIr
      go_wp2_with fail
      rw [Hb3.out, HW5.out]
      refine HSo.out.mono ?_
      rintro e w6 ⟨rfl, hb6⟩
      have hM6 := HM5.out.call hb6
      have q0 : w6.cell? ⟨b3, 0, none⟩ = some (.slice a1 ws.length d1) := by have := hM6.cell 0 rfl 0; simpa using this
      have q1 : w6.cell? ⟨b3, 1, none⟩ = some (.slice a2 rs.length d2) := by have := hM6.cell 0 rfl 1; simpa using this
      have qz : b3 < w6.heap.size := (hM6.box 0 rfl).2.1
      have hS2 := mkO_sound HP.out.1 F
      have hF2 : OrdS (readG (mkO os F) rs) F := by
        have : readG (mkO os F) rs = readG os rs := allO_read os _ rs
        rw [this]; exact HP.out.2.1
      have hw64 : ∀ x ∈ flat os, w64 x := by rw [← HP.out.1.laid.1]; exact Hw.out.all
      have h642 : ∀ x ∈ allW rs (mkO os F), w64 x := fun x hx => by
        rcases List.mem_append.1 hx with h | h
        · exact Hr.out.all x h
        · exact mkO_64 HP.out.1.laid hw64 F x (fieldsOf_mem hS2.laid x h)
      have hCp2 := mark_any _ _ (flat (mkO os F)) rs (mkO os F) F r w6 (HIw.out.later hb6) (HIr.out.later hb6) hS2 h642 hF2
      rw [mkO_twice HP.out.1.laid] at hCp2
      have hfl : (flat (mkO os F)).length = ws.length := by rw [mkO_flat, ← HP.out.1.laid.1]
      rw [hfl] at hCp2
      have HCp2 := Lib.hid hCp2
      have HS2 := Lib.hid hS2
      have HM6 := Lib.hid hM6
      have HIw6 := Lib.hid (HIw.out.later hb6)
      have HIr6 := Lib.hid (HIr.out.later hb6)
      have Hfl := Lib.hid hfl
      clear p0 p1 pz hb6 hM6 hS2 hF2 hw64 h642 hCp2 HSo hfl
      go_wp2_with fail
      refine HCp2.out.mono ?_
      rintro e w7 ⟨a3, n3, d3, a4, n4, d4, c7, rfl, hb7, hc7⟩
      rcases hc7 with ⟨rfl, _, _, rfl, rfl, h3, h4⟩ | ⟨_, hbad⟩
      · have hM7 := HM6.out.call hb7
        have q0 : w7.cell? ⟨b3, 0, none⟩ = some (.slice a1 ws.length d1) := by have := hM7.cell 0 rfl 0; simpa using this
        have q1 : w7.cell? ⟨b3, 1, none⟩ = some (.slice a2 rs.length d2) := by have := hM7.cell 0 rfl 1; simpa using this
        have qz : b3 < w7.heap.size := (hM7.box 0 rfl).2.1
        have hM8 := hM7.alloc #[.slice a3 ws.length d3, .slice a4 rs.length d4] 24
        obtain ⟨b5, hb5⟩ : ∃ b5, w7.heap.size = b5 := ⟨_, rfl⟩
        obtain ⟨W8, hW8⟩ : ∃ W8, w7.alloc (.cells #[.slice a3 ws.length d3, .slice a4 rs.length d4] 24) = W8 := ⟨_, rfl⟩
        have hB8 : Below w7.heap.size w7 W8 := by rw [← hW8]; exact (Below.refl _ _).alloc (Nat.le_refl _) _
        rw [hb5, hW8] at hM8
        have HSw := Lib.hid (sweep_yes _ _ _ rs _ W8 ((HIw6.out.later hb7).later hB8) ((HIr6.out.later hb7).later hB8) HS2.out)
        have HIw8 := Lib.hid ((HIw6.out.later hb7).later hB8)
        have HIr8 := Lib.hid ((HIr6.out.later hb7).later hB8)
        have HJw8 := Lib.hid (h3.later hB8)
        have HJr8 := Lib.hid (h4.later hB8)
        have HM8 := Lib.hid hM8
        have HW8 := Lib.hid hW8
        have Hb5 := Lib.hid hb5
        clear hM7 hM8 hb5 hW8 hB8 hb7 h3 h4 HCp2
        go_wp2_with fail
        rw [Hb5.out, HW8.out]
        refine HSw.out.mono ?_
        rintro e w9 ⟨lv, rfl, hM9⟩
        have hI := swp_inv (mkO os F)
        have hsz := sumM_mk HP.out.1.laid HP.out.2.1.nodup (ord_keeps HP.out.1 HP.out.2.1).rng
        have hfew := hI.few
        have hcnt := HS2.out.laid.count
        obtain ⟨l, hl⟩ : ∃ l, swp (mkO os F) = l := ⟨_, rfl⟩
        rw [hl] at hM9 hI hfew
        have hM10 := HM8.out.callMem hM9
        obtain ⟨nc, hc⟩ : ∃ nc, l.length = nc := ⟨_, rfl⟩
        rw [Hfl.out] at hcnt
        obtain ⟨al, cl, hv, _⟩ := (hM10.isTup 0 rfl encB_len (by omega)).slice
        rw [hc] at hv
        subst hv
        have hall := hI.all
        rw [hsz, Hfl.out] at hall
        have hsl : ∀ k, 0 ≤ sumL (l.take k) ∧ sumL (l.take k) ≤ 256 := fun k => by
          have := sumL_part hI k
          rw [Hfl.out] at this; omega
        have hB9 := hM9.below
        have HA := Lib.hid (arenas_same _ _ _ _ _ _ w9 (HIw8.out.later hB9) (HIr8.out.later hB9) (HJw8.out.later hB9) (HJr8.out.later hB9) (by rw [Hfl.out]; omega) (by omega))
        have t0 : w9.cell? ⟨b3, 0, none⟩ = some (.slice a1 ws.length d1) := by have := hM10.cell 2 rfl 0; simpa using this
        have t1 : w9.cell? ⟨b3, 1, none⟩ = some (.slice a2 rs.length d2) := by have := hM10.cell 2 rfl 1; simpa using this
        have t2 : w9.cell? ⟨b5, 0, none⟩ = some (.slice a3 ws.length d3) := by have := hM10.cell 1 rfl 0; simpa using this
        have t3 : w9.cell? ⟨b5, 1, none⟩ = some (.slice a4 rs.length d4) := by have := hM10.cell 1 rfl 1; simpa using this
        have t4 : b3 < w9.heap.size := (hM10.box 2 rfl).2.1
        have t5 : b5 < w9.heap.size := (hM10.box 1 rfl).2.1
        obtain ⟨N, hN⟩ : ∃ N, placeF os F F.length = N := ⟨_, rfl⟩
        rw [hN] at hall
        have HN := Lib.hid hN
        have Hall := Lib.hid hall
        have Hsl := Lib.hid hsl
        have Hc := Lib.hid hc
        have HM10 := Lib.hid hM10
        have hc256 : nc ≤ 256 := by rw [← hc]; have : (mkO os F).length ≤ ws.length := hcnt; omega
        clear hM9 hM10 hI hsz hfew hcnt hl hall hsl hB9 hc hN q0 q1 qz HSw HIw HIr HIw6 HIr6 HIw8 HIr8 HJw8 HJr8 HM5 HM6 HM8
        go_wp2_with fail
        refine HA.out.mono ?_
        rintro e w10 ⟨rfl, hb10⟩
        have hM11 := HM10.out.call hb10
        have t0 : w10.cell? ⟨b3, 0, none⟩ = some (.slice a1 ws.length d1) := by have := hM11.cell 2 rfl 0; simpa using this
        have t1 : w10.cell? ⟨w.heap.size, 0, none⟩ = some (.slice aw ws.length cw) := by have := hM11.cell 3 rfl 0; simpa using this
        have t4 : b3 < w10.heap.size := (hM11.box 2 rfl).2.1
        have t5 : w.heap.size < w10.heap.size := (hM11.box 3 rfl).2.1
        have HM12 : Hid (Mem w.heap.size w w10 [rowT 31 2 encB (.slice al nc cl) l, ebox w.heap.size #[.slice aw ws.length cw, .slice ar rs.length cr] 24]) := Lib.hid (hM11.pick0 [0, 3] (by decide) rfl)
        clear hM11 hb10 HA HM10
        go_wp2
        go_loopw [11, 71] (fun t i wr => ∃ k : Nat, k ≤ nc ∧ i = .int .i64 k ∧ t = .int .i64 (sumL (l.take k)) ∧ Mem w.heap.size w wr [rowT 31 2 encB (.slice al nc cl) l, ebox w.heap.size #[.slice aw ws.length cw, .slice ar rs.length cr] 24]) (fun _ i _ => nc - (intOf i).toNat)
        case atStart => exact ⟨0, Nat.zero_le _, rfl, rfl, HM12.out⟩
        case round =>
          clear HM12 t0 t1 t4 t5
          obtain ⟨k, hk, rfl, rfl, hM⟩ := hrel
          by_cases hlt : k < nc
          · obtain ⟨p, hp⟩ := get_some l k (by rw [Hc.out]; exact hlt)
            obtain ⟨b, off, cap2, hv, _, hb1, hcc⟩ := (hM.isTup 0 rfl encB_len (by rw [Hc.out]; omega)).at (Below.refl _ _) hp
            rw [Hc.out] at hv
            cases hv
            have d0 := hcc 0 _ rfl
            have d1' := hcc 1 _ rfl
            rw [Nat.add_zero] at d0
            have hS1 := Hsl.out k
            have hS2' := Hsl.out (k + 1)
            have hst := sumL_take hp
            rw [hst] at hS2'
            have Hst := Lib.hid hst
            obtain ⟨S, hSe⟩ : ∃ S, sumL (l.take k) = S := ⟨_, rfl⟩
            rw [hSe] at hS1 hS2' Hst ⊢
            obtain ⟨p1, p2⟩ := p
            simp only at hS2' Hst d0 d1'
            have HM := Lib.hid hM
            clear hM hcc hp hst hSe
            go_wp2
            go_roundw
            case rel => exact ⟨k + 1, by omega, by go_num, by rw [Hst.out], HM.out.alloc_ _⟩
            case measure => simp [intOf]; omega
          · obtain rfl : k = nc := by omega
            rw [show l.take k = l by rw [← Hc.out, List.take_length]]
            have hSk := Hsl.out k
            rw [show l.take k = l by rw [← Hc.out, List.take_length]] at hSk
            obtain ⟨T, hT⟩ : ∃ T, sumL l = T := ⟨_, rfl⟩
            rw [hT] at hSk ⊢
            have hall := Hall.out
            rw [hT] at hall
            have e1 : IntKind.i64.wrap ((ws.length : Int) - N) = T := by rw [IntWalk.i64_in _ (by omega)]; omega
            have e2 : (T == T) = true := by simp
            have HCs : Hid (∀ X, Below wr.heap.size wr X → X.cell? ⟨w.heap.size, 0, none⟩ = some (.slice aw ws.length cw) ∧ X.cell? ⟨w.heap.size, 1, none⟩ = some (.slice ar rs.length cr)) := Lib.hid (fun X hX => by
              have hMX := hM.call hX
              refine ⟨?_, ?_⟩
              · have := hMX.cell 1 rfl 0; simpa using this
              · have := hMX.cell 1 rfl 1; simpa using this)
            have Q : Hid (∀ X, Below wr.heap.size wr X → Calls Try.prog 33 #[.agg #[.slice aw ws.length cw, .slice ar rs.length cr]] X fun e w' => e = .returned (.int .i64 N) ∧ Below X.heap.size X w') := Lib.hid (fun X hX => by
              have hBX := (hM.call hX).below
              have := size_any _ _ ws rs os F X (Hw.out.later hBX) (Hr.out.later hBX) HP.out.1 HP.out.2.1
              rwa [HN.out] at this)
            have HBd := Lib.hid ((Below.refl wr.heap.size wr).drew)
            have HM := Lib.hid hM
            clear hM hall hSk hT q0 q1 qz t0 t1 t2 t3 t4 t5 g1 g2
            go_wp2
            go_region_held3 (fun X => X.cell? ⟨w.heap.size, 0, none⟩ = some (.slice aw ws.length cw) ∧ X.cell? ⟨w.heap.size, 1, none⟩ = some (.slice ar rs.length cr))
              (first | exact HCs.out _ HBd.out | exact HCs.out _ hB8)
              (first
                | (go_at_call 33
                   refine (Q.out _ HBd.out).mono ?_
                   rintro e w18 ⟨rfl, hb8⟩
                   have hB8 := HBd.out.trans (hb8.mono HBd.out.size)
                   clear hb8))
            have HB := Lib.hid (HM.out.call hB8).below
            clear hB8 HCs Q HBd HM
            go_wp2
            go_ret
            exact ⟨rfl, HB.out⟩
      · omega
    · have e1 : (c != 0) = true := by simpa using hc
      have g0 : decide (r < 1) = true ∨ decide (r < 1) = false ∧ decide (r > 64) = true := by
        simp only [decide_eq_true_eq, decide_eq_false_iff_not]; omega
      clear hM4 hM5 hb4 hB5 hW5 hb3 HCp
      go_wp2_with fail
      rw [Hb3.out, HW5.out]
      refine HSo.out.mono ?_
      rintro e w6 ⟨rfl, hb6⟩
      have HB := Lib.hid (HM5.out.call hb6).below
      clear hb6 HSo p0 p1 pz
      rcases g0 with g1 | ⟨g1, g2⟩ <;>
        (go_wp2
         go_ret
         exact ⟨rfl, HB.out⟩)
  · have hno : ∀ os, ¬ Sound ws rs os := fun os h => hs ⟨os, h⟩
    have HCp := Lib.hid (mark_no _ _ ws rs r _ (hw.later hM0.below) (hr.later hM0.below) (.inl hno))
    have Hno := Lib.hid hno
    clear hw hr hM0 hmw hmr hs hno
    go_enter Try.func9, Try.ntmps9
    go_wp2_with fail
    refine HCp.out.mono ?_
    rintro e w4 ⟨c, rfl, hc, hb4⟩
    have hM4 := HM0.out.call hb4
    have hM5 := hM4.alloc #[.slice none 0 0, .slice none 0 0] 24
    obtain ⟨W5, hW5⟩ : ∃ W5, w4.alloc (.cells #[.slice none 0 0, .slice none 0 0] 24) = W5 := ⟨_, rfl⟩
    have p0 : w4.cell? ⟨w.heap.size, 0, none⟩ = some (.slice aw ws.length cw) := by have := hM4.cell 0 rfl 0; simpa using this
    have p1 : w4.cell? ⟨w.heap.size, 1, none⟩ = some (.slice ar rs.length cr) := by have := hM4.cell 0 rfl 1; simpa using this
    have pz : w.heap.size < w4.heap.size := (hM4.box 0 rfl).2.1
    rw [hW5] at hM5
    have HSo := Lib.hid (sound_any _ _ ws rs W5 (Hw.out.later hM5.below) (Hr.out.later hM5.below))
    have HM5 := Lib.hid hM5
    have HW5 := Lib.hid hW5
    have e1 : (c != 0) = true := by simpa using hc
    clear hM4 hM5 hW5 hb4 HCp
    go_wp2_with fail
    rw [HW5.out]
    refine HSo.out.mono ?_
    rintro e w6 ⟨hb6, ⟨rfl, os, hS⟩ | ⟨rfl, _⟩⟩
    · exact absurd hS (Hno.out os)
    · have HB := Lib.hid (HM5.out.call hb6).below
      clear hb6 HSo p0 p1 pz
      go_wp2
      go_ret
      exact ⟨rfl, HB.out⟩
end Go.Proofs.Ytigdpdndnghldaa
