/- arena.Check, walked. -/
import Derived.Test.YtgdodbdipbomfaaAg
namespace Go.Proofs.Ytgdodbdipbomfaa
open Go.RowKit Go.Shelf Go.Maps

theorem enter_check1 : ∀ args w, (callFunc 73 args).run Try.prog w = .ok (.enter 73 args) w := fun _ _ => rfl
theorem RefOk_even {os : List Ob} {x : Int} (h : x % 2 = 0) (h2 : x < 512) : RefOk os x ↔ x / 2 ∈ starts os := by
  unfold RefOk
  constructor
  · rintro (h1 | ⟨_, _, h1⟩)
    · omega
    · exact h1
  · intro h1; exact .inr ⟨h, h2, h1⟩
set_option maxRecDepth 100000 in
set_option maxHeartbeats 4000000 in
theorem acheck_any (vw vr : Value) (ws rs : List Int) (w : World) (hw : IsW w vw ws) (hr : IsW w vr rs) :
    Calls Try.prog 38 #[.agg #[vw, vr]] w fun e w' => SoundSays ws rs w w' e := by
  have Hw := Lib.hid hw
  have Hr := Lib.hid hr
  obtain ⟨aw, cw, rfl, hmw⟩ := hw.slice
  obtain ⟨ar, cr, rfl, hmr⟩ := hr.slice
  have HM0 := Lib.hid ((Mem.start w).alloc #[.slice aw ws.length cw, .slice ar rs.length cr] 24)
  clear hw hr
  by_cases h1 : ws.length > 256
  · have q1 : decide ((ws.length : Int) > 256) = true := decide_eq_true (by omega)
    go_enter Try.func38, Try.ntmps38
    go_wp2
    go_ret
    exact ⟨1, rfl, HM0.out.below, .inr ⟨by decide, fun os h => absurd h.words (by omega)⟩⟩
  have h1' : ws.length ≤ 256 := by omega
  by_cases h2 : rs.length > 8
  · have q2 : decide ((rs.length : Int) > 8) = true := decide_eq_true (by omega)
    go_enter Try.func38, Try.ntmps38
    go_wp2
    go_ret
    exact ⟨1, rfl, HM0.out.below, .inr ⟨by decide, fun os h => absurd h.roots (by omega)⟩⟩
  have h2' : rs.length ≤ 8 := by omega
  have hmm := @run_makeMap Try.prog
  have hM1 := (HM0.out.newMapAt mapB (w.heap.size + 1) (by simp)).alloc #[.map (some (w.heap.size + 1))] 114
  have hz1 : ((w.alloc (.cells #[.slice aw ws.length cw, .slice ar rs.length cr] 24)).alloc (.map #[] 0)).heap.size = w.heap.size + 2 := by simp
  rw [hz1] at hM1
  have HM1 := Lib.hid hM1
  have HCl := Lib.hid (cloneW_any (.slice ar rs.length cr) rs _ (Hr.out.later hM1.below) (by omega))
  clear hM1 hz1
  go_enter Try.func38, Try.ntmps38
  go_wp2_with fail
  refine HCl.out.mono ?_
  rintro e w2 ⟨vf, rfl, hM2⟩
  have hM3 := HM1.out.callMem hM2
  obtain ⟨af, nf, cf, rfl⟩ := own_slice (hM3.row 0 rfl)
  have hM4 := hM3.alloc #[.slice af nf cf] 22
  obtain ⟨b4, hb4⟩ : ∃ b4, w2.heap.size = b4 := ⟨_, rfl⟩
  obtain ⟨W4, hW4⟩ : ∃ W4, w2.alloc (.cells #[.slice af nf cf] 22) = W4 := ⟨_, rfl⟩
  rw [hb4, hW4] at hM4
  have hM5 : Mem w.heap.size w W4 (ownC (w.heap.size + 1) (w.heap.size + 2) b4 w.heap.size (.slice aw ws.length cw) (.slice ar rs.length cr) rs [] (.slice af nf cf) ++ []) := by
    rw [List.append_nil]
    refine (hM4.pick0 [3, 2, 0, 1, 4] (by decide) ?_)
    simp [ownC, entries, fieldsOf]
    rfl
  have cA : w2.cell? ⟨w.heap.size, 0, none⟩ = some (.slice aw ws.length cw) := by have := hM3.cell 3 rfl 0; simpa using this
  have zA : w.heap.size < w2.heap.size := (hM3.box 3 rfl).2.1
  have HWk := Lib.hid (walk_any 73 _ (ownC (w.heap.size + 1) (w.heap.size + 2) b4 w.heap.size (.slice aw ws.length cw) (.slice ar rs.length cr) rs) w W4 [] (.slice af nf cf) _ ws Hw.out h1' enter_check1 hM5
    (fun os x n fs k L' wr hP hP2 hh hfl hM => check1_any w wr _ _ _ _ _ _ ws rs Hw.out h1' h2' os x n fs k L' hP hP2 hh hfl hM))
  have HW4 := Lib.hid hW4
  have Hb4 := Lib.hid hb4
  clear hM2 hM3 hM4 hM5 HM1 HM0 HCl hW4 hb4 hmm
  go_wp2_with fail
  rw [Hb4.out, HW4.out]
  refine HWk.out.mono ?_
  rintro e w6 hcase
  rcases hcase with ⟨os, fv, hL, rfl, hM⟩ | ⟨hno, rfl, os, fv, hM⟩
  · rw [List.append_nil] at hM
    have h64 : ∀ x ∈ rs ++ fieldsOf os, w64 x := by
      intro x hx
      rcases List.mem_append.1 hx with h | h
      · exact Hr.out.all x h
      · exact Hw.out.all x (fieldsOf_mem hL x h)
    have hlen : (rs ++ fieldsOf os).length ≤ 264 := by
      have := fieldsOf_len os
      rw [← hL.1] at this
      rw [List.length_append]; omega
    obtain ⟨all, hA⟩ : ∃ all, rs ++ fieldsOf os = all := ⟨_, rfl⟩
    obtain ⟨N, hN⟩ : ∃ N, all.length = N := ⟨_, rfl⟩
    have hM' : Mem w.heap.size w w6 [gmap mapB (w.heap.size + 1) os.length (lookF (entries os 0)), ebox (w.heap.size + 1 + 1) #[.map (some (w.heap.size + 1))] 114, ebox b4 #[fv] 22, rowW 60 fv all, ebox w.heap.size #[.slice aw ws.length cw, .slice ar rs.length cr] 24] := hM.cast (by rw [← hA]; rfl)
    rw [hA] at hlen h64
    rw [hN] at hlen
    obtain ⟨a5, c5, hv, _⟩ := (isW_of_own (hM'.ownW 3 rfl) (by omega) h64).slice
    rw [hN] at hv
    subst hv
    have c4 : w6.cell? ⟨b4, 0, none⟩ = some (.slice a5 N c5) := by have := hM'.cell 2 rfl 0; simpa using this
    have z4 : b4 < w6.heap.size := (hM'.box 2 rfl).2.1
    have HAll := Lib.hid h64
    have HA := Lib.hid hA
    have HN := Lib.hid hN
    have HL := Lib.hid hL
    have HM := Lib.hid hM'
    clear hM hM' hA hN h64 hL HWk HW4 Hb4 cA zA
    go_wp2
    go_loopw [34] (fun i wr => ∃ q : Nat, q ≤ N ∧ i = .int .i64 q ∧ Mem w.heap.size w wr [gmap mapB (w.heap.size + 1) os.length (lookF (entries os 0)), ebox (w.heap.size + 1 + 1) #[.map (some (w.heap.size + 1))] 114, ebox b4 #[.slice a5 N c5] 22, rowW 60 (.slice a5 N c5) all, ebox w.heap.size #[.slice aw ws.length cw, .slice ar rs.length cr] 24] ∧ ∀ x ∈ all.take q, RefOk os x) (fun i _ => N - (intOf i).toNat)
    case atStart => exact ⟨0, Nat.zero_le _, rfl, HM.out, by simp⟩
    case round =>
      clear HM c4 z4
      obtain ⟨j, hj, rfl, hM, hok⟩ := hrel
      by_cases hlt2 : j < N
      · obtain ⟨x, hx⟩ := get_some all j (by rw [HN.out]; exact hlt2)
        obtain ⟨b5, off5, cap5, hv, _, hb5, d5, hx64⟩ := (isW_of_own (hM.ownW 3 rfl) (by rw [HN.out]; omega) HAll.out).at (Below.refl _ _) hx
        rw [HN.out] at hv
        cases hv
        have HM := Lib.hid hM
        have HX := Lib.hid (take_succ_some _ _ _ hx)
        have Hmem : Hid (x ∈ allW rs os) := Lib.hid (by
          have : allW rs os = all := HA.out
          rw [this]; exact List.mem_of_getElem? hx)
        have Hnext : Hid (RefOk os x → ∀ y ∈ all.take (j + 1), RefOk os y) := Lib.hid (by
          intro h y hy
          rw [HX.out] at hy
          rcases List.mem_append.1 hy with h1 | h1
          · exact hok y h1
          · simp at h1; subst h1; exact h)
        obtain ⟨h0, h18⟩ := hx64
        clear hM hx hok
        by_cases hodd : x % 2 = 1
        · have HU := Lib.hid (unpack_int x wr h0 h18 hodd)
          have HR : Hid (RefOk os x) := Lib.hid (.inl hodd)
          have Hy : Hid (i64ok (wrap64 x / 2)) := Lib.hid (by unfold i64ok wrap64; omega)
          obtain ⟨y, hy⟩ : ∃ y, wrap64 x / 2 = y := ⟨_, rfl⟩
          rw [hy] at HU Hy
          clear hodd hy
          go_wp2_with fail
          refine HU.out.mono ?_
          rintro e w7 ⟨rfl, hb7⟩
          have hM7 := (HM.out.call hb7).alloc_ (.cells #[.bool false, .int .i64 y] 96)
          have c3 : w7.cell? ⟨w.heap.size + 1 + 1, 0, none⟩ = some (.map (some (w.heap.size + 1))) := by have := (HM.out.call hb7).cell 1 rfl 0; simpa using this
          have z3 : w.heap.size + 1 + 1 < w7.heap.size := ((HM.out.call hb7).box 1 rfl).2.1
          have hl := (gmap_look (M := mapB) (hM7.get 0 rfl) (x := y) Hy.out).2
          obtain ⟨zz, hzz⟩ : ∃ zz, (lookF (entries os 0) y).getD mapB.zero = zz := ⟨_, rfl⟩
          obtain ⟨bb, hbb⟩ : ∃ bb, (lookF (entries os 0) y).isSome = bb := ⟨_, rfl⟩
          rw [hzz, hbb] at hl
          have hl2 : (Instr.lookup 114 (.map (some (w.heap.size + 1))) (.int .i64 y) true).run Try.prog (w7.alloc (.cells #[.bool false, .int .i64 y] 96)) = .ok (.tuple #[zz, .bool bb]) (w7.alloc (.cells #[.bool false, .int .i64 y] 96)) := hl
          have HM7 := Lib.hid hM7
          clear hb7 hM7 HU HM hl hzz hbb
          go_wp2
          go_roundw
          case rel => exact ⟨j + 1, by omega, by go_num, HM7.out, Hnext.out HR.out⟩
          case measure => simp [intOf]; omega
        · have heven : x % 2 = 0 := by omega
          by_cases hsm : x < 512
          · have HU := Lib.hid (unpack_ref x wr h0 hsm heven)
            have HRR := Lib.hid (RefOk_even (os := os) heven hsm)
            have Hy : Hid (i64ok (x / 2)) := Lib.hid (by unfold i64ok; omega)
            obtain ⟨y, hy⟩ : ∃ y, x / 2 = y := ⟨_, rfl⟩
            rw [hy] at HU Hy HRR
            clear hodd heven hy
            go_wp2_with fail
            refine HU.out.mono ?_
            rintro e w7 ⟨rfl, hb7⟩
            have hM7 := (HM.out.call hb7).alloc_ (.cells #[.bool true, .int .i64 y] 96)
            have c3 : w7.cell? ⟨w.heap.size + 1 + 1, 0, none⟩ = some (.map (some (w.heap.size + 1))) := by have := (HM.out.call hb7).cell 1 rfl 0; simpa using this
            have z3 : w.heap.size + 1 + 1 < w7.heap.size := ((HM.out.call hb7).box 1 rfl).2.1
            have hl := (gmap_look (M := mapB) (hM7.get 0 rfl) (x := y) Hy.out).2
            obtain ⟨zz, hzz⟩ : ∃ zz, (lookF (entries os 0) y).getD mapB.zero = zz := ⟨_, rfl⟩
            obtain ⟨bb, hbb⟩ : ∃ bb, (lookF (entries os 0) y).isSome = bb := ⟨_, rfl⟩
            rw [hzz, hbb] at hl
            have hl2 : (Instr.lookup 114 (.map (some (w.heap.size + 1))) (.int .i64 y) true).run Try.prog (w7.alloc (.cells #[.bool true, .int .i64 y] 96)) = .ok (.tuple #[zz, .bool bb]) (w7.alloc (.cells #[.bool true, .int .i64 y] 96)) := hl
            have HM7 := Lib.hid hM7
            have Hbb := Lib.hid hbb
            have HB7 := Lib.hid hM7.below
            clear hb7 hM7 HU HM hl hzz hbb
            cases bb with
            | true =>
              have HR : Hid (RefOk os x) := Lib.hid (HRR.out.2 (by rw [← entries_keys]; exact (lookF_is _ _).1 Hbb.out))
              go_wp2
              go_roundw
              case rel => exact ⟨j + 1, by omega, by go_num, HM7.out, Hnext.out HR.out⟩
              case measure => simp [intOf]; omega
            | false =>
              have HR : Hid (¬ RefOk os x) := Lib.hid (fun h => by
                have := (lookF_is (entries os 0) y).2 (by rw [entries_keys]; exact HRR.out.1 h)
                rw [Hbb.out] at this; cases this)
              go_wp2
              go_ret
              exact ⟨2, rfl, HB7.out, .inr ⟨by decide, fun os' h => HR.out (by rw [HL.out.unique h.laid]; rw [HL.out.unique h.laid] at Hmem; exact h.refs x Hmem.out)⟩⟩
          · have HU := Lib.hid (unpack_no x wr (by omega) h18 heven)
            have HR : Hid (¬ RefOk os x) := Lib.hid (fun h => by
              rcases h with h | ⟨_, h, _⟩
              · omega
              · omega)
            clear hodd heven hsm
            go_wp2_with fail
            refine HU.out.mono ?_
            rintro e w7 ⟨rfl, hb7⟩
            have HM7 := Lib.hid ((HM.out.call hb7).alloc_ (.cells #[.bool false, .int .i64 0] 96))
            clear hb7 HU HM
            go_wp2
            go_ret
            exact ⟨2, rfl, HM7.out.below, .inr ⟨by decide, fun os' h => HR.out (by rw [HL.out.unique h.laid]; rw [HL.out.unique h.laid] at Hmem; exact h.refs x Hmem.out)⟩⟩
      · obtain rfl : j = N := by omega
        rw [show all.take j = all by rw [← HN.out, List.take_length]] at hok
        have HM := Lib.hid hM
        have Hok := Lib.hid hok
        clear hM hok
        go_wp2
        go_ret
        exact ⟨0, rfl, HM.out.below, .inl ⟨rfl, os, h1', h2', HL.out, by rw [show allW rs os = all from HA.out]; exact Hok.out⟩⟩
  · have Hno := Lib.hid hno
    have HB := Lib.hid hM.below
    clear hno hM HWk HW4 Hb4 cA zA
    go_wp2
    go_ret
    exact ⟨4, rfl, HB.out, .inr ⟨by decide, fun os h => Hno.out os h.laid⟩⟩
end Go.Proofs.Ytgdodbdipbomfaa
