/- The reference's ArenaCheck, walked; sound. -/
import Derived.Test.YtgdodbdipbomfaaAc
namespace Go.Proofs.Ytgdodbdipbomfaa
open Go.RowKit

def fieldsOf (os : List Ob) : List Int := os.flatMap (·.2)
theorem fieldsOf_succ {os : List Ob} {k : Nat} {o : Ob} (h : os[k]? = some o) : fieldsOf (os.take (k + 1)) = fieldsOf (os.take k) ++ o.2 := by
  unfold fieldsOf
  rw [take_succ_some _ _ _ h, List.flatMap_append]; simp
theorem fieldsOf_len (os : List Ob) : (fieldsOf os).length ≤ (flat os).length := by
  induction os with
  | nil => simp [fieldsOf, flat]
  | cons o os ih =>
    have : fieldsOf (o :: os) = o.2 ++ fieldsOf os := rfl
    rw [this, flat_cons, List.length_append, List.length_cons, List.length_append]; omega
theorem fieldsOf_take (os : List Ob) (k : Nat) : (fieldsOf (os.take k)).length ≤ (flat os).length := by
  refine Nat.le_trans (fieldsOf_len _) ?_
  conv => rhs; rw [← List.take_append_drop k os, flat_append, List.length_append]
  omega
theorem fieldsOf_mem {ws : List Int} {os : List Ob} (hL : Laid ws os) : ∀ x ∈ fieldsOf os, x ∈ ws := by
  intro x hx
  obtain ⟨o, ho, hx⟩ := List.mem_flatMap.1 hx
  rw [hL.1]
  exact List.mem_flatMap.2 ⟨o, ho, List.mem_cons_of_mem _ hx⟩
theorem IsW.all {w : World} {v : Value} {l : List Int} (h : IsW w v l) : ∀ x ∈ l, w64 x := by
  intro x hx
  obtain ⟨k, hk⟩ := List.mem_iff_getElem?.1 hx
  obtain ⟨_, _, _, _, _, _, _, h1⟩ := h.at (Below.refl _ _) hk
  exact h1
def SoundSays (ws rs : List Int) (w w' : World) (e : Ending) : Prop :=
  ∃ c, e = .returned (.int .i64 c) ∧ Below w.heap.size w w' ∧ ((c = 0 ∧ ∃ os, Sound ws rs os) ∨ (c ≠ 0 ∧ ∀ os, ¬ Sound ws rs os))
set_option maxRecDepth 100000 in
set_option maxHeartbeats 4000000 in
theorem rCheck_any (vw vr : Value) (ws rs : List Int) (w : World) (hw : IsW w vw ws) (hr : IsW w vr rs) :
    Calls Try.prog 37 #[.agg #[vw, vr]] w fun e w' => SoundSays ws rs w w' e := by
  have Hw := Lib.hid hw
  have Hr := Lib.hid hr
  obtain ⟨aw, cw, rfl, hmw⟩ := hw.slice
  obtain ⟨ar, cr, rfl, hmr⟩ := hr.slice
  have HM0 := Lib.hid ((Mem.start w).alloc #[.slice aw ws.length cw, .slice ar rs.length cr] 24)
  clear hw hr
  by_cases h1 : ws.length > 256
  · have q1 : decide ((ws.length : Int) > 256) = true := decide_eq_true (by omega)
    go_enter Try.func37, Try.ntmps37
    go_wp2
    go_ret
    exact ⟨1, rfl, HM0.out.below, .inr ⟨by decide, fun os h => absurd h.words (by omega)⟩⟩
  have h1' : ws.length ≤ 256 := by omega
  by_cases h2 : rs.length > 8
  · have q2 : decide ((rs.length : Int) > 8) = true := decide_eq_true (by omega)
    go_enter Try.func37, Try.ntmps37
    go_wp2
    go_ret
    exact ⟨1, rfl, HM0.out.below, .inr ⟨by decide, fun os h => absurd h.roots (by omega)⟩⟩
  have h2' : rs.length ≤ 8 := by omega
  have HS := Lib.hid (rStarts_any _ ws _ (Hw.out.later HM0.out.below) h1')
  go_enter Try.func37, Try.ntmps37
  go_wp2_with fail
  refine HS.out.mono ?_
  rintro e w2 hcase
  rcases hcase with ⟨os, r, hL, rfl, hM2⟩ | ⟨hno, rfl, hb2⟩
  · have hM3 := HM0.out.callMem hM2
    obtain ⟨ast, ns, cs, rfl⟩ := own_slice (hM3.row 0 rfl)
    obtain ⟨n, hn⟩ : ∃ n, os.length = n := ⟨_, rfl⟩
    obtain rfl : ns = n := by
      obtain ⟨_, _, hv, _⟩ := (isInts_of_own (hM3.ownI 0 rfl) (by rw [starts_len]; have := hL.count; omega) (starts_64 hL (by omega))).slice
      rw [starts_len, hn] at hv
      injection hv
    have HM := Lib.hid (hM3.nilW 60)
    have HL := Lib.hid hL
    have Hn := Lib.hid hn
    have c0 : w2.cell? ⟨w.heap.size, 1, none⟩ = some (.slice ar rs.length cr) := by have := hM3.cell 1 rfl 1; simpa using this
    have z0 : w.heap.size < w2.heap.size := (hM3.box 1 rfl).2.1
    clear hM2 hM3 HM0 HS hL hn
    go_wp2
    go_loopw [5, 7, 37] (fun r _ i wr => ∃ k : Nat, k ≤ rs.length ∧ i = .int .i64 k ∧ Mem w.heap.size w wr [rowW 60 r (rs.take k), rowI 3 (.slice ast ns cs) (starts os), ebox w.heap.size #[.slice aw ws.length cw, .slice ar rs.length cr] 24]) (fun _ _ i _ => rs.length - (intOf i).toNat)
    case atStart => exact ⟨0, Nat.zero_le _, rfl, HM.out⟩
    case round =>
      clear HM c0 z0
      obtain ⟨k, hk, rfl, hM⟩ := hrel
      by_cases hlt : k < rs.length
      · obtain ⟨x, hx⟩ := get_some rs k hlt
        obtain ⟨b, off, cap', hv, _, hb3, d1, _⟩ := Hr.out.at hM.below hx
        cases hv
        have HX := Lib.hid (take_succ_some _ _ _ hx)
        have hln : (rs.take k).length ≤ 1000000 := by rw [List.length_take]; omega
        have HM := Lib.hid hM
        clear hM hx
        go_wp2_with (at_builtin; refine Mem.wp_appW elemWords rfl (.tmp 41) (.tmp 43) rfl HM.out 0 rfl rfl _ x _ _ rfl (by simp) hln ?_; intro ad n1 cp w6 hn1 hM6 hs6 hk6 ha6)
        go_roundw
        case rel => exact ⟨k + 1, by omega, by go_num, hM6.cast (by rw [HX.out]; rfl)⟩
        case measure => simp [intOf]; omega
      · obtain rfl : k = rs.length := by omega
        rw [List.take_length] at hM
        have HM := Lib.hid (hM.cast (show _ = [rowW 60 u5 (rs ++ fieldsOf (os.take 0)), rowI 3 (.slice ast ns cs) (starts os), ebox w.heap.size #[.slice aw ws.length cw, .slice ar rs.length cr] 24] by simp [fieldsOf]))
        clear hM
        go_wp2
        go_loopw [5, 9, 11, 48, 53, 54, 55, 56, 57] (fun r _ _ i _ _ _ _ _ wr => ∃ k : Nat, k ≤ ns ∧ i = .int .i64 k ∧ Mem w.heap.size w wr [rowW 60 r (rs ++ fieldsOf (os.take k)), rowI 3 (.slice ast ns cs) (starts os), ebox w.heap.size #[.slice aw ws.length cw, .slice ar rs.length cr] 24]) (fun _ _ _ i _ _ _ _ _ _ => ns - (intOf i).toNat)
        case atStart => exact ⟨0, Nat.zero_le _, rfl, HM.out⟩
        case round =>
          clear HM
          obtain ⟨k, hk, rfl, hM⟩ := hrel
          by_cases hlt : k < ns
          · have hko : k < os.length := by rw [Hn.out]; exact hlt
            obtain ⟨o, ho⟩ := get_some os k hko
            have h64 := starts_64 HL.out (by omega)
            obtain ⟨b, off, cap', hv, _, hb3, d1, _⟩ := (isInts_of_own (hM.ownI 1 rfl) (by rw [starts_len]; have := HL.out.count; omega) h64).at (Below.refl _ _) (starts_get hko)
            rw [starts_len, Hn.out] at hv
            cases hv
            have c0 : wr.cell? ⟨w.heap.size, 0, none⟩ = some (.slice aw ws.length cw) := by have := hM.cell 2 rfl 0; simpa using this
            have z0 : w.heap.size < wr.heap.size := (hM.box 2 rfl).2.1
            have hg := HL.out.good ho
            have hF := rFields_any _ ws o.2 (place os k) o.2.length o.1 wr (Hw.out.later hM.below) (HL.out.head ho) hg.1 hg.2.1.symm rfl (fun j x hx => HL.out.field ho hx) h1'
            have HF := Lib.hid hF
            have HX := Lib.hid (fieldsOf_succ ho)
            have hlen2 : o.2.length ≤ 4 := hg.2.2
            have HM := Lib.hid hM
            have Hll : Hid ((fieldsOf (os.take k)).length ≤ 256) := Lib.hid (by have := fieldsOf_take os k; rw [← HL.out.1] at this; omega)
            obtain ⟨p, hp⟩ : ∃ p, place os k = p := ⟨_, rfl⟩
            rw [hp] at d1 HF
            clear hM hF hp h64 hg
            go_wp2_with fail
            refine HF.out.mono ?_
            rintro e w4 ⟨rr, rfl, hM4⟩
            obtain ⟨a4, n4, c4, rfl⟩ := own_slice (hM4.row 0 rfl)
            have hM5 := HM.out.callMem hM4
            obtain ⟨m, hm⟩ : ∃ m, o.2.length = m := ⟨_, rfl⟩
            have h64w : ∀ x ∈ o.2, w64 x := fun x hx => Hw.out.all x (fieldsOf_mem HL.out x (List.mem_flatMap.2 ⟨o, List.mem_of_getElem? ho, hx⟩))
            obtain rfl : n4 = m := by
              obtain ⟨_, _, hv, _⟩ := (isW_of_own (hM5.ownW 0 rfl) (by omega) h64w).slice
              rw [hm] at hv
              injection hv
            have HM5 := Lib.hid (hM5.cast (show _ = [rowW 60 (.slice a4 n4 c4) o.2, rowW 60 u5 (rs ++ fieldsOf (os.take k) ++ o.2.take 0), rowI 3 (.slice (some ⟨b, off, none⟩) ns cs) (starts os), ebox w.heap.size #[.slice aw ws.length cw, .slice ar rs.length cr] 24] by simp))
            have Hm := Lib.hid hm
            have Ho := Lib.hid ho
            have H64w := Lib.hid h64w
            rw [hm] at hlen2
            clear hM4 hM5 hm HM HF ho h64w d1 c0 z0
            go_wp2
            go_loopw [5, 11, 57] (fun r _ i wr => ∃ j : Nat, j ≤ n4 ∧ i = .int .i64 j ∧ Mem w.heap.size w wr [rowW 60 (.slice a4 n4 c4) o.2, rowW 60 r (rs ++ fieldsOf (os.take k) ++ o.2.take j), rowI 3 (.slice (some ⟨b, off, none⟩) ns cs) (starts os), ebox w.heap.size #[.slice aw ws.length cw, .slice ar rs.length cr] 24]) (fun _ _ i _ => n4 - (intOf i).toNat)
            case atStart => exact ⟨0, Nat.zero_le _, rfl, HM5.out⟩
            case round =>
              clear HM5
              obtain ⟨j, hj, rfl, hM⟩ := hrel
              by_cases hlt2 : j < n4
              · obtain ⟨x, hx⟩ := get_some o.2 j (by rw [Hm.out]; exact hlt2)
                obtain ⟨b4, off4, cap4, hv, _, hb4, d2, _⟩ := (isW_of_own (hM.ownW 0 rfl) (by rw [Hm.out]; omega) H64w.out).at (Below.refl _ _) hx
                rw [Hm.out] at hv
                cases hv
                have HY := Lib.hid (take_succ_some _ _ _ hx)
                have Hln : Hid ((rs ++ fieldsOf (os.take k) ++ o.2.take j).length ≤ 1000000) := Lib.hid (by have := Hll.out; rw [List.length_append, List.length_append, List.length_take]; omega)
                have HM := Lib.hid hM
                clear hM hx
                go_wp2_with (at_builtin; refine Mem.wp_appW elemWords rfl (.tmp 61) (.tmp 63) rfl HM.out 1 rfl rfl _ x _ _ rfl (by simp) Hln.out ?_; intro ad n1 cp w6 hn1 hM6 hs6 hk6 ha6)
                go_roundw
                case rel => exact ⟨j + 1, by omega, by go_num, hM6.cast (by rw [HY.out, ← List.append_assoc]; rfl)⟩
                case measure => simp [intOf]; omega
              · obtain rfl : j = n4 := by omega
                rw [show o.2.take j = o.2 from List.take_of_length_le (by rw [Hm.out]; exact Nat.le_refl _)] at hM
                have HM := Lib.hid (hM.drop (List.sublist_cons_self _ _))
                have hns : ns ≤ 256 := by rw [← Hn.out]; have := HL.out.count; omega
                clear hM
                go_wp2
                go_roundw
                case rel => exact ⟨k + 1, by omega, by go_num, HM.out.cast (by rw [HX.out, ← List.append_assoc])⟩
                case measure => simp [intOf]; omega
          · obtain rfl : k = ns := by omega
            have hk256 : k ≤ 256 := by rw [← Hn.out]; have := HL.out.count; omega
            rw [show os.take k = os by rw [← Hn.out, List.take_length]] at hM
            have h64 := starts_64 HL.out (by omega)
            have hall : ∀ x ∈ rs ++ fieldsOf os, w64 x := by
              intro x hx
              rcases List.mem_append.1 hx with h | h
              · exact Hr.out.all x h
              · exact Hw.out.all x (fieldsOf_mem HL.out x h)
            have hlen : (rs ++ fieldsOf os).length ≤ 264 := by
              have := fieldsOf_len os
              rw [← HL.out.1] at this
              rw [List.length_append]; omega
            obtain ⟨all, hA⟩ : ∃ all, rs ++ fieldsOf os = all := ⟨_, rfl⟩
            obtain ⟨N, hN⟩ : ∃ N, all.length = N := ⟨_, rfl⟩
            rw [hA] at hM hall hlen
            rw [hN] at hlen
            obtain ⟨a5, c5, hv, _⟩ := (isW_of_own (hM.ownW 0 rfl) (by omega) hall).slice
            rw [hN] at hv
            subst hv
            have HAll := Lib.hid hall
            have HA := Lib.hid hA
            have HN := Lib.hid hN
            have HM := Lib.hid hM
            have H64 := Lib.hid h64
            clear hM hA hN h64 hall
            go_wp2
            go_loopw [69] (fun i wr => ∃ q : Nat, q ≤ N ∧ i = .int .i64 q ∧ Mem w.heap.size w wr [rowW 60 (.slice a5 N c5) all, rowI 3 (.slice ast k cs) (starts os), ebox w.heap.size #[.slice aw ws.length cw, .slice ar rs.length cr] 24] ∧ ∀ x ∈ all.take q, RefOk os x) (fun i _ => N - (intOf i).toNat)
            case atStart => exact ⟨0, Nat.zero_le _, rfl, HM.out, by simp⟩
            case round =>
              clear HM
              obtain ⟨j, hj, rfl, hM, hok⟩ := hrel
              by_cases hlt2 : j < N
              · obtain ⟨x, hx⟩ := get_some all j (by rw [HN.out]; exact hlt2)
                obtain ⟨b5, off5, cap5, hv, _, hb5, d5, hx64⟩ := (isW_of_own (hM.ownW 0 rfl) (by rw [HN.out]; omega) HAll.out).at (Below.refl _ _) hx
                rw [HN.out] at hv
                cases hv
                have hI := isInts_of_own (hM.ownI 1 rfl) (by rw [starts_len]; have := HL.out.count; omega) H64.out
                have HI := Lib.hid hI
                have HM := Lib.hid hM
                have HX := Lib.hid (take_succ_some _ _ _ hx)
                have Hok := Lib.hid hok
                have Hmem : Hid (x ∈ allW rs os) := Lib.hid (by
                  have : allW rs os = all := HA.out
                  rw [this]; exact List.mem_of_getElem? hx)
                have Hnext : Hid (RefOk os x → ∀ y ∈ all.take (j + 1), RefOk os y) := Lib.hid (by
                  intro h y hy
                  rw [HX.out] at hy
                  rcases List.mem_append.1 hy with h1 | h1
                  · exact hok y h1
                  · simp at h1; subst h1; exact h)
                obtain ⟨h0, h18⟩ := hx64
                clear hM hI hx hok
                by_cases hodd : x % 2 = 1
                · have HU := Lib.hid (rUnpack_int x wr ⟨h0, h18⟩ hodd)
                  have HR : Hid (RefOk os x) := Lib.hid (.inl hodd)
                  clear hodd
                  go_wp2_with fail
                  refine HU.out.mono ?_
                  rintro e w6 ⟨rfl, hb6⟩
                  have HM6 := Lib.hid ((HM.out.call hb6).alloc_ (.cells #[.bool false, .int .i64 (wrap64 x / 2)] 96))
                  clear hb6 HU HM
                  go_wp2
                  go_roundw
                  case rel => exact ⟨j + 1, by omega, by go_num, HM6.out, Hnext.out HR.out⟩
                  case measure => simp [intOf]; omega
                · have heven : x % 2 = 0 := by omega
                  by_cases hsm : x < 512
                  · have HU := Lib.hid (rUnpack_ref x wr h0 hsm heven)
                    by_cases hin : x / 2 ∈ starts os
                    · have HR : Hid (RefOk os x) := Lib.hid (.inr ⟨heven, hsm, hin⟩)
                      have Hin := Lib.hid hin
                      clear hodd heven hin
                      go_wp2_with fail
                      refine HU.out.mono ?_
                      rintro e w6 ⟨rfl, hb6⟩
                      have HM6 := Lib.hid ((HM.out.call hb6).alloc_ (.cells #[.bool true, .int .i64 (x / 2)] 96))
                      have HH := Lib.hid (has_yes _ (starts os) (x / 2) _ (isInts_of_own (HM6.out.ownI 1 rfl) (by rw [starts_len]; have := HL.out.count; omega) H64.out) Hin.out)
                      clear hb6 HU HM
                      go_wp2_with fail
                      refine HH.out.mono ?_
                      rintro e w7 ⟨rfl, rfl⟩
                      go_wp2
                      go_roundw
                      case rel => exact ⟨j + 1, by omega, by go_num, HM6.out, Hnext.out HR.out⟩
                      case measure => simp [intOf]; omega
                    · have HR : Hid (¬ RefOk os x) := Lib.hid (fun h => by
                        rcases h with h | ⟨_, _, h⟩
                        · omega
                        · exact hin h)
                      have Hin := Lib.hid hin
                      clear hodd heven hin
                      go_wp2_with fail
                      refine HU.out.mono ?_
                      rintro e w6 ⟨rfl, hb6⟩
                      have HM6 := Lib.hid ((HM.out.call hb6).alloc_ (.cells #[.bool true, .int .i64 (x / 2)] 96))
                      have HH := Lib.hid (has_no _ (starts os) (x / 2) _ (isInts_of_own (HM6.out.ownI 1 rfl) (by rw [starts_len]; have := HL.out.count; omega) H64.out) Hin.out)
                      clear hb6 HU HM
                      go_wp2_with fail
                      refine HH.out.mono ?_
                      rintro e w7 ⟨rfl, rfl⟩
                      go_wp2
                      go_ret
                      exact ⟨2, rfl, HM6.out.below, .inr ⟨by decide, fun os' h => HR.out (by rw [HL.out.unique h.laid]; rw [HL.out.unique h.laid] at Hmem; exact h.refs x Hmem.out)⟩⟩
                  · have HU := Lib.hid (rUnpack_no x wr (by omega) h18 heven)
                    have HR : Hid (¬ RefOk os x) := Lib.hid (fun h => by
                      rcases h with h | ⟨_, h, _⟩
                      · omega
                      · omega)
                    clear hodd heven hsm
                    go_wp2_with fail
                    refine HU.out.mono ?_
                    rintro e w6 ⟨rfl, hb6⟩
                    have HM6 := Lib.hid ((HM.out.call hb6).alloc_ (.cells #[.bool false, .int .i64 0] 96))
                    clear hb6 HU HM
                    go_wp2
                    go_ret
                    exact ⟨2, rfl, HM6.out.below, .inr ⟨by decide, fun os' h => HR.out (by rw [HL.out.unique h.laid]; rw [HL.out.unique h.laid] at Hmem; exact h.refs x Hmem.out)⟩⟩
              · obtain rfl : j = N := by omega
                rw [show all.take j = all by rw [← HN.out, List.take_length]] at hok
                have HM := Lib.hid hM
                have Hok := Lib.hid hok
                clear hM hok
                go_wp2
                go_ret
                exact ⟨0, rfl, HM.out.below, .inl ⟨rfl, os, h1', h2', HL.out, by rw [show allW rs os = all from HA.out]; exact Hok.out⟩⟩
  · have Hno := Lib.hid hno
    have HB := Lib.hid (HM0.out.call hb2).below
    clear hno hb2
    go_wp2
    go_ret
    exact ⟨4, rfl, HB.out, .inr ⟨by decide, fun os h => Hno.out os h.laid⟩⟩
end Go.Proofs.Ytgdodbdipbomfaa
