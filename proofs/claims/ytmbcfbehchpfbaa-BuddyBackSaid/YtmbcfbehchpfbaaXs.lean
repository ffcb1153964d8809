/- BuddyBack, walked. -/
import Derived.Test.YtmbcfbehchpfbaaXn
import Derived.Test.YtmbcfbehchpfbaaXt
import Derived.Test.YtmbcfbehchpfbaaUw
namespace Go.Proofs.Ytmbcfbehchpfbaa
open Go.RowKit

theorem errB_same {lev : Int} {n m : Nat} (hn : n ≤ 100) (hm : m ≤ 100) : errB lev n = errB lev m := by
  unfold errB
  rw [if_neg (show ¬ 100 < n by omega), if_neg (show ¬ 100 < m by omega)]
/-- Play at a script that may be: the words told, and that they lie in slices of the call's own. -/
theorem bplay_ok {N : Nat} (hN2 : N ≤ 7) (v : Value) (l : List (Int × Int)) (w : World) (hl : IsTup 2 encA w v l) (hl100 : l.length ≤ 100) (h64 : AsksOk l) (L : Nat) (hL : l.length = L) :
    Calls Try.prog 19 #[.int .i64 (N : Int), v] w fun e w' => ∃ aC cC aA cA aF nF cF, e = .returned (.tuple #[.agg #[.slice aC L cC, .slice aA L cA, .slice aF nF cF], .int .i64 0]) ∧
      Mem w.heap.size w w' [rowI 28 (.slice aC L cC) (codesB N l L), rowI 3 (.slice aA L cA) (atsB N l L), rowB (.slice aF nF cF) (freeB N (stateB N l L).fr)] := by
  subst hL
  refine (bplay_yes N hN2 v l w hl hl100 h64).mono ?_
  rintro e w' ⟨cv, av, fv, rfl, hM⟩
  obtain ⟨aC, cC, rfl, _⟩ := own_cap (hM.ownI 0 rfl) (codesB_len N l _)
  obtain ⟨aA, cA, rfl, _⟩ := own_cap (hM.ownI 1 rfl) (atsB_len N l _)
  obtain ⟨aF, nF, cF, rfl⟩ := own_slice (hM.row 2 rfl)
  exact ⟨_, _, _, _, _, _, _, rfl, hM⟩
set_option maxRecDepth 100000 in
set_option maxHeartbeats 4000000 in
theorem buddyBack_err (lev n : Int) (v : Value) (l : List (Int × Int)) (w : World) (hn64 : i64ok n) (hl : IsTup 2 encA w v l) (h64 : AsksOk l) (hL98 : l.length ≤ 98) (he : errB lev l.length ≠ 0) :
    Calls Try.prog 10 #[.int .i64 lev, v, .int .i64 n] w fun e w' => e = .returned (.bool true) ∧ Below w.heap.size w w' := by
  obtain ⟨al, cl, rfl, hlm⟩ := hl.slice
  obtain ⟨L, hLn⟩ : ∃ L, l.length = L := ⟨_, rfl⟩
  have HP := Lib.hid (bplay_told lev _ l w hl h64)
  have HL := Lib.hid hl
  have HLn := Lib.hid hLn
  have q : ¬ (L : Int) + 2 > 100 := by omega
  rw [hLn] at HP HL hL98 he ⊢
  obtain ⟨e1, he1⟩ : ∃ e1, errB lev L = e1 := ⟨_, rfl⟩
  have HE1 := Lib.hid he1
  rw [he1] at HP he
  have H64 := Lib.hid h64
  clear hl hLn h64 hlm he1
  go_enter Try.func10, Try.ntmps10
  go_upto_region 3 with (fail)
  go_wp2_with fail
  with_reducible refine HP.out.mono ?_
  rintro e w1 ⟨aC, nC, cC, aA, nA, cA, aF, nF, cF, rfl, hb1, _⟩
  have HM1 := Lib.hid (((Mem.start w).call hb1).alloc #[.slice aC nC cC, .slice aA nA cA, .slice aF nF cF] 27)
  obtain ⟨b1, hb1e⟩ : ∃ b1, w1.heap.size = b1 := ⟨_, rfl⟩
  obtain ⟨W1, hW1⟩ : ∃ W1, w1.alloc (.cells #[.slice aC nC cC, .slice aA nA cA, .slice aF nF cF] 27) = W1 := ⟨_, rfl⟩
  rw [hW1, hb1e] at HM1
  have HW1 := Lib.hid hW1
  have Hb1e := Lib.hid hb1e
  clear HP hb1 hW1 hb1e
  go_upto_region 4 with (fail)
  rw [HW1.out, Hb1e.out]
  clear HW1 Hb1e
  obtain ⟨b2, hb2e⟩ : ∃ b2, W1.heap.size = b2 := ⟨_, rfl⟩
  have hM2 := HM1.out.allocRow 2 0 #[] 36 rfl (by simp [maxLen])
  obtain ⟨W2, hW2⟩ : ∃ W2, W1.alloc (.cells #[] 36) = W2 := ⟨_, rfl⟩
  rw [hW2] at hM2
  have hM2' : Mem w.heap.size w W2 (rowT 36 2 encA (.slice (some ⟨b2, 0, none⟩) 0 0) [] :: [ebox b1 #[.slice aC nC cC, .slice aA nA cA, .slice aF nF cF] 27]) := by rw [← hb2e]; exact hM2
  obtain ⟨v', w2, hr2, hM3, _, _, am, cm, rfl⟩ := hM2'.run_appTs elemAsks encA_len encA_one 22 0 (l := []) (m := l) rfl (HL.out.later hM2'.below) (by simp; have := HLn.out; omega) (by decide)
  simp only [List.length_nil, Nat.zero_add, HLn.out] at hr2 hM3
  have hr2' : ∀ ty, (Builtin.append_ #[22, 22] ty #[.slice (some ⟨b2, 0, none⟩) 0 0, .slice al L cl]).run Try.prog W2 = .ok (.slice am L cm) w2 := fun _ => hr2
  have HR2 := Lib.hid hr2'
  have HM3 : Hid (Mem w.heap.size w w2 (rowT 36 2 encA (.slice am L cm) l :: [ebox b1 #[.slice aC nC cC, .slice aA nA cA, .slice aF nF cF] 27])) := Lib.hid hM3
  have HW2 := Lib.hid hW2
  have Hb2e := Lib.hid hb2e
  have Hlen : Hid (l.length ≤ 1000000) := Lib.hid (by rw [HLn.out]; omega)
  clear hM2 hM2' hW2 hb2e hr2 hr2' hM3 HM1
  go_wp2_with (first
    | (rw [HW2.out, Hb2e.out]; refine wpList_append_run rfl (.tmp 23) (.tmp 24) 22 22 rfl rfl rfl (fun ty => HR2.out ty) ?_)
    | (refine Mem.wp_appT elemAsks rfl (.tmp 25) (.tmp 28) rfl HM3.out 0 rfl rfl _ (1, n) #[.int .i64 1, .int .i64 n] rfl _ _ rfl (by simp) rfl rfl (by decide) Hlen.out ?_; intro ad n3 cp w3 hn3 hM3 hs3 hk3 ha3))
  have hl3 := hM3.isTup 0 rfl encA_len (by simp; have := HLn.out; omega)
  have h64m : AsksOk (l ++ [(1, n)]) := fun a ha => by
    rcases List.mem_append.1 ha with h | h
    · exact H64.out a h
    · simp at h; subst h; exact ⟨by unfold i64ok; simp only; omega, hn64⟩
  have hml : (l ++ [(1, n)]).length = L + 1 := by simp [HLn.out]
  have HP3 := bplay_told lev _ _ w3 hl3 h64m
  rw [hml, errB_same (m := L) (by omega) (by omega), HE1.out] at HP3
  have HP3 := Lib.hid HP3
  have HB3 := Lib.hid hM3
  clear hl3 h64m hml hM3 hs3 hk3 ha3 hn3 HM3
  with_reducible refine HP3.out.mono ?_
  rintro e w4 ⟨aD, nD, cD, aG, nG, cG, aH, nH, cH, rfl, hb4, _⟩
  have HB4 := Lib.hid ((HB3.out.call hb4).alloc_ (.cells #[.slice aD nD cD, .slice aG nG cG, .slice aH nH cH] 27)).below
  have q1 : (e1 != 0) = true := by simpa using he
  have q2 : (e1 == e1) = true := by simp
  clear hb4 HP3 HB3 he
  go_wp2
  go_ret
  exact ⟨by first | rfl | simp, HB4.out⟩
set_option maxRecDepth 100000 in
set_option maxHeartbeats 4000000 in
theorem buddyBack_good (N : Nat) (hN2 : N ≤ 7) (n : Int) (v : Value) (l : List (Int × Int)) (w : World) (hn64 : i64ok n) (hl : IsTup 2 encA w v l) (h64 : AsksOk l) (hL98 : l.length ≤ 98) :
    Calls Try.prog 10 #[.int .i64 (N : Int), v, .int .i64 n] w fun e w' => e = .returned (.bool true) ∧ Below w.heap.size w w' := by
  obtain ⟨al, cl, rfl, hlm⟩ := hl.slice
  obtain ⟨L, hLn⟩ : ∃ L, l.length = L := ⟨_, rfl⟩
  have HP := Lib.hid (bplay_ok hN2 _ l w hl (by omega) h64 L hLn)
  have HL := Lib.hid hl
  have HLn := Lib.hid hLn
  have q : ¬ (L : Int) + 2 > 100 := by omega
  rw [hLn] at HP HL hL98 ⊢
  have H64 := Lib.hid h64
  clear hl hLn h64 hlm
  go_enter Try.func10, Try.ntmps10
  go_upto_region 3 with (fail)
  go_wp2_with fail
  with_reducible refine HP.out.mono ?_
  rintro e w1 ⟨aC, cC, aA, cA, aF, nF, cF, rfl, hM1⟩
  have hM1b := hM1.alloc #[.slice aC L cC, .slice aA L cA, .slice aF nF cF] 27
  have HM1 := Lib.hid hM1b
  obtain ⟨b1, hb1e⟩ : ∃ b1, w1.heap.size = b1 := ⟨_, rfl⟩
  obtain ⟨W1, hW1⟩ : ∃ W1, w1.alloc (.cells #[.slice aC L cC, .slice aA L cA, .slice aF nF cF] 27) = W1 := ⟨_, rfl⟩
  rw [hW1, hb1e] at HM1
  have HW1 := Lib.hid hW1
  have Hb1e := Lib.hid hb1e
  clear HP hM1 hM1b hW1 hb1e
  go_upto_region 4 with (fail)
  rw [HW1.out, Hb1e.out]
  clear HW1 Hb1e
  obtain ⟨b2, hb2e⟩ : ∃ b2, W1.heap.size = b2 := ⟨_, rfl⟩
  have hM2 := HM1.out.allocRow 2 0 #[] 36 rfl (by simp [maxLen])
  obtain ⟨W2, hW2⟩ : ∃ W2, W1.alloc (.cells #[] 36) = W2 := ⟨_, rfl⟩
  rw [hW2] at hM2
  have hM2' : Mem w.heap.size w W2 (rowT 36 2 encA (.slice (some ⟨b2, 0, none⟩) 0 0) [] :: [ebox b1 #[.slice aC L cC, .slice aA L cA, .slice aF nF cF] 27, rowI 28 (.slice aC L cC) (codesB N l L), rowI 3 (.slice aA L cA) (atsB N l L), rowB (.slice aF nF cF) (freeB N (stateB N l L).fr)]) := by rw [← hb2e]; exact hM2
  obtain ⟨v', w2, hr2, hM3, _, _, am, cm, rfl⟩ := hM2'.run_appTs elemAsks encA_len encA_one 22 0 (l := []) (m := l) rfl (HL.out.later hM2'.below) (by simp; have := HLn.out; omega) (by decide)
  simp only [List.length_nil, Nat.zero_add, HLn.out] at hr2 hM3
  have hr2' : ∀ ty, (Builtin.append_ #[22, 22] ty #[.slice (some ⟨b2, 0, none⟩) 0 0, .slice al L cl]).run Try.prog W2 = .ok (.slice am L cm) w2 := fun _ => hr2
  have HR2 := Lib.hid hr2'
  have HM3 : Hid (Mem w.heap.size w w2 (rowT 36 2 encA (.slice am L cm) l :: [ebox b1 #[.slice aC L cC, .slice aA L cA, .slice aF nF cF] 27, rowI 28 (.slice aC L cC) (codesB N l L), rowI 3 (.slice aA L cA) (atsB N l L), rowB (.slice aF nF cF) (freeB N (stateB N l L).fr)])) := Lib.hid hM3
  have HW2 := Lib.hid hW2
  have Hb2e := Lib.hid hb2e
  have Hlen : Hid (l.length ≤ 1000000) := Lib.hid (by rw [HLn.out]; omega)
  clear hM2 hM2' hW2 hb2e hr2 hr2' hM3 HM1
  go_wp2_with (first
    | (rw [HW2.out, Hb2e.out]; refine wpList_append_run rfl (.tmp 23) (.tmp 24) 22 22 rfl rfl rfl (fun ty => HR2.out ty) ?_)
    | (refine Mem.wp_appT elemAsks rfl (.tmp 25) (.tmp 28) rfl HM3.out 0 rfl rfl _ (1, n) #[.int .i64 1, .int .i64 n] rfl _ _ rfl (by simp) rfl rfl (by decide) Hlen.out ?_; intro ad n3 cp w3 hn3 hM3 hs3 hk3 ha3))
  have hl3 := hM3.isTup 0 rfl encA_len (by simp; have := HLn.out; omega)
  have h64m : AsksOk (l ++ [(1, n)]) := fun a ha => by
    rcases List.mem_append.1 ha with h | h
    · exact H64.out a h
    · simp at h; subst h; exact ⟨by unfold i64ok; simp only; omega, hn64⟩
  have hml : (l ++ [(1, n)]).length = L + 1 := by simp [HLn.out]
  obtain rfl : n3 = L + 1 := by rw [hn3.out, HLn.out]
  have HP3 := Lib.hid (bplay_ok hN2 _ _ w3 hl3 (by omega) h64m (L + 1) hml)
  have HM4 := Lib.hid hM3
  have H64m := Lib.hid h64m
  have Hml := Lib.hid hml
  clear hl3 h64m hml hM3 hs3 hk3 ha3 hn3 HM3
  with_reducible refine HP3.out.mono ?_
  rintro e w4 ⟨aD, cD, aG, cG, aH, nH, cH, rfl, hM4⟩
  have hM5 := (HM4.out.callMem hM4).alloc #[.slice aD (L + 1) cD, .slice aG (L + 1) cG, .slice aH nH cH] 27
  have HM5 := Lib.hid hM5
  obtain ⟨b4, hb4e⟩ : ∃ b4, w4.heap.size = b4 := ⟨_, rfl⟩
  obtain ⟨W4, hW4⟩ : ∃ W4, w4.alloc (.cells #[.slice aD (L + 1) cD, .slice aG (L + 1) cG, .slice aH nH cH] 27) = W4 := ⟨_, rfl⟩
  rw [hW4, hb4e] at HM5
  have HW4 := Lib.hid hW4
  have Hb4e := Lib.hid hb4e
  clear HP3 HM4 hM4 hM5 hW4 hb4e
  go_upto_region 6 with (fail)
  rw [HW4.out, Hb4e.out]
  clear HW4 Hb4e
  obtain ⟨bc, rfl⟩ := row_at (HM5.out.row 1 rfl) (by rw [codesB_len]; omega)
  obtain ⟨bg, rfl⟩ := row_at (HM5.out.row 2 rfl) (by rw [atsB_len]; omega)
  obtain ⟨c, hc⟩ : ∃ c, codeB N (l ++ [(1, n)]) L = c := ⟨_, rfl⟩
  obtain ⟨p, hpx⟩ : ∃ p, atB N (l ++ [(1, n)]) L = p := ⟨_, rfl⟩
  have hcc := (HM5.out.intAt 1 rfl (codesB_get (show L < L + 1 by omega))).1
  have hcg := (HM5.out.intAt 2 rfl (atsB_get (show L < L + 1 by omega))).1
  rw [hc] at hcc
  rw [hpx] at hcg
  have zc : bc < W4.heap.size := ((HM5.out.row 1 rfl).lt bc rfl).2
  have zg : bg < W4.heap.size := ((HM5.out.row 2 rfl).lt bg rfl).2
  have x4 : W4.cell? ⟨b4, 0, none⟩ = some (.slice (some ⟨bc, 0, none⟩) (L + 1) cD) := by have := HM5.out.cell 0 rfl 0; simpa using this
  have x5 : W4.cell? ⟨b4, 1, none⟩ = some (.slice (some ⟨bg, 0, none⟩) (L + 1) cG) := by have := HM5.out.cell 0 rfl 1; simpa using this
  have x6 : W4.cell? ⟨b4, 2, none⟩ = some (.slice aH nH cH) := by have := HM5.out.cell 0 rfl 2; simpa using this
  have x4z : b4 < W4.heap.size := (HM5.out.box 0 rfl).2.1
  have x1 : W4.cell? ⟨b1, 2, none⟩ = some (.slice aF nF cF) := by have := HM5.out.cell 5 rfl 2; simpa using this
  have x1z : b1 < W4.heap.size := (HM5.out.box 5 rfl).2.1
  have r1 : (L : Int) < ((L : Int) + 1) := by omega
  have r2 : L < L + 1 := by omega
  have h128 := (pow_le7 hN2).1
  have hlen1 := freeB_len N (stateB N l L).fr
  have hlen2 := freeB_len N (stateB N (l ++ [(1, n)]) (L + 1)).fr
  have Hc := Lib.hid hc
  have Hp := Lib.hid hpx
  clear hc hpx
  by_cases hc0 : c = 0
  · subst hc0
    have hok := buddyBack_ok hN2 (l := l) (n := n) (by rw [HLn.out, Hc.out])
    rw [HLn.out, Hp.out] at hok
    have HOK := Lib.hid hok
    have q2 : ((0 : Int) != 0) = false := rfl
    have Hlen2 : Hid ((l ++ [(1, n)]).length ≤ 1000000) := Lib.hid (by rw [Hml.out]; omega)
    have HM5b := HM5
    clear hok
    go_wp2_with (refine Mem.wp_appT elemAsks rfl (.tmp 73) (.tmp 81) rfl HM5.out 4 rfl rfl _ (2, (p : Int)) #[.int .i64 2, .int .i64 (p : Int)] rfl _ _ rfl (by simp) rfl rfl (by decide) Hlen2.out ?_; intro ad5 n5 cp5 w5 hn5 hM6 hs5 hk5 ha5)
    have hl5 := hM6.isTup 4 rfl encA_len (by simp; have := HLn.out; omega)
    have h64m2 : AsksOk ((l ++ [(1, n)]) ++ [(2, (p : Int))]) := fun a ha => by
      rcases List.mem_append.1 ha with h | h
      · exact H64m.out a h
      · simp at h; subst h
        have hp256 := atB_le hN2 (l ++ [(1, n)]) L (by rw [Hml.out]; omega)
        rw [Hp.out] at hp256
        exact ⟨by unfold i64ok; simp only; omega, by unfold i64ok; simp only; omega⟩
    have hml2 : ((l ++ [(1, n)]) ++ [(2, (p : Int))]).length = L + 2 := by simp [HLn.out]
    have hlen3 := freeB_len N (stateB N ((l ++ [(1, n)]) ++ [(2, (p : Int))]) (L + 2)).fr
    obtain rfl : n5 = L + 2 := by rw [hn5.out, Hml.out]
    have HP5 := Lib.hid (bplay_ok hN2 _ _ w5 hl5 (by omega) h64m2 (L + 2) hml2)
    have HM6 := Lib.hid hM6
    clear hl5 h64m2 hml2 hM6 hs5 hk5 ha5 hn5 HM5 HM5b hcc hcg zc zg x1 x1z x4 x5 x6 x4z
    with_reducible refine HP5.out.mono ?_
    rintro e w6 ⟨aI, cI, aJ, cJ, aK, nK, cK, rfl, hM6⟩
    have hM7 := (HM6.out.callMem hM6).alloc #[.slice aI (L + 2) cI, .slice aJ (L + 2) cJ, .slice aK nK cK] 27
    have HM7 := Lib.hid hM7
    obtain ⟨b6, hb6e⟩ : ∃ b6, w6.heap.size = b6 := ⟨_, rfl⟩
    obtain ⟨W6, hW6⟩ : ∃ W6, w6.alloc (.cells #[.slice aI (L + 2) cI, .slice aJ (L + 2) cJ, .slice aK nK cK] 27) = W6 := ⟨_, rfl⟩
    rw [hW6, hb6e] at HM7
    have HW6 := Lib.hid hW6
    have Hb6e := Lib.hid hb6e
    clear HP5 HM6 hM6 hM7 hW6 hb6e
    go_upto_region 13 with (fail)
    rw [HW6.out, Hb6e.out]
    clear HW6 Hb6e
    have y1 : W6.cell? ⟨b1, 2, none⟩ = some (.slice aF nF cF) := by have := HM7.out.cell 9 rfl 2; simpa using this
    have y1z : b1 < W6.heap.size := (HM7.out.box 9 rfl).2.1
    have y4 : W6.cell? ⟨b4, 2, none⟩ = some (.slice aH nH cH) := by have := HM7.out.cell 4 rfl 2; simpa using this
    have y4z : b4 < W6.heap.size := (HM7.out.box 4 rfl).2.1
    have y6 : W6.cell? ⟨b6, 2, none⟩ = some (.slice aK nK cK) := by have := HM7.out.cell 0 rfl 2; simpa using this
    have y6z : b6 < W6.heap.size := (HM7.out.box 0 rfl).2.1
    have hF1 := HM7.out.isTup 12 rfl encB_len (by omega)
    have hF3 := HM7.out.isTup 3 rfl encB_len (by omega)
    have hF2 := HM7.out.isTup 7 rfl encB_len (by omega)
    have hB1 := blocks_any _ _ _ _ W6 hF1 hF3
    rw [decide_eq_true HOK.out.2.symm] at hB1
    have HBl1 := Lib.hid hB1
    have HBl2 : Hid (∀ X, Below W6.heap.size W6 X → Calls Try.prog 16 #[.slice aF nF cF, .slice aH nH cH] X fun e w' => e = .returned (.bool false) ∧ Below X.heap.size X w') := fun X hX => by
      have := blocks_any _ _ _ _ X (hF1.later hX) (hF2.later hX)
      rw [decide_eq_false (fun e => HOK.out.1 e.symm)] at this
      exact this
    clear hF1 hF2 hF3 hB1
    go_wp2_with fail
    with_reducible refine HBl1.out.mono ?_
    rintro e w7 ⟨rfl, hb7⟩
    have HP7 := Lib.hid (HBl2.out w7 hb7)
    have k1 : w7.cell? ⟨b1, 2, none⟩ = some (.slice aF nF cF) := (hb7.cell (p := ⟨_, _, none⟩) y1z).trans y1
    have k4 : w7.cell? ⟨b4, 2, none⟩ = some (.slice aH nH cH) := (hb7.cell (p := ⟨_, _, none⟩) y4z).trans y4
    have k1z := Nat.lt_of_lt_of_le y1z hb7.size
    have k4z := Nat.lt_of_lt_of_le y4z hb7.size
    have HM8 := Lib.hid (HM7.out.call hb7)
    clear HBl1 HBl2 hb7 y1 y4 y6 y1z y4z y6z
    go_wp2_with fail
    with_reducible refine HP7.out.mono ?_
    rintro e w8 ⟨rfl, hb8⟩
    have HB8 := Lib.hid (HM8.out.call hb8).below
    clear hb8 HP7
    go_wp2
    go_ret
    exact ⟨rfl, HB8.out⟩
  · have hBl := blocks_any _ _ _ _ W4 (HM5.out.isTup 8 rfl encB_len (by omega)) (HM5.out.isTup 3 rfl encB_len (by omega))
    have hsame : freeB N (stateB N l L).fr = freeB N (stateB N (l ++ [(1, n)]) (L + 1)).fr := by
      have := buddyBack_no (lev := N) (l := l) (n := n) (by rw [HLn.out, Hc.out]; exact hc0)
      rw [HLn.out] at this; rw [this]
    rw [decide_eq_true hsame] at hBl
    have HBl := Lib.hid hBl
    have q2 : (c != 0) = true := by simpa using hc0
    clear hBl hsame
    go_wp2_with fail
    with_reducible refine HBl.out.mono ?_
    rintro e w5 ⟨rfl, hb5⟩
    have HB5 := Lib.hid (HM5.out.call hb5).below
    clear hb5
    go_wp2
    go_ret
    exact ⟨rfl, HB5.out⟩
set_option maxRecDepth 100000 in
set_option maxHeartbeats 1000000 in
theorem buddyBack_yes (lev n : Int) (v : Value) (l : List (Int × Int)) (w : World) (hn64 : i64ok n) (hl : IsTup 2 encA w v l) (h64 : AsksOk l) (hre : l.length ≤ 17592186044416) :
    Calls Try.prog 10 #[.int .i64 lev, v, .int .i64 n] w fun e w' => e = .returned (.bool true) ∧ Below w.heap.size w w' := by
  by_cases hL : 100 < l.length + 2
  · obtain ⟨al, cl, rfl, hlm⟩ := hl.slice
    have q : (l.length : Int) + 2 > 100 := by omega
    clear hl h64
    go_enter Try.func10, Try.ntmps10
    go_wp2
    go_ret
    exact ⟨rfl, Below.refl _ _⟩
  · by_cases he : errB lev l.length = 0
    · by_cases hs : lev < 0 ∨ 7 < lev
      · unfold errB at he; rw [if_pos hs] at he; cases he
      obtain ⟨N, rfl⟩ : ∃ N : Nat, lev = N := ⟨lev.toNat, by omega⟩
      exact buddyBack_good N (by omega) n v l w hn64 hl h64 (by omega)
    · exact buddyBack_err lev n v l w hn64 hl h64 (by omega) he
theorem buddyBack_walk (W : World) (v0 v1 v2 : Value) (g0 : ∃ x : Int, v0 = .int .i64 x ∧ i64ok x) (g1 : ∃ l : List (Int × Int), IsTup 2 encA W v1 l ∧ AsksOk l ∧ l.length ≤ 17592186044416) (g2 : ∃ x : Int, v2 = .int .i64 x ∧ i64ok x) :
    Calls Try.prog 10 #[v0, v1, v2] W fun e w' => e = .returned (.bool true) ∧ Below W.heap.size W w' := by
  obtain ⟨x, rfl, _⟩ := g0
  obtain ⟨l, hl, h64, hr⟩ := g1
  obtain ⟨n, rfl, hn⟩ := g2
  exact buddyBack_yes x n v1 l W hn hl h64 hr
end Go.Proofs.Ytmbcfbehchpfbaa
