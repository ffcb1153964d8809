/- FreeChooses, walked. -/
import Derived.Test.YtmbcfbehchpfbaaUw
namespace Go.Proofs.Ytmbcfbehchpfbaa
open Go.RowKit

/-- The last block of the first k that begins at p and has as many. -/
def foundTo (p n : Nat) (fr : List (Nat × Nat)) : Nat → Nat × Nat
  | 0 => (0, 0)
  | k + 1 => if (fr.getD k (0, 0)).1 = p ∧ n ≤ (fr.getD k (0, 0)).2 then fr.getD k (0, 0) else foundTo p n fr k
theorem found_none {p n : Nat} {fr : List (Nat × Nat)} : ∀ {k : Nat}, (∀ i, i < k → (fr.getD i (0, 0)).2 < n) → foundTo p n fr k = (0, 0)
  | 0, _ => rfl
  | k + 1, h => by
    unfold foundTo
    rw [if_neg (fun hc => by have := h k (Nat.lt_succ_self _); omega)]
    exact found_none fun i hi => h i (by omega)
theorem found_one {p n : Nat} {fr : List (Nat × Nat)} (hr : Rise fr) {j : Nat} {b : Nat × Nat} (hb : fr[j]? = some b) (hp : b.1 = p) (hn : n ≤ b.2) : ∀ {k : Nat}, j < k → k ≤ fr.length → foundTo p n fr k = b
  | 0, h, _ => absurd h (by omega)
  | k + 1, h, hk => by
    have hgj : fr.getD j (0, 0) = b := by rw [List.getD_eq_getElem?_getD, hb]; rfl
    unfold foundTo
    by_cases hjk : j = k
    · subst hjk
      rw [hgj, if_pos ⟨hp, hn⟩]
    · obtain ⟨c, hc⟩ := get_some fr k (by omega)
      have hgk : fr.getD k (0, 0) = c := by rw [List.getD_eq_getElem?_getD, hc]; rfl
      have hlt := List.pairwise_iff_getElem.1 hr j k (by omega) (by omega) (by omega)
      rw [(List.getElem?_eq_some_iff.1 hb).2, (List.getElem?_eq_some_iff.1 hc).2] at hlt
      rw [hgk, if_neg (fun hh => by omega)]
      exact found_one hr hb hp hn (by omega) (by omega)
/-- Has one of the first k as many? -/
def someTo (n : Nat) (fr : List (Nat × Nat)) (k : Nat) : Bool := decide (∃ i, i < k ∧ n ≤ (fr.getD i (0, 0)).2)
theorem someTo_succ {n : Nat} {fr : List (Nat × Nat)} {k : Nat} : someTo n fr (k + 1) = (decide (n ≤ (fr.getD k (0, 0)).2) || someTo n fr k) := by
  unfold someTo
  by_cases h : n ≤ (fr.getD k (0, 0)).2
  · rw [decide_eq_true h, decide_eq_true ⟨k, Nat.lt_succ_self _, h⟩]; rfl
  · rw [decide_eq_false h, Bool.false_or]
    refine decide_eq_decide.2 ⟨fun ⟨i, hi, h2⟩ => ?_, fun ⟨i, hi, h2⟩ => ⟨i, by omega, h2⟩⟩
    rcases Nat.lt_or_ge i k with h3 | h3
    · exact ⟨i, h3, h2⟩
    · exact absurd (by rw [show k = i by omega]; exact h2) h
/-- What is told of one more ask, and what is found of it. -/
structure Chosen (pol : Int) (fr : List (Nat × Nat)) (n : Nat) (c : Int) (fb : Nat × Nat) : Prop where
  got : (c = 0 ↔ ∃ i, i < fr.length ∧ n ≤ (fr.getD i (0, 0)).2)
  len : c = 0 → n ≤ fb.2
  best : ∀ i, i < fr.length → n ≤ (fr.getD i (0, 0)).2 → (pol = 1 → ¬ (fr.getD i (0, 0)).1 < fb.1) ∧ (pol = 2 → ¬ (fr.getD i (0, 0)).2 < fb.2) ∧ (pol = 4 → ¬ fb.2 < (fr.getD i (0, 0)).2) ∧ (pol ≠ 3 → (fr.getD i (0, 0)).2 = fb.2 → ¬ (fr.getD i (0, 0)).1 < fb.1)
theorem chosen {N : Nat} {pol : Int} (hp : 1 ≤ pol ∧ pol ≤ 4) {s : FSt} {own : Nat → Int} {c0 : Int} (h : FInv N s own c0) {n : Nat} (h1 : 1 ≤ n) (hN : n ≤ N) :
    Chosen pol s.fr n (stepF N pol s (1, (n : Int))).2.1 (foundTo (stepF N pol s (1, (n : Int))).2.2 n s.fr s.fr.length) := by
  have hA := step_asked N pol s (1, (n : Int))
  generalize (stepF N pol s (1, (n : Int))).1 = s' at *
  generalize (stepF N pol s (1, (n : Int))).2.1 = c at *
  generalize (stepF N pol s (1, (n : Int))).2.2 = p at *
  cases hA with
  | took s1 p1 h5 h6 h7 h8 =>
    simp only [Int.toNat_natCast] at h8
    obtain ⟨i, b, hpk, hb, hle, hpb, _⟩ := take_is h8
    obtain ⟨hi, _, hbest⟩ := pick_some hpk
    have hgi : s.fr.getD i (0, 0) = b := by rw [List.getD_eq_getElem?_getD, hb]; rfl
    have hf : foundTo p n s.fr s.fr.length = b := found_one h.rise hb hpb.symm hle hi (Nat.le_refl _)
    rw [hf]
    refine ⟨⟨fun _ => ⟨i, hi, by rw [hgi]; exact hle⟩, fun _ => rfl⟩, fun _ => hle, fun k hk hn => ?_⟩
    obtain ⟨b2, hb2⟩ := get_some s.fr k hk
    have hgk : s.fr.getD k (0, 0) = b2 := by rw [List.getD_eq_getElem?_getD, hb2]; rfl
    have hbk := hbest k hk hn
    rw [hgi, hgk] at hbk
    rw [hgk]
    have hik : b2.1 < b.1 → k < i := fun hlt => by
      rcases Nat.lt_or_ge k i with h9 | h9
      · exact h9
      · rcases Nat.lt_or_ge i k with h10 | h10
        · have := List.pairwise_iff_getElem.1 h.rise i k hi hk h10
          rw [(List.getElem?_eq_some_iff.1 hb).2, (List.getElem?_eq_some_iff.1 hb2).2] at this
          omega
        · have : i = k := by omega
          subst this
          rw [hb] at hb2
          cases hb2
          omega
    refine ⟨fun e hlt => ?_, fun e hlt => ?_, fun e hlt => ?_, fun e he hlt => ?_⟩
    · have := hbk.2 (hik hlt); subst e; simp [rankF] at this
    · have := hbk.1; subst e; simp [rankF] at this; omega
    · have := hbk.1; subst e; simp [rankF] at this; omega
    · have h11 := hbk.2 (hik hlt)
      unfold rankF at h11
      rw [he] at h11
      have hpc : pol = 1 ∨ pol = 2 ∨ pol = 4 := by omega
      rcases hpc with rfl | rfl | rfl <;> simp at h11
  | full h5 h6 h7 h8 =>
    simp only [Int.toNat_natCast] at h8
    have hnone : pickTo pol s.last n s.fr s.fr.length = none := by
      unfold takeF at h8
      split at h8
      · assumption
      · cases h8
    have hall := pick_none hnone
    refine ⟨⟨fun e => absurd e (by decide), fun ⟨i, hi, h9⟩ => ?_⟩, fun e => absurd e (by decide), fun k hk hn => ?_⟩
    · have := hall i hi; omega
    · have := hall k hk; omega
  | range h5 h6 => simp only at h6; omega
  | gave s1 h5 => cases h5
  | arg h5 => cases h5
  | kind h5 => exact absurd rfl h5
set_option maxRecDepth 100000 in
set_option maxHeartbeats 4000000 in
theorem freeChooses_good (N : Nat) (hN1 : 1 ≤ N) (hN2 : N ≤ 256) (pol : Int) (hp : 1 ≤ pol ∧ pol ≤ 4) (n : Int) (v : Value) (l : List (Int × Int)) (w : World) (hn64 : i64ok n) (hl : IsTup 2 encA w v l) (h64 : AsksOk l) (hL100 : l.length ≤ 100) :
    Calls Try.prog 5 #[.int .i64 (N : Int), .int .i64 pol, v, .int .i64 n] w fun e w' => e = .returned (.bool true) ∧ Below w.heap.size w w' := by
  obtain ⟨al, cl, rfl, hlm⟩ := hl.slice
  obtain ⟨L, hLn⟩ : ∃ L, l.length = L := ⟨_, rfl⟩
  have HP := Lib.hid (fplay_ok hN1 hN2 hp _ l w hl (by omega) h64 L hLn)
  have HL := Lib.hid hl
  have HLn := Lib.hid hLn
  rw [hLn] at HP HL hL100 ⊢
  have H64 := Lib.hid h64
  clear hl hLn h64 hlm
  go_enter Try.func5, Try.ntmps5
  go_wp2_with fail
  with_reducible refine HP.out.mono ?_
  rintro e w1 ⟨aC, cC, aA, cA, aF, nF, cF, rfl, hM1⟩
  have hM1b := hM1.alloc #[.slice aC L cC, .slice aA L cA, .slice aF nF cF] 27
  have HM1 := Lib.hid hM1b
  obtain ⟨b1, hb1e⟩ : ∃ b1, w1.heap.size = b1 := ⟨_, rfl⟩
  obtain ⟨W1, hW1⟩ : ∃ W1, w1.alloc (.cells #[.slice aC L cC, .slice aA L cA, .slice aF nF cF] 27) = W1 := ⟨_, rfl⟩
  rw [hW1, hb1e] at HM1
  have HW1 := Lib.hid hW1
  have Hb1e := Lib.hid hb1e
  clear HP hM1 hM1b hW1 hb1e
  go_upto_region 2 with (fail)
  rw [HW1.out, Hb1e.out]
  clear HW1 Hb1e
  have x0 : W1.cell? ⟨b1, 0, none⟩ = some (.slice aC L cC) := by have := HM1.out.cell 0 rfl 0; simpa using this
  have x0z : b1 < W1.heap.size := (HM1.out.box 0 rfl).2.1
  by_cases hearly : L = 100 ∨ n < 1 ∨ (N : Int) < n
  · have q9 : ((L : Int) == (L : Int)) = true := by simp
    have HB := Lib.hid HM1.out.below
    clear HM1
    rcases hearly with h | h | h
    · have q1 : ((L : Int) == 100) = true := by rw [beq_iff_eq]; omega
      subst h
      go_wp2
      go_ret
      exact ⟨by first | rfl | simp, HB.out⟩
    · by_cases h2 : L = 100
      · subst h2
        go_wp2
        go_ret
        exact ⟨by first | rfl | simp, HB.out⟩
      · have q1 : ((L : Int) == 100) = false := beq_eq_false_iff_ne.2 (by omega)
        have q2 : decide (n < 1) = true := decide_eq_true h
        go_wp2
        go_ret
        exact ⟨by first | rfl | simp, HB.out⟩
    · by_cases h2 : L = 100
      · subst h2
        go_wp2
        go_ret
        exact ⟨by first | rfl | simp, HB.out⟩
      · have q1 : ((L : Int) == 100) = false := beq_eq_false_iff_ne.2 (by omega)
        have q2 : decide (n < 1) = false := decide_eq_false (by omega)
        have q3 : decide (n > (N : Int)) = true := decide_eq_true h
        go_wp2
        go_ret
        exact ⟨by first | rfl | simp, HB.out⟩
  have hL99 : L ≤ 99 := by omega
  obtain ⟨nn, rfl⟩ : ∃ nn : Nat, n = nn := ⟨n.toNat, by omega⟩
  have hnn1 : 1 ≤ nn := by omega
  have hnnN : nn ≤ N := by omega
  have q1 : ((L : Int) == 100) = false := beq_eq_false_iff_ne.2 (by omega)
  have q2 : decide ((nn : Int) < 1) = false := decide_eq_false (by omega)
  have q2n : decide (nn < 1) = false := decide_eq_false (by omega)
  have q3 : decide ((nn : Int) > (N : Int)) = false := decide_eq_false (by omega)
  have q3n : decide (N < nn) = false := decide_eq_false (by omega)
  clear hearly x0 x0z
  go_upto_region 4 with (fail)
  obtain ⟨b2, hb2e⟩ : ∃ b2, W1.heap.size = b2 := ⟨_, rfl⟩
  have hM2 := HM1.out.allocRow 2 0 #[] 36 rfl (by simp [maxLen])
  obtain ⟨W2, hW2⟩ : ∃ W2, W1.alloc (.cells #[] 36) = W2 := ⟨_, rfl⟩
  rw [hW2] at hM2
  have hM2' : Mem w.heap.size w W2 (rowT 36 2 encA (.slice (some ⟨b2, 0, none⟩) 0 0) [] :: [ebox b1 #[.slice aC L cC, .slice aA L cA, .slice aF nF cF] 27, rowI 28 (.slice aC L cC) (codesF N pol l L), rowI 3 (.slice aA L cA) (atsF N pol l L), rowB (.slice aF nF cF) (stateF N pol l L).fr]) := by rw [← hb2e]; exact hM2
  obtain ⟨v', w2, hr2, hM3, _, _, am, cm, rfl⟩ := hM2'.run_appTs elemAsks encA_len encA_one 22 0 (l := []) (m := l) rfl (HL.out.later hM2'.below) (by simp; have := HLn.out; omega) (by decide)
  simp only [List.length_nil, Nat.zero_add, HLn.out] at hr2 hM3
  have hr2' : ∀ ty, (Builtin.append_ #[22, 22] ty #[.slice (some ⟨b2, 0, none⟩) 0 0, .slice al L cl]).run Try.prog W2 = .ok (.slice am L cm) w2 := fun _ => hr2
  have HR2 := Lib.hid hr2'
  have HM3 : Hid (Mem w.heap.size w w2 (rowT 36 2 encA (.slice am L cm) l :: [ebox b1 #[.slice aC L cC, .slice aA L cA, .slice aF nF cF] 27, rowI 28 (.slice aC L cC) (codesF N pol l L), rowI 3 (.slice aA L cA) (atsF N pol l L), rowB (.slice aF nF cF) (stateF N pol l L).fr])) := Lib.hid hM3
  have HW2 := Lib.hid hW2
  have Hb2e := Lib.hid hb2e
  have Hlen : Hid (l.length ≤ 1000000) := Lib.hid (by rw [HLn.out]; omega)
  clear hM2 hM2' hW2 hb2e hr2 hr2' hM3 HM1
  go_wp2_with (first
    | (rw [HW2.out, Hb2e.out]; refine wpList_append_run rfl (.tmp 54) (.tmp 55) 22 22 rfl rfl rfl (fun ty => HR2.out ty) ?_)
    | (refine Mem.wp_appT elemAsks rfl (.tmp 56) (.tmp 59) rfl HM3.out 0 rfl rfl _ (1, (nn : Int)) #[.int .i64 1, .int .i64 (nn : Int)] rfl _ _ rfl (by simp) rfl rfl (by decide) Hlen.out ?_; intro ad n3 cp w3 hn3 hM3 hs3 hk3 ha3))
  have hl3 := hM3.isTup 0 rfl encA_len (by simp; have := HLn.out; omega)
  have h64m : AsksOk (l ++ [(1, (nn : Int))]) := fun a ha => by
    rcases List.mem_append.1 ha with h | h
    · exact H64.out a h
    · simp at h; subst h; exact ⟨by unfold i64ok; simp only; omega, hn64⟩
  have hml : (l ++ [(1, (nn : Int))]).length = L + 1 := by simp [HLn.out]
  obtain rfl : n3 = L + 1 := by rw [hn3.out, HLn.out]
  have HP3 := Lib.hid (fplay_ok hN1 hN2 hp _ _ w3 hl3 (by omega) h64m (L + 1) hml)
  have HM4 := Lib.hid hM3
  have H64m := Lib.hid h64m
  have Hml := Lib.hid hml
  clear hl3 h64m hml hM3 hs3 hk3 ha3 hn3 HM3
  with_reducible refine HP3.out.mono ?_
  rintro e w4 ⟨aD, cD, aG, cG, aH, nH, cH, rfl, hM4⟩
  have hM5 := (HM4.out.callMem hM4).alloc #[.slice aD (L + 1) cD, .slice aG (L + 1) cG, .slice aH nH cH] 27
  have HM5 := Lib.hid hM5
  obtain ⟨b4, hb4e⟩ : ∃ b4, w4.heap.size = b4 := ⟨_, rfl⟩
  obtain ⟨W4, hW4⟩ : ∃ W4, w4.alloc (.cells #[.slice aD (L + 1) cD, .slice aG (L + 1) cG, .slice aH nH cH] 27) = W4 := ⟨_, rfl⟩
  rw [hW4, hb4e] at HM5
  have HW4 := Lib.hid hW4
  have Hb4e := Lib.hid hb4e
  clear HP3 HM4 hM4 hM5 hW4 hb4e
  go_upto_region 6 with (fail)
  rw [HW4.out, Hb4e.out]
  clear HW4 Hb4e
  obtain ⟨bc, rfl⟩ := row_at (HM5.out.row 1 rfl) (by rw [codesF_len]; omega)
  obtain ⟨bg, rfl⟩ := row_at (HM5.out.row 2 rfl) (by rw [atsF_len]; omega)
  have hI := freeInv hN1 pol l L (by rw [HLn.out]; exact Nat.le_refl _)
  have hch := chosen hp hI hnn1 hnnN
  have hlast := last_step N pol l (1, (nn : Int))
  rw [HLn.out] at hlast
  obtain ⟨c, hc⟩ : ∃ c, codeF N pol (l ++ [(1, (nn : Int))]) L = c := ⟨_, rfl⟩
  obtain ⟨p, hpx⟩ : ∃ p, atF N pol (l ++ [(1, (nn : Int))]) L = p := ⟨_, rfl⟩
  have hcc := (HM5.out.intAt 1 rfl (codesF_get (show L < L + 1 by omega))).1
  have hcg := (HM5.out.intAt 2 rfl (atsF_get (show L < L + 1 by omega))).1
  rw [hc] at hcc hlast
  rw [hpx] at hcg hlast
  rw [← hlast.2.1, ← hlast.2.2] at hch
  have hlenF := hI.len
  have hnum := hI.ends
  obtain ⟨fr, hfr⟩ : ∃ fr, (stateF N pol l L).fr = fr := ⟨_, rfl⟩
  obtain ⟨m, hm⟩ : ∃ m, fr.length = m := ⟨_, rfl⟩
  rw [hfr] at hch hlenF hnum HM5
  have hnF : nF = m := by
    rcases (HM5.out.row 8 rfl).2 with ⟨h1, h2⟩ | ⟨g, cap, cur, h1, _⟩
    · cases h1; have h3 : fr.length = 0 := h2; omega
    · cases h1; exact hm
  subst hnF
  have HCh := Lib.hid hch
  have Hm := Lib.hid hm
  have Hnum := Lib.hid hnum
  have zc : bc < W4.heap.size := ((HM5.out.row 1 rfl).lt bc rfl).2
  have zg : bg < W4.heap.size := ((HM5.out.row 2 rfl).lt bg rfl).2
  have x4 : W4.cell? ⟨b4, 0, none⟩ = some (.slice (some ⟨bc, 0, none⟩) (L + 1) cD) := by have := HM5.out.cell 0 rfl 0; simpa using this
  have x5 : W4.cell? ⟨b4, 1, none⟩ = some (.slice (some ⟨bg, 0, none⟩) (L + 1) cG) := by have := HM5.out.cell 0 rfl 1; simpa using this
  have x4z : b4 < W4.heap.size := (HM5.out.box 0 rfl).2.1
  have x1 : W4.cell? ⟨b1, 2, none⟩ = some (.slice aF nF cF) := by have := HM5.out.cell 5 rfl 2; simpa using this
  have x1z : b1 < W4.heap.size := (HM5.out.box 5 rfl).2.1
  have r1 : (L : Int) < ((L : Int) + 1) := by omega
  have r2 : L < L + 1 := by omega
  obtain ⟨gb, hgb⟩ : ∃ gb, (c == 0) = gb := ⟨_, rfl⟩
  have Hgb := Lib.hid hgb
  have hnF256 : nF ≤ 256 := by omega
  have HM6 := Lib.hid (HM5.out.alloc #[.int .i64 0, .int .i64 0] 34)
  obtain ⟨bf, hbf⟩ : ∃ bf, W4.heap.size = bf := ⟨_, rfl⟩
  obtain ⟨W5, hW5⟩ : ∃ W5, W4.alloc (.cells #[.int .i64 0, .int .i64 0] 34) = W5 := ⟨_, rfl⟩
  rw [hW5, hbf] at HM6
  have HW5 := Lib.hid hW5
  have Hbf := Lib.hid hbf
  clear hc hpx hlast hch hlenF hnum hfr hm hI hW5 hbf HM5
  go_wp2
  rw [HW5.out, Hbf.out]
  clear HW5 Hbf x4 x5 x4z x1 x1z hcc hcg zc zg
  obtain ⟨R, hR⟩ : ∃ R : List Ent, [ebox b4 #[.slice (some ⟨bc, 0, none⟩) (L + 1) cD, .slice (some ⟨bg, 0, none⟩) (L + 1) cG, .slice aH nH cH] 27, rowI 28 (.slice (some ⟨bc, 0, none⟩) (L + 1) cD) (codesF N pol (l ++ [(1, (nn : Int))]) (L + 1)), rowI 3 (.slice (some ⟨bg, 0, none⟩) (L + 1) cG) (atsF N pol (l ++ [(1, (nn : Int))]) (L + 1)), rowB (.slice aH nH cH) (stateF N pol (l ++ [(1, (nn : Int))]) (L + 1)).fr, rowT 36 2 encA (.slice ad (L + 1) cp) (l ++ [(1, (nn : Int))]), ebox b1 #[.slice aC L cC, .slice aA L cA, .slice aF nF cF] 27, rowI 28 (.slice aC L cC) (codesF N pol l L), rowI 3 (.slice aA L cA) (atsF N pol l L), rowB (.slice aF nF cF) fr] = R := ⟨_, rfl⟩
  have HM6 : Hid (Mem w.heap.size w W5 (ebox bf #[.int .i64 0, .int .i64 0] 34 :: R)) := Lib.hid (HM6.out.cast (by rw [← hR]; rfl))
  have hR8 : (ebox bf #[.int .i64 0, .int .i64 0] 34 :: R)[9]? = some (rowB (.slice aF nF cF) fr) := by rw [← hR]; rfl
  have HR8 : Hid (∀ x : Ent, (x :: R)[9]? = some (rowB (.slice aF nF cF) fr)) := fun x => by rw [← hR]; rfl
  have HR5 : Hid (∀ x : Ent, (x :: R)[6]? = some (ebox b1 #[.slice aC L cC, .slice aA L cA, .slice aF nF cF] 27)) := fun x => by rw [← hR]; rfl
  clear hR hR8
  go_loopw [103] (fun i wr => ∃ k : Nat, k ≤ nF ∧ i = .int .i64 (k : Int) ∧ Mem w.heap.size w wr (ebox bf #[.int .i64 ((foundTo p nn fr k).1 : Int), .int .i64 ((foundTo p nn fr k).2 : Int)] 34 :: R)) (fun i _ => nF - (intOf i).toNat)
  case atStart => exact ⟨0, Nat.zero_le _, rfl, HM6.out⟩
  case round =>
    clear HM6
    obtain ⟨k, hk, rfl, hM⟩ := hrel
    by_cases hlt : k < nF
    · obtain ⟨b, hb⟩ := get_some fr k (by rw [Hm.out]; exact hlt)
      have hgd : fr.getD k (0, 0) = b := by rw [List.getD_eq_getElem?_getD, hb]; rfl
      have hfs : foundTo p nn fr (k + 1) = if b.1 = p ∧ nn ≤ b.2 then b else foundTo p nn fr k := by rw [← hgd]; rfl
      obtain ⟨bb, ob, cb, hvb, _, zb, hcb⟩ := (hM.isTup 9 (HR8.out _) encB_len (by rw [Hm.out]; omega)).at (Below.refl _ _) hb
      rw [Hm.out] at hvb
      cases hvb
      have b0 := hcb 0 _ rfl
      have b1' := hcb 1 _ rfl
      rw [Nat.add_zero] at b0
      have d0 : wr.cell? ⟨bf, 0, none⟩ = some (.int .i64 ((foundTo p nn fr k).1 : Int)) := by have := hM.cell 0 rfl 0; simpa using this
      have d1 : wr.cell? ⟨bf, 1, none⟩ = some (.int .i64 ((foundTo p nn fr k).2 : Int)) := by have := hM.cell 0 rfl 1; simpa using this
      have f0 : wr.frozen? ⟨bf, 0, none⟩ = false := hM.free 0 rfl 0
      have f1 : wr.frozen? ⟨bf, 1, none⟩ = false := hM.free 0 rfl 1
      have dz : bf < wr.heap.size := (hM.box 0 rfl).2.1
      have HMa := Lib.hid (hM.alloc_ (.cells #[.int .i64 (b.1 : Int), .int .i64 (b.2 : Int)] 34))
      have HMr := Lib.hid hM
      obtain ⟨fo, hfo⟩ : ∃ fo, foundTo p nn fr k = fo := ⟨_, rfl⟩
      rw [hfo] at hfs HMa HMr d0 d1
      clear hM hcb hb hgd hfo
      by_cases hp1 : b.1 = p
      · have qp : ((b.1 : Int) == (p : Int)) = true := by rw [beq_iff_eq]; omega
        by_cases hn1 : nn ≤ b.2
        · rw [if_pos ⟨hp1, hn1⟩] at hfs
          have HFS := Lib.hid hfs
          have qn : decide ((b.2 : Int) ≥ (nn : Int)) = true := decide_eq_true (by omega)
          have qnn : decide (nn ≤ b.2) = true := decide_eq_true hn1
          have HMb := Lib.hid (((HMr.out.setBox 0 rfl 0 (.int .i64 (b.1 : Int))).setBox 0 rfl 1 (.int .i64 (b.2 : Int))).alloc_ (.cells #[.int .i64 (b.1 : Int), .int .i64 (b.2 : Int)] 34))
          clear hfs hp1 hn1
          go_wp2
          go_roundw
          case rel => exact ⟨k + 1, by omega, by go_num, HMb.out.cast (by rw [HFS.out]; rfl)⟩
          case measure => simp [intOf]; omega
        · rw [if_neg (fun h => hn1 h.2)] at hfs
          have HFS := Lib.hid hfs
          have qn : decide ((b.2 : Int) ≥ (nn : Int)) = false := decide_eq_false (by omega)
          have qnn : decide (nn ≤ b.2) = false := decide_eq_false hn1
          clear hfs hp1
          go_wp2
          go_roundw
          case rel => exact ⟨k + 1, by omega, by go_num, HMa.out.cast (by rw [HFS.out])⟩
          case measure => simp [intOf]; omega
      · have qp : ((b.1 : Int) == (p : Int)) = false := beq_eq_false_iff_ne.2 (by omega)
        rw [if_neg (fun h => hp1 h.1)] at hfs
        have HFS := Lib.hid hfs
        clear hfs
        go_wp2
        go_roundw
        case rel => exact ⟨k + 1, by omega, by go_num, HMa.out.cast (by rw [HFS.out])⟩
        case measure => simp [intOf]; omega
    · obtain rfl : k = nF := by omega
      have HM7 := Lib.hid hM
      have x1 : wr.cell? ⟨b1, 2, none⟩ = some (.slice aF k cF) := by have := hM.cell 6 (HR5.out _) 2; simpa using this
      have x1z : b1 < wr.heap.size := (hM.box 6 (HR5.out _)).2.1
      have HCh2 := HCh
      rw [Hm.out] at HCh2
      obtain ⟨fb, hfb⟩ : ∃ fb, foundTo p nn fr k = fb := ⟨_, rfl⟩
      rw [hfb] at HCh2 HM7
      clear hM hfb HCh
      obtain ⟨wo, rfl⟩ : ∃ wo : World, wo = wr := ⟨_, rfl⟩
      go_wp2
      clear x1 x1z
      go_loopw [15, 122] (fun sb i wr => ∃ j : Nat, j ≤ k ∧ i = .int .i64 (j : Int) ∧ sb = .bool (someTo nn fr j) ∧ Mem w.heap.size w wr (ebox bf #[.int .i64 (fb.1 : Int), .int .i64 (fb.2 : Int)] 34 :: R)) (fun _ i _ => k - (intOf i).toNat)
      case atStart => exact ⟨0, Nat.zero_le _, rfl, by simp [someTo], HM7.out⟩
      case round =>
        clear HM7
        obtain ⟨j, hj, rfl, rfl, hM⟩ := hrel
        have d0 : wr.cell? ⟨bf, 0, none⟩ = some (.int .i64 (fb.1 : Int)) := by have := hM.cell 0 rfl 0; simpa using this
        have d1 : wr.cell? ⟨bf, 1, none⟩ = some (.int .i64 (fb.2 : Int)) := by have := hM.cell 0 rfl 1; simpa using this
        have dz : bf < wr.heap.size := (hM.box 0 rfl).2.1
        by_cases hjl : j < k
        · obtain ⟨b, hb⟩ := get_some fr j (by rw [Hm.out]; exact hjl)
          have hgd : fr.getD j (0, 0) = b := by rw [List.getD_eq_getElem?_getD, hb]; rfl
          have hss := someTo_succ (n := nn) (fr := fr) (k := j)
          rw [hgd] at hss
          obtain ⟨bb, ob, cb, hvb, _, zb, hcb⟩ := (hM.isTup 9 (HR8.out _) encB_len (by rw [Hm.out]; omega)).at (Below.refl _ _) hb
          rw [Hm.out] at hvb
          cases hvb
          have b0 := hcb 0 _ rfl
          have b1' := hcb 1 _ rfl
          rw [Nat.add_zero] at b0
          have HMa := Lib.hid (hM.alloc_ (.cells #[.int .i64 (b.1 : Int), .int .i64 (b.2 : Int)] 34))
          obtain ⟨sb, hsb⟩ : ∃ sb, someTo nn fr j = sb := ⟨_, rfl⟩
          rw [hsb] at hss ⊢
          by_cases hn1 : nn ≤ b.2
          · have hbest := HCh2.out.best j (by rw [Hm.out]; exact hjl) (by rw [hgd]; exact hn1)
            rw [hgd] at hbest
            rw [decide_eq_true hn1, Bool.true_or] at hss
            have HSS := Lib.hid hss
            have qn : decide ((b.2 : Int) < (nn : Int)) = false := decide_eq_false (by omega)
            have qnn : decide (b.2 < nn) = false := decide_eq_false (by omega)
            have hpc : pol = 1 ∨ pol = 2 ∨ pol = 4 ∨ pol = 3 := by omega
            clear hM hcb hb hgd hss hn1 hsb
            rcases hpc with rfl | rfl | rfl | rfl
            · have t1 : decide ((b.1 : Int) < (fb.1 : Int)) = false := decide_eq_false (by have := hbest.1 rfl; omega)
              have t1n : decide (b.1 < fb.1) = false := decide_eq_false (hbest.1 rfl)
              clear hbest
              by_cases h2 : b.2 = fb.2
              · have t2 : ((b.2 : Int) == (fb.2 : Int)) = true := by rw [beq_iff_eq]; omega
                clear h2
                go_wp2
                go_roundw
                case rel => exact ⟨j + 1, by omega, by go_num, by rw [HSS.out], HMa.out⟩
                case measure => simp [intOf]; omega
              · have t2 : ((b.2 : Int) == (fb.2 : Int)) = false := beq_eq_false_iff_ne.2 (by omega)
                go_wp2
                go_roundw
                case rel => exact ⟨j + 1, by omega, by go_num, by rw [HSS.out], HMa.out⟩
                case measure => simp [intOf]; omega
            · have t1 : decide ((b.2 : Int) < (fb.2 : Int)) = false := decide_eq_false (by have := hbest.2.1 rfl; omega)
              have t1n : decide (b.2 < fb.2) = false := decide_eq_false (hbest.2.1 rfl)
              have h4 := hbest.2.2.2 (by decide)
              clear hbest
              by_cases h2 : b.2 = fb.2
              · have t2 : ((b.2 : Int) == (fb.2 : Int)) = true := by rw [beq_iff_eq]; omega
                have t3 : decide ((b.1 : Int) < (fb.1 : Int)) = false := decide_eq_false (by have := h4 h2; omega)
                have t3n : decide (b.1 < fb.1) = false := decide_eq_false (h4 h2)
                clear h4 h2
                go_wp2
                go_roundw
                case rel => exact ⟨j + 1, by omega, by go_num, by rw [HSS.out], HMa.out⟩
                case measure => simp [intOf]; omega
              · have t2 : ((b.2 : Int) == (fb.2 : Int)) = false := beq_eq_false_iff_ne.2 (by omega)
                clear h4
                go_wp2
                go_roundw
                case rel => exact ⟨j + 1, by omega, by go_num, by rw [HSS.out], HMa.out⟩
                case measure => simp [intOf]; omega
            · have t1 : decide ((b.2 : Int) > (fb.2 : Int)) = false := decide_eq_false (by have := hbest.2.2.1 rfl; omega)
              have t1n : decide (fb.2 < b.2) = false := decide_eq_false (hbest.2.2.1 rfl)
              have h4 := hbest.2.2.2 (by decide)
              clear hbest
              by_cases h2 : b.2 = fb.2
              · have t2 : ((b.2 : Int) == (fb.2 : Int)) = true := by rw [beq_iff_eq]; omega
                have t3 : decide ((b.1 : Int) < (fb.1 : Int)) = false := decide_eq_false (by have := h4 h2; omega)
                have t3n : decide (b.1 < fb.1) = false := decide_eq_false (h4 h2)
                clear h4 h2
                go_wp2
                go_roundw
                case rel => exact ⟨j + 1, by omega, by go_num, by rw [HSS.out], HMa.out⟩
                case measure => simp [intOf]; omega
              · have t2 : ((b.2 : Int) == (fb.2 : Int)) = false := beq_eq_false_iff_ne.2 (by omega)
                clear h4
                go_wp2
                go_roundw
                case rel => exact ⟨j + 1, by omega, by go_num, by rw [HSS.out], HMa.out⟩
                case measure => simp [intOf]; omega
            · clear hbest
              go_wp2
              go_roundw
              case rel => exact ⟨j + 1, by omega, by go_num, by rw [HSS.out], HMa.out⟩
              case measure => simp [intOf]; omega
          · rw [decide_eq_false hn1, Bool.false_or] at hss
            have HSS := Lib.hid hss
            have qn : decide ((b.2 : Int) < (nn : Int)) = true := decide_eq_true (by omega)
            have qnn : decide (b.2 < nn) = true := decide_eq_true (by omega)
            clear hM hcb hb hgd hss hn1 hsb
            go_wp2
            go_roundw
            case rel => exact ⟨j + 1, by omega, by go_num, by rw [HSS.out], HMa.out⟩
            case measure => simp [intOf]; omega
        · obtain rfl : j = k := by omega
          have HB := Lib.hid hM.below
          have hsg : someTo nn fr j = gb := by
            rw [← Hgb.out]
            unfold someTo
            have h1 := HCh2.out.got
            rw [Hm.out] at h1
            rw [Bool.eq_iff_iff, decide_eq_true_eq, beq_iff_eq]
            exact h1.symm
          rw [hsg]
          clear hM hsg
          cases gb with
          | true =>
            have hlen := HCh2.out.len (by have := Hgb.out; simpa using this)
            have t1 : decide ((fb.2 : Int) ≥ (nn : Int)) = true := decide_eq_true (by omega)
            have t1n : decide (nn ≤ fb.2) = true := decide_eq_true hlen
            go_wp2
            go_ret
            exact ⟨by first | rfl | simp, HB.out⟩
          | false =>
            go_wp2
            go_ret
            exact ⟨by first | rfl | simp, HB.out⟩
end Go.Proofs.Ytmbcfbehchpfbaa
