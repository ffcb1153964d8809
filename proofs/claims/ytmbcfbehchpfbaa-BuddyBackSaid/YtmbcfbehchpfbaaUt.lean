/- FreeFront, walked. -/
import Derived.Test.YtmbcfbehchpfbaaUs
import Derived.Deep.RegionHeld3
namespace Go.Proofs.Ytmbcfbehchpfbaa
open Go.RowKit Go.ChangeShapes Go.WideShapes Go.Joins

set_option maxRecDepth 100000 in
open Go.Deep in
/-- A script of asks that comes in, and its room. -/
theorem open_asksC {H : Type} {enc : TypeId × Value → H} {W : World} {base : Nat} {v : Value} {d : DataW H} {p : List MemPlace} {ts : List TypeId} {ds : List (DataW H)} {j : Nat}
    (hv : Value.okWide Try.prog W .any base 22 v) (h : DataW.Trod enc Try.prog W 0 (fun _ => true) true 22 v d p)
    (hs : (DataW.weightsEach Try.prog ts ds).all (· ≤ reachBytes) = true) (ht : ts[j]? = some 22) (hd : ds[j]? = some d) : ∃ l : List (Int × Int), (IsTup 2 encA W v l ∧ AsksOk l ∧ l.length ≤ 17592186044416) ∧ ∃ a c, v = .slice a l.length c ∧ l.length ≤ c := by
  obtain ⟨l, h1, h2⟩ := open_asks hv h hs ht hd
  refine ⟨l, ⟨h1, h2⟩, ?_⟩
  obtain ⟨a, c, rfl, _⟩ := h1.slice
  obtain ⟨n, hn⟩ := h
  rcases open_slice_fields Try.underlying22 Try.underlying36 (by kernel_rfl) (by kernel_rfl) hn with ⟨e, _⟩ | ⟨a', len, cap, m, D, e, hlc, _⟩
  · have e1 := (List.cons.inj e).1
    injection e1 with e2 e3 e4
    exact ⟨a, c, rfl, by omega⟩
  · have e1 := (List.cons.inj e).1
    injection e1 with e2 e3 e4
    exact ⟨a, c, rfl, by omega⟩
theorem codesF_take {N : Nat} {pol : Int} {l : List (Int × Int)} {n : Nat} (hn : n ≤ l.length) : codesF N pol (l.take n) n = (codesF N pol l l.length).take n ∧ atsF N pol (l.take n) n = (atsF N pol l l.length).take n := by
  constructor
  · apply List.ext_getElem?
    intro k
    rw [List.getElem?_take]
    by_cases hk : k < n
    · rw [if_pos hk, codesF_get hk, codesF_get (by omega), (code_pre (m := l) (by rw [List.take_take, Nat.min_eq_left (by omega)])).1]
    · rw [if_neg hk, List.getElem?_eq_none (by rw [codesF_len]; omega)]
  · apply List.ext_getElem?
    intro k
    rw [List.getElem?_take]
    by_cases hk : k < n
    · rw [if_pos hk, atsF_get hk, atsF_get (by omega), (code_pre (m := l) (by rw [List.take_take, Nat.min_eq_left (by omega)])).2]
    · rw [if_neg hk, List.getElem?_eq_none (by rw [atsF_len]; omega)]
/-- What Play tells: three slices and an error. -/
def FTold (size pol : Int) (l : List (Int × Int)) (w' : World) (cv av fv : Value) : Prop :=
  (errF size pol l.length ≠ 0 ∧ cv = .slice none 0 0 ∧ av = .slice none 0 0 ∧ fv = .slice none 0 0) ∨
      (errF size pol l.length = 0 ∧ ∃ N : Nat, size = N ∧ 1 ≤ N ∧ N ≤ 256 ∧ (1 ≤ pol ∧ pol ≤ 4) ∧ l.length ≤ 100 ∧ IsInts w' cv (codesF N pol l l.length) ∧ IsInts w' av (atsF N pol l l.length) ∧ IsTup 2 encB w' fv (stateF N pol l l.length).fr ∧ ∃ a c, av = .slice a l.length c ∧ l.length ≤ c)
theorem fplay_told (size pol : Int) (v : Value) (l : List (Int × Int)) (w : World) (hl : IsTup 2 encA w v l) (h64 : AsksOk l) :
    Calls Try.prog 14 #[.int .i64 size, .int .i64 pol, v] w fun e w' => ∃ aC nC cC aA nA cA aF nF cF, e = .returned (.tuple #[.agg #[.slice aC nC cC, .slice aA nA cA, .slice aF nF cF], .int .i64 (errF size pol l.length)]) ∧ Below w.heap.size w w' ∧ FTold size pol l w' (.slice aC nC cC) (.slice aA nA cA) (.slice aF nF cF) := by
  refine (fplay_any size pol v l w hl h64).mono ?_
  rintro e w1 ⟨cv, av, fv, rfl, hb1, hor⟩
  have hor2 : FTold size pol l w1 cv av fv := hor
  rcases hor with ⟨_, rfl, rfl, rfl⟩ | ⟨_, N, _, _, _, _, _, hC, hA, hF, _⟩
  · exact ⟨_, _, _, _, _, _, _, _, _, rfl, hb1, hor2⟩
  · obtain ⟨_, _, rfl, _⟩ := hC.slice
    obtain ⟨_, _, rfl, _⟩ := hA.slice
    obtain ⟨_, _, rfl, _⟩ := hF.slice
    exact ⟨_, _, _, _, _, _, _, _, _, rfl, hb1, hor2⟩
set_option maxRecDepth 100000 in
set_option maxHeartbeats 2000000 in
theorem freeFront_yes (size pol : Int) (al : Option Addr) (cl : Nat) (l : List (Int × Int)) (w : World) (b : Nat) (hb : b < 256) (hl : IsTup 2 encA w (.slice al l.length cl) l) (hcl : l.length ≤ cl) (h64 : AsksOk l) (hreach : l.length ≤ 17592186044416) :
    Calls Try.prog 7 #[.int .i64 size, .int .i64 pol, .slice al l.length cl, .int .u8 (b : Int)] w fun e w' => e = .returned (.bool true) ∧ Below w.heap.size w w' := by
  have HP := Lib.hid (fplay_told size pol _ l w hl h64)
  have HL := Lib.hid hl
  obtain ⟨L, hL⟩ : ∃ L, l.length = L := ⟨_, rfl⟩
  obtain ⟨n, hn⟩ : ∃ n, b % (L + 1) = n := ⟨_, rfl⟩
  have hnL : n ≤ L := by rw [← hn]; have := Nat.mod_lt b (show 0 < L + 1 by omega); omega
  have h64n : AsksOk (l.take n) := fun a ha => h64 a (List.mem_of_mem_take ha)
  have hln : (l.take n).length = n := by rw [List.length_take]; omega
  have HP2 : Hid (∀ X, Below w.heap.size w X → Calls Try.prog 14 #[.int .i64 size, .int .i64 pol, .slice al n cl] X fun e w' => ∃ aC nC cC aA nA cA aF nF cF, e = .returned (.tuple #[.agg #[.slice aC nC cC, .slice aA nA cA, .slice aF nF cF], .int .i64 (errF size pol (l.take n).length)]) ∧ Below X.heap.size X w' ∧ FTold size pol (l.take n) w' (.slice aC nC cC) (.slice aA nA cA) (.slice aF nF cF)) := fun X hX => fplay_told size pol _ (l.take n) X ((hl.take n (by omega)).later hX) h64n
  have HLn := Lib.hid hL
  have Hln := Lib.hid hln
  have Hn := Lib.hid hn
  have hcl2 : L ≤ cl := by omega
  have hre : L ≤ 17592186044416 := by omega
  rw [hL] at HP HL ⊢
  have hmod : ((b : Int) % ((L : Int) + 1)) = (n : Int) := by rw [← hn]; simp
  have htmod : ((b : Int).tmod ((L : Int) + 1)) = (n : Int) := by rw [Int.tmod_eq_emod_of_nonneg (by omega)]; exact hmod
  have hncl : n ≤ cl := by omega
  clear hl h64 h64n hln hL hn hcl hreach
  go_enter Try.func7, Try.ntmps7
  go_wp2_with fail
  with_reducible refine HP.out.mono ?_
  rintro e w1 ⟨aC, nC, cC, aA, nA, cA, aF, nF, cF, rfl, hb1, hor⟩
  have HP3 := Lib.hid (HP2.out _ (hb1.alloc hb1.size (.cells #[.slice aC nC cC, .slice aA nA cA, .slice aF nF cF] 27)))
  rw [Hln.out] at HP3
  have HOr := Lib.hid hor
  have HB1 := Lib.hid hb1
  obtain ⟨e1, he1⟩ : ∃ e1, errF size pol L = e1 := ⟨_, rfl⟩
  have HE1 := Lib.hid he1
  rw [he1]
  obtain ⟨b1, hb1e⟩ : ∃ b1, w1.heap.size = b1 := ⟨_, rfl⟩
  have Hb1e := Lib.hid hb1e
  clear HP HP2 hor hb1 he1 hb1e
  go_wp2_with fail
  with_reducible refine HP3.out.mono ?_
  rintro e w3 ⟨aD, nD, cD, aG, nG, cG, aH, nH, cH, rfl, hb3, hor2⟩
  have HOr2 := Lib.hid hor2
  obtain ⟨e2, he2⟩ : ∃ e2, errF size pol n = e2 := ⟨_, rfl⟩
  have HE2 := Lib.hid he2
  rw [he2]
  have HB3 := Lib.hid hb3
  clear hor2 he2 hb3 HP3
  by_cases h0 : e1 = 0
  · rcases HOr.out with ⟨hne, _⟩ | ⟨_, N, rfl, hN1, hN2, hp, hn100, hC, hA, hF, hAc⟩
    · exact absurd (by rw [HLn.out, HE1.out]; exact h0) hne
    rcases HOr2.out with ⟨hne, _⟩ | ⟨_, N2, hNN, _, _, _, _, hC2, hA2, hF2, _⟩
    · refine absurd ?_ hne
      rw [Hln.out]
      unfold errF
      rw [if_neg (by omega), if_neg (by simpa using hp), if_neg (by have := HLn.out; omega)]
    · obtain rfl : N2 = N := by omega
      have h2 : e2 = 0 := by
        rw [← HE2.out]
        unfold errF
        rw [if_neg (by omega), if_neg (by simpa using hp), if_neg (by have := HLn.out; omega)]
      subst h0 h2
      obtain ⟨aA', cA', hA', hAl⟩ := hAc
      injection hA' with hA1 hA2 hA3
      subst hA1 hA2 hA3
      have hnC : nC = L := by
        obtain ⟨_, _, hv, _⟩ := hC.slice
        rw [codesF_len, HLn.out] at hv
        cases hv; rfl
      have hnD : nD = n := by
        obtain ⟨_, _, hv, _⟩ := hC2.slice
        rw [codesF_len, Hln.out] at hv
        cases hv; rfl
      rw [HLn.out] at hAl hA ⊢
      subst hnC hnD
      rw [Hln.out] at hC2 hA2
      have hpre := codesF_take (N := N2) (pol := pol) (l := l) (n := nD) (by rw [HLn.out]; exact hnL)
      rw [hpre.1] at hC2
      rw [hpre.2] at hA2
      rw [HLn.out] at hC2 hA2 hC
      have hAt := hA.take nD (by rw [atsF_len]; exact hnL)
      have hb3 := HB3.out
      rw [HLn.out] at hb3
      obtain ⟨W1, hW1⟩ : ∃ W1, w1.alloc (.cells #[.slice aC nC cC, .slice aA nC cA, .slice aF nF cF] 27) = W1 := ⟨_, rfl⟩
      obtain ⟨W3, hW3⟩ : ∃ W3, w3.alloc (.cells #[.slice aD nD cD, .slice aG nG cG, .slice aH nH cH] 27) = W3 := ⟨_, rfl⟩
      have h13 : Below w1.heap.size w1 W3 := by
        have x1 : Below w1.heap.size w1 W1 := hW1 ▸ (Below.refl _ _).alloc (Nat.le_refl _) _
        rw [hW1] at hb3
        exact (x1.trans (hb3.mono x1.size)).trans (hW3 ▸ (Below.refl _ _).alloc (by have := x1.size; have := hb3.size; omega) _)
      have h33 : Below w3.heap.size w3 W3 := hW3 ▸ (Below.refl _ _).alloc (Nat.le_refl _) _
      obtain ⟨b3, hb3e⟩ : ∃ b3, w3.heap.size = b3 := ⟨_, rfl⟩
      have HCo : Hid (∀ X, Below W3.heap.size W3 X → Calls Try.prog 17 #[.slice aD nD cD, .slice aC nC cC] X fun e w' => e = .returned (.bool true) ∧ Below X.heap.size X w') := fun X hX =>
        codes_any _ _ _ _ X (hC2.later (h33.trans (hX.mono h33.size))) (hC.later (h13.trans (hX.mono h13.size))) (List.take_prefix _ _)
      have HIn : Hid (∀ X, Below W3.heap.size W3 X → Calls Try.prog 18 #[.slice aG nG cG, .slice aA nD cA] X fun e w' => e = .returned (.bool true) ∧ Below X.heap.size X w') := fun X hX => by
        have := refInts_any _ _ _ _ X (hA2.later (h33.trans (hX.mono h33.size))) (hAt.later (h13.trans (hX.mono h13.size)))
        simpa using this
      rw [hW1] at hb3
      have zW1 : b1 < W1.heap.size := by rw [← hW1, ← Hb1e.out]; simp
      have z3 : b1 < w3.heap.size := Nat.lt_of_lt_of_le zW1 hb3.size
      have p0 : W1.cell? ⟨b1, 0, none⟩ = some (.slice aC nC cC) := by rw [← hW1, ← Hb1e.out]; simp
      have p1 : W1.cell? ⟨b1, 1, none⟩ = some (.slice aA nC cA) := by rw [← hW1, ← Hb1e.out]; simp
      have c0 : W3.cell? ⟨b1, 0, none⟩ = some (.slice aC nC cC) := (h33.cell (p := ⟨_, _, none⟩) z3).trans ((hb3.cell (p := ⟨_, _, none⟩) zW1).trans p0)
      have c1 : W3.cell? ⟨b1, 1, none⟩ = some (.slice aA nC cA) := (h33.cell (p := ⟨_, _, none⟩) z3).trans ((hb3.cell (p := ⟨_, _, none⟩) zW1).trans p1)
      have c2 : W3.cell? ⟨b3, 0, none⟩ = some (.slice aD nD cD) := by rw [← hW3, ← hb3e]; simp
      have c3 : W3.cell? ⟨b3, 1, none⟩ = some (.slice aG nG cG) := by rw [← hW3, ← hb3e]; simp
      have y1 : b1 < W3.heap.size := Nat.lt_of_lt_of_le z3 h33.size
      have y3 : b3 < W3.heap.size := by rw [← hW3, ← hb3e]; simp
      have HBW : Hid (Below w.heap.size w W3) := HB1.out.trans (h13.mono HB1.out.size)
      have hnG : nG = nD := by
        obtain ⟨_, _, hv, _⟩ := hA2.slice
        rw [List.length_take, atsF_len, Nat.min_eq_left hnL] at hv
        cases hv; rfl
      subst hnG
      have q1 : ((nC : Int) == (nC : Int)) = true := by simp
      have q2 : ((nG : Int) == (nG : Int)) = true := by simp
      have HW3 := Lib.hid hW3
      have HW1 := Lib.hid hW1
      have Hb3e := Lib.hid hb3e
      have hnL2 : (nG : Int) ≤ (nC : Int) := by omega
      have hcA2 : nG ≤ cA := by omega
      clear HOr HOr2 hC hC2 hA hA2 hAt hF hF2 hb3 h13 h33 hpre hW3 hW1 hb3e zW1 z3 p0 p1 HE1 HE2 hp hNN HB3
      go_wp2
      rw [HW3.out, Hb3e.out, Hb1e.out]
      clear HW3 HW1 Hb3e Hb1e
      go_region_held3 (fun X => X.cell? ⟨b1, 0, none⟩ = some (.slice aC nC cC) ∧ X.cell? ⟨b1, 1, none⟩ = some (.slice aA nC cA) ∧ X.cell? ⟨b3, 0, none⟩ = some (.slice aD nG cD) ∧ X.cell? ⟨b3, 1, none⟩ = some (.slice aG nG cG))
        (first | exact ⟨((show Below W3.heap.size W3 _ from (by repeat (first | exact Below.refl _ _ | assumption | refine Below.setCell ?_ (by first | exact Nat.le_refl _ | (simp; done) | (simp; omega) | (simp at *; omega)) _ | refine Below.alloc ?_ (by first | exact Nat.le_refl _ | (simp; done) | (simp; omega) | (simp at *; omega)) _ | refine Below.drew ?_))).cell (p := ⟨_, _, none⟩) y1).trans c0, ((show Below W3.heap.size W3 _ from (by repeat (first | exact Below.refl _ _ | assumption | refine Below.setCell ?_ (by first | exact Nat.le_refl _ | (simp; done) | (simp; omega) | (simp at *; omega)) _ | refine Below.alloc ?_ (by first | exact Nat.le_refl _ | (simp; done) | (simp; omega) | (simp at *; omega)) _ | refine Below.drew ?_))).cell (p := ⟨_, _, none⟩) y1).trans c1, ((show Below W3.heap.size W3 _ from (by repeat (first | exact Below.refl _ _ | assumption | refine Below.setCell ?_ (by first | exact Nat.le_refl _ | (simp; done) | (simp; omega) | (simp at *; omega)) _ | refine Below.alloc ?_ (by first | exact Nat.le_refl _ | (simp; done) | (simp; omega) | (simp at *; omega)) _ | refine Below.drew ?_))).cell (p := ⟨_, _, none⟩) y3).trans c2, ((show Below W3.heap.size W3 _ from (by repeat (first | exact Below.refl _ _ | assumption | refine Below.setCell ?_ (by first | exact Nat.le_refl _ | (simp; done) | (simp; omega) | (simp at *; omega)) _ | refine Below.alloc ?_ (by first | exact Nat.le_refl _ | (simp; done) | (simp; omega) | (simp at *; omega)) _ | refine Below.drew ?_))).cell (p := ⟨_, _, none⟩) y3).trans c3⟩)
        (first
          | (go_at_call 17
             with_reducible refine (HCo.out _ (by repeat (first | exact Below.refl _ _ | assumption | refine Below.setCell ?_ (by first | exact Nat.le_refl _ | (simp; done) | (simp; omega) | (simp at *; omega)) _ | refine Below.alloc ?_ (by first | exact Nat.le_refl _ | (simp; done) | (simp; omega) | (simp at *; omega)) _ | refine Below.drew ?_))).mono ?_
             rintro e w5 ⟨rfl, hb5⟩
             have hB5 : Below W3.heap.size W3 w5 := by
               refine (show Below W3.heap.size W3 _ → _ from fun h => h.trans (hb5.mono h.size)) ?_
               exact (by repeat (first | exact Below.refl _ _ | assumption | refine Below.setCell ?_ (by first | exact Nat.le_refl _ | (simp; done) | (simp; omega) | (simp at *; omega)) _ | refine Below.alloc ?_ (by first | exact Nat.le_refl _ | (simp; done) | (simp; omega) | (simp at *; omega)) _ | refine Below.drew ?_)))
          | (go_at_call 18
             with_reducible refine (HIn.out _ (by repeat (first | exact Below.refl _ _ | assumption | refine Below.setCell ?_ (by first | exact Nat.le_refl _ | (simp; done) | (simp; omega) | (simp at *; omega)) _ | refine Below.alloc ?_ (by first | exact Nat.le_refl _ | (simp; done) | (simp; omega) | (simp at *; omega)) _ | refine Below.drew ?_))).mono ?_
             rintro e w6 ⟨rfl, hb6⟩
             have hB6 : Below W3.heap.size W3 w6 := by
               refine (show Below W3.heap.size W3 _ → _ from fun h => h.trans (hb6.mono h.size)) ?_
               exact (by repeat (first | exact Below.refl _ _ | assumption | refine Below.setCell ?_ (by first | exact Nat.le_refl _ | (simp; done) | (simp; omega) | (simp at *; omega)) _ | refine Below.alloc ?_ (by first | exact Nat.le_refl _ | (simp; done) | (simp; omega) | (simp at *; omega)) _ | refine Below.drew ?_))))
      all_goals
        go_wp2
        go_ret
        exact ⟨rfl, HBW.out.trans (hB6.mono HBW.out.size)⟩
  · have q1 : (e1 != 0) = true := by simpa using h0
    have HBx := Lib.hid ((HB1.out.alloc HB1.out.size (.cells #[.slice aC nC cC, .slice aA nA cA, .slice aF nF cF] 27)).trans (HB3.out.mono (HB1.out.alloc HB1.out.size (.cells #[.slice aC nC cC, .slice aA nA cA, .slice aF nF cF] 27)).size))
    go_wp2
    go_ret
    exact ⟨rfl, HBx.out.alloc HBx.out.size _⟩
theorem freeFront_walk (W : World) (v0 v1 v2 v3 : Value) (g0 : ∃ x : Int, v0 = .int .i64 x ∧ i64ok x) (g1 : ∃ x : Int, v1 = .int .i64 x ∧ i64ok x) (g2 : ∃ l : List (Int × Int), (IsTup 2 encA W v2 l ∧ AsksOk l ∧ l.length ≤ 17592186044416) ∧ ∃ a c, v2 = .slice a l.length c ∧ l.length ≤ c) (g3 : ∃ k : Nat, v3 = .int .u8 (k : Int) ∧ k < 256) :
    Calls Try.prog 7 #[v0, v1, v2, v3] W fun e w' => e = .returned (.bool true) ∧ Below W.heap.size W w' := by
  obtain ⟨x, rfl, _⟩ := g0
  obtain ⟨y, rfl, _⟩ := g1
  obtain ⟨l, ⟨hl, h64, hr⟩, a, c, rfl, hc⟩ := g2
  obtain ⟨k, rfl, hk⟩ := g3
  exact freeFront_yes x y a c l W k hk hl hc h64 hr
end Go.Proofs.Ytmbcfbehchpfbaa
