/- BuddyApart, walked. -/
import Derived.Test.YtmbcfbehchpfbaaXn
import Derived.Test.YtmbcfbehchpfbaaXo
import Derived.Test.YtmbcfbehchpfbaaUq
import Derived.Test.YtmbcfbehchpfbaaUo
import Derived.Deep.RegionHeld3
namespace Go.Proofs.Ytmbcfbehchpfbaa
open Go.RowKit

theorem pwI_need {n : Nat} (h2 : n ≤ 128) : pwI (n : Int) = 2 ^ needB n := by
  have h7 := need_le7 n
  refine pwI_at (by omega) ?_ ?_
  · rcases Nat.eq_zero_or_pos (needB n) with h | h
    · exact .inl h
    · have := (need_lt (n := n) (k := needB n - 1) h2 (by omega)).1 (by omega)
      exact .inr (by omega)
  · have := (need_lt (n := n) (k := needB n) h2 (by omega)).2
    rcases Nat.lt_or_ge (2 ^ needB n) n with h | h
    · have := this h; omega
    · omega
theorem buddy_apart {lev : Nat} (hl : lev ≤ 7) (l : List (Int × Int)) : ApartOk (2 ^ lev) l (codesB lev l l.length) (atsB lev l l.length) (freeB lev (stateB lev l l.length).fr) true pwI (ownB lev l) := by
  have hI := buddyInv hl l l.length (Nat.le_refl _)
  have h128 := (pow_le7 hl).1
  have hmem := mem_freeB hl hI.p
  refine ⟨codesB_len _ _ _, atsB_len _ _ _, fun _ _ => rfl, ?_, ?_, ?_, ?_, ?_⟩
  · intro i a c t ha hc ht
    have hil : i < l.length := (List.getElem?_eq_some_iff.1 ha).1
    rw [codesB_get hil] at hc
    rw [atsB_get hil] at ht
    cases hc
    cases ht
    have hIi := buddyInv hl l i (by omega)
    have hgd : l.getD i (0, 0) = a := by rw [List.getD_eq_getElem?_getD, ha]; rfl
    have hsucc := fun k => ownB_succ lev l i k
    rw [hgd] at hsucc
    have hcode := codeB_at (lev := lev) ha
    have hat := atB_at (lev := lev) ha
    have hA := stepB_asked lev (stateB lev l i) a
    generalize (stepB lev (stateB lev l i) a).1 = s' at *
    generalize (stepB lev (stateB lev l i) a).2.1 = c at *
    generalize (stepB lev (stateB lev l i) a).2.2 = p at *
    rw [hcode, hat] at hsucc ⊢
    unfold ApStep
    cases hA with
    | took s1 p1 h2 h3 h4 h5 =>
      obtain ⟨t1, t2, t3, _⟩ := hIi.take (by omega) h5
      have hnp := Nat.two_pow_pos (needB a.2.toNat)
      refine .inr (.inr ⟨rfl, by omega, p, 2 ^ needB a.2.toNat, rfl, ?_, (fun h => by cases h), hnp, t2, fun _ => t1, t3, fun k hk => ?_⟩)
      · obtain ⟨n, hn⟩ : ∃ n : Nat, a.2 = n := ⟨a.2.toNat, by omega⟩
        rw [hn, Int.toNat_natCast]
        exact pwI_need (by omega)
      · rw [hsucc k, if_neg (by decide), if_neg (by omega)]
    | full h2 => exact .inl ⟨by decide, fun k _ => by rw [hsucc k, if_pos (by decide)]⟩
    | range h2 => exact .inl ⟨by decide, fun k _ => by rw [hsucc k, if_pos (by decide)]⟩
    | gave s1 h2 h3 =>
      obtain ⟨p, n, e, _, hpN, hne, _⟩ := hIi.give hl h3
      refine .inr (.inl ⟨rfl, h2, p, e, hpN, hne, fun k _ => ?_⟩)
      rw [hsucc k, if_neg (by decide), if_pos h2, e, Int.toNat_natCast]
    | arg h2 => exact .inl ⟨by decide, fun k _ => by rw [hsucc k, if_pos (by decide)]⟩
    | kind h2 => exact .inl ⟨by decide, fun k _ => by rw [hsucc k, if_pos (by decide)]⟩
  · intro b hb
    obtain ⟨k, _, h1, h2⟩ := (hmem b).1 hb
    rw [h2]
    exact ⟨Nat.two_pow_pos k, hI.p.en k _ h1⟩
  · refine List.Pairwise.imp_of_mem ?_ (freeB_sorted lev _)
    intro b c hb hc hlt w h1 h2 h3
    obtain ⟨k, _, h4, h5⟩ := (hmem b).1 hb
    obtain ⟨j, _, h6, h7⟩ := (hmem c).1 hc
    rw [h5] at h2
    rw [h7] at h3
    have := (hI.p.dis k _ j _ w h4 h6 h1 h2 h3.1 h3.2).2
    omega
  · intro b hb w h1 h2
    obtain ⟨k, _, h3, h4⟩ := (hmem b).1 hb
    rw [h4] at h2
    have := hI.p.en k _ h3
    exact (hI.free w (by omega)).2 ⟨k, b.1, h3, h1, h2⟩
  · intro w hw h
    obtain ⟨k, x, h1, h2, h3⟩ := (hI.free w hw).1 h
    exact ⟨(x, 2 ^ k), (hmem _).2 ⟨k, by have := hI.p.lv k x h1; omega, h1, rfl⟩, h2, h3⟩
set_option maxRecDepth 100000 in
set_option maxHeartbeats 1000000 in
theorem buddyApart_yes (lev : Int) (v : Value) (l : List (Int × Int)) (w : World) (hl : IsTup 2 encA w v l) (h64 : AsksOk l) (hlr : l.length ≤ 17592186044416) :
    Calls Try.prog 8 #[.int .i64 lev, v] w fun e w' => e = .returned (.bool true) ∧ Below w.heap.size w w' := by
  have HP := Lib.hid (bplay_told lev v l w hl h64)
  have HL := Lib.hid hl
  obtain ⟨al, cl, rfl, hlm⟩ := hl.slice
  clear hl h64
  go_enter Try.func8, Try.ntmps8
  go_wp2_with fail
  with_reducible refine HP.out.mono ?_
  rintro e w1 ⟨aC, nC, cC, aA, nA, cA, aF, nF, cF, rfl, hb1, hor⟩
  have hB := hb1.alloc hb1.size (.cells #[.slice aC nC cC, .slice aA nA cA, .slice aF nF cF] 27)
  have HB := Lib.hid hB
  clear HP
  by_cases hs : lev < 0 ∨ 7 < lev
  · have he : errB lev l.length = 3 := by unfold errB; rw [if_pos hs]
    rw [he]
    have q9 : ((3 : Int) != 0) = true := rfl
    clear hor hb1 hB he
    rcases hs with hs | hs
    · have q1 : decide (lev < 0) = true := decide_eq_true hs
      go_wp2
      go_ret
      exact ⟨by first | rfl | simp, HB.out⟩
    · have q1 : decide (lev < 0) = false := decide_eq_false (by omega)
      have q2 : decide (lev > 7) = true := decide_eq_true hs
      go_wp2
      go_ret
      exact ⟨by first | rfl | simp, HB.out⟩
  · have q1 : decide (lev < 0) = false := decide_eq_false (by omega)
    have q2 : decide (lev > 7) = false := decide_eq_false (by omega)
    rcases hor with ⟨hne, hx1, hx2, hx3⟩ | ⟨he, N, rfl, hN2, hn, hC, hA, hF, _⟩
    · clear hx1 hx2 hx3
      have hn : 100 < l.length := by
        rcases Nat.lt_or_ge 100 l.length with h | h
        · exact h
        · exact absurd (by unfold errB; rw [if_neg hs, if_neg (by omega)]) hne
      have he : errB lev l.length = 1 := by unfold errB; rw [if_neg hs, if_pos hn]
      rw [he]
      have q9 : ((1 : Int) != 0) = true := rfl
      have q4 : decide ((l.length : Int) > 100) = true := decide_eq_true (by omega)
      clear hb1 hB he hne hs
      go_wp2
      go_ret
      exact ⟨by first | rfl | simp [hn], HB.out⟩
    · have h128 := pow_le7 hN2
      have hlen := freeB_len N (stateB N l l.length).fr
      have hb2 : Below w1.heap.size w1 (w1.alloc (.cells #[.slice aC nC cC, .slice aA nA cA, .slice aF nF cF] 27)) := (Below.refl _ _).alloc (Nat.le_refl _) _
      obtain ⟨b1, hb1e⟩ : ∃ b1, w1.heap.size = b1 := ⟨_, rfl⟩
      obtain ⟨W1, hW1⟩ : ∃ W1, w1.alloc (.cells #[.slice aC nC cC, .slice aA nA cA, .slice aF nF cF] 27) = W1 := ⟨_, rfl⟩
      have c0 : W1.cell? ⟨b1, 0, none⟩ = some (.slice aC nC cC) := by rw [← hW1, ← hb1e]; simp
      have c1 : W1.cell? ⟨b1, 1, none⟩ = some (.slice aA nA cA) := by rw [← hW1, ← hb1e]; simp
      have c2 : W1.cell? ⟨b1, 2, none⟩ = some (.slice aF nF cF) := by rw [← hW1, ← hb1e]; simp
      have z1 : b1 < W1.heap.size := by rw [← hW1, ← hb1e]; simp
      rw [hW1] at hb2 hB HB
      have HAp : Hid (∀ X, Below W1.heap.size W1 X → Calls Try.prog 15 #[.int .i64 ((2 ^ N : Nat) : Int), .slice al l.length cl, .agg #[.slice aC nC cC, .slice aA nA cA, .slice aF nF cF], .bool true] X fun e w' => e = .returned (.bool true) ∧ Below X.heap.size X w') := fun X hX =>
        apart_any (2 ^ N) h128.2 (by omega) (.slice al l.length cl) _ _ _ l _ _ _ true _ _ X (buddy_apart hN2 l) hn (HL.out.later (hB.trans (hX.mono hB.size))) (hC.later (hb2.trans (hX.mono hb2.size))) (hA.later (hb2.trans (hX.mono hb2.size))) (hF.later (hb2.trans (hX.mono hb2.size))) (by omega) (fun _ x X => power_any x X)
      have HT : Hid (∀ X, Calls Try.prog 20 #[.int .i64 (N : Int)] X fun e w' => e = .returned (.int .i64 ((2 ^ N : Nat) : Int)) ∧ X = w') := fun X => twice_any N hN2 X
      obtain ⟨P, hP⟩ : ∃ P : Nat, 2 ^ N = P := ⟨_, rfl⟩
      rw [hP] at HAp HT
      rw [he]
      have q9 : ((0 : Int) != 0) = false := rfl
      have q2n : decide (7 < N) = false := decide_eq_false (by omega)
      have HW1 := Lib.hid hW1
      have Hb1e := Lib.hid hb1e
      clear hb1 hb2 hB hC hA hF he hs h128 hlen hP hW1 hb1e
      go_wp2
      rw [HW1.out, Hb1e.out]
      clear HW1 Hb1e
      go_region_held3 (fun X => X.cell? ⟨b1, 0, none⟩ = some (.slice aC nC cC) ∧ X.cell? ⟨b1, 1, none⟩ = some (.slice aA nA cA) ∧ X.cell? ⟨b1, 2, none⟩ = some (.slice aF nF cF))
        (first | exact ⟨((show Below W1.heap.size W1 _ from (by repeat (first | exact Below.refl _ _ | assumption | refine Below.setCell ?_ (by first | exact Nat.le_refl _ | (simp; done) | (simp; omega) | (simp at *; omega)) _ | refine Below.alloc ?_ (by first | exact Nat.le_refl _ | (simp; done) | (simp; omega) | (simp at *; omega)) _ | refine Below.drew ?_))).cell (p := ⟨_, _, none⟩) z1).trans c0, ((show Below W1.heap.size W1 _ from (by repeat (first | exact Below.refl _ _ | assumption | refine Below.setCell ?_ (by first | exact Nat.le_refl _ | (simp; done) | (simp; omega) | (simp at *; omega)) _ | refine Below.alloc ?_ (by first | exact Nat.le_refl _ | (simp; done) | (simp; omega) | (simp at *; omega)) _ | refine Below.drew ?_))).cell (p := ⟨_, _, none⟩) z1).trans c1, ((show Below W1.heap.size W1 _ from (by repeat (first | exact Below.refl _ _ | assumption | refine Below.setCell ?_ (by first | exact Nat.le_refl _ | (simp; done) | (simp; omega) | (simp at *; omega)) _ | refine Below.alloc ?_ (by first | exact Nat.le_refl _ | (simp; done) | (simp; omega) | (simp at *; omega)) _ | refine Below.drew ?_))).cell (p := ⟨_, _, none⟩) z1).trans c2⟩)
        (first
          | (go_at_call 20
             with_reducible refine (HT.out _).mono ?_
             rintro e w5 ⟨rfl, rfl⟩)
          | (go_at_call 15
             with_reducible refine (HAp.out _ (by repeat (first | exact Below.refl _ _ | assumption | refine Below.setCell ?_ (by first | exact Nat.le_refl _ | (simp; done) | (simp; omega) | (simp at *; omega)) _ | refine Below.alloc ?_ (by first | exact Nat.le_refl _ | (simp; done) | (simp; omega) | (simp at *; omega)) _ | refine Below.drew ?_))).mono ?_
             rintro e w6 ⟨rfl, hb6⟩
             have hB6 : Below W1.heap.size W1 w6 := by
               refine (show Below W1.heap.size W1 _ → _ from fun h => h.trans (hb6.mono h.size)) ?_
               exact (by repeat (first | exact Below.refl _ _ | assumption | refine Below.setCell ?_ (by first | exact Nat.le_refl _ | (simp; done) | (simp; omega) | (simp at *; omega)) _ | refine Below.alloc ?_ (by first | exact Nat.le_refl _ | (simp; done) | (simp; omega) | (simp at *; omega)) _ | refine Below.drew ?_))))
      all_goals
        go_wp2
        go_ret
        exact ⟨rfl, HB.out.trans (hB6.mono HB.out.size)⟩
theorem buddyApart_walk (W : World) (v0 v1 : Value) (g0 : ∃ x : Int, v0 = .int .i64 x ∧ i64ok x) (g1 : ∃ l : List (Int × Int), IsTup 2 encA W v1 l ∧ AsksOk l ∧ l.length ≤ 17592186044416) :
    Calls Try.prog 8 #[v0, v1] W fun e w' => e = .returned (.bool true) ∧ Below W.heap.size W w' := by
  obtain ⟨x, rfl, _⟩ := g0
  obtain ⟨l, hl, h64, hr⟩ := g1
  exact buddyApart_yes x v1 l W hl h64 hr
end Go.Proofs.Ytmbcfbehchpfbaa
