/- Buddies: Play at every input; twice, power. -/
import Derived.Test.YtmbcfbehchpfbaaXm
import Derived.Test.YtmbcfbehchpfbaaUn
namespace Go.Proofs.Ytmbcfbehchpfbaa
open Go.RowKit

/-- The error that Play tells. -/
def errB (lev : Int) (n : Nat) : Int := if lev < 0 ∨ 7 < lev then 3 else if 100 < n then 1 else 0
def BTold (lev : Int) (l : List (Int × Int)) (w' : World) (cv av fv : Value) : Prop :=
  (errB lev l.length ≠ 0 ∧ cv = .slice none 0 0 ∧ av = .slice none 0 0 ∧ fv = .slice none 0 0) ∨
      (errB lev l.length = 0 ∧ ∃ N : Nat, lev = N ∧ N ≤ 7 ∧ l.length ≤ 100 ∧ IsInts w' cv (codesB N l l.length) ∧ IsInts w' av (atsB N l l.length) ∧ IsTup 2 encB w' fv (freeB N (stateB N l l.length).fr) ∧ ∃ a c, av = .slice a l.length c ∧ l.length ≤ c)
def BPlayAll (lev : Int) (l : List (Int × Int)) (w : World) (e : Ending) (w' : World) : Prop :=
  ∃ cv av fv, e = .returned (.tuple #[.agg #[cv, av, fv], .int .i64 (errB lev l.length)]) ∧ Below w.heap.size w w' ∧ BTold lev l w' cv av fv
theorem stepB_code (lev : Nat) (s : BSt) (a : Int × Int) : 0 ≤ (stepB lev s a).2.1 ∧ (stepB lev s a).2.1 ≤ 6 := by
  have hA := stepB_asked lev s a
  generalize (stepB lev s a).1 = s' at *
  generalize (stepB lev s a).2.1 = c at *
  generalize (stepB lev s a).2.2 = p at *
  cases hA <;> omega
theorem codesB_i64 (lev : Nat) (l : List (Int × Int)) (k : Nat) : ∀ x ∈ codesB lev l k, i64ok x := by
  intro x hx
  obtain ⟨i, _, rfl⟩ := List.mem_map.1 hx
  have := stepB_code lev (stateB lev l i) (l.getD i (0, 0))
  unfold codeB i64ok; omega
theorem atB_le {lev : Nat} (h1 : lev ≤ 7) (l : List (Int × Int)) (k : Nat) (hk : k < l.length) : atB lev l k < 128 := by
  have hI := buddyInv h1 l k (by omega)
  unfold atB
  have hA := stepB_asked lev (stateB lev l k) (l.getD k (0, 0))
  generalize (stepB lev (stateB lev l k) (l.getD k (0, 0))).1 = s' at *
  generalize (stepB lev (stateB lev l k) (l.getD k (0, 0))).2.1 = c at *
  generalize (stepB lev (stateB lev l k) (l.getD k (0, 0))).2.2 = p at *
  cases hA with
  | took s1 p1 h2 h3 h4 h5 =>
    have h6 := (hI.take (by omega) h5).2.1
    have h7 := Nat.two_pow_pos (needB (l.getD k (0, 0)).2.toNat)
    have h8 := (pow_le7 h1).1
    omega
  | _ => omega
theorem atsB_i64 {lev : Nat} (h1 : lev ≤ 7) (l : List (Int × Int)) (k : Nat) (hk : k ≤ l.length) : ∀ x ∈ atsB lev l k, i64ok x := by
  intro x hx
  obtain ⟨i, hi, rfl⟩ := List.mem_map.1 hx
  rw [List.mem_range] at hi
  have := atB_le h1 l i (by omega)
  unfold i64ok; omega
set_option maxRecDepth 100000 in
set_option maxHeartbeats 1000000 in
theorem bplay_any (lev : Int) (v : Value) (l : List (Int × Int)) (w : World) (hl : IsTup 2 encA w v l) (h64 : AsksOk l) :
    Calls Try.prog 19 #[.int .i64 lev, v] w (BPlayAll lev l w) := by
  by_cases hs : lev < 0 ∨ 7 < lev
  · have he : errB lev l.length = 3 := by unfold errB; rw [if_pos hs]
    obtain ⟨al, cl, rfl, hlm⟩ := hl.slice
    have HB := Lib.hid ((Mem.start w).alloc #[.slice none 0 0, .slice none 0 0, .slice none 0 0] 27)
    have HE := Lib.hid he
    clear hl he
    rcases hs with hs | hs
    · have q1 : decide (lev < 0) = true := decide_eq_true hs
      go_enter Try.func19, Try.ntmps19
      go_wp2
      refine bodyPost_ret (v := .tuple #[.agg #[.slice none 0 0, .slice none 0 0, .slice none 0 0], .int .i64 3]) (by simp [results, Try.results19, go_sem]) rfl ⟨_, _, _, by rw [HE.out], HB.out.below, .inl ⟨by rw [HE.out]; decide, rfl, rfl, rfl⟩⟩
    · have q1 : decide (lev < 0) = false := decide_eq_false (by omega)
      have q2 : decide (lev > 7) = true := decide_eq_true hs
      go_enter Try.func19, Try.ntmps19
      go_wp2
      refine bodyPost_ret (v := .tuple #[.agg #[.slice none 0 0, .slice none 0 0, .slice none 0 0], .int .i64 3]) (by simp [results, Try.results19, go_sem]) rfl ⟨_, _, _, by rw [HE.out], HB.out.below, .inl ⟨by rw [HE.out]; decide, rfl, rfl, rfl⟩⟩
  · obtain ⟨N, rfl⟩ : ∃ N : Nat, lev = N := ⟨lev.toNat, by omega⟩
    have hN2 : N ≤ 7 := by omega
    by_cases hn : l.length ≤ 100
    · have he : errB (N : Int) l.length = 0 := by unfold errB; rw [if_neg hs, if_neg (by omega)]
      refine (bplay_yes N hN2 v l w hl hn h64).mono ?_
      rintro e w' ⟨cv, av, fv, rfl, hM⟩
      have hlen := freeB_len N (stateB N l l.length).fr
      have h8 := (pow_le7 hN2).1
      exact ⟨cv, av, fv, by rw [he], hM.below, .inr ⟨he, N, rfl, hN2, hn, isInts_of_own (hM.ownI 0 rfl) (by rw [codesB_len]; omega) (codesB_i64 N l _), isInts_of_own (hM.ownI 1 rfl) (by rw [atsB_len]; omega) (atsB_i64 hN2 l _ (Nat.le_refl _)), isTup_of_own encB_len (hM.ownT 2 rfl) (by omega), own_cap (hM.ownI 1 rfl) (atsB_len N l _)⟩⟩
    · have he : errB (N : Int) l.length = 1 := by unfold errB; rw [if_neg hs, if_pos (by omega)]
      obtain ⟨al, cl, rfl, hlm⟩ := hl.slice
      have HB := Lib.hid ((Mem.start w).alloc #[.slice none 0 0, .slice none 0 0, .slice none 0 0] 27)
      have HE := Lib.hid he
      have q1 : decide ((N : Int) < 0) = false := decide_eq_false (by omega)
      have q2 : decide ((N : Int) > 7) = false := decide_eq_false (by omega)
      have q2n : decide (7 < N) = false := decide_eq_false (by omega)
      have q3 : decide ((l.length : Int) > 100) = true := decide_eq_true (by omega)
      clear hl he hs h64
      go_enter Try.func19, Try.ntmps19
      go_wp2
      refine bodyPost_ret (v := .tuple #[.agg #[.slice none 0 0, .slice none 0 0, .slice none 0 0], .int .i64 1]) (by simp [results, Try.results19, go_sem]) rfl ⟨_, _, _, by rw [HE.out], HB.out.below, .inl ⟨by rw [HE.out]; decide, rfl, rfl, rfl⟩⟩
/-- What Play tells: three slices and an error. -/
theorem bplay_told (lev : Int) (v : Value) (l : List (Int × Int)) (w : World) (hl : IsTup 2 encA w v l) (h64 : AsksOk l) :
    Calls Try.prog 19 #[.int .i64 lev, v] w fun e w' => ∃ aC nC cC aA nA cA aF nF cF, e = .returned (.tuple #[.agg #[.slice aC nC cC, .slice aA nA cA, .slice aF nF cF], .int .i64 (errB lev l.length)]) ∧ Below w.heap.size w w' ∧ BTold lev l w' (.slice aC nC cC) (.slice aA nA cA) (.slice aF nF cF) := by
  refine (bplay_any lev v l w hl h64).mono ?_
  rintro e w1 ⟨cv, av, fv, rfl, hb1, hor⟩
  have hor2 : BTold lev l w1 cv av fv := hor
  rcases hor with ⟨_, rfl, rfl, rfl⟩ | ⟨_, N, _, _, _, hC, hA, hF, _⟩
  · exact ⟨_, _, _, _, _, _, _, _, _, rfl, hb1, hor2⟩
  · obtain ⟨_, _, rfl, _⟩ := hC.slice
    obtain ⟨_, _, rfl, _⟩ := hA.slice
    obtain ⟨_, _, rfl, _⟩ := hF.slice
    exact ⟨_, _, _, _, _, _, _, _, _, rfl, hb1, hor2⟩
end Go.Proofs.Ytmbcfbehchpfbaa
