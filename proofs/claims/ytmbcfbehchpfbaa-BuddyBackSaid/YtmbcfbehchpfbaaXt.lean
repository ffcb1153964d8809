/- Buddies: taken and given back at once. Plain. -/
import Derived.Test.YtmbcfbehchpfbaaXc
import Derived.Test.YtmbcfbehchpfbaaXj
namespace Go.Proofs.Ytmbcfbehchpfbaa

theorem last_stepB (lev : Nat) (l : List (Int × Int)) (a : Int × Int) : stateB lev (l ++ [a]) (l.length + 1) = (stepB lev (stateB lev l l.length) a).1 ∧ codeB lev (l ++ [a]) l.length = (stepB lev (stateB lev l l.length) a).2.1 ∧ atB lev (l ++ [a]) l.length = (stepB lev (stateB lev l l.length) a).2.2 := by
  have h1 : (l ++ [a])[l.length]? = some a := by simp
  have h2 : stateB lev (l ++ [a]) l.length = stateB lev l l.length := stateB_pre (by simp)
  rw [stateB_succ h1, codeB_at h1, atB_at h1, h2]
  exact ⟨rfl, rfl, rfl⟩
theorem cov_lt {lev : Nat} {fr : Fr} (h : PInv lev fr) {w : Nat} (hc : Cov fr w) : w < 2 ^ lev := by
  obtain ⟨k, x, h1, h2, h3⟩ := hc
  have := h.en k x h1
  omega
theorem buddyBack_no {lev : Nat} {l : List (Int × Int)} {n : Int} (h : codeB lev (l ++ [(1, n)]) l.length ≠ 0) : stateB lev (l ++ [(1, n)]) (l.length + 1) = stateB lev l l.length := by
  obtain ⟨h1, h2, _⟩ := last_stepB lev l (1, n)
  rw [h2] at h
  rw [h1]
  have hA := stepB_asked lev (stateB lev l l.length) (1, n)
  generalize (stepB lev (stateB lev l l.length) (1, n)).1 = s' at *
  generalize (stepB lev (stateB lev l l.length) (1, n)).2.1 = c at *
  generalize (stepB lev (stateB lev l l.length) (1, n)).2.2 = p at *
  cases hA with
  | took => exact absurd rfl h
  | gave s1 h5 => cases h5
  | _ => rfl
theorem back_plainB {lev : Nat} (hl : lev ≤ 7) {s s' : BSt} {own : Nat → Int} {c : Int} {n p : Nat} (h : BInv lev s own c) (hc : 0 ≤ c) (ht : takeB lev s n = some (p, s')) :
    freeB lev s'.fr ≠ freeB lev s.fr ∧ ∃ s2, giveB lev s' (p : Int) = some s2 ∧ s2.fr = s.fr := by
  obtain ⟨t1, t2, t3, t4⟩ := h.take hc ht
  obtain ⟨k, _, _, rfl⟩ := takeB_is ht
  have hM := Nat.two_pow_pos (needB n)
  have hp0 := t3 p (Nat.le_refl _) (by omega)
  constructor
  · intro e
    obtain ⟨j, x, h1, h2, h3⟩ := (h.free p (by omega)).1 hp0
    have h4 := (mem_freeB hl h.p (x, 2 ^ j)).2 ⟨j, by have := h.p.lv j x h1; omega, h1, rfl⟩
    rw [← e] at h4
    obtain ⟨i, _, h5, h6⟩ := (mem_freeB hl t4.p _).1 h4
    simp only at h5 h6
    have h7 := (t4.free p (by omega)).2 ⟨i, x, h5, h2, by omega⟩
    rw [if_pos ⟨Nat.le_refl _, by omega⟩] at h7
    omega
  · obtain ⟨s2, hg⟩ : ∃ s2, giveB lev ⟨splitB s.fr (needB n) k p, fun x => if x = (p : Int) then some (needB n) else s.tk x⟩ (p : Int) = some s2 := by
      unfold giveB
      simp only [if_true]
      exact ⟨_, rfl⟩
    refine ⟨s2, hg, ?_⟩
    obtain ⟨q, j, hq, _, _, _, h5⟩ := t4.give hl hg
    obtain rfl : q = p := by omega
    refine pieces_one h5.p h.p fun w => ?_
    constructor
    · intro hw
      have hlt := cov_lt h5.p hw
      have h6 := (h5.free w hlt).2 hw
      rw [if_pos (show q ≤ q ∧ q < q + 2 ^ needB n from ⟨Nat.le_refl _, by omega⟩)] at h6
      refine (h.free w hlt).1 ?_
      by_cases hin : q ≤ w ∧ w < q + 2 ^ needB n
      · exact t3 w hin.1 hin.2
      · rw [if_neg hin] at h6
        have := (h.ids w hlt).2
        rw [if_neg (by omega)] at h6
        exact h6
    · intro hw
      have hlt := cov_lt h.p hw
      have h6 := (h.free w hlt).2 hw
      refine (h5.free w hlt).1 ?_
      rw [if_pos (show q ≤ q ∧ q < q + 2 ^ needB n from ⟨Nat.le_refl _, by omega⟩)]
      by_cases hin : q ≤ w ∧ w < q + 2 ^ needB n
      · rw [if_pos hin, if_pos rfl]
      · rw [if_neg hin, h6]
        split <;> rfl
theorem buddyBack_ok {lev : Nat} (hl : lev ≤ 7) {l : List (Int × Int)} {n : Int} (h : codeB lev (l ++ [(1, n)]) l.length = 0) :
    freeB lev (stateB lev (l ++ [(1, n)]) (l.length + 1)).fr ≠ freeB lev (stateB lev l l.length).fr ∧
      freeB lev (stateB lev ((l ++ [(1, n)]) ++ [(2, (atB lev (l ++ [(1, n)]) l.length : Int))]) (l.length + 2)).fr = freeB lev (stateB lev l l.length).fr := by
  have hI := buddyInv hl l l.length (Nat.le_refl _)
  obtain ⟨h1, h2, h3⟩ := last_stepB lev l (1, n)
  have hl2 : (l ++ [(1, n)]).length = l.length + 1 := by simp
  obtain ⟨h4, _, _⟩ := last_stepB lev (l ++ [(1, n)]) (2, (atB lev (l ++ [(1, n)]) l.length : Int))
  rw [hl2] at h4
  rw [h1] at h4
  rw [h4, h1, h3]
  rw [h2] at h
  have hA := stepB_asked lev (stateB lev l l.length) (1, n)
  generalize (stepB lev (stateB lev l l.length) (1, n)).1 = s' at *
  generalize (stepB lev (stateB lev l l.length) (1, n)).2.1 = c at *
  generalize (stepB lev (stateB lev l l.length) (1, n)).2.2 = p at *
  cases hA with
  | took s1 p1 h5 h6 h7 h8 =>
    obtain ⟨h9, s2, h10, h11⟩ := back_plainB hl hI (by omega) h8
    refine ⟨h9, ?_⟩
    have e : stepB lev s' (2, (p : Int)) = (s2, 0, 0) := by
      unfold stepB
      rw [if_neg (show ¬ (2 : Int) = 1 by decide), if_pos rfl]
      simp only [h10]
    rw [e]
    simp only
    rw [h11]
  | gave s1 h5 => cases h5
  | _ => cases h
end Go.Proofs.Ytmbcfbehchpfbaa
