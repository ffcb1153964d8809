/- FreeBack: plain law. -/
import Derived.Test.YtmbcfbehchpfbaaUu
namespace Go.Proofs.Ytmbcfbehchpfbaa
open Go.RowKit

theorem getD_last {l : List (Int × Int)} {a d : Int × Int} : (l ++ [a]).getD l.length d = a := by
  rw [List.getD_eq_getElem?_getD, List.getElem?_append_right (Nat.le_refl _)]; simp
theorem stateF_app (N : Nat) (pol : Int) (l m : List (Int × Int)) : stateF N pol (l ++ m) l.length = stateF N pol l l.length := stateF_pre (by rw [List.take_length, List.take_left])
theorem last_step (N : Nat) (pol : Int) (l : List (Int × Int)) (a : Int × Int) : stateF N pol (l ++ [a]) (l.length + 1) = (stepF N pol (stateF N pol l l.length) a).1 ∧ codeF N pol (l ++ [a]) l.length = (stepF N pol (stateF N pol l l.length) a).2.1 ∧ atF N pol (l ++ [a]) l.length = (stepF N pol (stateF N pol l l.length) a).2.2 := by
  have ha : (l ++ [a])[l.length]? = some a := by rw [List.getElem?_append_right (Nat.le_refl _)]; simp
  rw [stateF_succ ha, codeF_at ha, atF_at ha, stateF_app]
  exact ⟨rfl, rfl, rfl⟩
/-- Taken and given back at once. -/
theorem back_plain {N : Nat} {pol : Int} {s s' : FSt} {own : Nat → Int} {c : Int} {n p : Nat} (h : FInv N s own c) (hc : 0 ≤ c) (hn : 1 ≤ n) (ht : takeF pol s n = some (p, s')) :
    s'.fr ≠ s.fr ∧ ∃ s'', giveF s' (p : Int) = some s'' ∧ s''.fr = s.fr := by
  obtain ⟨hpn, h0, h1⟩ := h.take hc hn ht
  have hpN : p < N := by omega
  have hin : InB s.fr p := (h.free p hpN).1 (h0 p (Nat.le_refl _) (by omega))
  refine ⟨fun e => ?_, ?_⟩
  · rw [← e] at hin
    have := (h1.free p hpN).2 hin
    rw [if_pos ⟨Nat.le_refl _, by omega⟩] at this
    omega
  · obtain ⟨i, b, _, _, _, hpb, hs'⟩ := take_is ht
    have htk : s'.tk (p : Int) = some n := by rw [hs', hpb]; simp
    cases hg : giveF s' (p : Int) with
    | none => unfold giveF at hg; rw [htk] at hg; cases hg
    | some s2 =>
      refine ⟨s2, rfl, ?_⟩
      obtain ⟨q, m, e, _, _, _, h2⟩ := h1.give hg
      have hq : q = p := by omega
      subst hq
      refine rise_one _ _ h2.rise h.rise h2.pos h.pos fun k => ?_
      by_cases hk : k < N
      · rw [← h2.free k hk, ← h.free k hk]
        have hids := h.ids k hk
        have e0 : (if q ≤ q ∧ q < q + n then c + 1 else own q) = c + 1 := if_pos ⟨Nat.le_refl _, by omega⟩
        show (if (if q ≤ k ∧ k < q + n then c + 1 else own k) = (if q ≤ q ∧ q < q + n then c + 1 else own q) then 0 else (if q ≤ k ∧ k < q + n then c + 1 else own k)) = 0 ↔ own k = 0
        rw [e0]
        by_cases hkp : q ≤ k ∧ k < q + n
        · rw [if_pos hkp, if_pos rfl, h0 k hkp.1 hkp.2]
        · rw [if_neg hkp, if_neg (by omega)]
      · constructor
        · rintro ⟨x, hx, h3, h4⟩
          have := h2.ends x hx; omega
        · rintro ⟨x, hx, h3, h4⟩
          have := h.ends x hx; omega
/-- A code that is not 0 turns nothing. -/
theorem step_no {N : Nat} {pol : Int} {s : FSt} {a : Int × Int} (h : (stepF N pol s a).2.1 ≠ 0) : (stepF N pol s a).1 = s := by
  have hA := step_asked N pol s a
  generalize (stepF N pol s a).1 = s' at *
  generalize (stepF N pol s a).2.1 = c at *
  generalize (stepF N pol s a).2.2 = p at *
  cases hA with
  | took => exact absurd rfl h
  | gave => exact absurd rfl h
  | _ => rfl
theorem freeBack_no {N : Nat} {pol : Int} {l : List (Int × Int)} {n : Int} (h : codeF N pol (l ++ [(1, n)]) l.length ≠ 0) : (stateF N pol (l ++ [(1, n)]) (l.length + 1)).fr = (stateF N pol l l.length).fr := by
  obtain ⟨h1, h2, _⟩ := last_step N pol l (1, n)
  rw [h2] at h
  rw [h1, step_no h]
theorem freeBack_ok {N : Nat} (hN : 1 ≤ N) {pol : Int} {l : List (Int × Int)} {n : Int} (h : codeF N pol (l ++ [(1, n)]) l.length = 0) :
    (stateF N pol (l ++ [(1, n)]) (l.length + 1)).fr ≠ (stateF N pol l l.length).fr ∧
      (stateF N pol ((l ++ [(1, n)]) ++ [(2, (atF N pol (l ++ [(1, n)]) l.length : Int))]) (l.length + 2)).fr = (stateF N pol l l.length).fr := by
  have hI := freeInv hN pol l l.length (Nat.le_refl _)
  obtain ⟨h1, h2, h3⟩ := last_step N pol l (1, n)
  have hl2 : (l ++ [(1, n)]).length = l.length + 1 := by simp
  obtain ⟨h4, _, _⟩ := last_step N pol (l ++ [(1, n)]) (2, (atF N pol (l ++ [(1, n)]) l.length : Int))
  rw [hl2] at h4
  rw [h1] at h4
  rw [h4, h1, h3]
  rw [h2] at h
  have hA := step_asked N pol (stateF N pol l l.length) (1, n)
  generalize (stepF N pol (stateF N pol l l.length) (1, n)).1 = s' at *
  generalize (stepF N pol (stateF N pol l l.length) (1, n)).2.1 = c at *
  generalize (stepF N pol (stateF N pol l l.length) (1, n)).2.2 = p at *
  cases hA with
  | took s1 p1 h5 h6 h7 h8 =>
    obtain ⟨h9, s2, h10, h11⟩ := back_plain hI (by omega) (by omega) h8
    refine ⟨h9, ?_⟩
    unfold stepF
    simp only [h10]
    exact h11
  | gave s1 h5 => cases h5
  | _ => cases h
end Go.Proofs.Ytmbcfbehchpfbaa
