/- Buddies: whose each word is. Plain. -/
import Derived.Test.YtmbcfbehchpfbaaXb
namespace Go.Proofs.Ytmbcfbehchpfbaa

structure BInv (lev : Nat) (s : BSt) (own : Nat → Int) (c : Int) : Prop where
  p : PInv lev s.fr
  free : ∀ w, w < 2 ^ lev → (own w = 0 ↔ Cov s.fr w)
  taken : ∀ x k, s.tk x = some k → ∃ p : Nat, x = (p : Int) ∧ k ≤ lev ∧ p % 2 ^ k = 0 ∧ p + 2 ^ k ≤ 2 ^ lev ∧ own p ≠ 0 ∧ ∀ w, w < 2 ^ lev → (own w = own p ↔ p ≤ w ∧ w < p + 2 ^ k)
  owned : ∀ w, w < 2 ^ lev → own w ≠ 0 → ∃ p k : Nat, s.tk (p : Int) = some k ∧ p ≤ w ∧ w < p + 2 ^ k
  ids : ∀ w, w < 2 ^ lev → 0 ≤ own w ∧ own w ≤ c
theorem BInv.start (lev : Nat) : BInv lev (startB lev) (fun _ => 0) 0 := by
  have key : ∀ k x, (startB lev).fr k x = true → k = lev ∧ x = 0 := fun k x h => by simpa [startB] using h
  refine ⟨⟨fun k x h => ?_, fun k x h => ?_, fun k x h => ?_, fun k x j y w h1 h2 _ _ _ _ => ?_, fun k x hk h1 _ => ?_⟩, fun w hw => ?_, (fun x k h => by cases h), fun w _ h => absurd rfl h, fun _ _ => ⟨Int.le_refl _, Int.le_refl _⟩⟩
  · obtain ⟨rfl, rfl⟩ := key k x h; exact Nat.le_refl _
  · obtain ⟨rfl, rfl⟩ := key k x h; exact Nat.zero_mod _
  · obtain ⟨rfl, rfl⟩ := key k x h; omega
  · obtain ⟨rfl, rfl⟩ := key k x h1
    obtain ⟨rfl, rfl⟩ := key j y h2
    exact ⟨rfl, rfl⟩
  · have := (key k x h1).1; omega
  · simp only [true_iff]
    exact ⟨lev, 0, by simp [startB], Nat.zero_le _, by omega⟩
theorem BInv.more {lev : Nat} {s : BSt} {own : Nat → Int} {c d : Int} (h : BInv lev s own c) (hcd : c ≤ d) : BInv lev s own d :=
  ⟨h.p, h.free, h.taken, h.owned, fun w hw => ⟨(h.ids w hw).1, by have := (h.ids w hw).2; omega⟩⟩
theorem minAt_some {f : Nat → Bool} {N p : Nat} (h : minAt f N = some p) : p < N ∧ f p = true ∧ ∀ q, q < p → f q = false := by
  unfold minAt at h
  obtain ⟨h1, ⟨i, hi, he, h3⟩⟩ := List.find?_eq_some_iff_getElem.1 h
  rw [List.getElem_range] at he
  subst he
  rw [List.length_range] at hi
  refine ⟨hi, h1, fun q hq => ?_⟩
  have := h3 q hq
  simpa using this
theorem minAt_none {f : Nat → Bool} {N : Nat} (h : minAt f N = none) : ∀ q, q < N → f q = false := by
  intro q hq
  unfold minAt at h
  have := List.find?_eq_none.1 h q (List.mem_range.2 hq)
  simpa using this
theorem levelB_some {lev need k : Nat} {fr : Fr} (h : levelB lev need fr = some k) : k ≤ lev ∧ need ≤ k ∧ (∃ p, minAt (fr k) (2 ^ lev) = some p) ∧ ∀ j, need ≤ j → j < k → minAt (fr j) (2 ^ lev) = none := by
  unfold levelB at h
  obtain ⟨h1, ⟨i, hi, he, h3⟩⟩ := List.find?_eq_some_iff_getElem.1 h
  rw [List.getElem_range] at he
  subst he
  rw [List.length_range] at hi
  rw [Bool.and_eq_true, decide_eq_true_eq] at h1
  refine ⟨by omega, h1.1, Option.isSome_iff_exists.1 h1.2, fun j hj hji => ?_⟩
  have h4 := h3 j hji
  rw [List.getElem_range] at h4
  simp only [hj, decide_true, Bool.true_and, Option.not_isSome, Option.isNone_iff_eq_none] at h4
  simpa using h4
theorem levelB_none {lev need : Nat} {fr : Fr} (h : levelB lev need fr = none) : ∀ j, need ≤ j → j ≤ lev → minAt (fr j) (2 ^ lev) = none := by
  intro j hj hl
  unfold levelB at h
  have := List.find?_eq_none.1 h j (List.mem_range.2 (by omega))
  simp only [hj, decide_true, Bool.true_and] at this
  simpa using this
theorem takeB_is {lev : Nat} {s s' : BSt} {n p : Nat} (h : takeB lev s n = some (p, s')) : ∃ k, levelB lev (needB n) s.fr = some k ∧ minAt (s.fr k) (2 ^ lev) = some p ∧ s' = ⟨splitB s.fr (needB n) k p, fun x => if x = (p : Int) then some (needB n) else s.tk x⟩ := by
  unfold takeB at h
  split at h
  · cases h
  · rename_i k hk
    split at h
    · cases h
    · rename_i q hq
      simp only [Option.some.injEq, Prod.mk.injEq] at h
      obtain ⟨rfl, rfl⟩ := h
      exact ⟨k, hk, hq, rfl⟩
theorem BInv.take {lev : Nat} {s s' : BSt} {own : Nat → Int} {c : Int} {n p : Nat} (h : BInv lev s own c) (hc : 0 ≤ c) (ht : takeB lev s n = some (p, s')) :
    p % 2 ^ needB n = 0 ∧ p + 2 ^ needB n ≤ 2 ^ lev ∧ (∀ w, p ≤ w → w < p + 2 ^ needB n → own w = 0) ∧ BInv lev s' (fun w => if p ≤ w ∧ w < p + 2 ^ needB n then c + 1 else own w) (c + 1) := by
  obtain ⟨k, hk, hm, rfl⟩ := takeB_is ht
  obtain ⟨hkl, hnk, _, _⟩ := levelB_some hk
  obtain ⟨hpl, hfp, _⟩ := minAt_some hm
  have he := h.p.en k p hfp
  have ha := h.p.al k p hfp
  have hpw := pow_mono hnk
  have hM := Nat.two_pow_pos (needB n)
  generalize needB n = m at *
  have h0 : ∀ w, p ≤ w → w < p + 2 ^ m → own w = 0 := fun w h1 h2 => (h.free w (by omega)).2 ⟨k, p, hfp, h1, by omega⟩
  obtain ⟨r1, r2⟩ := split_inv h.p hnk hfp
  refine ⟨al_down hnk ha, by omega, h0, r1, ?_, ?_, ?_, ?_⟩
  · intro w hw
    rw [r2 w]
    by_cases hin : p ≤ w ∧ w < p + 2 ^ m
    · rw [if_pos hin]
      exact ⟨fun h1 => by omega, fun h1 => absurd hin h1.2⟩
    · rw [if_neg hin, h.free w hw]
      exact ⟨fun h1 => ⟨h1, hin⟩, fun h1 => h1.1⟩
  · intro x j hx
    simp only at hx
    by_cases hxb : x = (p : Int)
    · rw [if_pos hxb] at hx
      cases hx
      refine ⟨p, hxb, by omega, al_down hnk ha, by omega, ?_, ?_⟩
      · rw [if_pos ⟨Nat.le_refl _, by omega⟩]; omega
      · intro w hw
        rw [if_pos (show p ≤ p ∧ p < p + 2 ^ m from ⟨Nat.le_refl _, by omega⟩)]
        by_cases hin : p ≤ w ∧ w < p + 2 ^ m
        · rw [if_pos hin]; exact ⟨fun _ => hin, fun _ => rfl⟩
        · rw [if_neg hin]
          have := (h.ids w hw).2
          exact ⟨fun h1 => by omega, fun h1 => absurd h1 hin⟩
    · rw [if_neg hxb] at hx
      obtain ⟨q, rfl, h1, h2, h3, h4, h5⟩ := h.taken x j hx
      have hMj := Nat.two_pow_pos j
      have hqn : ¬ (p ≤ q ∧ q < p + 2 ^ m) := fun hin => h4 (h0 q hin.1 hin.2)
      refine ⟨q, rfl, h1, h2, h3, by rw [if_neg hqn]; exact h4, fun w hw => ?_⟩
      rw [if_neg hqn]
      by_cases hin : p ≤ w ∧ w < p + 2 ^ m
      · rw [if_pos hin]
        have h6 := (h.ids q (by omega)).2
        constructor
        · intro h7; omega
        · intro h7
          have := (h5 w hw).2 h7
          have h8 := h0 w hin.1 hin.2
          rw [h8] at this; exact absurd this.symm h4
      · rw [if_neg hin]; exact h5 w hw
  · intro w hw hne
    simp only at hne ⊢
    by_cases hin : p ≤ w ∧ w < p + 2 ^ m
    · exact ⟨p, m, by rw [if_pos rfl], hin.1, hin.2⟩
    · rw [if_neg hin] at hne
      obtain ⟨q, j, h1, h2, h3⟩ := h.owned w hw hne
      refine ⟨q, j, ?_, h2, h3⟩
      rw [if_neg]
      · exact h1
      · intro e
        obtain ⟨q2, e2, _, _, _, h4, h5⟩ := h.taken _ j h1
        have e3 : q2 = p := by omega
        subst e3
        exact h4 (h0 _ (Nat.le_refl _) (by omega))
  · intro w hw
    have := h.ids w hw
    by_cases hin : p ≤ w ∧ w < p + 2 ^ m
    · rw [if_pos hin]; omega
    · rw [if_neg hin]; omega
theorem BInv.give {lev : Nat} (hl : lev ≤ 7) {s s' : BSt} {own : Nat → Int} {c : Int} {x : Int} (h : BInv lev s own c) (hg : giveB lev s x = some s') :
    ∃ p k : Nat, x = (p : Int) ∧ s.tk x = some k ∧ p < 2 ^ lev ∧ own p ≠ 0 ∧ BInv lev s' (fun w => if own w = own p then 0 else own w) c := by
  unfold giveB at hg
  split at hg
  · cases hg
  · rename_i k hx
    cases hg
    obtain ⟨p, rfl, h1, h2, h3, h4, h5⟩ := h.taken x k hx
    have hM := Nat.two_pow_pos k
    rw [Int.toNat_natCast]
    have hd : ∀ w, p ≤ w → w < p + 2 ^ k → ¬ Cov s.fr w := fun w h6 h7 h8 => by
      have h9 := (h.free w (by omega)).2 h8
      have h10 := (h5 w (by omega)).2 ⟨h6, h7⟩
      rw [h9] at h10; exact h4 h10.symm
    obtain ⟨r1, r2⟩ := join_inv hl (lev - k) s.fr k p h.p rfl h1 h2 h3 hd
    refine ⟨p, k, rfl, hx, by omega, h4, r1, ?_, ?_, ?_, ?_⟩
    · intro w hw
      simp only
      rw [r2 w, ← h.free w hw, ← h5 w hw]
      by_cases e : own w = own p
      · rw [if_pos e]; exact ⟨fun _ => .inr e, fun _ => rfl⟩
      · rw [if_neg e]; exact ⟨fun h5 => .inl h5, fun h5 => h5.resolve_right e⟩
    · intro y j hy
      simp only at hy
      by_cases e : y = (p : Int)
      · rw [if_pos e] at hy; cases hy
      · rw [if_neg e] at hy
        obtain ⟨q, rfl, h6, h7, h8, h9, h10⟩ := h.taken y j hy
        have hMj := Nat.two_pow_pos j
        have hne : own q ≠ own p := by
          intro e2
          have h11 := (h5 q (by omega)).1 e2
          have h12 := (h10 p (by omega)).1 e2.symm
          omega
        refine ⟨q, rfl, h6, h7, h8, by rw [if_neg hne]; exact h9, fun w hw => ?_⟩
        rw [if_neg hne]
        by_cases e3 : own w = own p
        · rw [if_pos e3]
          refine ⟨fun e4 => absurd e4.symm h9, fun e4 => ?_⟩
          have := (h10 w hw).2 e4
          rw [e3] at this; exact absurd this.symm hne
        · rw [if_neg e3]; exact h10 w hw
    · intro w hw hne
      simp only at hne ⊢
      by_cases e : own w = own p
      · rw [if_pos e] at hne; exact absurd rfl hne
      · rw [if_neg e] at hne
        obtain ⟨q, j, h6, h7, h8⟩ := h.owned w hw hne
        refine ⟨q, j, ?_, h7, h8⟩
        rw [if_neg]
        · exact h6
        · intro e2
          obtain ⟨q', e3, _, _, h9, _, h10⟩ := h.taken _ j h6
          have e4 : q = p := by omega
          have e5 : q' = p := by omega
          subst e5
          exact e ((h10 w hw).2 (by omega))
    · intro w hw
      have := h.ids w hw
      have := h.ids p (by omega)
      by_cases e : own w = own p
      · rw [if_pos e]; omega
      · rw [if_neg e]; omega
/-- Whose each word is behind the first k asks. -/
def ownB (lev : Nat) (l : List (Int × Int)) : Nat → Nat → Int
  | 0, _ => 0
  | i + 1, k =>
    let a := l.getD i (0, 0)
    if codeB lev l i ≠ 0 then ownB lev l i k
    else if a.1 = 2 then (if ownB lev l i k = ownB lev l i a.2.toNat then 0 else ownB lev l i k)
    else if atB lev l i ≤ k ∧ k < atB lev l i + 2 ^ needB a.2.toNat then (i : Int) + 1 else ownB lev l i k
theorem ownB_succ (lev : Nat) (l : List (Int × Int)) (i k : Nat) : ownB lev l (i + 1) k = if codeB lev l i ≠ 0 then ownB lev l i k
    else if (l.getD i (0, 0)).1 = 2 then (if ownB lev l i k = ownB lev l i (l.getD i (0, 0)).2.toNat then 0 else ownB lev l i k)
    else if atB lev l i ≤ k ∧ k < atB lev l i + 2 ^ needB (l.getD i (0, 0)).2.toNat then (i : Int) + 1 else ownB lev l i k := rfl
/-- One ask, told in full. -/
inductive AskedB (lev : Nat) (s : BSt) (a : Int × Int) : BSt → Int → Nat → Prop
  | took (s' : BSt) (p : Nat) : a.1 = 1 → 1 ≤ a.2 → a.2 ≤ ((2 ^ lev : Nat) : Int) → takeB lev s a.2.toNat = some (p, s') → AskedB lev s a s' 0 p
  | full : a.1 = 1 → 1 ≤ a.2 → a.2 ≤ ((2 ^ lev : Nat) : Int) → takeB lev s a.2.toNat = none → AskedB lev s a s 6 0
  | range : a.1 = 1 → (a.2 < 1 ∨ ((2 ^ lev : Nat) : Int) < a.2) → AskedB lev s a s 3 0
  | gave (s' : BSt) : a.1 = 2 → giveB lev s a.2 = some s' → AskedB lev s a s' 0 0
  | arg : a.1 = 2 → giveB lev s a.2 = none → AskedB lev s a s 2 0
  | kind : a.1 ≠ 1 → a.1 ≠ 2 → AskedB lev s a s 5 0
theorem stepB_asked (lev : Nat) (s : BSt) (a : Int × Int) : AskedB lev s a (stepB lev s a).1 (stepB lev s a).2.1 (stepB lev s a).2.2 := by
  unfold stepB
  by_cases h1 : a.1 = 1
  · rw [if_pos h1]
    by_cases h2 : a.2 < 1 ∨ ((2 ^ lev : Nat) : Int) < a.2
    · rw [if_pos h2]; exact .range h1 h2
    · rw [if_neg h2]
      cases ht : takeB lev s a.2.toNat with
      | none => exact .full h1 (by omega) (by omega) ht
      | some x => obtain ⟨p, s'⟩ := x; exact .took s' p h1 (by omega) (by omega) ht
  · rw [if_neg h1]
    by_cases h2 : a.1 = 2
    · rw [if_pos h2]
      cases hg : giveB lev s a.2 with
      | none => exact .arg h2 hg
      | some s' => exact .gave s' h2 hg
    · rw [if_neg h2]; exact .kind h1 h2
theorem buddyInv {lev : Nat} (hl : lev ≤ 7) (l : List (Int × Int)) : ∀ k, k ≤ l.length → BInv lev (stateB lev l k) (ownB lev l k) k
  | 0, _ => by
    have := BInv.start lev
    simpa [stateB, ownB] using this
  | k + 1, hk => by
    have ih := buddyInv hl l k (by omega)
    have ha : l[k]? = some (l.getD k (0, 0)) := by rw [List.getD_eq_getElem?_getD, List.getElem?_eq_getElem (by omega)]; rfl
    rw [stateB_succ ha]
    have hA := stepB_asked lev (stateB lev l k) (l.getD k (0, 0))
    have hc := codeB_at (lev := lev) ha
    have hat := atB_at (lev := lev) ha
    have hown : ownB lev l (k + 1) = fun j => if codeB lev l k ≠ 0 then ownB lev l k j
      else if (l.getD k (0, 0)).1 = 2 then (if ownB lev l k j = ownB lev l k (l.getD k (0, 0)).2.toNat then 0 else ownB lev l k j)
      else if atB lev l k ≤ j ∧ j < atB lev l k + 2 ^ needB (l.getD k (0, 0)).2.toNat then (k : Int) + 1 else ownB lev l k j := rfl
    rw [hown]
    clear hown
    rw [hc, hat]
    generalize (stepB lev (stateB lev l k) (l.getD k (0, 0))).1 = s' at *
    generalize (stepB lev (stateB lev l k) (l.getD k (0, 0))).2.1 = c at *
    generalize (stepB lev (stateB lev l k) (l.getD k (0, 0))).2.2 = p at *
    have hcast : (((k + 1 : Nat)) : Int) = (k : Int) + 1 := by omega
    rw [hcast]
    cases hA with
    | took s1 p1 h1 h2 h3 h4 =>
      have hne : ¬ (l.getD k (0, 0)).1 = 2 := by omega
      simp only [ne_eq, not_true_eq_false, if_false, hne]
      exact (ih.take (by omega) h4).2.2.2
    | full => simpa using ih.more (by omega)
    | range => simpa using ih.more (by omega)
    | gave s1 h1 h2 =>
      obtain ⟨q, n, e, _, _, _, hI⟩ := ih.give hl h2
      simp only [ne_eq, not_true_eq_false, if_false, h1, if_true]
      rw [e, Int.toNat_natCast]
      exact hI.more (by omega)
    | arg => simpa using ih.more (by omega)
    | kind => simpa using ih.more (by omega)
/-! ### what was told of the first k asks -/
def codesB (lev : Nat) (l : List (Int × Int)) (k : Nat) : List Int := (List.range k).map (codeB lev l)
def atsB (lev : Nat) (l : List (Int × Int)) (k : Nat) : List Int := (List.range k).map fun i => (atB lev l i : Int)
theorem codesB_succ (lev : Nat) (l : List (Int × Int)) (k : Nat) : codesB lev l (k + 1) = codesB lev l k ++ [codeB lev l k] := by unfold codesB; rw [List.range_succ, List.map_append]; rfl
theorem atsB_succ (lev : Nat) (l : List (Int × Int)) (k : Nat) : atsB lev l (k + 1) = atsB lev l k ++ [(atB lev l k : Int)] := by unfold atsB; rw [List.range_succ, List.map_append]; rfl
theorem codesB_len (lev : Nat) (l : List (Int × Int)) (k : Nat) : (codesB lev l k).length = k := by simp [codesB]
theorem atsB_len (lev : Nat) (l : List (Int × Int)) (k : Nat) : (atsB lev l k).length = k := by simp [atsB]
theorem codesB_get {lev : Nat} {l : List (Int × Int)} {n k : Nat} (h : k < n) : (codesB lev l n)[k]? = some (codeB lev l k) := by simp [codesB, h]
theorem atsB_get {lev : Nat} {l : List (Int × Int)} {n k : Nat} (h : k < n) : (atsB lev l n)[k]? = some (atB lev l k : Int) := by simp [atsB, h]
end Go.Proofs.Ytmbcfbehchpfbaa
