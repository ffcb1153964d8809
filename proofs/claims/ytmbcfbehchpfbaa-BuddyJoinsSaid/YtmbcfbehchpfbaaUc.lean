/- Free words: whose each word is. Plain. -/
import Derived.Test.YtmbcfbehchpfbaaUb
namespace Go.Proofs.Ytmbcfbehchpfbaa

structure FInv (size : Nat) (s : FSt) (own : Nat → Int) (c : Int) : Prop where
  rise : Rise s.fr
  pos : ∀ b ∈ s.fr, 1 ≤ b.2
  ends : ∀ b ∈ s.fr, b.1 + b.2 ≤ size
  free : ∀ k, k < size → (own k = 0 ↔ InB s.fr k)
  taken : ∀ x n, s.tk x = some n → ∃ p : Nat, x = (p : Int) ∧ 1 ≤ n ∧ p + n ≤ size ∧ own p ≠ 0 ∧ ∀ k, k < size → (own k = own p ↔ p ≤ k ∧ k < p + n)
  owned : ∀ k, k < size → own k ≠ 0 → ∃ p n : Nat, s.tk (p : Int) = some n ∧ p ≤ k ∧ k < p + n
  ids : ∀ k, k < size → 0 ≤ own k ∧ own k ≤ c
  last : s.last ≤ size
theorem FInv.start {size : Nat} (h : 1 ≤ size) : FInv size (startF size) (fun _ => 0) 0 := by
  refine ⟨List.pairwise_singleton _ _, ?_, ?_, ?_, ?_, ?_, ?_, Nat.zero_le _⟩
  · intro b hb
    simp [startF] at hb; subst hb; exact h
  · intro b hb
    simp [startF] at hb; subst hb; simp
  · intro k hk
    simp only [true_iff]
    exact ⟨(0, size), by simp [startF], Nat.zero_le _, by simpa using hk⟩
  · intro x n h; cases h
  · intro k _ h; exact absurd rfl h
  · intro k _; exact ⟨Int.le_refl _, Int.le_refl _⟩
theorem FInv.more {size : Nat} {s : FSt} {own : Nat → Int} {c d : Int} (h : FInv size s own c) (hcd : c ≤ d) : FInv size s own d :=
  ⟨h.rise, h.pos, h.ends, h.free, h.taken, h.owned, fun k hk => ⟨(h.ids k hk).1, by have := (h.ids k hk).2; omega⟩, h.last⟩
theorem rise_len : ∀ {fr : List (Nat × Nat)} {m size : Nat}, Rise fr → (∀ b ∈ fr, 1 ≤ b.2) → (∀ b ∈ fr, b.1 + b.2 ≤ size) → (∀ b ∈ fr, m ≤ b.1) → m ≤ size + 1 → 2 * fr.length + m ≤ size + 1
  | [], _, _, _, _, _, _, h => by simpa using h
  | x :: fr, m, size, hr, hp, he, hm, _ => by
    unfold Rise at hr
    rw [List.pairwise_cons] at hr
    have h1 := hp x List.mem_cons_self
    have h2 := he x List.mem_cons_self
    have h3 := hm x List.mem_cons_self
    have := rise_len (m := x.1 + x.2 + 1) hr.2 (fun b hb => hp b (List.mem_cons_of_mem _ hb)) (fun b hb => he b (List.mem_cons_of_mem _ hb)) (fun b hb => by have := hr.1 b hb; omega) (by omega)
    rw [List.length_cons]; omega
theorem FInv.len {size : Nat} {s : FSt} {own : Nat → Int} {c : Int} (h : FInv size s own c) : 2 * s.fr.length ≤ size + 1 := by
  have := rise_len (m := 0) h.rise h.pos h.ends (fun _ _ => Nat.zero_le _) (Nat.zero_le _)
  omega
theorem take_is {pol : Int} {s s' : FSt} {n p : Nat} (h : takeF pol s n = some (p, s')) : ∃ i b, pickTo pol s.last n s.fr s.fr.length = some i ∧ s.fr[i]? = some b ∧ n ≤ b.2 ∧ p = b.1 ∧ s' = ⟨if b.2 = n then s.fr.eraseIdx i else s.fr.set i (b.1 + n, b.2 - n), fun x => if x = (b.1 : Int) then some n else s.tk x, b.1 + n⟩ := by
  unfold takeF at h
  split at h
  · cases h
  · rename_i i hp
    obtain ⟨h1, h2, _⟩ := pick_some hp
    have hg : s.fr[i]? = some (s.fr.getD i (0, 0)) := by rw [List.getD_eq_getElem?_getD, List.getElem?_eq_getElem h1]; rfl
    simp only [Option.some.injEq, Prod.mk.injEq] at h
    exact ⟨i, _, hp, hg, h2, h.1.symm, h.2.symm⟩
theorem FInv.take {size : Nat} {pol : Int} {s s' : FSt} {own : Nat → Int} {c : Int} {n p : Nat} (h : FInv size s own c) (hc : 0 ≤ c) (hn : 1 ≤ n) (ht : takeF pol s n = some (p, s')) :
    p + n ≤ size ∧ (∀ k, p ≤ k → k < p + n → own k = 0) ∧ FInv size s' (fun k => if p ≤ k ∧ k < p + n then c + 1 else own k) (c + 1) := by
  obtain ⟨i, b, hp, hb, hle, rfl, rfl⟩ := take_is ht
  have hbm := List.mem_of_getElem? hb
  have he := h.ends b hbm
  have h0 : ∀ k, b.1 ≤ k → k < b.1 + n → own k = 0 := fun k h1 h2 => (h.free k (by omega)).2 ⟨b, hbm, h1, by omega⟩
  obtain ⟨r1, r2, r3⟩ := take_rise h.rise h.pos hb hn hle
  refine ⟨by omega, h0, r1, r2, ?_, ?_, ?_, ?_, ?_, by simp only; omega⟩
  · intro x hx
    have hin := (r3 (x.1 + x.2 - 1)).1 ⟨x, hx, by have := r2 x hx; omega, by have := r2 x hx; omega⟩
    obtain ⟨⟨y, hy, h1, h2⟩, _⟩ := hin
    have := h.ends y hy
    have := r2 x hx
    omega
  · intro k hk
    rw [r3 k]
    by_cases hin : b.1 ≤ k ∧ k < b.1 + n
    · rw [if_pos hin]
      constructor
      · intro h1; omega
      · intro h1; exact absurd hin h1.2
    · rw [if_neg hin, h.free k hk]
      exact ⟨fun h1 => ⟨h1, hin⟩, fun h1 => h1.1⟩
  · intro x m hx
    simp only at hx
    by_cases hxb : x = (b.1 : Int)
    · rw [if_pos hxb] at hx
      cases hx
      refine ⟨b.1, hxb, hn, by omega, ?_, ?_⟩
      · rw [if_pos ⟨Nat.le_refl _, by omega⟩]; omega
      · intro k hk
        rw [if_pos (show b.1 ≤ b.1 ∧ b.1 < b.1 + n from ⟨Nat.le_refl _, by omega⟩)]
        by_cases hin : b.1 ≤ k ∧ k < b.1 + n
        · rw [if_pos hin]; exact ⟨fun _ => hin, fun _ => rfl⟩
        · rw [if_neg hin]
          have := (h.ids k hk).2
          exact ⟨fun h1 => by omega, fun h1 => absurd h1 hin⟩
    · rw [if_neg hxb] at hx
      obtain ⟨p, rfl, h1, h2, h3, h4⟩ := h.taken x m hx
      have hpn : ¬ (b.1 ≤ p ∧ p < b.1 + n) := fun hin => h3 (h0 p hin.1 hin.2)
      refine ⟨p, rfl, h1, h2, by rw [if_neg hpn]; exact h3, fun k hk => ?_⟩
      rw [if_neg hpn]
      by_cases hin : b.1 ≤ k ∧ k < b.1 + n
      · rw [if_pos hin]
        have h5 := (h.ids p (by omega)).2
        constructor
        · intro h6; omega
        · intro h6
          have := (h4 k hk).2 h6
          have h7 := h0 k hin.1 hin.2
          rw [h7] at this; exact absurd this.symm h3
      · rw [if_neg hin]; exact h4 k hk
  · intro k hk hne
    simp only at hne ⊢
    by_cases hin : b.1 ≤ k ∧ k < b.1 + n
    · exact ⟨b.1, n, by rw [if_pos rfl], hin.1, hin.2⟩
    · rw [if_neg hin] at hne
      obtain ⟨p, m, h1, h2, h3⟩ := h.owned k hk hne
      refine ⟨p, m, ?_, h2, h3⟩
      rw [if_neg]
      · exact h1
      · intro e
        obtain ⟨q, e2, h4, h5, h6, h7⟩ := h.taken _ m h1
        have e3 : q = b.1 := by omega
        subst e3
        exact h6 (h0 _ (Nat.le_refl _) (by omega))
  · intro k hk
    have := h.ids k hk
    by_cases hin : b.1 ≤ k ∧ k < b.1 + n
    · rw [if_pos hin]; omega
    · rw [if_neg hin]; omega
theorem FInv.give {size : Nat} {s s' : FSt} {own : Nat → Int} {c : Int} {x : Int} (h : FInv size s own c) (hg : giveF s x = some s') :
    ∃ p n : Nat, x = (p : Int) ∧ s.tk x = some n ∧ p < size ∧ own p ≠ 0 ∧ FInv size s' (fun k => if own k = own p then 0 else own k) c := by
  unfold giveF at hg
  split at hg
  · cases hg
  · rename_i n hx
    cases hg
    obtain ⟨p, rfl, h1, h2, h3, h4⟩ := h.taken x n hx
    rw [Int.toNat_natCast]
    have hd : ∀ k, p ≤ k → k < p + n → ¬ InB s.fr k := fun k h5 h6 h7 => by
      have h8 := (h.free k (by omega)).2 h7
      have h9 := (h4 k (by omega)).2 ⟨h5, h6⟩
      rw [h8] at h9; exact h3 h9.symm
    obtain ⟨r1, r2, r3⟩ := give_rise h.rise h.pos h1 hd
    refine ⟨p, n, rfl, hx, by omega, h3, r1, r2, ?_, ?_, ?_, ?_, ?_, h.last⟩
    · intro b hb
      have hb1 := r2 b hb
      rcases (r3 (b.1 + b.2 - 1)).1 ⟨b, hb, by omega, by omega⟩ with ⟨y, hy, h5, h6⟩ | h5
      · have := h.ends y hy; omega
      · omega
    · intro k hk
      simp only
      rw [r3 k, ← h.free k hk, ← h4 k hk]
      by_cases e : own k = own p
      · rw [if_pos e]; exact ⟨fun _ => .inr e, fun _ => rfl⟩
      · rw [if_neg e]; exact ⟨fun h5 => .inl h5, fun h5 => h5.resolve_right e⟩
    · intro y m hy
      simp only at hy
      by_cases e : y = (p : Int)
      · rw [if_pos e] at hy; cases hy
      · rw [if_neg e] at hy
        obtain ⟨q, rfl, h5, h6, h7, h8⟩ := h.taken y m hy
        have hne : own q ≠ own p := by
          intro e2
          have h9 := (h4 q (by omega)).1 e2
          have h10 := (h8 p (by omega)).1 e2.symm
          omega
        refine ⟨q, rfl, h5, h6, by rw [if_neg hne]; exact h7, fun k hk => ?_⟩
        rw [if_neg hne]
        by_cases e3 : own k = own p
        · rw [if_pos e3]
          refine ⟨fun e4 => absurd e4.symm h7, fun e4 => ?_⟩
          have := (h8 k hk).2 e4
          rw [e3] at this; exact absurd this.symm hne
        · rw [if_neg e3]; exact h8 k hk
    · intro k hk hne
      simp only at hne ⊢
      by_cases e : own k = own p
      · rw [if_pos e] at hne; exact absurd rfl hne
      · rw [if_neg e] at hne
        obtain ⟨q, m, h5, h6, h7⟩ := h.owned k hk hne
        refine ⟨q, m, ?_, h6, h7⟩
        rw [if_neg]
        · exact h5
        · intro e2
          obtain ⟨q', e3, _, _, _, h8⟩ := h.taken _ m h5
          have e4 : q = p := by omega
          have e5 : q' = p := by omega
          subst e5
          exact e ((h8 k hk).2 (by omega))
    · intro k hk
      have := h.ids k hk
      have := h.ids p (by omega)
      by_cases e : own k = own p
      · rw [if_pos e]; omega
      · rw [if_neg e]; omega
/-- Whose each word is behind the first k asks. -/
def ownF (size : Nat) (pol : Int) (l : List (Int × Int)) : Nat → Nat → Int
  | 0, _ => 0
  | i + 1, k =>
    let a := l.getD i (0, 0)
    if codeF size pol l i ≠ 0 then ownF size pol l i k
    else if a.1 = 2 then (if ownF size pol l i k = ownF size pol l i a.2.toNat then 0 else ownF size pol l i k)
    else if atF size pol l i ≤ k ∧ k < atF size pol l i + a.2.toNat then (i : Int) + 1 else ownF size pol l i k
/-- One ask, told in full. -/
inductive Asked (size : Nat) (pol : Int) (s : FSt) (a : Int × Int) : FSt → Int → Nat → Prop
  | took (s' : FSt) (p : Nat) : a.1 = 1 → 1 ≤ a.2 → a.2 ≤ size → takeF pol s a.2.toNat = some (p, s') → Asked size pol s a s' 0 p
  | full : a.1 = 1 → 1 ≤ a.2 → a.2 ≤ size → takeF pol s a.2.toNat = none → Asked size pol s a s 6 0
  | range : a.1 = 1 → (a.2 < 1 ∨ (size : Int) < a.2) → Asked size pol s a s 3 0
  | gave (s' : FSt) : a.1 = 2 → giveF s a.2 = some s' → Asked size pol s a s' 0 0
  | arg : a.1 = 2 → giveF s a.2 = none → Asked size pol s a s 2 0
  | kind : a.1 ≠ 1 → a.1 ≠ 2 → Asked size pol s a s 5 0
theorem step_asked (size : Nat) (pol : Int) (s : FSt) (a : Int × Int) : Asked size pol s a (stepF size pol s a).1 (stepF size pol s a).2.1 (stepF size pol s a).2.2 := by
  unfold stepF
  by_cases h1 : a.1 = 1
  · rw [if_pos h1]
    by_cases h2 : a.2 < 1 ∨ (size : Int) < a.2
    · rw [if_pos h2]; exact .range h1 h2
    · rw [if_neg h2]
      cases ht : takeF pol s a.2.toNat with
      | none => exact .full h1 (by omega) (by omega) ht
      | some x => obtain ⟨p, s'⟩ := x; exact .took s' p h1 (by omega) (by omega) ht
  · rw [if_neg h1]
    by_cases h2 : a.1 = 2
    · rw [if_pos h2]
      cases hg : giveF s a.2 with
      | none => exact .arg h2 hg
      | some s' => exact .gave s' h2 hg
    · rw [if_neg h2]; exact .kind h1 h2
theorem freeInv {size : Nat} (hs : 1 ≤ size) (pol : Int) (l : List (Int × Int)) : ∀ k, k ≤ l.length → FInv size (stateF size pol l k) (ownF size pol l k) k
  | 0, _ => by
    have := FInv.start hs
    simpa [stateF, ownF] using this
  | k + 1, hk => by
    have ih := freeInv hs pol l k (by omega)
    have ha : l[k]? = some (l.getD k (0, 0)) := by rw [List.getD_eq_getElem?_getD, List.getElem?_eq_getElem (by omega)]; rfl
    rw [stateF_succ ha]
    have hA := step_asked size pol (stateF size pol l k) (l.getD k (0, 0))
    have hc := codeF_at (size := size) (pol := pol) ha
    have hat := atF_at (size := size) (pol := pol) ha
    have hown : ownF size pol l (k + 1) = fun j => if codeF size pol l k ≠ 0 then ownF size pol l k j
      else if (l.getD k (0, 0)).1 = 2 then (if ownF size pol l k j = ownF size pol l k (l.getD k (0, 0)).2.toNat then 0 else ownF size pol l k j)
      else if atF size pol l k ≤ j ∧ j < atF size pol l k + (l.getD k (0, 0)).2.toNat then (k : Int) + 1 else ownF size pol l k j := rfl
    rw [hown]
    clear hown
    rw [hc, hat]
    generalize (stepF size pol (stateF size pol l k) (l.getD k (0, 0))).1 = s' at *
    generalize (stepF size pol (stateF size pol l k) (l.getD k (0, 0))).2.1 = c at *
    generalize (stepF size pol (stateF size pol l k) (l.getD k (0, 0))).2.2 = p at *
    have hcast : (((k + 1 : Nat)) : Int) = (k : Int) + 1 := by omega
    rw [hcast]
    cases hA with
    | took s1 p1 h1 h2 h3 h4 =>
      have hne : ¬ (l.getD k (0, 0)).1 = 2 := by omega
      simp only [ne_eq, not_true_eq_false, if_false, hne]
      exact (ih.take (by omega) (by omega) h4).2.2
    | full => simpa using ih.more (by omega)
    | range => simpa using ih.more (by omega)
    | gave s1 h1 h2 =>
      obtain ⟨q, n, e, _, _, _, hI⟩ := ih.give h2
      simp only [ne_eq, not_true_eq_false, if_false, h1, if_true]
      rw [e, Int.toNat_natCast]
      exact hI.more (by omega)
    | arg => simpa using ih.more (by omega)
    | kind => simpa using ih.more (by omega)
/-! ### what was told of the first k asks -/
def codesF (size : Nat) (pol : Int) (l : List (Int × Int)) (k : Nat) : List Int := (List.range k).map (codeF size pol l)
def atsF (size : Nat) (pol : Int) (l : List (Int × Int)) (k : Nat) : List Int := (List.range k).map fun i => (atF size pol l i : Int)
theorem codesF_succ (size : Nat) (pol : Int) (l : List (Int × Int)) (k : Nat) : codesF size pol l (k + 1) = codesF size pol l k ++ [codeF size pol l k] := by unfold codesF; rw [List.range_succ, List.map_append]; rfl
theorem atsF_succ (size : Nat) (pol : Int) (l : List (Int × Int)) (k : Nat) : atsF size pol l (k + 1) = atsF size pol l k ++ [(atF size pol l k : Int)] := by unfold atsF; rw [List.range_succ, List.map_append]; rfl
theorem codesF_len (size : Nat) (pol : Int) (l : List (Int × Int)) (k : Nat) : (codesF size pol l k).length = k := by simp [codesF]
theorem atsF_len (size : Nat) (pol : Int) (l : List (Int × Int)) (k : Nat) : (atsF size pol l k).length = k := by simp [atsF]
theorem codesF_get {size : Nat} {pol : Int} {l : List (Int × Int)} {n k : Nat} (h : k < n) : (codesF size pol l n)[k]? = some (codeF size pol l k) := by simp [codesF, h]
theorem atsF_get {size : Nat} {pol : Int} {l : List (Int × Int)} {n k : Nat} (h : k < n) : (atsF size pol l n)[k]? = some (atF size pol l k : Int) := by simp [atsF, h]
end Go.Proofs.Ytmbcfbehchpfbaa
