/- Buddies: pieces apart, no twins both free. Plain. -/
import Derived.Test.YtmbcfbehchpfbaaXa
namespace Go.Proofs.Ytmbcfbehchpfbaa

def Cov (fr : Fr) (w : Nat) : Prop := ∃ k x, fr k x = true ∧ x ≤ w ∧ w < x + 2 ^ k
structure PInv (lev : Nat) (fr : Fr) : Prop where
  lv : ∀ k x, fr k x = true → k ≤ lev
  al : ∀ k x, fr k x = true → x % 2 ^ k = 0
  en : ∀ k x, fr k x = true → x + 2 ^ k ≤ 2 ^ lev
  dis : ∀ k x j y w, fr k x = true → fr j y = true → x ≤ w → w < x + 2 ^ k → y ≤ w → w < y + 2 ^ j → k = j ∧ x = y
  nob : ∀ k x, k < lev → fr k x = true → fr k (twinB k x) = true → False
theorem pow_dvd {k j : Nat} (h : k ≤ j) : ∃ c, 2 ^ j = c * 2 ^ k ∧ 1 ≤ c := ⟨2 ^ (j - k), by rw [← Nat.pow_add]; congr 1; omega, Nat.one_le_two_pow⟩
theorem mod_mul {x m : Nat} (h : x % m = 0) : ∃ q, x = q * m := ⟨x / m, by have := Nat.div_add_mod x m; rw [h] at this; rw [Nat.mul_comm]; omega⟩
theorem al_down {x k j : Nat} (h : k ≤ j) (hx : x % 2 ^ j = 0) : x % 2 ^ k = 0 := by
  obtain ⟨c, hc, _⟩ := pow_dvd h
  obtain ⟨q, rfl⟩ := mod_mul hx
  rw [hc, ← Nat.mul_assoc]; exact Nat.mul_mod_left _ _
/-- Pieces that share a word lie the one in the other. -/
theorem nest {k j x y w : Nat} (h : k ≤ j) (hx : x % 2 ^ k = 0) (hy : y % 2 ^ j = 0) (h1 : x ≤ w) (h2 : w < x + 2 ^ k) (h3 : y ≤ w) (h4 : w < y + 2 ^ j) : y ≤ x ∧ x + 2 ^ k ≤ y + 2 ^ j := by
  obtain ⟨c, hc, _⟩ := pow_dvd h
  obtain ⟨a, rfl⟩ := mod_mul hx
  obtain ⟨b, rfl⟩ := mod_mul hy
  rw [hc] at h3 h4 ⊢
  generalize 2 ^ k = M at *
  have e1 : b * (c * M) = (b * c) * M := by rw [Nat.mul_assoc]
  have e2 : b * (c * M) + c * M = (b * c + c) * M := by rw [Nat.add_mul, e1]
  have e3 : a * M + M = (a + 1) * M := by rw [Nat.add_mul, Nat.one_mul]
  rw [e2] at h4 ⊢
  rw [e1] at h3 ⊢
  rw [e3] at h2 ⊢
  have h5 : (b * c) * M < (a + 1) * M := by omega
  have h6 : a * M < (b * c + c) * M := by omega
  have h7 := Nat.lt_of_mul_lt_mul_right h5
  have h8 := Nat.lt_of_mul_lt_mul_right h6
  exact ⟨Nat.mul_le_mul_right _ (by omega), Nat.mul_le_mul_right _ (by omega)⟩
/-- A piece and its twin are the halves of the piece above. -/
theorem twin_par {k x : Nat} (hx : x % 2 ^ k = 0) : (x / 2 ^ (k + 1) * 2 ^ (k + 1)) % 2 ^ (k + 1) = 0 ∧ ((x = x / 2 ^ (k + 1) * 2 ^ (k + 1) ∧ twinB k x = x / 2 ^ (k + 1) * 2 ^ (k + 1) + 2 ^ k) ∨ (x = x / 2 ^ (k + 1) * 2 ^ (k + 1) + 2 ^ k ∧ twinB k x = x / 2 ^ (k + 1) * 2 ^ (k + 1))) := by
  refine ⟨Nat.mul_mod_left _ _, ?_⟩
  obtain ⟨q, rfl⟩ := mod_mul hx
  have hM : 0 < 2 ^ k := Nat.two_pow_pos k
  have e0 : 2 ^ (k + 1) = 2 ^ k * 2 := Nat.pow_succ 2 k
  have e1 : q * 2 ^ k / 2 ^ (k + 1) = q / 2 := by rw [e0, ← Nat.div_div_eq_div_mul, Nat.mul_div_cancel _ hM]
  have e2 : q * 2 ^ k / 2 ^ k = q := Nat.mul_div_cancel _ hM
  unfold twinB
  rw [e1, e2, e0]
  generalize 2 ^ k = M at *
  have e3 : q / 2 * (M * 2) = (q / 2 * 2) * M := by rw [Nat.mul_comm M 2, Nat.mul_assoc]
  rw [e3]
  by_cases h : q % 2 = 0
  · have e4 : q / 2 * 2 = q := by omega
    rw [if_pos h, e4]
    exact .inl ⟨rfl, rfl⟩
  · have e4 : q / 2 * 2 + 1 = q := by omega
    rw [if_neg h]
    have e5 : q * M = (q / 2 * 2) * M + M := by conv => lhs; rw [← e4, Nat.add_mul, Nat.one_mul]
    exact .inr ⟨e5, by omega⟩
theorem twin_al {k x : Nat} (hx : x % 2 ^ k = 0) : twinB k x % 2 ^ k = 0 := by
  obtain ⟨h1, h2⟩ := twin_par hx
  have h3 := al_down (Nat.le_succ k) h1
  rcases h2 with ⟨_, h⟩ | ⟨_, h⟩
  · rw [h, Nat.add_mod_right]; exact h3
  · rw [h]; exact h3
theorem twin_par2 {k p : Nat} (hp : p % 2 ^ (k + 1) = 0) : twinB k p = p + 2 ^ k ∧ twinB k (p + 2 ^ k) = p := by
  obtain ⟨q, rfl⟩ := mod_mul hp
  have hM : 0 < 2 ^ k := Nat.two_pow_pos k
  have e0 : 2 ^ (k + 1) = 2 * 2 ^ k := by rw [Nat.pow_succ]; omega
  unfold twinB
  have e1 : q * 2 ^ (k + 1) / 2 ^ k = q * 2 := by rw [e0, ← Nat.mul_assoc, Nat.mul_div_cancel _ hM]
  have e2 : (q * 2 ^ (k + 1) + 2 ^ k) / 2 ^ k = q * 2 + 1 := by rw [Nat.add_div_right _ hM, e1]
  rw [e1, e2, if_pos (by omega), if_neg (by omega)]
  exact ⟨rfl, by omega⟩
theorem twin_twin {k x : Nat} (hx : x % 2 ^ k = 0) : twinB k (twinB k x) = x := by
  obtain ⟨h1, h2⟩ := twin_par hx
  generalize x / 2 ^ (k + 1) * 2 ^ (k + 1) = p at *
  obtain ⟨h3, h4⟩ := twin_par2 h1
  rcases h2 with ⟨e, h⟩ | ⟨e, h⟩
  · rw [h, h4, e]
  · rw [h, h3, e]
theorem twin_ne {k x : Nat} (hx : x % 2 ^ k = 0) : twinB k x ≠ x := by
  have hM : 0 < 2 ^ k := Nat.two_pow_pos k
  obtain ⟨_, h2⟩ := twin_par hx
  rcases h2 with ⟨e, h⟩ | ⟨e, h⟩ <;> omega
theorem PInv.uncov {lev : Nat} {fr : Fr} (h : PInv lev fr) {k x w : Nat} (hx : fr k x = true) (h1 : x ≤ w) (h2 : w < x + 2 ^ k) : ¬ Cov (setB fr k x false) w := by
  rintro ⟨j, y, hy, h3, h4⟩
  unfold setB at hy
  split at hy
  · cases hy
  · rename_i hne
    obtain ⟨rfl, rfl⟩ := h.dis j y k x w hy hx h3 h4 h1 h2
    exact hne ⟨rfl, rfl⟩
theorem PInv.less {lev : Nat} {fr : Fr} (h : PInv lev fr) (k x : Nat) : PInv lev (setB fr k x false) := by
  have key : ∀ j y, setB fr k x false j y = true → fr j y = true := fun j y hy => by
    unfold setB at hy
    split at hy
    · cases hy
    · exact hy
  exact ⟨fun j y hy => h.lv j y (key j y hy), fun j y hy => h.al j y (key j y hy), fun j y hy => h.en j y (key j y hy), fun j y i z w h1 h2 => h.dis j y i z w (key j y h1) (key i z h2), fun j y hj h1 h2 => h.nob j y hj (key _ _ h1) (key _ _ h2)⟩
theorem cov_less {lev : Nat} {fr : Fr} (h : PInv lev fr) {k x : Nat} (hx : fr k x = true) (w : Nat) : Cov (setB fr k x false) w ↔ Cov fr w ∧ ¬ (x ≤ w ∧ w < x + 2 ^ k) := by
  constructor
  · intro hc
    refine ⟨?_, fun ⟨h1, h2⟩ => h.uncov hx h1 h2 hc⟩
    obtain ⟨j, y, hy, h3⟩ := hc
    refine ⟨j, y, ?_, h3⟩
    unfold setB at hy
    split at hy
    · cases hy
    · exact hy
  · rintro ⟨⟨j, y, hy, h3, h4⟩, hn⟩
    refine ⟨j, y, ?_, h3, h4⟩
    unfold setB
    rw [if_neg]
    · exact hy
    · rintro ⟨rfl, rfl⟩; exact hn ⟨h3, h4⟩
/-- One more free piece. -/
theorem PInv.add {lev : Nat} {fr : Fr} (h : PInv lev fr) {k p : Nat} (hk : k ≤ lev) (ha : p % 2 ^ k = 0) (he : p + 2 ^ k ≤ 2 ^ lev) (hu : ∀ w, p ≤ w → w < p + 2 ^ k → ¬ Cov fr w) (ht : k < lev → fr k (twinB k p) = false) :
    PInv lev (setB fr k p true) ∧ ∀ w, Cov (setB fr k p true) w ↔ Cov fr w ∨ (p ≤ w ∧ w < p + 2 ^ k) := by
  have key : ∀ j y, setB fr k p true j y = true → (j = k ∧ y = p) ∨ fr j y = true := fun j y hy => by
    unfold setB at hy
    split at hy
    · exact .inl ‹_›
    · exact .inr hy
  refine ⟨⟨?_, ?_, ?_, ?_, ?_⟩, fun w => ⟨?_, ?_⟩⟩
  · intro j y hy
    rcases key j y hy with ⟨rfl, rfl⟩ | h1
    · exact hk
    · exact h.lv j y h1
  · intro j y hy
    rcases key j y hy with ⟨rfl, rfl⟩ | h1
    · exact ha
    · exact h.al j y h1
  · intro j y hy
    rcases key j y hy with ⟨rfl, rfl⟩ | h1
    · exact he
    · exact h.en j y h1
  · intro j y i z w h1 h2 h3 h4 h5 h6
    rcases key j y h1 with ⟨rfl, rfl⟩ | h7 <;> rcases key i z h2 with ⟨rfl, rfl⟩ | h8
    · exact ⟨rfl, rfl⟩
    · exact absurd ⟨i, z, h8, h5, h6⟩ (hu w h3 h4)
    · exact absurd ⟨j, y, h7, h3, h4⟩ (hu w h5 h6)
    · exact h.dis j y i z w h7 h8 h3 h4 h5 h6
  · intro j y hj h1 h2
    rcases key j y h1 with ⟨rfl, rfl⟩ | h7 <;> rcases key j (twinB j y) h2 with ⟨hjk, h8⟩ | h8
    · exact twin_ne ha h8
    · rw [ht hj] at h8; cases h8
    · subst hjk
      have := twin_twin (h.al j y h7)
      rw [h8] at this
      have h9 := ht hj
      rw [this, h7] at h9; cases h9
    · exact h.nob j y hj h7 h8
  · rintro ⟨j, y, hy, h1, h2⟩
    rcases key j y hy with ⟨rfl, rfl⟩ | h3
    · exact .inr ⟨h1, h2⟩
    · exact .inl ⟨j, y, h3, h1, h2⟩
  · rintro (⟨j, y, hy, h1, h2⟩ | ⟨h1, h2⟩)
    · refine ⟨j, y, ?_, h1, h2⟩
      unfold setB
      split
      · rfl
      · exact hy
    · exact ⟨k, p, by unfold setB; rw [if_pos ⟨rfl, rfl⟩], h1, h2⟩
/-- A piece that goes back. -/
theorem join_inv {lev : Nat} (hl : lev ≤ 7) : ∀ (f : Nat) (fr : Fr) (k p : Nat), PInv lev fr → f = lev - k → k ≤ lev → p % 2 ^ k = 0 → p + 2 ^ k ≤ 2 ^ lev → (∀ w, p ≤ w → w < p + 2 ^ k → ¬ Cov fr w) →
    PInv lev (joinB lev f fr k p) ∧ ∀ w, Cov (joinB lev f fr k p) w ↔ Cov fr w ∨ (p ≤ w ∧ w < p + 2 ^ k)
  | 0, fr, k, p, h, hf, hk, ha, he, hu => h.add hk ha he hu (fun hlt => by omega)
  | f + 1, fr, k, p, h, hf, hk, ha, he, hu => by
    have hM : 0 < 2 ^ k := Nat.two_pow_pos k
    have hp128 : p < 128 := by have := (pow_le7 hl).1; omega
    obtain ⟨hb1, hb2⟩ := twin_bits p hp128 k (by omega) ha
    unfold joinB
    rw [hb1] at hb2 ⊢
    rw [hb2]
    by_cases hc : k < lev ∧ fr k (twinB k p) = true
    · rw [if_pos hc]
      obtain ⟨hp0, hpar⟩ := twin_par ha
      generalize p / 2 ^ (k + 1) * 2 ^ (k + 1) = p0 at *
      have e2 : 2 ^ (k + 1) = 2 ^ k + 2 ^ k := by rw [Nat.pow_succ]; omega
      have hte := h.en k _ hc.2
      have hin : ∀ w, (p0 ≤ w ∧ w < p0 + 2 ^ (k + 1)) ↔ (p ≤ w ∧ w < p + 2 ^ k) ∨ (twinB k p ≤ w ∧ w < twinB k p + 2 ^ k) := fun w => by
        rw [e2]
        rcases hpar with ⟨h1, h2⟩ | ⟨h1, h2⟩ <;> omega
      have hIH := join_inv hl f (setB fr k (twinB k p) false) (k + 1) p0 (h.less _ _) (by omega) (by omega) hp0 (by rw [e2]; rcases hpar with ⟨h1, h2⟩ | ⟨h1, h2⟩ <;> omega) (fun w h1 h2 hcv => by
        rw [cov_less h hc.2] at hcv
        rcases (hin w).1 ⟨h1, h2⟩ with h3 | h3
        · exact hu w h3.1 h3.2 hcv.1
        · exact hcv.2 h3)
      refine ⟨hIH.1, fun w => ?_⟩
      rw [hIH.2 w, cov_less h hc.2, hin w]
      constructor
      · rintro (⟨h1, _⟩ | h1 | h1)
        · exact .inl h1
        · exact .inr h1
        · exact .inl ⟨k, twinB k p, hc.2, h1.1, h1.2⟩
      · rintro (h1 | h1)
        · by_cases h2 : twinB k p ≤ w ∧ w < twinB k p + 2 ^ k
          · exact .inr (.inr h2)
          · exact .inl ⟨h1, h2⟩
        · exact .inr (.inl h1)
    · rw [if_neg hc]
      refine h.add hk ha he hu fun hlt => ?_
      cases hb : fr k (twinB k p) with
      | false => rfl
      | true => exact absurd ⟨hlt, hb⟩ hc
/-! ### a piece that is split -/
theorem split_cov {p w : Nat} : ∀ {k need : Nat}, need ≤ k → p + 2 ^ need ≤ w → w < p + 2 ^ k → ∃ j, need ≤ j ∧ j < k ∧ p + 2 ^ j ≤ w ∧ w < p + 2 ^ j + 2 ^ j
  | 0, need, h, h1, h2 => by
    obtain rfl : need = 0 := by omega
    omega
  | k + 1, need, h, h1, h2 => by
    have e2 : 2 ^ (k + 1) = 2 ^ k + 2 ^ k := by rw [Nat.pow_succ]; omega
    by_cases hn : need = k + 1
    · subst hn; omega
    · by_cases hw : w < p + 2 ^ k
      · obtain ⟨j, a, b, c⟩ := split_cov (k := k) (by omega) h1 hw
        exact ⟨j, a, by omega, c⟩
      · exact ⟨k, by omega, by omega, by omega, by omega⟩
theorem pow_mono {a b : Nat} (h : a ≤ b) : 2 ^ a ≤ 2 ^ b := Nat.pow_le_pow_right (by decide) h
theorem split_inv {lev : Nat} {fr : Fr} (h : PInv lev fr) {need k p : Nat} (hn : need ≤ k) (hp : fr k p = true) :
    PInv lev (splitB fr need k p) ∧ ∀ w, Cov (splitB fr need k p) w ↔ Cov fr w ∧ ¬ (p ≤ w ∧ w < p + 2 ^ need) := by
  have hk := h.lv k p hp
  have ha := h.al k p hp
  have he := h.en k p hp
  have key : ∀ j y, splitB fr need k p j y = true → (need ≤ j ∧ j < k ∧ y = p + 2 ^ j) ∨ (fr j y = true ∧ ¬ (j = k ∧ y = p)) := fun j y hy => by
    unfold splitB at hy
    split at hy
    · cases hy
    · rename_i h1
      split at hy
      · exact .inl ‹_›
      · exact .inr ⟨hy, h1⟩
  have e2 : ∀ j, j < k → 2 ^ (j + 1) = 2 ^ j + 2 ^ j ∧ 2 ^ (j + 1) ≤ 2 ^ k := fun j hj => ⟨by rw [Nat.pow_succ]; omega, pow_mono hj⟩
  have hM : ∀ j, 0 < 2 ^ j := Nat.two_pow_pos
  refine ⟨⟨?_, ?_, ?_, ?_, ?_⟩, fun w => ⟨?_, ?_⟩⟩
  · intro j y hy
    rcases key j y hy with ⟨_, h1, _⟩ | ⟨h1, _⟩
    · omega
    · exact h.lv j y h1
  · intro j y hy
    rcases key j y hy with ⟨_, h1, rfl⟩ | ⟨h1, _⟩
    · rw [Nat.add_mod_right]; exact al_down (by omega) ha
    · exact h.al j y h1
  · intro j y hy
    rcases key j y hy with ⟨_, h1, rfl⟩ | ⟨h1, _⟩
    · have := e2 j h1; omega
    · exact h.en j y h1
  · intro j y i z w h1 h2 h3 h4 h5 h6
    rcases key j y h1 with ⟨_, h7, rfl⟩ | ⟨h7, h7n⟩ <;> rcases key i z h2 with ⟨_, h8, rfl⟩ | ⟨h8, h8n⟩
    · have a := e2 j h7
      have b := e2 i h8
      rcases Nat.lt_trichotomy j i with h9 | h9 | h9
      · have := pow_mono (show j + 1 ≤ i from h9); omega
      · subst h9; exact ⟨rfl, rfl⟩
      · have := pow_mono (show i + 1 ≤ j from h9); omega
    · have a := e2 j h7
      have := h.dis i z k p w h8 hp h5 h6 (by omega) (by omega)
      exact absurd this h8n
    · have a := e2 i h8
      have := h.dis j y k p w h7 hp h3 h4 (by omega) (by omega)
      exact absurd this h7n
    · exact h.dis j y i z w h7 h8 h3 h4 h5 h6
  · intro j y hj h1 h2
    have hold : ∀ i, i < k → fr i p = true → False := fun i hi hf => by
      have h3 := hM i
      have h4 := hM k
      have := h.dis i p k p p hf hp (Nat.le_refl _) (by omega) (Nat.le_refl _) (by omega)
      omega
    rcases key j y h1 with ⟨_, h7, rfl⟩ | ⟨h7, h7n⟩
    · have ht := (twin_par2 (al_down (show j + 1 ≤ k from h7) ha)).2
      rw [ht] at h2
      rcases key j p h2 with ⟨_, _, h8⟩ | ⟨h8, _⟩
      · have := hM j; omega
      · exact hold j h7 h8
    · rcases key j (twinB j y) h2 with ⟨_, h8, h9⟩ | ⟨h8, _⟩
      · have h10 := twin_twin (h.al j y h7)
        rw [h9, (twin_par2 (al_down (show j + 1 ≤ k from h8) ha)).2] at h10
        subst h10
        exact hold j h8 h7
      · exact h.nob j y hj h7 h8
  · rintro ⟨j, y, hy, h1, h2⟩
    rcases key j y hy with ⟨h3, h4, rfl⟩ | ⟨h3, h3n⟩
    · have a := e2 j h4
      have b := pow_mono h3
      exact ⟨⟨k, p, hp, by omega, by omega⟩, by omega⟩
    · refine ⟨⟨j, y, h3, h1, h2⟩, fun h4 => ?_⟩
      have b := pow_mono hn
      exact h3n (h.dis j y k p w h3 hp h1 h2 h4.1 (by omega))
  · rintro ⟨⟨j, y, hy, h1, h2⟩, hnot⟩
    by_cases hjy : j = k ∧ y = p
    · obtain ⟨rfl, rfl⟩ := hjy
      obtain ⟨i, a, b, c, d⟩ := split_cov hn (by omega) h2
      refine ⟨i, y + 2 ^ i, ?_, c, d⟩
      unfold splitB
      rw [if_neg (by omega), if_pos ⟨a, b, rfl⟩]
    · refine ⟨j, y, ?_, h1, h2⟩
      unfold splitB
      rw [if_neg hjy]
      split
      · rfl
      · exact hy
/-! ### the words tell the pieces -/
theorem full_piece {lev : Nat} {fr : Fr} (h : PInv lev fr) : ∀ (j y : Nat), j ≤ lev → y % 2 ^ j = 0 → (∀ w, y ≤ w → w < y + 2 ^ j → ∃ k x, fr k x = true ∧ k ≤ j ∧ x ≤ w ∧ w < x + 2 ^ k) → fr j y = true
  | 0, y, _, _, hc => by
    obtain ⟨k, x, hx, hk, h1, h2⟩ := hc y (Nat.le_refl _) (by simp)
    obtain rfl : k = 0 := by omega
    obtain rfl : x = y := by simp at h2; omega
    exact hx
  | j + 1, y, hj, ha, hc => by
    have e2 : 2 ^ (j + 1) = 2 ^ j + 2 ^ j := by rw [Nat.pow_succ]; omega
    have hM : 0 < 2 ^ j := Nat.two_pow_pos j
    by_cases hbig : ∃ x, fr (j + 1) x = true ∧ ∃ w, y ≤ w ∧ w < y + 2 ^ (j + 1) ∧ x ≤ w ∧ w < x + 2 ^ (j + 1)
    · obtain ⟨x, hx, w, h1, h2, h3, h4⟩ := hbig
      have a := nest (Nat.le_refl _) (h.al _ _ hx) ha h3 h4 h1 h2
      have b := nest (Nat.le_refl _) ha (h.al _ _ hx) h1 h2 h3 h4
      obtain rfl : x = y := by omega
      exact hx
    · have hlow : ∀ w, y ≤ w → w < y + 2 ^ (j + 1) → ∃ k x, fr k x = true ∧ k ≤ j ∧ x ≤ w ∧ w < x + 2 ^ k := fun w h1 h2 => by
        obtain ⟨k, x, hx, hk, h3, h4⟩ := hc w h1 h2
        refine ⟨k, x, hx, ?_, h3, h4⟩
        rcases Nat.lt_or_ge k (j + 1) with h5 | h5
        · omega
        · obtain rfl : k = j + 1 := by omega
          exact absurd ⟨x, hx, w, h1, h2, h3, h4⟩ hbig
      have h1 := full_piece h j y (by omega) (al_down (Nat.le_succ j) ha) (fun w a b => hlow w a (by omega))
      have h2 := full_piece h j (y + 2 ^ j) (by omega) (by rw [Nat.add_mod_right]; exact al_down (Nat.le_succ j) ha) (fun w a b => hlow w (by omega) (by omega))
      have h3 := (twin_par2 ha).1
      rw [← h3] at h2
      exact absurd h2 (fun h2 => h.nob j y (by omega) h1 h2)
theorem pieces_sub {lev : Nat} {fr fr' : Fr} (h : PInv lev fr) (h' : PInv lev fr') (hc : ∀ w, Cov fr w ↔ Cov fr' w) {k x : Nat} (hx : fr' k x = true) : fr k x = true := by
  have hM := Nat.two_pow_pos k
  have hal := h'.al k x hx
  -- a piece of fr that meets this one is within it, or it is this one
  have hin : ∀ i z w, fr i z = true → z ≤ w → w < z + 2 ^ i → x ≤ w → w < x + 2 ^ k → i ≤ k := fun i z w hz h1 h2 h3 h4 => by
    rcases Nat.lt_or_ge k i with hki | hki
    · have hn := nest (Nat.le_of_lt hki) hal (h.al i z hz) h3 h4 h1 h2
      have hfull := full_piece h' i z (h.lv i z hz) (h.al i z hz) (fun u h5 h6 => by
        obtain ⟨j, y, hy, h7, h8⟩ := (hc u).1 ⟨i, z, hz, h5, h6⟩
        refine ⟨j, y, hy, ?_, h7, h8⟩
        rcases Nat.lt_or_ge i j with hij | hij
        · have hn2 := nest (Nat.le_of_lt hij) (h.al i z hz) (h'.al j y hy) h5 h6 h7 h8
          have := h'.dis j y k x w hy hx (by omega) (by omega) h3 h4
          omega
        · exact hij)
      have := h'.dis i z k x w hfull hx h1 h2 h3 h4
      omega
    · exact hki
  refine full_piece h k x (h'.lv k x hx) hal (fun w h1 h2 => ?_)
  obtain ⟨i, z, hz, h3, h4⟩ := (hc w).2 ⟨k, x, hx, h1, h2⟩
  exact ⟨i, z, hz, hin i z w hz h3 h4 h1 h2, h3, h4⟩
theorem pieces_one {lev : Nat} {fr fr' : Fr} (h : PInv lev fr) (h' : PInv lev fr') (hc : ∀ w, Cov fr w ↔ Cov fr' w) : fr = fr' := by
  funext k x
  rw [Bool.eq_iff_iff]
  exact ⟨fun hx => pieces_sub h' h (fun w => (hc w).symm) hx, fun hx => pieces_sub h h' hc hx⟩
end Go.Proofs.Ytmbcfbehchpfbaa
