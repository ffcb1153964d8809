/- Handles: scripts. Plain. -/
import Derived.Test.YthlllbpilcapiaaDoorVc
namespace Go.Proofs.YthlllbpilcapiaaDoor

/-- What is known behind a thing that is done. -/
def knownS (K : List Known) (d : Int × Int) (c g : Int) : List Known := if d.1 = 1 then (if c = 0 then K ++ [(g, d.2, true)] else K) else if d.1 = 2 then deadK K d.2 else K
theorem HInv.step {t : List Slot} {K : List Known} (h : HInv t K) (d : Int × Int) :
    HInv (stepH t d).1 (knownS K d (stepH t d).2.1 (stepH t d).2.2) ∧
    (d.1 = 1 → (stepH t d).2.1 = 0 → ∀ y ∈ K, y.1 ≠ (stepH t d).2.2) ∧
    (d.1 = 2 ∨ d.1 = 3 → ((stepH t d).2.1 = 0 ↔ ∃ x ∈ K, x.1 = d.2 ∧ x.2.2 = true)) ∧
    (d.1 = 3 → ∀ x ∈ K, x.1 = d.2 → x.2.2 = true → (stepH t d).2.2 = x.2.1) := by
  by_cases h1 : d.1 = 1
  · cases hm : makeH t d.2 with
    | none =>
      have e : stepH t d = (t, 6, 0) := by unfold stepH; rw [if_pos h1, hm]
      rw [e]
      refine ⟨by unfold knownS; rw [if_pos h1, if_neg (show ¬ (6 : Int) = 0 by decide)]; exact h, fun _ h2 => (by cases h2), fun h2 => by omega, fun h2 => by omega⟩
    | some r =>
      obtain ⟨g, t'⟩ := r
      have e : stepH t d = (t', 0, g) := by unfold stepH; rw [if_pos h1, hm]
      obtain ⟨h3, h4⟩ := h.make hm
      rw [e]
      refine ⟨by unfold knownS; rw [if_pos h1, if_pos rfl]; exact h4, fun _ _ => h3, fun h2 => by omega, fun h2 => by omega⟩
  · by_cases h2 : d.1 = 2
    · cases hd : dropH t d.2 with
      | none =>
        have e : stepH t d = (t, 2, 0) := by unfold stepH; rw [if_neg h1, if_pos h2, hd]
        have hf : findH t d.2 = none := by
          unfold dropH at hd
          split at hd
          · rename_i h5; exact h5
          · cases hd
        rw [e]
        refine ⟨by unfold knownS; rw [if_neg h1, if_pos h2, h.dead hf]; exact h, fun h5 => absurd h5 h1, fun _ => ⟨fun h5 => (by cases h5), fun h5 => ?_⟩, fun h5 => by omega⟩
        obtain ⟨i, hi⟩ := (h.find d.2).2 h5
        rw [hf] at hi; cases hi
      | some t' =>
        have e : stepH t d = (t', 0, 0) := by unfold stepH; rw [if_neg h1, if_pos h2, hd]
        have hf : ∃ i, findH t d.2 = some i := by
          unfold dropH at hd
          split at hd
          · cases hd
          · rename_i i h5; exact ⟨i, h5⟩
        rw [e]
        exact ⟨by unfold knownS; rw [if_neg h1, if_pos h2]; exact h.drop hd, fun h5 => absurd h5 h1, fun _ => ⟨fun _ => (h.find d.2).1 hf, fun _ => rfl⟩, fun h5 => by omega⟩
    · by_cases h3 : d.1 = 3
      · cases hf : findH t d.2 with
        | none =>
          have e : stepH t d = (t, 2, 0) := by unfold stepH; rw [if_neg h1, if_neg h2, if_pos h3, hf]
          rw [e]
          refine ⟨by unfold knownS; rw [if_neg h1, if_neg h2]; exact h, fun h5 => absurd h5 h1, fun _ => ⟨fun h5 => (by cases h5), fun h5 => ?_⟩, fun _ x hx hg hb => ?_⟩
          · obtain ⟨i, hi⟩ := (h.find d.2).2 h5
            rw [hf] at hi; cases hi
          · obtain ⟨i, hi⟩ := (h.find d.2).2 ⟨x, hx, hg, hb⟩
            rw [hf] at hi; cases hi
        | some i =>
          have e : stepH t d = (t, 0, (t.getD i (0, 0, false)).1) := by unfold stepH; rw [if_neg h1, if_neg h2, if_pos h3, hf]
          rw [e]
          exact ⟨by unfold knownS; rw [if_neg h1, if_neg h2]; exact h, fun h5 => absurd h5 h1, fun _ => ⟨fun _ => (h.find d.2).1 ⟨i, hf⟩, fun _ => rfl⟩, fun _ x hx hg hb => h.value hf hx hg hb⟩
      · have e : stepH t d = (t, 5, 0) := by unfold stepH; rw [if_neg h1, if_neg h2, if_neg h3]
        rw [e]
        exact ⟨by unfold knownS; rw [if_neg h1, if_neg h2]; exact h, fun h5 => absurd h5 h1, fun h5 => by omega, fun h5 => absurd h5 h3⟩
/-- The counts behind a thing that is done. -/
def madeS (m : Nat) (d : Int × Int) (c : Int) : Nat := if d.1 = 1 ∧ c = 0 then m + 1 else m
def thereS (m : Nat) (d : Int × Int) (c : Int) : Nat := if d.1 = 1 ∧ c = 0 then m + 1 else if d.1 = 2 ∧ c = 0 then m - 1 else m
def spentS (b : Bool) (d : Int × Int) (c : Int) : Bool := if d.1 = 2 ∧ c = 0 then b || (d.2 / 32 == 3) else b
theorem CInv.step {t : List Slot} {m th : Nat} {b : Bool} (h : CInv t m th b) (d : Int × Int) :
    CInv (stepH t d).1 (madeS m d (stepH t d).2.1) (thereS th d (stepH t d).2.1) (spentS b d (stepH t d).2.1) ∧
    (d.1 = 2 → (stepH t d).2.1 = 0 → 1 ≤ th) ∧
    (d.1 = 1 → (stepH t d).2.1 ≠ 0 → b = false → th = t.length) ∧ (stepH t d).1.length = t.length := by
  by_cases h1 : d.1 = 1
  · have h12 : ¬ d.1 = 2 := by omega
    cases hm : makeH t d.2 with
    | none =>
      have e : stepH t d = (t, 6, 0) := by unfold stepH; rw [if_pos h1, hm]
      rw [e]
      unfold madeS thereS spentS
      refine ⟨by simpa [h12] using h, fun h2 => absurd h2 h12, fun _ _ hb => ?_, rfl⟩
      subst hb
      exact h.full hm
    | some r =>
      obtain ⟨g, t'⟩ := r
      have e : stepH t d = (t', 0, g) := by unfold stepH; rw [if_pos h1, hm]
      have hlen : t'.length = t.length := by
        unfold makeH at hm
        split at hm
        · cases hm
        · simp only [Option.some.injEq, Prod.mk.injEq] at hm
          rw [← hm.2, List.length_set]
      rw [e]
      unfold madeS thereS spentS
      exact ⟨by simpa [h1, h12] using h.make hm, fun h2 => absurd h2 h12, fun _ h5 => absurd rfl h5, hlen⟩
  · by_cases h2 : d.1 = 2
    · cases hd : dropH t d.2 with
      | none =>
        have e : stepH t d = (t, 2, 0) := by unfold stepH; rw [if_neg h1, if_pos h2, hd]
        rw [e]
        unfold madeS thereS spentS
        exact ⟨by simpa [h1] using h, fun _ h5 => (by cases h5), fun h5 => absurd h5 h1, rfl⟩
      | some t' =>
        have e : stepH t d = (t', 0, 0) := by unfold stepH; rw [if_neg h1, if_pos h2, hd]
        obtain ⟨h5, h6⟩ := h.drop hd
        have hlen : t'.length = t.length := by
          unfold dropH at hd
          split at hd
          · cases hd
          · cases hd; rw [List.length_set]
        rw [e]
        unfold madeS thereS spentS
        exact ⟨by simpa [h1, h2] using h6, fun _ _ => h5, fun h7 => absurd h7 h1, hlen⟩
    · have e : (stepH t d).1 = t := by
        unfold stepH
        rw [if_neg h1, if_neg h2]
        split
        · split <;> rfl
        · rfl
      rw [e]
      unfold madeS thereS spentS
      exact ⟨by simpa [h1, h2] using h, fun h5 => absurd h5 h2, fun h5 => absurd h5 h1, rfl⟩
end Go.Proofs.YthlllbpilcapiaaDoor
