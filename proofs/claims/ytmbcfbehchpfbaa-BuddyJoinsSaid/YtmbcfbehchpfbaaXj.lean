/- Buddies: what is free, by place. Plain. -/
import Derived.Test.YtmbcfbehchpfbaaXb
namespace Go.Proofs.Ytmbcfbehchpfbaa

/-- What is free, by place. -/
def levelAt (fr : Fr) (p : Nat) : Option Nat := (List.range 8).find? fun k => fr k p
def freeB (lev : Nat) (fr : Fr) : List (Nat × Nat) := (List.range (2 ^ lev)).filterMap fun p => (levelAt fr p).map fun k => (p, 2 ^ k)
theorem levelAt_is {lev : Nat} (hl : lev ≤ 7) {fr : Fr} (h : PInv lev fr) {p k : Nat} : levelAt fr p = some k ↔ fr k p = true := by
  unfold levelAt
  constructor
  · intro h1
    simpa using List.find?_some (p := fun k => fr k p) h1
  · intro h1
    have hk := h.lv k p h1
    cases hf : (List.range 8).find? (fun k => fr k p) with
    | none =>
      have := List.find?_eq_none.1 hf k (List.mem_range.2 (by omega))
      rw [h1] at this; exact absurd rfl this
    | some j =>
      have h2 := List.find?_some (p := fun k => fr k p) hf
      have := h.dis j p k p p h2 h1 (Nat.le_refl _) (by have := Nat.two_pow_pos j; omega) (Nat.le_refl _) (by have := Nat.two_pow_pos k; omega)
      rw [this.1]
theorem mem_freeB {lev : Nat} (hl : lev ≤ 7) {fr : Fr} (h : PInv lev fr) (x : Nat × Nat) : x ∈ freeB lev fr ↔ ∃ k, k < 8 ∧ fr k x.1 = true ∧ x.2 = 2 ^ k := by
  unfold freeB
  rw [List.mem_filterMap]
  constructor
  · rintro ⟨p, _, h1⟩
    rw [Option.map_eq_some_iff] at h1
    obtain ⟨k, h2, rfl⟩ := h1
    have h3 := (levelAt_is hl h).1 h2
    exact ⟨k, by have := h.lv k p h3; omega, h3, rfl⟩
  · rintro ⟨k, _, h1, h2⟩
    have h3 := h.en k x.1 h1
    have h4 := Nat.two_pow_pos k
    refine ⟨x.1, List.mem_range.2 (by omega), ?_⟩
    rw [(levelAt_is hl h).2 h1]
    obtain ⟨a, b⟩ := x
    simp only at h2
    subst h2; rfl
theorem filterMap_sorted {f : Nat → Option (Nat × Nat)} (hf : ∀ p y, f p = some y → y.1 = p) : ∀ {l : List Nat}, l.Pairwise (· < ·) → (l.filterMap f).Pairwise (fun a b => a.1 < b.1)
  | [], _ => by simp
  | x :: l, h => by
    rw [List.pairwise_cons] at h
    have ih := filterMap_sorted hf h.2
    cases hx : f x with
    | none => rw [List.filterMap_cons_none hx]; exact ih
    | some y =>
      rw [List.filterMap_cons_some hx, List.pairwise_cons]
      refine ⟨fun z hz => ?_, ih⟩
      obtain ⟨q, hq, hz2⟩ := List.mem_filterMap.1 hz
      rw [hf x y hx, hf q z hz2]
      exact h.1 q hq
theorem freeB_sorted (lev : Nat) (fr : Fr) : (freeB lev fr).Pairwise (fun a b => a.1 < b.1) :=
  filterMap_sorted (fun p y h => by
    rw [Option.map_eq_some_iff] at h
    obtain ⟨k, _, rfl⟩ := h; rfl) List.pairwise_lt_range
theorem strict_eq : ∀ {l m : List (Nat × Nat)}, l.Pairwise (fun a b => a.1 < b.1) → m.Pairwise (fun a b => a.1 < b.1) → (∀ x, x ∈ l ↔ x ∈ m) → l = m
  | [], [], _, _, _ => rfl
  | [], y :: m, _, _, h => absurd ((h y).2 List.mem_cons_self) (by simp)
  | x :: l, [], _, _, h => absurd ((h x).1 List.mem_cons_self) (by simp)
  | x :: l, y :: m, hl, hm, h => by
    rw [List.pairwise_cons] at hl hm
    have hxy : x = y := by
      rcases List.mem_cons.1 ((h x).1 List.mem_cons_self) with h1 | h1
      · exact h1
      · rcases List.mem_cons.1 ((h y).2 List.mem_cons_self) with h2 | h2
        · exact h2.symm
        · have := hm.1 x h1
          have := hl.1 y h2
          omega
    subst hxy
    rw [strict_eq hl.2 hm.2 (fun z => ?_)]
    constructor
    · intro h1
      rcases List.mem_cons.1 ((h z).1 (List.mem_cons_of_mem _ h1)) with h2 | h2
      · subst h2; exact absurd (hl.1 z h1) (Nat.lt_irrefl _)
      · exact h2
    · intro h1
      rcases List.mem_cons.1 ((h z).2 (List.mem_cons_of_mem _ h1)) with h2 | h2
      · subst h2; exact absurd (hm.1 z h1) (Nat.lt_irrefl _)
      · exact h2
theorem freeB_len (lev : Nat) (fr : Fr) : (freeB lev fr).length ≤ 2 ^ lev := by
  unfold freeB
  exact Nat.le_trans (List.length_filterMap_le _ _) (by simp)
/-- Sorted by place, and the same places: the same list. -/
theorem sorted_free {lev : Nat} (hl : lev ≤ 7) {fr : Fr} (h : PInv lev fr) {l : List (Nat × Nat)} (hn : (l.map (·.1)).Nodup) (hm : ∀ x, x ∈ l ↔ ∃ k, k < 8 ∧ fr k x.1 = true ∧ x.2 = 2 ^ k) {d : List (Nat × Nat)} (hp : d.Perm l) (hs : d.Pairwise (fun a b => a.1 ≤ b.1)) : d = freeB lev fr := by
  have hn2 : (d.map (·.1)).Nodup := (hp.map _).nodup_iff.2 hn
  have hs2 : d.Pairwise (fun a b => a.1 < b.1) := by
    have h2 : d.Pairwise (fun a b => a.1 ≠ b.1) := List.pairwise_map.1 hn2
    exact (hs.and h2).imp fun h => Nat.lt_of_le_of_ne h.1 h.2
  exact strict_eq hs2 (freeB_sorted lev fr) (fun x => by rw [hp.mem_iff, hm, mem_freeB hl h])
/-! ### gathered level by level, in any order -/
theorem nodup_len : ∀ {F L : List Nat}, F.Nodup → (∀ x ∈ F, x ∈ L) → F.length ≤ L.length
  | [], _, _, _ => by simp
  | x :: xs, L, hn, hs => by
    rw [List.nodup_cons] at hn
    have hx : x ∈ L := hs x List.mem_cons_self
    have h1 : xs.length ≤ (L.erase x).length := nodup_len hn.2 (fun y hy => by
      have hne : y ≠ x := fun e => hn.1 (e ▸ hy)
      exact (List.mem_erase_of_ne hne).2 (hs y (List.mem_cons_of_mem _ hy)))
    rw [List.length_erase_of_mem hx] at h1
    have : 0 < L.length := List.length_pos_of_mem hx
    simp only [List.length_cons]; omega
def BlkRel (fr : Fr) (i : Nat) (l : List (Nat × Nat)) : Prop := (l.map (·.1)).Nodup ∧ ∀ x, x ∈ l ↔ ∃ k, k < i ∧ fr k x.1 = true ∧ x.2 = 2 ^ k
def BlkIn (fr : Fr) (i : Nat) (l : List (Nat × Nat)) (left : Int → Bool) : Prop := (l.map (·.1)).Nodup ∧ ∀ x, x ∈ l ↔ (∃ k, k < i ∧ fr k x.1 = true ∧ x.2 = 2 ^ k) ∨ (fr i x.1 = true ∧ x.2 = 2 ^ i ∧ left (x.1 : Int) = false)
theorem BlkRel.nil (fr : Fr) : BlkRel fr 0 [] := ⟨by simp, fun x => by simp⟩
theorem BlkRel.start {fr : Fr} {i : Nat} {l : List (Nat × Nat)} (h : BlkRel fr i l) {left : Int → Bool} (hl : ∀ p : Nat, fr i p = true → left (p : Int) = true) : BlkIn fr i l left := by
  refine ⟨h.1, fun x => (h.2 x).trans ⟨fun h1 => .inl h1, fun h1 => h1.elim id fun h2 => ?_⟩⟩
  rw [hl _ h2.1] at h2
  cases h2.2.2
theorem BlkIn.step {lev : Nat} {fr : Fr} (hP : PInv lev fr) {i p : Nat} {l : List (Nat × Nat)} {left : Int → Bool} (h : BlkIn fr i l left) (hf : fr i p = true) (hl : left (p : Int) = true) : BlkIn fr i (l ++ [(p, 2 ^ i)]) (fun y => left y && !decide (y = (p : Int))) := by
  refine ⟨?_, fun x => ?_⟩
  · rw [List.map_append, List.nodup_append]
    refine ⟨h.1, by simp, fun a ha b hb => ?_⟩
    simp only [List.map_cons, List.map_nil, List.mem_singleton] at hb
    subst hb
    rintro rfl
    obtain ⟨x, hx, rfl⟩ := List.mem_map.1 ha
    rcases (h.2 x).1 hx with ⟨k, h1, h2, _⟩ | ⟨_, _, h3⟩
    · have := (hP.dis k _ i _ x.1 h2 hf (Nat.le_refl _) (by have := Nat.two_pow_pos k; omega) (Nat.le_refl _) (by have := Nat.two_pow_pos i; omega)).1
      omega
    · rw [hl] at h3; cases h3
  · rw [List.mem_append, h.2 x, List.mem_singleton]
    constructor
    · rintro ((h1 | ⟨h1, h2, h3⟩) | rfl)
      · exact .inl h1
      · exact .inr ⟨h1, h2, by simp [h3]⟩
      · exact .inr ⟨hf, rfl, by simp⟩
    · rintro (h1 | ⟨h1, h2, h3⟩)
      · exact .inl (.inl h1)
      · by_cases e : x.1 = p
        · exact .inr (Prod.ext e h2)
        · refine .inl (.inr ⟨h1, h2, ?_⟩)
          have : ¬ (x.1 : Int) = (p : Int) := by omega
          simpa [this] using h3
theorem BlkIn.done {fr : Fr} {i : Nat} {l : List (Nat × Nat)} {left : Int → Bool} (h : BlkIn fr i l left) (hl : ∀ p : Nat, fr i p = true → left (p : Int) = false) : BlkRel fr (i + 1) l := by
  refine ⟨h.1, fun x => (h.2 x).trans ⟨?_, ?_⟩⟩
  · rintro (⟨k, h1, h2⟩ | ⟨h1, h2, _⟩)
    · exact ⟨k, by omega, h2⟩
    · exact ⟨i, by omega, h1, h2⟩
  · rintro ⟨k, h1, h2, h3⟩
    by_cases e : k = i
    · subst e; exact .inr ⟨h2, h3, hl _ h2⟩
    · exact .inl ⟨k, by omega, h2, h3⟩
theorem BlkIn.len {lev : Nat} (hl : lev ≤ 7) {fr : Fr} (hP : PInv lev fr) {i : Nat} {l : List (Nat × Nat)} {left : Int → Bool} (h : BlkIn fr i l left) : l.length ≤ 128 := by
  have h1 := nodup_len h.1 (L := List.range 128) (fun p hp => by
    obtain ⟨x, hx, rfl⟩ := List.mem_map.1 hp
    have key : ∀ k, fr k x.1 = true → x.1 < 128 := fun k h2 => by
      have := hP.en k _ h2
      have := Nat.two_pow_pos k
      have := (pow_le7 hl).1
      omega
    rw [List.mem_range]
    rcases (h.2 x).1 hx with ⟨k, _, h2, _⟩ | ⟨h2, _⟩
    · exact key k h2
    · exact key i h2)
  simpa using h1
end Go.Proofs.Ytmbcfbehchpfbaa
