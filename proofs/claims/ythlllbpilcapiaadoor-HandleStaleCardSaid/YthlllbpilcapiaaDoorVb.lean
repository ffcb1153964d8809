/- Handles: slots with versions. Plain. -/
import Derived.Test.YthlllbpilcapiaaDoorG0
namespace Go.Proofs.YthlllbpilcapiaaDoor

/-- A slot: its value, its version, whether it is used. -/
abbrev Slot := Int × Nat × Bool
def openS (s : Slot) : Bool := !s.2.2 && decide (s.2.1 ≤ 3)
/-- The first slot that may be used. -/
def freeAtH (t : List Slot) : Option Nat := t.findIdx? openS
def makeH (t : List Slot) (x : Int) : Option (Int × List Slot) :=
  match freeAtH t with
  | none => none
  | some i => some (((t.getD i (0, 0, false)).2.1 : Int) * 32 + (i : Int), t.set i (x, (t.getD i (0, 0, false)).2.1, true))
/-- The slot of a handle. -/
def findH (t : List Slot) (h : Int) : Option Nat :=
  if h < 0 ∨ (t.length : Int) ≤ h % 32 then none
  else if (t.getD (h % 32).toNat (0, 0, false)).2.2 = true ∧ ((t.getD (h % 32).toNat (0, 0, false)).2.1 : Int) = h / 32 then some (h % 32).toNat else none
def dropH (t : List Slot) (h : Int) : Option (List Slot) :=
  match findH t h with
  | none => none
  | some i => some (t.set i (0, (t.getD i (0, 0, false)).2.1 + 1, false))
/-- One thing that is done: the slots, the code, the number told. -/
def stepH (t : List Slot) (d : Int × Int) : List Slot × Int × Int :=
  if d.1 = 1 then (match makeH t d.2 with | none => (t, 6, 0) | some (h, t') => (t', 0, h))
  else if d.1 = 2 then (match dropH t d.2 with | none => (t, 2, 0) | some t' => (t', 0, 0))
  else if d.1 = 3 then (match findH t d.2 with | none => (t, 2, 0) | some i => (t, 0, (t.getD i (0, 0, false)).1))
  else (t, 5, 0)
theorem freeAtH_some {t : List Slot} {i : Nat} (h : freeAtH t = some i) : ∃ x v, t[i]? = some (x, v, false) ∧ v ≤ 3 := by
  unfold freeAtH at h
  rw [List.findIdx?_eq_some_iff_getElem] at h
  obtain ⟨h1, h2, _⟩ := h
  obtain ⟨s, hs⟩ : ∃ s, t[i] = s := ⟨_, rfl⟩
  rw [hs] at h2
  obtain ⟨x, v, u⟩ := s
  unfold openS at h2
  simp only [Bool.and_eq_true, Bool.not_eq_true', decide_eq_true_eq] at h2
  refine ⟨x, v, ?_, h2.2⟩
  rw [List.getElem?_eq_getElem h1, hs, h2.1]
theorem freeAtH_none {t : List Slot} (h : freeAtH t = none) : ∀ s ∈ t, s.2.2 = true ∨ 3 < s.2.1 := by
  intro s hs
  unfold freeAtH at h
  rw [List.findIdx?_eq_none_iff] at h
  have := h s hs
  unfold openS at this
  rcases s with ⟨x, v, u⟩
  cases u
  · right; simpa using this
  · left; rfl
theorem getD_slot {t : List Slot} {i : Nat} {s : Slot} (h : t[i]? = some s) : t.getD i (0, 0, false) = s := by
  rw [List.getD_eq_getElem?_getD, h]; rfl
theorem findH_some {t : List Slot} {h : Int} {i : Nat} (hf : findH t h = some i) : ∃ y v, t[i]? = some (y, v, true) ∧ h = (v : Int) * 32 + (i : Int) := by
  unfold findH at hf
  split at hf
  · cases hf
  · rename_i h1
    split at hf
    · rename_i h2
      cases hf
      have hlt : (h % 32).toNat < t.length := by omega
      obtain ⟨s, hs⟩ : ∃ s, t[(h % 32).toNat]? = some s := ⟨_, List.getElem?_eq_getElem hlt⟩
      rw [getD_slot hs] at h2
      obtain ⟨y, v, u⟩ := s
      simp only at h2
      obtain ⟨rfl, h3⟩ := h2
      exact ⟨y, v, hs, by omega⟩
    · cases hf
theorem findH_at {t : List Slot} (hl : t.length ≤ 32) {i v : Nat} {y : Int} (hs : t[i]? = some (y, v, true)) : findH t ((v : Int) * 32 + (i : Int)) = some i := by
  have hlt := (List.getElem?_eq_some_iff.1 hs).1
  have h1 : (((v : Int) * 32 + (i : Int)) % 32).toNat = i := by omega
  unfold findH
  rw [if_neg (by omega), h1, getD_slot hs, if_pos ⟨rfl, by simp only; omega⟩]
/-- Handles told, what each was made of, whether it is still one. -/
abbrev Known := Int × Int × Bool
structure HInv (t : List Slot) (K : List Known) : Prop where
  len : t.length ≤ 32
  ver : ∀ (i : Nat) (s : Slot), t[i]? = some s → s.2.1 ≤ 4 ∧ (s.2.2 = true → s.2.1 ≤ 3)
  known : ∀ x ∈ K, ∃ (i v : Nat) (s : Slot), x.1 = (v : Int) * 32 + (i : Int) ∧ t[i]? = some s ∧ (x.2.2 = true → s = (x.2.1, v, true)) ∧ (x.2.2 = false → v < s.2.1)
  used : ∀ (i v : Nat) (y : Int), t[i]? = some (y, v, true) → ∃ x ∈ K, x.1 = (v : Int) * 32 + (i : Int) ∧ x.2.2 = true
  nodup : (K.map (·.1)).Nodup
theorem HInv.start {n : Nat} (h : n ≤ 32) : HInv (List.replicate n (0, 0, false)) [] := by
  have key : ∀ (i : Nat) (s : Slot), (List.replicate n ((0, 0, false) : Slot))[i]? = some s → s = (0, 0, false) := fun i s hs => by
    rw [List.getElem?_replicate] at hs
    split at hs
    · cases hs; rfl
    · cases hs
  refine ⟨by simpa using h, fun i s hs => ?_, fun x hx => by simp at hx, fun i v y hs => ?_, by simp⟩
  · rw [key i s hs]; exact ⟨by decide, fun h => by cases h⟩
  · cases key i _ hs
theorem HInv.make {t t' : List Slot} {K : List Known} (h : HInv t K) {x g : Int} (hm : makeH t x = some (g, t')) : (∀ y ∈ K, y.1 ≠ g) ∧ HInv t' (K ++ [(g, x, true)]) := by
  unfold makeH at hm
  split at hm
  · cases hm
  · rename_i i hi
    obtain ⟨y, v, hs, hv⟩ := freeAtH_some hi
    rw [getD_slot hs] at hm
    simp only [Option.some.injEq, Prod.mk.injEq] at hm
    obtain ⟨rfl, rfl⟩ := hm
    have hlt := (List.getElem?_eq_some_iff.1 hs).1
    have hl := h.len
    have hnew : ∀ z ∈ K, z.1 ≠ (v : Int) * 32 + (i : Int) := by
      intro z hz e
      obtain ⟨j, w, s, h1, h2, h3, h4⟩ := h.known z hz
      have hjl := (List.getElem?_eq_some_iff.1 h2).1
      obtain rfl : j = i := by omega
      obtain rfl : w = v := by omega
      rw [hs] at h2
      cases h2
      cases hb : z.2.2 with
      | true => have := h3 hb; simp at this
      | false => have := h4 hb; simp only at this; omega
    refine ⟨hnew, by simpa using hl, ?_, ?_, ?_, ?_⟩
    · intro j s hj
      rw [List.getElem?_set] at hj
      split at hj
      · cases hj; exact ⟨by simp only; omega, fun _ => hv⟩
      · exact h.ver j s hj
    · intro z hz
      rcases List.mem_append.1 hz with hz | hz
      · obtain ⟨j, w, s, h1, h2, h3, h4⟩ := h.known z hz
        by_cases e : i = j
        · subst e
          rw [hs] at h2
          cases h2
          refine ⟨i, w, (x, v, true), h1, by rw [List.getElem?_set_self hlt], fun hb => ?_, fun hb => h4 hb⟩
          have := h3 hb; simp at this
        · exact ⟨j, w, s, h1, by rw [List.getElem?_set_ne e]; exact h2, h3, h4⟩
      · simp only [List.mem_singleton] at hz
        subst hz
        exact ⟨i, v, (x, v, true), rfl, by rw [List.getElem?_set_self hlt], fun _ => rfl, fun hb => by cases hb⟩
    · intro j w z hj
      rw [List.getElem?_set] at hj
      split at hj
      · rename_i e
        subst e
        cases hj
        exact ⟨_, List.mem_append_right _ (List.mem_singleton.2 rfl), rfl, rfl⟩
      · obtain ⟨q, hq, h1⟩ := h.used j w z hj
        exact ⟨q, List.mem_append_left _ hq, h1⟩
    · rw [List.map_append, List.nodup_append]
      refine ⟨h.nodup, by simp, fun a ha b hb => ?_⟩
      simp only [List.map_cons, List.map_nil, List.mem_singleton] at hb
      subst hb
      obtain ⟨q, hq, rfl⟩ := List.mem_map.1 ha
      exact hnew q hq
/-- What is known behind a drop. -/
def deadK (K : List Known) (g : Int) : List Known := K.map fun x => if x.1 = g then (x.1, x.2.1, false) else x
theorem HInv.find {t : List Slot} {K : List Known} (h : HInv t K) (g : Int) : (∃ i, findH t g = some i) ↔ ∃ x ∈ K, x.1 = g ∧ x.2.2 = true := by
  constructor
  · rintro ⟨i, hi⟩
    obtain ⟨y, v, hs, rfl⟩ := findH_some hi
    exact h.used i v y hs
  · rintro ⟨x, hx, rfl, hb⟩
    obtain ⟨i, v, s, h1, h2, h3, _⟩ := h.known x hx
    rw [h3 hb] at h2
    rw [h1]
    exact ⟨i, findH_at h.len h2⟩
theorem HInv.value {t : List Slot} {K : List Known} (h : HInv t K) {g : Int} {i : Nat} (hi : findH t g = some i) {x : Known} (hx : x ∈ K) (hg : x.1 = g) (hb : x.2.2 = true) : (t.getD i (0, 0, false)).1 = x.2.1 := by
  obtain ⟨j, v, s, h1, h2, h3, _⟩ := h.known x hx
  rw [h3 hb] at h2
  have := findH_at h.len h2
  rw [← h1, hg, hi] at this
  cases this
  rw [getD_slot h2]
theorem deadK_names (K : List Known) (g : Int) : (deadK K g).map (·.1) = K.map (·.1) := by
  unfold deadK
  rw [List.map_map]
  apply List.map_congr_left
  intro x _
  simp only [Function.comp]
  split <;> rfl
theorem HInv.dead {t : List Slot} {K : List Known} (h : HInv t K) {g : Int} (hf : findH t g = none) : deadK K g = K := by
  unfold deadK
  conv => rhs; rw [← List.map_id K]
  apply List.map_congr_left
  intro x hx
  split
  · rename_i e
    cases hb : x.2.2 with
    | true =>
      obtain ⟨i, hi⟩ := (h.find g).2 ⟨x, hx, e, hb⟩
      rw [hf] at hi; cases hi
    | false => obtain ⟨a, b, c⟩ := x; simp only at hb; subst hb; rfl
  · rfl
theorem HInv.drop {t t' : List Slot} {K : List Known} (h : HInv t K) {g : Int} (hd : dropH t g = some t') : HInv t' (deadK K g) := by
  unfold dropH at hd
  split at hd
  · cases hd
  · rename_i i hi
    obtain ⟨y, v, hs, rfl⟩ := findH_some hi
    rw [getD_slot hs] at hd
    cases hd
    have hlt := (List.getElem?_eq_some_iff.1 hs).1
    have hl := h.len
    have hv3 := (h.ver i _ hs).2 rfl
    simp only at hv3
    refine ⟨by simpa using hl, ?_, ?_, ?_, by rw [deadK_names]; exact h.nodup⟩
    · intro j s hj
      by_cases e : i = j
      · subst e
        rw [List.getElem?_set_self hlt] at hj
        cases hj
        exact ⟨by simp only; omega, fun h => by cases h⟩
      · rw [List.getElem?_set_ne e] at hj
        exact h.ver j s hj
    · intro x hx
      obtain ⟨z, hz, rfl⟩ := List.mem_map.1 hx
      obtain ⟨j, w, s, h1, h2, h3, h4⟩ := h.known z hz
      have hjl := (List.getElem?_eq_some_iff.1 h2).1
      by_cases e : i = j
      · subst e
        rw [hs] at h2
        cases h2
        refine ⟨i, w, (0, v + 1, false), ?_, by rw [List.getElem?_set_self hlt], ?_, ?_⟩
        · split <;> exact h1
        · split
          · intro hb; cases hb
          · rename_i hne
            intro hb
            have := h3 hb
            simp only [Prod.mk.injEq, and_true] at this
            exact absurd (by rw [h1, this.2]) hne
        · intro _
          simp only
          cases hb : z.2.2 with
          | true =>
            have := h3 hb
            simp only [Prod.mk.injEq, and_true] at this
            omega
          | false => have := h4 hb; simp only at this; omega
      · refine ⟨j, w, s, ?_, by rw [List.getElem?_set_ne e]; exact h2, ?_, ?_⟩
        · split <;> exact h1
        · split
          · intro hb; cases hb
          · exact h3
        · split
          · rename_i he
            rw [h1] at he
            omega
          · exact h4
    · intro j w z hj
      by_cases e : i = j
      · subst e
        rw [List.getElem?_set_self hlt] at hj
        cases hj
      · rw [List.getElem?_set_ne e] at hj
        obtain ⟨q, hq, h1, h2⟩ := h.used j w z hj
        have hjl := (List.getElem?_eq_some_iff.1 hj).1
        refine ⟨q, List.mem_map.2 ⟨q, hq, ?_⟩, h1, h2⟩
        rw [if_neg]
        rw [h1]
        omega
end Go.Proofs.YthlllbpilcapiaaDoor
