/- Handles: how many are there. Plain. -/
import Derived.Test.YthlllbpilcapiaaDoorVb
namespace Go.Proofs.YthlllbpilcapiaaDoor

def wH (s : Slot) : Nat := s.2.1 + (if s.2.2 = true then 1 else 0)
def uH (s : Slot) : Nat := if s.2.2 = true then 1 else 0
theorem sumSet (f : Slot → Nat) : ∀ {t : List Slot} {i : Nat} {s : Slot} (s' : Slot), t[i]? = some s → ((t.set i s').map f).sum + f s = (t.map f).sum + f s'
  | [], i, s, s', h => by simp at h
  | x :: t, 0, s, s', h => by
    simp only [List.getElem?_cons_zero, Option.some.injEq] at h
    subst h
    simp only [List.set_cons_zero, List.map_cons, List.sum_cons]
    omega
  | x :: t, i + 1, s, s', h => by
    rw [List.getElem?_cons_succ] at h
    have := sumSet f s' h
    simp only [List.set_cons_succ, List.map_cons, List.sum_cons]
    omega
theorem sum_le (f : Slot → Nat) (c : Nat) : ∀ {t : List Slot}, (∀ s ∈ t, f s ≤ c) → (t.map f).sum ≤ t.length * c
  | [], _ => by simp
  | x :: t, h => by
    have h1 := h x List.mem_cons_self
    have h2 := sum_le f c (fun s hs => h s (List.mem_cons_of_mem _ hs))
    simp only [List.map_cons, List.sum_cons, List.length_cons, Nat.add_mul]
    omega
theorem sum_all : ∀ {t : List Slot}, (∀ s ∈ t, s.2.2 = true) → (t.map uH).sum = t.length
  | [], _ => rfl
  | x :: t, h => by
    have h1 := h x List.mem_cons_self
    have h2 := sum_all (fun s hs => h s (List.mem_cons_of_mem _ hs))
    simp only [List.map_cons, List.sum_cons, List.length_cons, h2]
    unfold uH
    rw [if_pos h1]; omega
/-- So many were made, so many are there; b: a slot has been used up. -/
structure CInv (t : List Slot) (made there : Nat) (b : Bool) : Prop where
  ver : ∀ s ∈ t, s.2.1 ≤ 4 ∧ (s.2.2 = true → s.2.1 ≤ 3)
  made : (t.map wH).sum = made
  there : (t.map uH).sum = there
  fresh : b = false → ∀ s ∈ t, s.2.1 ≤ 3
theorem CInv.start (n : Nat) : CInv (List.replicate n (0, 0, false)) 0 0 false := by
  have key : ∀ s ∈ List.replicate n ((0, 0, false) : Slot), s = (0, 0, false) := fun s hs => (List.mem_replicate.1 hs).2
  refine ⟨fun s hs => by rw [key s hs]; exact ⟨by decide, fun h => by cases h⟩, ?_, ?_, fun _ s hs => by rw [key s hs]; decide⟩
  · simp [wH]
  · simp [uH]
theorem CInv.bound {t : List Slot} {m th : Nat} {b : Bool} (h : CInv t m th b) : m ≤ t.length * 4 ∧ th ≤ t.length := by
  rw [← h.made, ← h.there]
  refine ⟨sum_le wH 4 fun s hs => ?_, ?_⟩
  · have := h.ver s hs
    unfold wH
    split
    · rename_i h1; have := this.2 h1; omega
    · omega
  · have := sum_le uH 1 (t := t) fun s _ => by unfold uH; split <;> omega
    omega
theorem CInv.make {t t' : List Slot} {m th : Nat} {b : Bool} (h : CInv t m th b) {x g : Int} (hm : makeH t x = some (g, t')) : CInv t' (m + 1) (th + 1) b := by
  unfold makeH at hm
  split at hm
  · cases hm
  · rename_i i hi
    obtain ⟨y, v, hs, hv⟩ := freeAtH_some hi
    rw [getD_slot hs] at hm
    simp only [Option.some.injEq, Prod.mk.injEq] at hm
    obtain ⟨_, rfl⟩ := hm
    have h1 := sumSet wH (x, v, true) hs
    have h2 := sumSet uH (x, v, true) hs
    have h3 := h.made
    have h4 := h.there
    have e1 : wH (x, v, true) = v + 1 := rfl
    have e2 : wH (y, v, false) = v := rfl
    have e3 : uH (x, v, true) = 1 := rfl
    have e4 : uH (y, v, false) = 0 := rfl
    refine ⟨fun s hs2 => ?_, by omega, by omega, fun hb s hs2 => ?_⟩
    · rcases List.mem_or_eq_of_mem_set hs2 with h5 | rfl
      · exact h.ver s h5
      · exact ⟨by simp only; omega, fun _ => hv⟩
    · rcases List.mem_or_eq_of_mem_set hs2 with h5 | rfl
      · exact h.fresh hb s h5
      · exact hv
theorem CInv.drop {t t' : List Slot} {m th : Nat} {b : Bool} (h : CInv t m th b) {g : Int} (hd : dropH t g = some t') : 1 ≤ th ∧ CInv t' m (th - 1) (b || (g / 32 == 3)) := by
  unfold dropH at hd
  split at hd
  · cases hd
  · rename_i i hi
    obtain ⟨y, v, hs, hg⟩ := findH_some hi
    rw [getD_slot hs] at hd
    simp only [Option.some.injEq] at hd
    subst hd
    have hv3 := (h.ver _ (List.mem_of_getElem? hs)).2 rfl
    simp only at hv3
    have h1 := sumSet wH (0, v + 1, false) hs
    have h2 := sumSet uH (0, v + 1, false) hs
    have h3 := h.made
    have h4 := h.there
    have e1 : wH (0, v + 1, false) = v + 1 := rfl
    have e2 : wH (y, v, true) = v + 1 := rfl
    have e3 : uH (0, v + 1, false) = 0 := rfl
    have e4 : uH (y, v, true) = 1 := rfl
    refine ⟨by omega, fun s hs2 => ?_, by omega, by omega, fun hb s hs2 => ?_⟩
    · rcases List.mem_or_eq_of_mem_set hs2 with h5 | rfl
      · exact h.ver s h5
      · exact ⟨by simp only; omega, fun h => by cases h⟩
    · rw [Bool.or_eq_false_iff] at hb
      rcases List.mem_or_eq_of_mem_set hs2 with h5 | rfl
      · exact h.fresh hb.1 s h5
      · have h6 : ¬ g / 32 = 3 := by simpa using hb.2
        have hi32 : 3 < v + 1 → False := by
          intro h7
          obtain rfl : v = 3 := by omega
          unfold findH at hi
          split at hi
          · cases hi
          · split at hi
            · rename_i h8 h9
              cases hi
              rw [getD_slot hs] at h9
              simp only at h9
              omega
            · cases hi
        exact Nat.le_of_not_lt hi32
theorem CInv.full {t : List Slot} {m th : Nat} (h : CInv t m th false) {x : Int} (hm : makeH t x = none) : th = t.length := by
  have hf : freeAtH t = none := by
    unfold makeH at hm
    split at hm
    · rename_i h1; exact h1
    · cases hm
  rw [← h.there]
  refine sum_all fun s hs => ?_
  have h1 := freeAtH_none hf s hs
  have h2 := h.fresh rfl s hs
  rcases h1 with h1 | h1
  · exact h1
  · omega
end Go.Proofs.YthlllbpilcapiaaDoor
