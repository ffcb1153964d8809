/- HazardFew: the plain law. -/
import Derived.Test.YtgmjhoekpbomiaaZi
namespace Go.Proofs.Ytgmjhoekpbomiaa

theorem nodup_le : ∀ (m l : List Int), l.Nodup → (∀ x ∈ l, x ∈ m) → l.length ≤ m.length
  | [], l, _, h => by
    cases l with
    | nil => simp
    | cons a l => exact absurd (h a List.mem_cons_self) (by simp)
  | a :: m, l, hn, h => by
    have h1 := nodup_le m (l.erase a) (hn.erase a) (fun x hx => by
      have h2 := (List.Nodup.mem_erase_iff hn).1 hx
      rcases List.mem_cons.1 (h x h2.2) with h3 | h3
      · exact absurd h3 h2.1
      · exact h3)
    have h2 : l.length ≤ (l.erase a).length + 1 := by rw [List.length_erase]; split <;> omega
    simp only [List.length_cons]; omega
def clearsTo (j : Nat) : List Deed := (List.range j).map fun w : Nat => ⟨2, (w : Int), 0⟩
def scansTo (j : Nat) : List Deed := (List.range j).map fun w : Nat => ⟨4, (w : Int), 0⟩
theorem clearsTo_succ (j : Nat) : clearsTo (j + 1) = clearsTo j ++ [⟨2, (j : Int), 0⟩] := by unfold clearsTo; rw [List.range_succ, List.map_append]; rfl
theorem scansTo_succ (j : Nat) : scansTo (j + 1) = scansTo j ++ [⟨4, (j : Int), 0⟩] := by unfold scansTo; rw [List.range_succ, List.map_append]; rfl
theorem clearsTo_len (j : Nat) : (clearsTo j).length = j := by simp [clearsTo]
theorem scansTo_len (j : Nat) : (scansTo j).length = j := by simp [scansTo]
theorem clearsTo_get {T j : Nat} (h : j < T) : (clearsTo T)[j]? = some ⟨2, (j : Int), 0⟩ := by simp [clearsTo, h]
theorem scansTo_get {T j : Nat} (h : j < T) : (scansTo T)[j]? = some ⟨4, (j : Int), 0⟩ := by simp [scansTo, h]
theorem hcode_plain {T : Nat} {gone : List Bool} {k : Int} {j : Nat} (hk : k = 2 ∨ k = 4) (hj : j < T) : hcode T gone ⟨k, (j : Int), 0⟩ = 0 := by
  have hn : hneeds ⟨k, (j : Int), 0⟩ = false := by unfold hneeds; rw [decide_eq_false_iff_not]; simp only; omega
  unfold hcode
  rw [if_neg (by simp only; omega), hn, if_neg (by simp only; rintro (h | h | h) <;> first | omega | (exact absurd h.1 (by decide))), if_neg (by rintro ⟨h, _⟩; cases h)]
theorem scan_phase {T : Nat} {A all : List Deed} (he : all = A ++ scansTo T) : ∀ j, j ≤ T →
    (hrun T all (A.length + j)).1.guards = (hrun T all A.length).1.guards ∧ ∀ i, i < j → ∀ x ∈ (hrun T all (A.length + j)).1.waits.getD i [], x ∈ (hrun T all A.length).1.guards
  | 0, _ => ⟨rfl, fun i hi => by omega⟩
  | j + 1, hj => by
    obtain ⟨h1, h2⟩ := scan_phase he j (by omega)
    have hd : all[A.length + j]? = some ⟨4, (j : Int), 0⟩ := by
      rw [he, List.getElem?_append_right (by omega), show A.length + j - A.length = j by omega]; exact scansTo_get hj
    have hle : A.length + j ≤ all.length := by rw [he, List.length_append, scansTo_len]; omega
    have hi := hrun_inv T all (A.length + j) hle
    rw [show A.length + (j + 1) = A.length + j + 1 by omega, hrun_succ hd]
    obtain ⟨s, hs⟩ : ∃ s, (hrun T all (A.length + j)).1 = s := ⟨_, rfl⟩
    rw [hs] at h1 h2 hi ⊢
    have hst : hstep T s ⟨4, (j : Int), 0⟩ ((A.length + j : Nat) : Int) = { s with waits := s.waits.set j (hkept s.guards (s.waits.getD j [])), freed := s.freed ++ hfreed s.guards (s.waits.getD j []) ((A.length + j : Nat) : Int) } := by
      unfold hstep
      rw [if_pos (hcode_plain (.inr rfl) hj)]
      unfold hact
      rw [if_neg (by simp), if_neg (by simp), if_neg (by simp)]
      rfl
    show (hstep T s ⟨4, (j : Int), 0⟩ ((A.length + j : Nat) : Int)).guards = _ ∧ ∀ i, i < j + 1 → ∀ x ∈ (hstep T s ⟨4, (j : Int), 0⟩ ((A.length + j : Nat) : Int)).waits.getD i [], _
    rw [hst]
    refine ⟨h1, fun i hi2 x hx => ?_⟩
    simp only at hx
    rw [getD_set (by rw [hi.wl]; omega)] at hx
    split at hx
    · have := (List.mem_filter.1 hx).2
      rw [← h1]; simpa using this
    · exact h2 i (by omega) x hx
theorem clear_phase {T : Nat} {l R all : List Deed} (he : all = l ++ (clearsTo T ++ R)) : ∀ j, j ≤ T → ∀ i, i < j → (hrun T all (l.length + j)).1.guards.getD i 0 = -1
  | 0, _ => fun i hi => by omega
  | j + 1, hj => by
    have h2 := clear_phase he j (by omega)
    have hd : all[l.length + j]? = some ⟨2, (j : Int), 0⟩ := by
      rw [he, List.getElem?_append_right (by omega), show l.length + j - l.length = j by omega, List.getElem?_append_left (by rw [clearsTo_len]; omega)]; exact clearsTo_get hj
    have hle : l.length + j ≤ all.length := by rw [he, List.length_append, List.length_append, clearsTo_len]; omega
    have hi := hrun_inv T all (l.length + j) hle
    rw [show l.length + (j + 1) = l.length + j + 1 by omega, hrun_succ hd]
    obtain ⟨s, hs⟩ : ∃ s, (hrun T all (l.length + j)).1 = s := ⟨_, rfl⟩
    rw [hs] at h2 hi ⊢
    have hst : hstep T s ⟨2, (j : Int), 0⟩ ((l.length + j : Nat) : Int) = { s with guards := s.guards.set j (-1) } := by
      unfold hstep
      rw [if_pos (hcode_plain (.inl rfl) hj)]
      unfold hact
      rw [if_neg (by simp), if_pos rfl]
      rfl
    intro i hi2
    show (hstep T s ⟨2, (j : Int), 0⟩ ((l.length + j : Nat) : Int)).guards.getD i 0 = -1
    rw [hst]
    simp only
    rw [getD_set (by rw [hi.gl]; omega)]
    split
    · rfl
    · exact h2 i (by omega)
/-- When all have scanned. -/
theorem few (T : Nat) (A all : List Deed) (he : all = A ++ scansTo T) : ∀ x ∈ (hrun T all all.length).1.waits.flatten, x ∈ (hrun T all A.length).1.guards := by
  have hl : all.length = A.length + T := by rw [he, List.length_append, scansTo_len]
  obtain ⟨h1, h2⟩ := scan_phase he T (Nat.le_refl _)
  rw [hl]
  have hi := hrun_inv T all (A.length + T) (by omega)
  intro x hx
  obtain ⟨ws, hw, hxw⟩ := List.mem_flatten.1 hx
  obtain ⟨i, hi2⟩ := List.mem_iff_getElem?.1 hw
  have hil := (List.getElem?_eq_some_iff.1 hi2).1
  rw [hi.wl] at hil
  exact h2 i hil x (by rw [List.getD_eq_getElem?_getD, hi2]; exact hxw)
theorem few_le (T : Nat) (A all : List Deed) (he : all = A ++ scansTo T) : (hrun T all all.length).1.waits.flatten.length ≤ T := by
  have hi := hrun_inv T all all.length (Nat.le_refl _)
  have hA := hrun_inv T all A.length (by rw [he, List.length_append]; omega)
  have h1 := nodup_le _ _ (List.nodup_append.1 (hi.perm.nodup_iff.2 hi.nodup)).2.1 (few T A all he)
  rw [hA.gl] at h1
  exact h1
theorem few_none (T : Nat) (l all : List Deed) (he : all = (l ++ clearsTo T) ++ scansTo T) : (hrun T all all.length).1.waits.flatten = [] := by
  have hi := hrun_inv T all all.length (Nat.le_refl _)
  have hA := hrun_inv T all (l ++ clearsTo T).length (by rw [he]; simp)
  have h1 := few T _ all he
  refine List.eq_nil_iff_forall_not_mem.2 fun x hx => ?_
  have h2 := h1 x hx
  obtain ⟨i, hi2⟩ := List.mem_iff_getElem?.1 h2
  have hil := (List.getElem?_eq_some_iff.1 hi2).1
  rw [hA.gl] at hil
  have h3 := clear_phase (l := l) (R := scansTo T) (all := all) (by rw [he, List.append_assoc]) T (Nat.le_refl _) i hil
  rw [List.length_append, clearsTo_len, List.getD_eq_getElem?_getD] at *
  rw [hi2] at h3
  have h4 := hi.gone x (hi.perm.mem_iff.1 (List.mem_append.2 (.inr hx)))
  simp at h3
  omega
end Go.Proofs.Ytgmjhoekpbomiaa
