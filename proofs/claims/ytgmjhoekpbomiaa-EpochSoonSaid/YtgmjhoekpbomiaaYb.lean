/- Epoch: who is inside; what EpochSafe and EpochSoon ask. -/
import Derived.Test.YtgmjhoekpbomiaaYa
import Derived.Test.YtgmjhoekpbomiaaZp
namespace Go.Proofs.Ytgmjhoekpbomiaa

def insideTo (l : List Deed) (cs : List Int) : Nat → List Int
  | 0 => []
  | k + 1 => match l[k]?, cs[k]? with
    | some d, some c => if c ≠ 0 ∨ (d.kind ≠ 1 ∧ d.kind ≠ 2) then insideTo l cs k
        else (insideTo l cs k).filter (fun w => decide (w ≠ d.who)) ++ if d.kind = 1 then [d.who] else []
    | _, _ => insideTo l cs k
theorem insideTo_succ {l : List Deed} {cs : List Int} {k : Nat} {d : Deed} {c : Int} (hd : l[k]? = some d) (hc : cs[k]? = some c) :
    insideTo l cs (k + 1) = if c ≠ 0 ∨ (d.kind ≠ 1 ∧ d.kind ≠ 2) then insideTo l cs k else (insideTo l cs k).filter (fun w => decide (w ≠ d.who)) ++ if d.kind = 1 then [d.who] else [] := by
  show (match l[k]?, cs[k]? with | some d, some c => _ | _, _ => _) = _
  rw [hd, hc]
theorem insideTo_le (l : List Deed) (cs : List Int) : ∀ k, (insideTo l cs k).length ≤ k
  | 0 => by simp [insideTo]
  | k + 1 => by
    have ih := insideTo_le l cs k
    unfold insideTo
    split
    · split
      · omega
      · rename_i d c _ _ _
        have := List.length_filter_le (fun w => decide (w ≠ d.who)) (insideTo l cs k)
        rw [List.length_append]
        split
        · rw [List.length_singleton]; omega
        · rw [List.length_nil]; omega
    · omega
theorem inside_is (T : Nat) (l : List Deed) : ∀ k, k ≤ l.length → ∀ w ∈ insideTo l (ecodes T l l.length) k, ∃ i : Nat, w = i ∧ i < T ∧ (est T l k).ths.getD i (-1) ≠ -1
  | 0, _ => by intro w hw; simp [insideTo] at hw
  | k + 1, h => by
    have ih := inside_is T l k (by omega)
    have hd : l[k]? = some l[k] := List.getElem?_eq_getElem (by omega)
    have hi := est_inv T l k (by omega)
    obtain ⟨d, hdd⟩ : ∃ d, l[k] = d := ⟨_, rfl⟩
    rw [hdd] at hd
    have hc : (ecodes T l l.length)[k]? = some (estep T (est T l k) d k).2 := by rw [ecodes_get (by omega), ecode_at hd]
    rw [insideTo_succ hd hc, est_succ hd]
    obtain ⟨s, hs⟩ : ∃ s, est T l k = s := ⟨_, rfl⟩
    rw [hs] at ih hi ⊢
    intro w hw
    rcases estep_cases T s d k with ⟨h1, h2⟩ | ⟨h4, hb, he⟩ | ⟨i, hi2, hiT, hk1, hout, he⟩ | ⟨i, hi2, hiT, hk2, he⟩ | ⟨i, hi2, hiT, hk3, hn, he⟩
    · rw [if_pos (.inl h2)] at hw
      rw [h1]; exact ih w hw
    · rw [if_pos (.inr ⟨by omega, by omega⟩)] at hw
      rw [he]; exact ih w hw
    · rw [he] at hw ⊢
      rw [if_neg (by simp only; omega), if_pos hk1] at hw
      rcases List.mem_append.1 hw with h3 | h3
      · obtain ⟨h4, h5⟩ := List.mem_filter.1 h3
        obtain ⟨m, h6, h7, h8⟩ := ih w h4
        refine ⟨m, h6, h7, ?_⟩
        simp only
        rw [getD_set (by rw [hi.thl]; exact hiT)]
        split
        · have := hi.ep.1; omega
        · exact h8
      · simp at h3
        refine ⟨i, by omega, hiT, ?_⟩
        simp only
        rw [getD_set (by rw [hi.thl]; exact hiT), if_pos rfl]
        have := hi.ep.1; omega
    · rw [he] at hw ⊢
      rw [if_neg (by simp only; omega), if_neg (by omega), List.append_nil] at hw
      obtain ⟨h4, h5⟩ := List.mem_filter.1 hw
      obtain ⟨m, h6, h7, h8⟩ := ih w h4
      refine ⟨m, h6, h7, ?_⟩
      rw [decide_eq_true_eq] at h5
      simp only
      rw [getD_set (by rw [hi.thl]; exact hiT), if_neg (by omega)]
      exact h8
    · rw [if_pos (.inr ⟨by omega, by omega⟩)] at hw
      rw [he]; exact ih w hw
theorem count_two {α : Type} (p : α → Bool) : ∀ (l : List α) (i j : Nat), i ≠ j → (∃ x, l[i]? = some x ∧ p x = true) → (∃ x, l[j]? = some x ∧ p x = true) → 2 ≤ l.countP p
  | [], i, j, _, ⟨x, h, _⟩, _ => by simp at h
  | a :: l, 0, 0, h, _, _ => absurd rfl h
  | a :: l, 0, j + 1, _, ⟨x, h1, h2⟩, ⟨y, h3, h4⟩ => by
    simp at h1; subst h1
    have : 0 < l.countP p := List.countP_pos_iff.2 ⟨y, List.mem_of_getElem? (by simpa using h3), h4⟩
    rw [List.countP_cons_of_pos h2]; omega
  | a :: l, i + 1, 0, _, ⟨x, h1, h2⟩, ⟨y, h3, h4⟩ => by
    simp at h3; subst h3
    have : 0 < l.countP p := List.countP_pos_iff.2 ⟨x, List.mem_of_getElem? (by simpa using h1), h2⟩
    rw [List.countP_cons_of_pos h4]; omega
  | a :: l, i + 1, j + 1, h, ⟨x, h1, h2⟩, ⟨y, h3, h4⟩ => by
    have := count_two p l i j (by omega) ⟨x, by simpa using h1, h2⟩ ⟨y, by simpa using h3, h4⟩
    have h5 := List.Sublist.countP_le (p := p) (List.sublist_cons_self a l)
    omega
def retOf (x : Int) (d : Deed) : Bool := decide (d.kind = 3) && decide (d.item = x)
/-- What EpochSafe asks. -/
theorem epoch_safe {T : Nat} {l : List Deed} {i : Nat} {d : Deed} (hd : l[i]? = some d) (hk : d.kind = 3) (_hc : (ecodes T l l.length)[i]? = some 0) {x : Int × Int} (hx : x ∈ (est T l l.length).freed) (hxi : x.1 = d.item) :
    ∃ b : Nat, x.2 = b ∧ b < l.length ∧ (2 ≤ l.countP (retOf d.item) ∨ ∀ w ∈ insideTo l (ecodes T l l.length) i, leftIn T l w i b) := by
  have hil := (List.getElem?_eq_some_iff.1 hd).1
  obtain ⟨j, b, h1, h2, h3, ⟨dj, h4, h5, h6, h7⟩, h8⟩ := (est_inv T l l.length (Nat.le_refl _)).free x hx
  refine ⟨b, h1, h3, ?_⟩
  by_cases e : i = j
  · subst e
    refine .inr fun w hw => ?_
    obtain ⟨m, rfl, hm, hn⟩ := inside_is T l i (by omega) w hw
    exact h8 m hm hn
  · exact .inl (count_two _ l i j e ⟨d, hd, by simp [retOf, hk]⟩ ⟨dj, h4, by simp [retOf, h5, h6, hxi]⟩)

/-! ### EpochSoon -/
def leavesTo (j : Nat) : List Deed := clearsTo j
theorem leave_phase {T : Nat} {l R all : List Deed} (he : all = l ++ (clearsTo T ++ R)) : ∀ j, j ≤ T → ∀ i, i < j → (est T all (l.length + j)).ths.getD i (-1) = -1
  | 0, _ => fun i hi => by omega
  | j + 1, hj => by
    have h2 := leave_phase he j (by omega)
    have hd : all[l.length + j]? = some ⟨2, (j : Int), 0⟩ := by
      rw [he, List.getElem?_append_right (by omega), show l.length + j - l.length = j by omega, List.getElem?_append_left (by rw [clearsTo_len]; omega)]; exact clearsTo_get hj
    have hle : l.length + j ≤ all.length := by rw [he, List.length_append, List.length_append, clearsTo_len]; omega
    have hi := est_inv T all (l.length + j) hle
    rw [show l.length + (j + 1) = l.length + j + 1 by omega, est_succ hd]
    obtain ⟨s, hs⟩ : ∃ s, est T all (l.length + j) = s := ⟨_, rfl⟩
    rw [hs] at h2 hi ⊢
    intro i hi2
    unfold estep
    rw [if_neg (by simp), if_neg (by simp), if_neg (by simp only; omega)]
    unfold edoes
    simp only [Int.toNat_natCast]
    by_cases h0 : (s.ths.getD j (-1) ≠ -1) ↔ (2 : Int) = 1
    · rw [if_pos h0]
      have h3 : s.ths.getD j (-1) = -1 := by
        rcases Int.decEq (s.ths.getD j (-1)) (-1) with h | h
        · exact absurd (h0.1 h) (by decide)
        · exact h
      by_cases e : i = j
      · subst e; exact h3
      · exact h2 i (by omega)
    · rw [if_neg h0, if_neg (by decide), if_pos trivial]
      simp only
      rw [getD_set (by rw [hi.thl]; omega)]
      split
      · rfl
      · exact h2 i (by omega)
theorem idle_of {T : Nat} {s : ES} (hl : s.ths.length = T) (h : ∀ i, i < T → s.ths.getD i (-1) = -1) : ebusy s = false := by
  unfold ebusy
  rw [List.any_eq_false]
  intro x hx
  obtain ⟨i, hi⟩ := List.mem_iff_getElem?.1 hx
  have h1 := (List.getElem?_eq_some_iff.1 hi).1
  have h2 := h i (by omega)
  rw [List.getD_eq_getElem?_getD, hi] at h2
  simp at h2
  simp [h2]
/-- Two steps when all have left. -/
theorem soon (T : Nat) (l all : List Deed) (he : all = l ++ (clearsTo T ++ [⟨4, 0, 0⟩, ⟨4, 0, 0⟩])) :
    (est T all all.length).waits = [] ∧ (ecodes T all all.length)[all.length - 1]? = some 0 := by
  have hl : all.length = l.length + T + 2 := by rw [he]; simp [clearsTo_len]; omega
  have hd1 : all[l.length + T]? = some ⟨4, 0, 0⟩ := by
    rw [he, List.getElem?_append_right (by omega), show l.length + T - l.length = T by omega, List.getElem?_append_right (by rw [clearsTo_len]; omega), clearsTo_len]; simp
  have hd2 : all[l.length + T + 1]? = some ⟨4, 0, 0⟩ := by
    rw [he, List.getElem?_append_right (by omega), show l.length + T + 1 - l.length = T + 1 by omega, List.getElem?_append_right (by rw [clearsTo_len]; omega), clearsTo_len, show T + 1 - T = 1 by omega]; rfl
  have h0 := leave_phase he T (Nat.le_refl _)
  have hi := est_inv T all (l.length + T) (by omega)
  obtain ⟨s, hs⟩ : ∃ s, est T all (l.length + T) = s := ⟨_, rfl⟩
  rw [hs] at h0 hi
  have hb := idle_of hi.thl h0
  have e1 : est T all (l.length + T + 1) = efree s ((l.length + T : Nat) : Int) := by
    rw [est_succ hd1, hs]; unfold estep; rw [if_pos rfl, if_neg (by rw [hb]; simp)]
  have hb2 : ebusy (efree s ((l.length + T : Nat) : Int)) = false := idle_of (T := T) hi.thl h0
  have e2 : estep T (est T all (l.length + T + 1)) ⟨4, 0, 0⟩ ((l.length + T + 1 : Nat) : Int) = (efree (efree s ((l.length + T : Nat) : Int)) ((l.length + T + 1 : Nat) : Int), 0) := by
    rw [e1]; unfold estep; rw [if_pos rfl, if_neg (by rw [hb2]; simp)]
  refine ⟨?_, ?_⟩
  · rw [hl, est_succ hd2, e2]
    refine List.eq_nil_iff_forall_not_mem.2 fun x hx => ?_
    obtain ⟨h3, h4⟩ := List.mem_filter.1 hx
    obtain ⟨h5, _⟩ := List.mem_filter.1 h3
    have h6 := hi.we x h5
    simp [eold, efree] at h4
    omega
  · rw [ecodes_get (by omega), show all.length - 1 = l.length + T + 1 by omega, ecode_at hd2, e2]
end Go.Proofs.Ytgmjhoekpbomiaa
