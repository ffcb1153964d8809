/- Epoch: the plain model and its laws. -/
import Derived.Test.YtgmjhoekpbomiaaZi
namespace Go.Proofs.Ytgmjhoekpbomiaa

structure ES where
  ep : Int
  ths : List Int
  waits : List (Int × Int)
  freed : List (Int × Int)
def ebusy (s : ES) : Bool := s.ths.any fun e => decide (e ≠ -1 ∧ e ≠ s.ep)
def eold (ep : Int) (x : Int × Int) : Bool := decide (x.2 ≤ ep - 1)
def efree (s : ES) (by_ : Int) : ES :=
  { s with ep := s.ep + 1, waits := s.waits.filter fun x => !eold s.ep x, freed := s.freed ++ (s.waits.filter (eold s.ep)).map fun x => (x.1, by_) }
def edoes (s : ES) (d : Deed) : ES × Int :=
  if (s.ths.getD d.who.toNat (-1) ≠ -1) ↔ d.kind = 1 then (s, 8)
  else if d.kind = 1 then ({ s with ths := s.ths.set d.who.toNat s.ep }, 0)
  else if d.kind = 2 then ({ s with ths := s.ths.set d.who.toNat (-1) }, 0)
  else if s.waits.length = 100 then (s, 6)
  else ({ s with waits := s.waits ++ [(d.item, s.ep)] }, 0)
def estep (T : Nat) (s : ES) (d : Deed) (by_ : Int) : ES × Int :=
  if d.kind = 4 then (if ebusy s = true then (s, 8) else (efree s by_, 0))
  else if d.kind < 1 ∨ 4 < d.kind then (s, 5)
  else if d.who < 0 ∨ (T : Int) ≤ d.who then (s, 2)
  else edoes s d
def estart (T : Nat) : ES := ⟨0, List.replicate T (-1), [], []⟩
/-- The state ahead of deed k. -/
def est (T : Nat) (l : List Deed) : Nat → ES
  | 0 => estart T
  | k + 1 => match l[k]? with
    | some d => (estep T (est T l k) d k).1
    | none => est T l k
def ecode (T : Nat) (l : List Deed) (k : Nat) : Int := match l[k]? with
  | some d => (estep T (est T l k) d k).2
  | none => 0
def ecodes (T : Nat) (l : List Deed) (k : Nat) : List Int := (List.range k).map (ecode T l)
theorem est_succ {T : Nat} {l : List Deed} {k : Nat} {d : Deed} (h : l[k]? = some d) : est T l (k + 1) = (estep T (est T l k) d k).1 := by
  show (match l[k]? with | some d => _ | none => _) = _
  rw [h]
theorem ecode_at {T : Nat} {l : List Deed} {k : Nat} {d : Deed} (h : l[k]? = some d) : ecode T l k = (estep T (est T l k) d k).2 := by
  unfold ecode; rw [h]
theorem ecodes_succ (T : Nat) (l : List Deed) (k : Nat) : ecodes T l (k + 1) = ecodes T l k ++ [ecode T l k] := by unfold ecodes; rw [List.range_succ, List.map_append]; rfl
theorem ecodes_len (T : Nat) (l : List Deed) (k : Nat) : (ecodes T l k).length = k := by simp [ecodes]
theorem ecodes_get {T : Nat} {l : List Deed} {k n : Nat} (h : k < n) : (ecodes T l n)[k]? = some (ecode T l k) := by simp [ecodes, h]

/-! ### What a deed does -/
theorem estep_cases (T : Nat) (s : ES) (d : Deed) (b : Int) :
    ((estep T s d b).1 = s ∧ (estep T s d b).2 ≠ 0) ∨
    (d.kind = 4 ∧ ebusy s = false ∧ estep T s d b = (efree s b, 0)) ∨
    (∃ i : Nat, d.who = i ∧ i < T ∧ d.kind = 1 ∧ s.ths.getD i (-1) = -1 ∧ estep T s d b = ({ s with ths := s.ths.set i s.ep }, 0)) ∨
    (∃ i : Nat, d.who = i ∧ i < T ∧ d.kind = 2 ∧ estep T s d b = ({ s with ths := s.ths.set i (-1) }, 0)) ∨
    (∃ i : Nat, d.who = i ∧ i < T ∧ d.kind = 3 ∧ s.waits.length ≠ 100 ∧ estep T s d b = ({ s with waits := s.waits ++ [(d.item, s.ep)] }, 0)) := by
  unfold estep
  by_cases h4 : d.kind = 4
  · rw [if_pos h4]
    cases hb : ebusy s with
    | true => exact .inl ⟨by simp, by simp⟩
    | false => exact .inr (.inl ⟨h4, rfl, by simp⟩)
  rw [if_neg h4]
  by_cases hk : d.kind < 1 ∨ 4 < d.kind
  · rw [if_pos hk]; exact .inl ⟨rfl, by simp⟩
  rw [if_neg hk]
  by_cases hw : d.who < 0 ∨ (T : Int) ≤ d.who
  · rw [if_pos hw]; exact .inl ⟨rfl, by simp⟩
  rw [if_neg hw]
  obtain ⟨i, hi⟩ : ∃ i : Nat, d.who = i := ⟨d.who.toNat, by omega⟩
  have hwt : d.who.toNat = i := by omega
  unfold edoes
  rw [hwt]
  by_cases h0 : (s.ths.getD i (-1) ≠ -1) ↔ d.kind = 1
  · rw [if_pos h0]; exact .inl ⟨rfl, by simp⟩
  rw [if_neg h0]
  by_cases h1 : d.kind = 1
  · rw [if_pos h1]
    refine .inr (.inr (.inl ⟨i, hi, by omega, h1, ?_, rfl⟩))
    rcases Int.decEq (s.ths.getD i (-1)) (-1) with h | h
    · exact absurd ⟨fun _ => h1, fun _ => h⟩ h0
    · exact h
  rw [if_neg h1]
  by_cases h2 : d.kind = 2
  · rw [if_pos h2]; exact .inr (.inr (.inr (.inl ⟨i, hi, by omega, h2, rfl⟩)))
  rw [if_neg h2]
  by_cases h3 : s.waits.length = 100
  · rw [if_pos h3]; exact .inl ⟨rfl, by simp⟩
  · rw [if_neg h3]; exact .inr (.inr (.inr (.inr ⟨i, hi, by omega, by omega, h3, rfl⟩)))

/-! ### Invariants -/
def leftIn (T : Nat) (l : List Deed) (w : Int) (j k : Nat) : Prop := ∃ m, j ≤ m ∧ m < k ∧ ∃ d, l[m]? = some d ∧ d.kind = 2 ∧ d.who = w ∧ ecode T l m = 0
theorem leftIn.more {T : Nat} {l : List Deed} {w : Int} {j k k' : Nat} (h : leftIn T l w j k) (hk : k ≤ k') : leftIn T l w j k' := by
  obtain ⟨m, h1, h2, h3⟩ := h
  exact ⟨m, h1, by omega, h3⟩
def retiredAt (T : Nat) (l : List Deed) (j : Nat) (x : Int) : Prop := ∃ d, l[j]? = some d ∧ d.kind = 3 ∧ d.item = x ∧ ecode T l j = 0
structure EInv (T : Nat) (l : List Deed) (k : Nat) (s : ES) : Prop where
  ep : 0 ≤ s.ep ∧ s.ep ≤ k
  thl : s.ths.length = T
  th : ∀ i : Nat, i < T → s.ths.getD i (-1) = -1 ∨ (0 ≤ s.ths.getD i (-1) ∧ s.ths.getD i (-1) ≤ s.ep)
  we : ∀ x ∈ s.waits, 0 ≤ x.2 ∧ x.2 ≤ s.ep
  perm : (s.freed.map (·.1) ++ s.waits.map (·.1)).Perm (retiredTo l (ecodes T l l.length) 3 k)
  wait : ∀ x ∈ s.waits, ∃ j, j < k ∧ retiredAt T l j x.1 ∧ ∀ i : Nat, i < T → (est T l j).ths.getD i (-1) ≠ -1 → leftIn T l i j k ∨ (s.ths.getD i (-1) ≠ -1 ∧ s.ths.getD i (-1) ≤ x.2)
  free : ∀ x ∈ s.freed, ∃ j b : Nat, x.2 = b ∧ j < b ∧ b < k ∧ retiredAt T l j x.1 ∧ ∀ i : Nat, i < T → (est T l j).ths.getD i (-1) ≠ -1 → leftIn T l i j b
theorem EInv.start (T : Nat) (l : List Deed) : EInv T l 0 (estart T) := by
  refine ⟨⟨by simp [estart], by simp [estart]⟩, by simp [estart], fun i hi => .inl ?_, by simp [estart], ?_, by simp [estart], by simp [estart]⟩
  · simp [estart, List.getD_eq_getElem?_getD, hi]
  · simp [estart, retiredTo]
theorem filter_parts2 {α : Type} (ws : List α) (p : α → Bool) : (ws.filter p ++ ws.filter fun x => !p x).Perm ws := by
  induction ws with
  | nil => exact .refl _
  | cons a ws ih =>
    cases h : p a with
    | true => rw [List.filter_cons_of_pos h, List.filter_cons_of_neg (by simp [h])]; exact ih.cons a
    | false => rw [List.filter_cons_of_neg (by simp [h]), List.filter_cons_of_pos (by simp [h])]; exact List.perm_middle.trans (ih.cons a)
theorem EInv.step {T : Nat} {l : List Deed} {k : Nat} {s : ES} (h : EInv T l k s) (hs : est T l k = s) {d : Deed} (hd : l[k]? = some d) : EInv T l (k + 1) (estep T s d k).1 := by
  have hkl := (List.getElem?_eq_some_iff.1 hd).1
  have hcs : (ecodes T l l.length)[k]? = some (estep T s d k).2 := by rw [ecodes_get hkl, ecode_at hd, hs]
  have hec : ecode T l k = (estep T s d k).2 := by rw [ecode_at hd, hs]
  have hrt := retiredTo_succ l _ 3 k d _ hd hcs
  have hfree : ∀ x ∈ s.freed, ∃ j b : Nat, x.2 = b ∧ j < b ∧ b < k + 1 ∧ retiredAt T l j x.1 ∧ ∀ i : Nat, i < T → (est T l j).ths.getD i (-1) ≠ -1 → leftIn T l i j b := by
    intro x hx
    obtain ⟨j, b, h1, h2, h3, h4⟩ := h.free x hx
    exact ⟨j, b, h1, h2, by omega, h4⟩
  have hwait : ∀ x ∈ s.waits, ∃ j, j < k + 1 ∧ retiredAt T l j x.1 ∧ ∀ i : Nat, i < T → (est T l j).ths.getD i (-1) ≠ -1 → leftIn T l i j (k + 1) ∨ (s.ths.getD i (-1) ≠ -1 ∧ s.ths.getD i (-1) ≤ x.2) := by
    intro x hx
    obtain ⟨j, h1, h2, h3⟩ := h.wait x hx
    exact ⟨j, by omega, h2, fun i hi hn => (h3 i hi hn).imp (fun h => h.more (by omega)) id⟩
  rcases estep_cases T s d k with ⟨h1, h2⟩ | ⟨h4, hb, he⟩ | ⟨i, hi, hiT, hk1, hout, he⟩ | ⟨i, hi, hiT, hk2, he⟩ | ⟨i, hi, hiT, hk3, hn, he⟩
  · rw [h1]
    rw [if_neg (fun h => h2 h.2), List.append_nil] at hrt
    exact ⟨⟨h.ep.1, by have := h.ep.2; omega⟩, h.thl, h.th, h.we, by rw [hrt]; exact h.perm, hwait, hfree⟩
  · rw [he] at hec hrt ⊢
    rw [if_neg (by omega), List.append_nil] at hrt
    have hep := h.ep
    refine ⟨⟨by simp [efree]; omega, by simp [efree]; omega⟩, h.thl, fun i hi => ?_, fun x hx => ?_, ?_, fun x hx => ?_, fun x hx => ?_⟩
    · rcases h.th i hi with h1 | h1
      · exact .inl h1
      · refine .inr ⟨h1.1, ?_⟩
        show s.ths.getD i (-1) ≤ s.ep + 1
        omega
    · have := h.we x (List.mem_filter.1 hx).1
      refine ⟨this.1, ?_⟩
      show x.2 ≤ s.ep + 1
      omega
    · rw [hrt]
      refine List.Perm.trans ?_ h.perm
      show ((s.freed ++ (s.waits.filter (eold s.ep)).map fun x => (x.1, (k : Int))).map (·.1) ++ (s.waits.filter fun x => !eold s.ep x).map (·.1)).Perm _
      rw [List.map_append, List.map_map, List.append_assoc]
      refine List.Perm.append_left _ ?_
      have := (filter_parts2 s.waits (eold s.ep)).map (·.1)
      rw [List.map_append] at this
      exact this
    · exact hwait x (List.mem_filter.1 hx).1
    · rcases List.mem_append.1 hx with h1 | h1
      · exact hfree x h1
      · obtain ⟨y, hy, rfl⟩ := List.mem_map.1 h1
        obtain ⟨hy1, hy2⟩ := List.mem_filter.1 hy
        obtain ⟨j, h5, h6, h7⟩ := h.wait y hy1
        refine ⟨j, k, rfl, h5, by omega, h6, fun i hi hn => ?_⟩
        rcases h7 i hi hn with h8 | ⟨h8, h9⟩
        · exact h8
        · exfalso
          unfold eold at hy2
          rw [decide_eq_true_eq] at hy2
          have hmem : s.ths.getD i (-1) ∈ s.ths := by
            rw [List.getD_eq_getElem?_getD, List.getElem?_eq_getElem (by rw [h.thl]; exact hi)]; exact List.getElem_mem _
          have : ebusy s = true := by
            unfold ebusy
            rw [List.any_eq_true]
            exact ⟨_, hmem, by rw [decide_eq_true_eq]; exact ⟨h8, by omega⟩⟩
          rw [hb] at this; cases this
  · rw [he] at hec hrt ⊢
    rw [if_neg (by omega), List.append_nil] at hrt
    have hep := h.ep
    refine ⟨⟨hep.1, by simp only; omega⟩, by simp [h.thl], fun m hm => ?_, h.we, by rw [hrt]; exact h.perm, fun x hx => ?_, hfree⟩
    · simp only
      rw [getD_set (by rw [h.thl]; exact hiT)]
      split
      · exact .inr ⟨hep.1, Int.le_refl _⟩
      · exact h.th m hm
    · obtain ⟨j, h1, h2, h3⟩ := hwait x hx
      refine ⟨j, h1, h2, fun m hm hn => ?_⟩
      rcases h3 m hm hn with h4 | ⟨h4, h5⟩
      · exact .inl h4
      · refine .inr ?_
        simp only
        rw [getD_set (by rw [h.thl]; exact hiT)]
        rw [if_neg (fun e => by subst e; exact h4 hout)]
        exact ⟨h4, h5⟩
  · rw [he] at hec hrt ⊢
    rw [if_neg (by omega), List.append_nil] at hrt
    have hep := h.ep
    refine ⟨⟨hep.1, by simp only; omega⟩, by simp [h.thl], fun m hm => ?_, h.we, by rw [hrt]; exact h.perm, fun x hx => ?_, hfree⟩
    · simp only
      rw [getD_set (by rw [h.thl]; exact hiT)]
      split
      · exact .inl rfl
      · exact h.th m hm
    · obtain ⟨j, h1, h2, h3⟩ := h.wait x hx
      refine ⟨j, by omega, h2, fun m hm hn => ?_⟩
      by_cases e : m = i
      · subst e
        exact .inl ⟨k, by omega, by omega, d, hd, hk2, hi, hec⟩
      · rcases h3 m hm hn with h4 | ⟨h4, h5⟩
        · exact .inl (h4.more (by omega))
        · refine .inr ?_
          simp only
          rw [getD_set (by rw [h.thl]; exact hiT), if_neg e]
          exact ⟨h4, h5⟩
  · rw [he] at hec hrt ⊢
    rw [if_pos ⟨hk3, rfl⟩] at hrt
    have hep := h.ep
    refine ⟨⟨hep.1, by simp only; omega⟩, h.thl, h.th, fun x hx => ?_, ?_, fun x hx => ?_, hfree⟩
    · rcases List.mem_append.1 hx with h1 | h1
      · exact h.we x h1
      · simp at h1; subst h1; exact ⟨hep.1, Int.le_refl _⟩
    · rw [hrt]
      simp only
      rw [List.map_append, ← List.append_assoc]
      exact h.perm.append_right _
    · rcases List.mem_append.1 hx with h1 | h1
      · exact hwait x h1
      · simp at h1; subst h1
        refine ⟨k, by omega, ⟨d, hd, hk3, rfl, hec⟩, fun m hm hn => .inr ?_⟩
        rw [hs] at hn
        rcases h.th m hm with h5 | h5
        · exact absurd h5 hn
        · exact ⟨hn, h5.2⟩
theorem est_inv (T : Nat) (l : List Deed) : ∀ k, k ≤ l.length → EInv T l k (est T l k)
  | 0, _ => EInv.start T l
  | k + 1, h => by
    have hd : l[k]? = some l[k] := List.getElem?_eq_getElem (by omega)
    rw [est_succ hd]
    exact (est_inv T l k (by omega)).step rfl hd
end Go.Proofs.Ytgmjhoekpbomiaa
