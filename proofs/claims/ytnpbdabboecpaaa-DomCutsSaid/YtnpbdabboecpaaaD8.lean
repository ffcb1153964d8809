/- Who comes ahead of each; the order in which they are found. Plain. -/
import Derived.Test.YtnpbdabboecpaaaD2
import Derived.Test.YtnpbdabboecpaaaD3
namespace Go.Proofs.Ytnpbdabboecpaaa.Dom
open Go.Proofs.Ytnpbdabboecpaaa

def push1 (fr : List (List Int)) (t i : Int) : List (List Int) := fr.set t.toNat (fr.getD t.toNat [] ++ [i])
def pushAll (fr : List (List Int)) (ts : List Int) (i : Int) : List (List Int) := ts.foldl (fun fr t => push1 fr t i) fr
theorem pushAll_snoc (fr : List (List Int)) (ts : List Int) (t i : Int) : pushAll fr (ts ++ [t]) i = push1 (pushAll fr ts i) t i := by simp [pushAll]
theorem push1_len (fr : List (List Int)) (t i : Int) : (push1 fr t i).length = fr.length := by simp [push1]
theorem pushAll_len (ts : List Int) (i : Int) : ∀ fr : List (List Int), (pushAll fr ts i).length = fr.length := by
  induction ts with
  | nil => intro fr; rfl
  | cons t ts ih => intro fr; show (pushAll (push1 fr t i) ts i).length = _; rw [ih, push1_len]
theorem mem_push1 {fr : List (List Int)} {t i x j : Int} (ht : 0 ≤ t ∧ t < fr.length) (hx : 0 ≤ x) : j ∈ (push1 fr t i).getD x.toNat [] ↔ j ∈ fr.getD x.toNat [] ∨ (j = i ∧ x = t) := by
  unfold push1
  rw [List.getD_eq_getElem?_getD, List.getElem?_set]
  by_cases h : t.toNat = x.toNat
  · have h2 : x = t := by omega
    subst h2
    rw [if_pos rfl, if_pos (by omega)]
    simp
  · have h2 : ¬ x = t := by omega
    rw [if_neg h, ← List.getD_eq_getElem?_getD]
    simp [h2]
theorem mem_pushAll {ts : List Int} {i x j : Int} (hx : 0 ≤ x) : ∀ {fr : List (List Int)}, (∀ t ∈ ts, 0 ≤ t ∧ t < fr.length) → (j ∈ (pushAll fr ts i).getD x.toNat [] ↔ j ∈ fr.getD x.toNat [] ∨ (j = i ∧ x ∈ ts)) := by
  induction ts with
  | nil => intro fr _; simp [pushAll]
  | cons t ts ih =>
    intro fr ht
    show j ∈ (pushAll (push1 fr t i) ts i).getD x.toNat [] ↔ _
    rw [ih (fun u hu => by rw [push1_len]; exact ht u (List.mem_cons_of_mem _ hu)), mem_push1 (ht t (by simp)) hx]
    simp only [List.mem_cons]
    constructor
    · rintro ((h | ⟨h1, h2⟩) | ⟨h1, h2⟩)
      · exact .inl h
      · exact .inr ⟨h1, .inl h2⟩
      · exact .inr ⟨h1, .inr h2⟩
    · rintro (h | ⟨h1, h2 | h2⟩)
      · exact .inl (.inl h)
      · exact .inl (.inr ⟨h1, h2⟩)
      · exact .inr ⟨h1, h2⟩
/-- The rows when all but the first k of the order are still to come. -/
def frmTo (g : G) (l : List Int) : List (List Int) := l.foldl (fun fr i => pushAll fr (targets (fieldsAt g i)) i) (List.replicate g.objs.length [])
theorem frmTo_snoc (g : G) (l : List Int) (i : Int) : frmTo g (l ++ [i]) = pushAll (frmTo g l) (targets (fieldsAt g i)) i := by simp [frmTo]
theorem frmTo_nil (g : G) : frmTo g [] = List.replicate g.objs.length [] := rfl
theorem target_in {g : G} (hG : Good g) {i t : Int} (h : t ∈ targets (fieldsAt g i)) : 0 ≤ t ∧ t < g.objs.length :=
  ref_in' hG (fieldsAt_in (mem_of_target h))
theorem root_in {g : G} (hG : Good g) {t : Int} (h : t ∈ targets g.roots) : 0 ≤ t ∧ t < g.objs.length :=
  ref_in' hG (List.mem_append_left _ (mem_of_target h))
theorem frmTo_spec {g : G} (hG : Good g) {x j : Int} (hx : 0 ≤ x) (l : List Int) : (frmTo g l).length = g.objs.length ∧ (j ∈ (frmTo g l).getD x.toNat [] ↔ j ∈ l ∧ x ∈ targets (fieldsAt g j)) := by
  obtain ⟨n, hn⟩ : ∃ n, l.length = n := ⟨_, rfl⟩
  induction n generalizing l with
  | zero =>
    have : l = [] := List.eq_nil_of_length_eq_zero hn
    subst this
    rw [frmTo_nil]
    refine ⟨by simp, ?_⟩
    rw [List.getD_eq_getElem?_getD, List.getElem?_replicate]
    split <;> simp
  | succ n ih =>
    have hne : l ≠ [] := by rintro rfl; simp at hn
    obtain ⟨p, i, rfl⟩ : ∃ p i, l = p ++ [i] := ⟨l.dropLast, l.getLast hne, (List.dropLast_concat_getLast hne).symm⟩
    obtain ⟨h1, h2⟩ := ih p (by simpa using hn)
    rw [frmTo_snoc]
    refine ⟨by rw [pushAll_len, h1], ?_⟩
    rw [mem_pushAll hx (fun t ht => by rw [h1]; exact target_in hG ht), h2]
    simp only [List.mem_append, List.mem_singleton]
    constructor
    · rintro (⟨h3, h4⟩ | ⟨h3, h4⟩)
      · exact ⟨.inl h3, h4⟩
      · subst h3; exact ⟨.inr rfl, h4⟩
    · rintro ⟨h3 | h3, h4⟩
      · exact .inl ⟨h3, h4⟩
      · subst h3; exact .inr ⟨rfl, h4⟩
def frmOf (g : G) (F : List Int) : List (List Int) := pushAll (frmTo g F) (targets g.roots) (-1)
theorem frm_ok {g : G} (hG : Good g) (F : List Int) : FromOk g F (frmOf g F) := by
  refine ⟨by unfold frmOf; rw [pushAll_len, (frmTo_spec hG (x := 0) (j := 0) (Int.le_refl _) F).1], fun x h0 h1 j => ?_⟩
  unfold frmOf
  rw [mem_pushAll h0 (fun t ht => by rw [(frmTo_spec hG (x := 0) (j := 0) (Int.le_refl _) F).1]; exact root_in hG ht), (frmTo_spec hG h0 F).2]
  constructor
  · rintro (h | h)
    · exact .inr h
    · exact .inl h
  · rintro (h | h)
    · exact .inr h
    · exact .inl h
theorem push1_row (fr : List (List Int)) (t i : Int) (y : Nat) : ((push1 fr t i).getD y []).length ≤ (fr.getD y []).length + 1 := by
  unfold push1
  rw [List.getD_eq_getElem?_getD, List.getElem?_set]
  by_cases h : t.toNat = y
  · rw [if_pos h]
    subst h
    split
    · simp
    · simp
  · rw [if_neg h, ← List.getD_eq_getElem?_getD]; omega
theorem pushAll_row (ts : List Int) (i : Int) (y : Nat) : ∀ fr : List (List Int), ((pushAll fr ts i).getD y []).length ≤ (fr.getD y []).length + ts.length := by
  induction ts with
  | nil => intro fr; exact Nat.le_refl _
  | cons t ts ih =>
    intro fr
    have h1 := ih (push1 fr t i)
    have h2 := push1_row fr t i y
    show ((pushAll (push1 fr t i) ts i).getD y []).length ≤ _
    simp only [List.length_cons]
    omega
theorem fieldsAt_le {g : G} (hG : Good g) (i : Int) : (targets (fieldsAt g i)).length ≤ 4 := by
  have h1 : (targets (fieldsAt g i)).length ≤ (fieldsAt g i).length := by
    unfold targets
    rw [List.length_map]
    exact List.length_filter_le _ _
  have h2 : (fieldsAt g i).length ≤ 4 := by
    unfold fieldsAt
    rw [List.getD_eq_getElem?_getD]
    cases h : g.objs[i.toNat]? with
    | none => simp
    | some o => exact hG.fields o (List.mem_of_getElem? h)
  omega
theorem frmTo_row {g : G} (hG : Good g) (y : Nat) : ∀ (n : Nat) (l : List Int), l.length = n → ((frmTo g l).getD y []).length ≤ 4 * n := by
  intro n
  induction n with
  | zero =>
    intro l hl
    have : l = [] := List.eq_nil_of_length_eq_zero hl
    subst this
    rw [frmTo_nil, List.getD_eq_getElem?_getD, List.getElem?_replicate]
    split <;> simp
  | succ n ih =>
    intro l hl
    have hne : l ≠ [] := by rintro rfl; simp at hl
    obtain ⟨p, i, rfl⟩ : ∃ p i, l = p ++ [i] := ⟨l.dropLast, l.getLast hne, (List.dropLast_concat_getLast hne).symm⟩
    have h1 := ih p (by simpa using hl)
    have h2 := pushAll_row (targets (fieldsAt g i)) i y (frmTo g p)
    have h3 := fieldsAt_le hG i
    rw [frmTo_snoc]
    omega
theorem rch_in {g : G} (hG : Good g) {x : Int} (h : Rch g x) : 0 ≤ x ∧ x < g.objs.length := by
  cases h with
  | root h1 h2 _ => exact root_in hG (mem_targets_iff.2 ⟨_, h1, h2, rfl⟩)
  | step _ h1 h2 _ => exact target_in hG (mem_targets_iff.2 ⟨_, h1, h2, rfl⟩)
theorem idx_lt_of_split {l a b : List Int} {i j : Int} (hn : l.Nodup) (h : l = b ++ i :: a) (hj : j ∈ b) : l.idxOf j < l.idxOf i := by
  subst h
  have h1 : i ∉ b := by
    intro hi
    have := List.nodup_append.1 hn
    exact this.2.2 i hi i (by simp) rfl
  rw [List.idxOf_append, List.idxOf_append, if_pos hj, if_neg h1]
  have := List.idxOf_lt_length_of_mem hj
  omega
theorem ord_ok {g : G} (hG : Good g) {K : List Bool} {new : List Int} (h : PostS g (List.replicate g.objs.length false) K new (targets g.roots)) : OrdOk g new.reverse := by
  have hn : new.reverse.Nodup := by unfold List.Nodup; rw [List.pairwise_reverse]; exact h.nodup.imp fun h => Ne.symm h
  have hm : ∀ i, i ∈ new.reverse ↔ Rch g i := fun i => by rw [List.mem_reverse]; exact h.whole i
  refine ⟨hn, hm, fun i hi => rch_in hG ((hm i).1 hi), fun i hi => ?_⟩
  obtain ⟨a, b, he⟩ := List.append_of_mem (List.mem_reverse.1 hi)
  rcases h.order a b i he with h1 | ⟨j, hj, h1⟩
  · exact .inl h1
  · refine .inr ⟨j, ?_, ?_, h1⟩
    · rw [List.mem_reverse, he]; exact List.mem_append_right _ (List.mem_cons_of_mem _ hj)
    · refine idx_lt_of_split (a := a.reverse) (b := b.reverse) hn ?_ (List.mem_reverse.2 hj)
      rw [he]; simp
end Go.Proofs.Ytnpbdabboecpaaa.Dom
