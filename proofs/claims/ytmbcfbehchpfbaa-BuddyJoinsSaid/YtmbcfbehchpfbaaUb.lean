/- Free words: what a script does. Plain. -/
import Derived.Test.YtmbcfbehchpfbaaG0
namespace Go.Proofs.Ytmbcfbehchpfbaa

/-- What is free (place and length), what is taken, where the words end that were taken last. -/
structure FSt where
  fr : List (Nat × Nat)
  tk : Int → Option Nat
  last : Nat
/-- The less, the rather it is taken. -/
def rankF (pol : Int) (last : Nat) (b : Nat × Nat) : Int :=
  if pol = 2 then b.2 else if pol = 4 then - (b.2 : Int) else if pol = 3 then (if last ≤ b.1 then 0 else 1) else 0
/-- Is a block rather taken than the one so far? -/
def ratherF (pol : Int) (last : Nat) (fr : List (Nat × Nat)) (k : Nat) : Option Nat → Bool
  | none => true
  | some j => decide (rankF pol last (fr.getD k (0, 0)) < rankF pol last (fr.getD j (0, 0)))
/-- Which is taken, of the first k. -/
def pickTo (pol : Int) (last n : Nat) (fr : List (Nat × Nat)) : Nat → Option Nat
  | 0 => none
  | k + 1 => if n ≤ (fr.getD k (0, 0)).2 ∧ ratherF pol last fr k (pickTo pol last n fr k) = true then some k else pickTo pol last n fr k
def takeF (pol : Int) (s : FSt) (n : Nat) : Option (Nat × FSt) :=
  match pickTo pol s.last n s.fr s.fr.length with
  | none => none
  | some i =>
    let b := s.fr.getD i (0, 0)
    some (b.1, ⟨if b.2 = n then s.fr.eraseIdx i else s.fr.set i (b.1 + n, b.2 - n), fun x => if x = (b.1 : Int) then some n else s.tk x, b.1 + n⟩)
/-- With the one behind, if that begins where it ends. -/
def mergeAt (fr : List (Nat × Nat)) (k : Nat) : List (Nat × Nat) :=
  if k + 1 < fr.length ∧ (fr.getD k (0, 0)).1 + (fr.getD k (0, 0)).2 = (fr.getD (k + 1) (0, 0)).1 then
    (fr.set k ((fr.getD k (0, 0)).1, (fr.getD k (0, 0)).2 + (fr.getD (k + 1) (0, 0)).2)).eraseIdx (k + 1)
  else fr
def belowF (fr : List (Nat × Nat)) (at_ : Int) : Nat := fr.countP fun b => decide ((b.1 : Int) < at_)
def giveL (fr : List (Nat × Nat)) (p n : Nat) : List (Nat × Nat) :=
  let i := belowF fr p
  let fr2 := mergeAt (fr.insertIdx i (p, n)) i
  if 1 ≤ i then mergeAt fr2 (i - 1) else fr2
def giveF (s : FSt) (x : Int) : Option FSt :=
  match s.tk x with
  | none => none
  | some n => some ⟨giveL s.fr x.toNat n, fun y => if y = x then none else s.tk y, s.last⟩
/-- One ask: the state, the code, the place. -/
def stepF (size : Nat) (pol : Int) (s : FSt) (a : Int × Int) : FSt × Int × Nat :=
  if a.1 = 1 then
    if a.2 < 1 ∨ (size : Int) < a.2 then (s, 3, 0)
    else match takeF pol s a.2.toNat with
      | none => (s, 6, 0)
      | some (p, s') => (s', 0, p)
  else if a.1 = 2 then
    match giveF s a.2 with
    | none => (s, 2, 0)
    | some s' => (s', 0, 0)
  else (s, 5, 0)
def startF (size : Nat) : FSt := ⟨[(0, size)], fun _ => none, 0⟩
def stateF (size : Nat) (pol : Int) (l : List (Int × Int)) (k : Nat) : FSt := (l.take k).foldl (fun s a => (stepF size pol s a).1) (startF size)
def codeF (size : Nat) (pol : Int) (l : List (Int × Int)) (k : Nat) : Int := (stepF size pol (stateF size pol l k) (l.getD k (0, 0))).2.1
def atF (size : Nat) (pol : Int) (l : List (Int × Int)) (k : Nat) : Nat := (stepF size pol (stateF size pol l k) (l.getD k (0, 0))).2.2
theorem stateF_succ {size : Nat} {pol : Int} {l : List (Int × Int)} {k : Nat} {a : Int × Int} (h : l[k]? = some a) : stateF size pol l (k + 1) = (stepF size pol (stateF size pol l k) a).1 := by
  unfold stateF
  rw [List.take_add_one, h]; simp
theorem codeF_at {size : Nat} {pol : Int} {l : List (Int × Int)} {k : Nat} {a : Int × Int} (h : l[k]? = some a) : codeF size pol l k = (stepF size pol (stateF size pol l k) a).2.1 := by
  unfold codeF; rw [List.getD_eq_getElem?_getD, h]; rfl
theorem atF_at {size : Nat} {pol : Int} {l : List (Int × Int)} {k : Nat} {a : Int × Int} (h : l[k]? = some a) : atF size pol l k = (stepF size pol (stateF size pol l k) a).2.2 := by
  unfold atF; rw [List.getD_eq_getElem?_getD, h]; rfl
/-- What comes later is no matter. -/
theorem stateF_pre {size : Nat} {pol : Int} {l m : List (Int × Int)} {k : Nat} (h : l.take k = m.take k) : stateF size pol l k = stateF size pol m k := by unfold stateF; rw [h]
theorem code_pre {size : Nat} {pol : Int} {l m : List (Int × Int)} {k : Nat} (h : l.take (k + 1) = m.take (k + 1)) : codeF size pol l k = codeF size pol m k ∧ atF size pol l k = atF size pol m k := by
  have h1 : l.take k = m.take k := by
    have := congrArg (List.take k) h
    rwa [List.take_take, List.take_take, Nat.min_eq_left (by omega)] at this
  have h2 : l.getD k (0, 0) = m.getD k (0, 0) := by
    have := congrArg (fun x => x[k]?) h
    simp only [List.getElem?_take, if_pos (Nat.lt_succ_self k)] at this
    rw [List.getD_eq_getElem?_getD, List.getD_eq_getElem?_getD, this]
  unfold codeF atF
  rw [stateF_pre h1, h2]
  exact ⟨rfl, rfl⟩

/-! ### which one is taken -/
theorem pick_none {pol : Int} {last n : Nat} {fr : List (Nat × Nat)} : ∀ {k : Nat}, pickTo pol last n fr k = none → ∀ i, i < k → (fr.getD i (0, 0)).2 < n
  | 0, _, i, hi => absurd hi (by omega)
  | k + 1, h, i, hi => by
    unfold pickTo at h
    by_cases hc : n ≤ (fr.getD k (0, 0)).2 ∧ ratherF pol last fr k (pickTo pol last n fr k) = true
    · rw [if_pos hc] at h; cases h
    · rw [if_neg hc] at h
      have hk := pick_none h
      rcases Nat.lt_or_ge i k with h1 | h1
      · exact hk i h1
      · obtain rfl : i = k := by omega
        rw [h] at hc
        simp only [not_and, ratherF] at hc
        exact Nat.lt_of_not_le fun h2 => hc h2 trivial
theorem pick_some {pol : Int} {last n : Nat} {fr : List (Nat × Nat)} : ∀ {k j : Nat}, pickTo pol last n fr k = some j → j < k ∧ n ≤ (fr.getD j (0, 0)).2 ∧
    ∀ i, i < k → n ≤ (fr.getD i (0, 0)).2 → rankF pol last (fr.getD j (0, 0)) ≤ rankF pol last (fr.getD i (0, 0)) ∧ (i < j → rankF pol last (fr.getD j (0, 0)) < rankF pol last (fr.getD i (0, 0)))
  | 0, j, h => by simp [pickTo] at h
  | k + 1, j, h => by
    unfold pickTo at h
    by_cases hc : n ≤ (fr.getD k (0, 0)).2 ∧ ratherF pol last fr k (pickTo pol last n fr k) = true
    · rw [if_pos hc] at h
      cases h
      refine ⟨by omega, hc.1, fun i hi hn => ?_⟩
      rcases Nat.lt_or_ge i k with h1 | h1
      · cases hp : pickTo pol last n fr k with
        | none => exact absurd hn (by have := pick_none hp i h1; omega)
        | some j =>
          rw [hp] at hc
          obtain ⟨_, h2⟩ := hc
          have h2 := of_decide_eq_true h2
          have h3 := ((pick_some hp).2.2 i h1 hn).1
          exact ⟨by omega, fun _ => by omega⟩
      · obtain rfl : i = k := by omega
        exact ⟨Int.le_refl _, fun h => absurd h (by omega)⟩
    · rw [if_neg hc] at h
      obtain ⟨h1, h2, h3⟩ := pick_some h
      refine ⟨by omega, h2, fun i hi hn => ?_⟩
      rcases Nat.lt_or_ge i k with h4 | h4
      · exact h3 i h4 hn
      · obtain rfl : i = k := by omega
        rw [h] at hc
        simp only [not_and, ratherF, decide_eq_true_eq] at hc
        exact ⟨by have := hc hn; omega, fun h => absurd h (by omega)⟩

/-! ### blocks that rise, none beside another one -/
def Rise (fr : List (Nat × Nat)) : Prop := fr.Pairwise fun b c => b.1 + b.2 < c.1
/-- Is a word in one of some blocks? -/
def InB (fr : List (Nat × Nat)) (k : Nat) : Prop := ∃ b ∈ fr, b.1 ≤ k ∧ k < b.1 + b.2
theorem inB_cons {b : Nat × Nat} {fr : List (Nat × Nat)} {k : Nat} : InB (b :: fr) k ↔ (b.1 ≤ k ∧ k < b.1 + b.2) ∨ InB fr k := by
  unfold InB; simp
theorem inB_app {a c : List (Nat × Nat)} {k : Nat} : InB (a ++ c) k ↔ InB a k ∨ InB c k := by
  unfold InB
  constructor
  · rintro ⟨b, hb, h⟩
    rcases List.mem_append.1 hb with h1 | h1
    · exact .inl ⟨b, h1, h⟩
    · exact .inr ⟨b, h1, h⟩
  · rintro (⟨b, hb, h⟩ | ⟨b, hb, h⟩)
    · exact ⟨b, List.mem_append_left _ hb, h⟩
    · exact ⟨b, List.mem_append_right _ hb, h⟩
theorem inB_nil (k : Nat) : ¬ InB [] k := by rintro ⟨b, hb, _⟩; cases hb
/-- Two such lists with the same words are one. -/
theorem rise_one : ∀ (l m : List (Nat × Nat)), Rise l → Rise m → (∀ b ∈ l, 1 ≤ b.2) → (∀ b ∈ m, 1 ≤ b.2) → (∀ k, InB l k ↔ InB m k) → l = m
  | [], [], _, _, _, _, _ => rfl
  | [], y :: m, _, _, _, h2, h => absurd ((h y.1).2 (inB_cons.2 (.inl ⟨Nat.le_refl _, by have := h2 y List.mem_cons_self; omega⟩))) (inB_nil _)
  | x :: l, [], _, _, h1, _, h => absurd ((h x.1).1 (inB_cons.2 (.inl ⟨Nat.le_refl _, by have := h1 x List.mem_cons_self; omega⟩))) (inB_nil _)
  | x :: l, y :: m, hl, hm, h1, h2, h => by
    unfold Rise at hl hm
    rw [List.pairwise_cons] at hl hm
    have hx1 := h1 x List.mem_cons_self
    have hy1 := h2 y List.mem_cons_self
    -- whoever is in l is behind x's end
    have hinl : ∀ k, InB l k → x.1 + x.2 < k := fun k ⟨b, hb, hk, _⟩ => by have := hl.1 b hb; omega
    have hinm : ∀ k, InB m k → y.1 + y.2 < k := fun k ⟨b, hb, hk, _⟩ => by have := hm.1 b hb; omega
    have a1 : y.1 ≤ x.1 := by
      rcases inB_cons.1 ((h x.1).1 (inB_cons.2 (.inl ⟨Nat.le_refl _, by omega⟩))) with h3 | h3
      · omega
      · have := hinm _ h3; omega
    have a2 : x.1 ≤ y.1 := by
      rcases inB_cons.1 ((h y.1).2 (inB_cons.2 (.inl ⟨Nat.le_refl _, by omega⟩))) with h3 | h3
      · omega
      · have := hinl _ h3; omega
    have a3 : x.2 ≤ y.2 := by
      rcases Nat.lt_or_ge y.2 x.2 with h4 | h4
      · rcases inB_cons.1 ((h (y.1 + y.2)).1 (inB_cons.2 (.inl ⟨by omega, by omega⟩))) with h3 | h3
        · omega
        · have := hinm _ h3; omega
      · exact h4
    have a4 : y.2 ≤ x.2 := by
      rcases Nat.lt_or_ge x.2 y.2 with h4 | h4
      · rcases inB_cons.1 ((h (x.1 + x.2)).2 (inB_cons.2 (.inl ⟨by omega, by omega⟩))) with h3 | h3
        · omega
        · have := hinl _ h3; omega
      · exact h4
    have hxy : x = y := Prod.ext (by omega) (by omega)
    subst hxy
    congr 1
    refine rise_one l m hl.2 hm.2 (fun b hb => h1 b (List.mem_cons_of_mem _ hb)) (fun b hb => h2 b (List.mem_cons_of_mem _ hb)) fun k => ⟨fun hk => ?_, fun hk => ?_⟩
    · rcases inB_cons.1 ((h k).1 (inB_cons.2 (.inr hk))) with h3 | h3
      · have := hinl _ hk; omega
      · exact h3
    · rcases inB_cons.1 ((h k).2 (inB_cons.2 (.inr hk))) with h3 | h3
      · have := hinm _ hk; omega
      · exact h3
theorem split_at {α : Type} {l : List α} {k : Nat} {x : α} (h : l[k]? = some x) : l = l.take k ++ x :: l.drop (k + 1) ∧ (l.take k).length = k := by
  have hk := (List.getElem?_eq_some_iff.1 h).1
  refine ⟨?_, by rw [List.length_take]; omega⟩
  have h2 := List.getElem?_eq_some_iff.1 h
  rw [← h2.2, ← List.drop_eq_getElem_cons, List.take_append_drop]
theorem getD_split {α : Type} (a : List α) (x : α) (c : List α) (d : α) : (a ++ x :: c).getD a.length d = x := by
  rw [List.getD_eq_getElem?_getD, List.getElem?_append_right (Nat.le_refl _)]; simp
theorem getD_split1 {α : Type} (a : List α) (x y : α) (c : List α) (d : α) : (a ++ x :: y :: c).getD (a.length + 1) d = y := by
  rw [List.getD_eq_getElem?_getD, List.getElem?_append_right (by omega)]; simp
theorem set_split {α : Type} (a : List α) (x y : α) (c : List α) : (a ++ x :: c).set a.length y = a ++ y :: c := by
  rw [List.set_append_right _ _ (Nat.le_refl _)]; simp
theorem erase_split {α : Type} (a : List α) (x : α) (c : List α) : (a ++ x :: c).eraseIdx a.length = a ++ c := by
  rw [List.eraseIdx_append_of_length_le (Nat.le_refl _)]; simp
theorem erase_split1 {α : Type} (a : List α) (x y : α) (c : List α) : (a ++ x :: y :: c).eraseIdx (a.length + 1) = a ++ x :: c := by
  rw [List.eraseIdx_append_of_length_le (by omega)]; simp
theorem ins_split {α : Type} : ∀ (a : List α) (x : α) (c : List α), (a ++ c).insertIdx a.length x = a ++ x :: c
  | [], x, c => by simp
  | y :: a, x, c => by
    have := ins_split a x c
    simp [List.insertIdx_succ_cons, this]
theorem merge_yes {a c : List (Nat × Nat)} {x y : Nat × Nat} (h : x.1 + x.2 = y.1) : mergeAt (a ++ x :: y :: c) a.length = a ++ (x.1, x.2 + y.2) :: c := by
  unfold mergeAt
  rw [getD_split, getD_split1, if_pos ⟨by simp, h⟩, set_split, erase_split1]
theorem merge_no {a c : List (Nat × Nat)} {x : Nat × Nat} (h : ∀ y, c[0]? = some y → x.1 + x.2 ≠ y.1) : mergeAt (a ++ x :: c) a.length = a ++ x :: c := by
  unfold mergeAt
  cases c with
  | nil => rw [if_neg]; simp
  | cons y c => rw [getD_split, getD_split1, if_neg]; intro hc; exact h y rfl hc.2
/-- Those below a place, and those not. -/
theorem below_split : ∀ {fr : List (Nat × Nat)} (p : Nat), Rise fr → ∃ a c, fr = a ++ c ∧ a.length = belowF fr p ∧ (∀ b ∈ a, b.1 < p) ∧ (∀ b ∈ c, p ≤ b.1)
  | [], p, _ => ⟨[], [], rfl, rfl, by simp, by simp⟩
  | x :: fr, p, h => by
    unfold Rise at h
    rw [List.pairwise_cons] at h
    by_cases hx : x.1 < p
    · obtain ⟨a, c, e, hl, h1, h2⟩ := below_split p h.2
      refine ⟨x :: a, c, by rw [e]; rfl, ?_, ?_, h2⟩
      · unfold belowF at hl ⊢
        rw [List.countP_cons_of_pos (by simp; omega), List.length_cons, hl]
      · intro b hb
        rcases List.mem_cons.1 hb with rfl | hb
        · exact hx
        · exact h1 b hb
    · refine ⟨[], x :: fr, rfl, ?_, by simp, ?_⟩
      · unfold belowF
        rw [List.length_nil, eq_comm, List.countP_eq_zero]
        intro b hb
        rcases List.mem_cons.1 hb with rfl | hb
        · simp; omega
        · have := h.1 b hb
          simp; omega
      · intro b hb
        rcases List.mem_cons.1 hb with rfl | hb
        · omega
        · have := h.1 b hb; omega
/-- What is given back stands among what is free, as long as it can be. -/
theorem give_rise {fr : List (Nat × Nat)} {p n : Nat} (h : Rise fr) (h1 : ∀ b ∈ fr, 1 ≤ b.2) (hn : 1 ≤ n) (hd : ∀ k, p ≤ k → k < p + n → ¬ InB fr k) :
    Rise (giveL fr p n) ∧ (∀ b ∈ giveL fr p n, 1 ≤ b.2) ∧ ∀ k, InB (giveL fr p n) k ↔ InB fr k ∨ (p ≤ k ∧ k < p + n) := by
  obtain ⟨a, c, rfl, hl, ha, hc⟩ := below_split p h
  have hins : (a ++ c).insertIdx (belowF (a ++ c) p) (p, n) = a ++ (p, n) :: c := by
    rw [← hl]; exact ins_split a (p, n) c
  unfold giveL
  simp only
  rw [hins, ← hl]
  unfold Rise at h
  rw [List.pairwise_append] at h
  obtain ⟨ra, rc, rac⟩ := h
  -- who stands behind
  have hcb : ∀ b ∈ c, p + n ≤ b.1 := fun b hb => by
    have h2 := hc b hb
    have h3 := h1 b (List.mem_append_right _ hb)
    rcases Nat.lt_or_ge b.1 (p + n) with h4 | h4
    · exact absurd (inB_app.2 (.inr ⟨b, hb, Nat.le_refl _, by omega⟩)) (hd b.1 h2 h4)
    · exact h4
  have hab : ∀ b ∈ a, b.1 + b.2 ≤ p := fun b hb => by
    have h2 := ha b hb
    have h3 := h1 b (List.mem_append_left _ hb)
    rcases Nat.lt_or_ge p (b.1 + b.2) with h4 | h4
    · exact absurd (inB_app.2 (.inl ⟨b, hb, by omega, h4⟩)) (hd p (Nat.le_refl _) (by omega))
    · exact h4
  -- with the one behind
  obtain ⟨m, c', hm, hmn, rc', hmc, hc1, hin⟩ : ∃ (m : Nat) (c' : List (Nat × Nat)), mergeAt (a ++ (p, n) :: c) a.length = a ++ (p, m) :: c' ∧ 1 ≤ m ∧ c'.Pairwise (fun b c => b.1 + b.2 < c.1) ∧ (∀ b ∈ c', p + m < b.1) ∧ (∀ b ∈ c', 1 ≤ b.2 ∧ ∀ x ∈ a, x.1 + x.2 < b.1) ∧ (∀ k, ((p ≤ k ∧ k < p + m) ∨ InB c' k) ↔ ((p ≤ k ∧ k < p + n) ∨ InB c k)) := by
    cases c with
    | nil => exact ⟨n, [], merge_no (by simp), hn, List.Pairwise.nil, by simp, by simp, fun k => Iff.rfl⟩
    | cons y c =>
      rw [List.pairwise_cons] at rc
      by_cases he : p + n = y.1
      · refine ⟨n + y.2, c, merge_yes he, by omega, rc.2, fun b hb => by have := rc.1 b hb; omega, fun b hb => ⟨h1 b (List.mem_append_right _ (List.mem_cons_of_mem _ hb)), fun x hx => rac x hx b (List.mem_cons_of_mem _ hb)⟩, fun k => ?_⟩
        rw [inB_cons]
        constructor
        · rintro (h2 | h2)
          · rcases Nat.lt_or_ge k (p + n) with h3 | h3
            · exact .inl ⟨h2.1, h3⟩
            · exact .inr (.inl ⟨by omega, by omega⟩)
          · exact .inr (.inr h2)
        · rintro (h2 | h2 | h2)
          · exact .inl ⟨h2.1, by omega⟩
          · exact .inl ⟨by omega, by omega⟩
          · exact .inr h2
      · refine ⟨n, y :: c, merge_no ?_, hn, List.pairwise_cons.2 rc, ?_, fun b hb => ⟨h1 b (List.mem_append_right _ hb), fun x hx => rac x hx b hb⟩, fun k => Iff.rfl⟩
        · intro z hz
          simp at hz; subst hz; exact he
        · intro b hb
          have h4 := hcb y List.mem_cons_self
          rcases List.mem_cons.1 hb with rfl | hb
          · omega
          · have := rc.1 b hb; omega
  rw [hm]
  -- with the one ahead
  by_cases ha0 : 1 ≤ a.length
  · rw [if_pos ha0]
    obtain ⟨a', x, rfl⟩ : ∃ a' x, a = a' ++ [x] := by
      refine ⟨a.dropLast, a.getLast (by intro e; rw [e] at ha0; simp at ha0), ?_⟩
      rw [List.dropLast_concat_getLast]
    rw [List.length_append, List.length_singleton, Nat.add_sub_cancel, List.append_assoc, List.singleton_append]
    rw [List.pairwise_append] at ra
    obtain ⟨ra', _, rax⟩ := ra
    have hx := hab x (by simp)
    have hx1 := h1 x (by simp)
    by_cases he : x.1 + x.2 = p
    · rw [merge_yes he]
      refine ⟨?_, ?_, fun k => ?_⟩
      · unfold Rise
        rw [List.pairwise_append]
        refine ⟨ra', List.pairwise_cons.2 ⟨fun b hb => by have := hmc b hb; simp only; omega, rc'⟩, fun b hb z hz => ?_⟩
        rcases List.mem_cons.1 hz with rfl | hz
        · have := rax b hb x (by simp); simp only; exact this
        · exact (hc1 z hz).2 b (by simp [hb])
      · intro b hb
        rcases List.mem_append.1 hb with h2 | h2
        · exact h1 b (by simp [h2])
        · rcases List.mem_cons.1 h2 with rfl | h2
          · simp only; omega
          · exact (hc1 b h2).1
      · rw [inB_app, inB_cons, inB_app, inB_app, inB_cons]
        have := hin k
        simp only
        constructor
        · rintro (h2 | h2 | h2)
          · exact .inl (.inl (.inl h2))
          · rcases Nat.lt_or_ge k p with h3 | h3
            · exact .inl (.inl (.inr (.inl ⟨h2.1, by omega⟩)))
            · rcases this.1 (.inl ⟨h3, by omega⟩) with h4 | h4
              · exact .inr h4
              · exact .inl (.inr h4)
          · rcases this.1 (.inr h2) with h4 | h4
            · exact .inr h4
            · exact .inl (.inr h4)
        · rintro (((h2 | h2 | h2) | h2) | h2)
          · exact .inl h2
          · exact .inr (.inl ⟨h2.1, by omega⟩)
          · exact absurd h2 (inB_nil k)
          · rcases this.2 (.inr h2) with h4 | h4
            · exact .inr (.inl ⟨by omega, by omega⟩)
            · exact .inr (.inr h4)
          · rcases this.2 (.inl h2) with h4 | h4
            · exact .inr (.inl ⟨by omega, by omega⟩)
            · exact .inr (.inr h4)
    · rw [merge_no (by intro y hy; simp at hy; subst hy; exact he)]
      refine ⟨?_, ?_, fun k => ?_⟩
      · unfold Rise
        rw [List.pairwise_append]
        refine ⟨ra', List.pairwise_cons.2 ⟨fun b hb => ?_, List.pairwise_cons.2 ⟨fun b hb => by have := hmc b hb; simp only; omega, rc'⟩⟩, fun b hb z hz => ?_⟩
        · rcases List.mem_cons.1 hb with rfl | hb
          · simp only; omega
          · exact (hc1 b hb).2 x (by simp)
        · rcases List.mem_cons.1 hz with rfl | hz
          · exact rax b hb _ (by simp)
          · rcases List.mem_cons.1 hz with rfl | hz
            · have := rax b hb x (by simp); simp only; omega
            · exact (hc1 z hz).2 b (by simp [hb])
      · intro b hb
        rcases List.mem_append.1 hb with h2 | h2
        · exact h1 b (by simp [h2])
        · rcases List.mem_cons.1 h2 with rfl | h2
          · exact hx1
          · rcases List.mem_cons.1 h2 with rfl | h2
            · simp only; omega
            · exact (hc1 b h2).1
      · rw [inB_app, inB_cons, inB_cons, inB_app, inB_app, inB_cons]
        have := hin k
        simp only
        constructor
        · rintro (h2 | h2 | h2)
          · exact .inl (.inl (.inl h2))
          · exact .inl (.inl (.inr (.inl h2)))
          · rcases this.1 h2 with h4 | h4
            · exact .inr h4
            · exact .inl (.inr h4)
        · rintro (((h2 | h2 | h2) | h2) | h2)
          · exact .inl h2
          · exact .inr (.inl h2)
          · exact absurd h2 (inB_nil k)
          · exact .inr (.inr (this.2 (.inr h2)))
          · exact .inr (.inr (this.2 (.inl h2)))
  · rw [if_neg ha0]
    have hnil : a = [] := List.eq_nil_of_length_eq_zero (by omega)
    subst hnil
    refine ⟨List.pairwise_cons.2 ⟨fun b hb => by have := hmc b hb; simp only; omega, rc'⟩, ?_, fun k => ?_⟩
    · intro b hb
      rcases List.mem_cons.1 hb with rfl | hb
      · exact hmn
      · exact (hc1 b hb).1
    · rw [List.nil_append, inB_cons, List.nil_append]
      have := hin k
      simp only
      constructor
      · intro h2
        rcases this.1 h2 with h4 | h4
        · exact .inr h4
        · exact .inl h4
      · rintro (h2 | h2)
        · exact this.2 (.inr h2)
        · exact this.2 (.inl h2)
/-- What is taken goes from what is free. -/
theorem take_rise {fr : List (Nat × Nat)} {i n : Nat} {b : Nat × Nat} (h : Rise fr) (h1 : ∀ b ∈ fr, 1 ≤ b.2) (hb : fr[i]? = some b) (hn : 1 ≤ n) (hle : n ≤ b.2) :
    Rise (if b.2 = n then fr.eraseIdx i else fr.set i (b.1 + n, b.2 - n)) ∧ (∀ c ∈ (if b.2 = n then fr.eraseIdx i else fr.set i (b.1 + n, b.2 - n)), 1 ≤ c.2) ∧
      ∀ k, InB (if b.2 = n then fr.eraseIdx i else fr.set i (b.1 + n, b.2 - n)) k ↔ InB fr k ∧ ¬ (b.1 ≤ k ∧ k < b.1 + n) := by
  obtain ⟨hsp, hlen⟩ := split_at hb
  obtain ⟨a, ha⟩ : ∃ a, fr.take i = a := ⟨_, rfl⟩
  obtain ⟨c, hc⟩ : ∃ c, fr.drop (i + 1) = c := ⟨_, rfl⟩
  rw [ha, hc] at hsp
  rw [ha] at hlen
  clear ha hc hb
  subst hsp hlen
  unfold Rise at h ⊢
  rw [List.pairwise_append, List.pairwise_cons] at h
  obtain ⟨ra, ⟨rb, rc⟩, rac⟩ := h
  have hina : ∀ k, InB a k → k < b.1 := fun k ⟨x, hx, hk⟩ => by have := rac x hx b List.mem_cons_self; omega
  have hinc : ∀ k, InB c k → b.1 + b.2 < k := fun k ⟨x, hx, hk⟩ => by have := rb x hx; omega
  by_cases he : b.2 = n
  · rw [if_pos he, erase_split]
    refine ⟨List.pairwise_append.2 ⟨ra, rc, fun x hx y hy => rac x hx y (List.mem_cons_of_mem _ hy)⟩, fun x hx => ?_, fun k => ?_⟩
    · rcases List.mem_append.1 hx with h2 | h2
      · exact h1 x (List.mem_append_left _ h2)
      · exact h1 x (List.mem_append_right _ (List.mem_cons_of_mem _ h2))
    · rw [inB_app, inB_app, inB_cons]
      constructor
      · rintro (h2 | h2)
        · exact ⟨.inl h2, by have := hina k h2; omega⟩
        · exact ⟨.inr (.inr h2), by have := hinc k h2; omega⟩
      · rintro ⟨h2 | h2 | h2, h3⟩
        · exact .inl h2
        · exact absurd ⟨h2.1, by omega⟩ h3
        · exact .inr h2
  · rw [if_neg he, set_split]
    refine ⟨List.pairwise_append.2 ⟨ra, List.pairwise_cons.2 ⟨fun x hx => by have := rb x hx; simp only; omega, rc⟩, fun x hx y hy => ?_⟩, fun x hx => ?_, fun k => ?_⟩
    · rcases List.mem_cons.1 hy with rfl | hy
      · have := rac x hx b List.mem_cons_self; simp only; omega
      · exact rac x hx y (List.mem_cons_of_mem _ hy)
    · rcases List.mem_append.1 hx with h2 | h2
      · exact h1 x (List.mem_append_left _ h2)
      · rcases List.mem_cons.1 h2 with rfl | h2
        · simp only; omega
        · exact h1 x (List.mem_append_right _ (List.mem_cons_of_mem _ h2))
    · rw [inB_app, inB_cons, inB_app, inB_cons]
      simp only
      constructor
      · rintro (h2 | h2 | h2)
        · exact ⟨.inl h2, by have := hina k h2; omega⟩
        · exact ⟨.inr (.inl ⟨by omega, by omega⟩), by omega⟩
        · exact ⟨.inr (.inr h2), by have := hinc k h2; omega⟩
      · rintro ⟨h2 | h2 | h2, h3⟩
        · exact .inl h2
        · exact .inr (.inl ⟨by omega, by omega⟩)
        · exact .inr (.inr h2)
end Go.Proofs.Ytmbcfbehchpfbaa
