/- The marker's steps. Plain. -/
import Derived.Test.YtigdpdndnghldaaSg
namespace Go.Proofs.Ytigdpdndnghldaa
open Go.RowKit

/-- What is marked, what waits, whether something had no room. -/
structure KS where
  M : List Int
  S : List Int
  lost : Bool
def vis (r : Nat) (i : Int) (s : KS) : KS := if i ∈ s.M then s else if s.S.length = r then ⟨s.M ++ [i], s.S, true⟩ else ⟨s.M ++ [i], s.S ++ [i], s.lost⟩
def visW (os : List Ob) (r : Nat) (x : Int) (s : KS) : KS := if x % 2 = 1 then s else vis r (idx os (x / 2)) s
def visL (os : List Ob) (r : Nat) (l : List Int) (s : KS) : KS := l.foldl (fun s x => visW os r x s) s
theorem visL_succ (os : List Ob) (r : Nat) {l : List Int} {k : Nat} {x : Int} (h : l[k]? = some x) (s : KS) : visL os r (l.take (k + 1)) s = visW os r x (visL os r (l.take k) s) := by
  unfold visL
  rw [take_succ_some _ _ _ h, List.foldl_append]; rfl

structure KInv (F : List Int) (r : Nat) (s : KS) : Prop where
  nodup : s.M.Nodup
  sub : ∀ x ∈ s.M, x ∈ F
  wait : ∀ x ∈ s.S, x ∈ s.M
  room : s.S.length ≤ r
/-- All is gone through but what waits, and but P. -/
def Cl (g : G) (P : Int → Prop) (s : KS) : Prop := s.lost = false → ∀ y ∈ s.M, y ∈ s.S ∨ (∀ j ∈ targets (fieldsAt g y), j ∈ s.M) ∨ P y
def mu (F : List Int) (s : KS) : Nat := 2 * (F.length - s.M.length) + s.S.length
structure Goes (g : G) (F : List Int) (r : Nat) (s s' : KS) : Prop where
  inv : KInv F r s'
  pre : s.M <+: s'.M
  lost1 : s.lost = true → s'.lost = true
  lost2 : s'.lost = true → s.lost = true ∨ s.M.length < s'.M.length
  cl : ∀ P, Cl g P s → Cl g P s'
  meas : mu F s' ≤ mu F s
theorem Goes.refl {g : G} {F : List Int} {r : Nat} {s : KS} (h : KInv F r s) : Goes g F r s s := ⟨h, List.prefix_refl _, id, .inl, fun _ => id, Nat.le_refl _⟩
theorem Goes.trans {g : G} {F : List Int} {r : Nat} {s t u : KS} (h : Goes g F r s t) (k : Goes g F r t u) : Goes g F r s u := by
  have h1 := h.pre.length_le
  have h2 := k.pre.length_le
  refine ⟨k.inv, h.pre.trans k.pre, fun e => k.lost1 (h.lost1 e), fun e => ?_, fun P e => k.cl P (h.cl P e), Nat.le_trans k.meas h.meas⟩
  rcases k.lost2 e with e | e
  · rcases h.lost2 e with e | e
    · exact .inl e
    · exact .inr (by omega)
  · exact .inr (by omega)
theorem KInv.len {F : List Int} {r : Nat} {s : KS} (h : KInv F r s) : s.M.length ≤ F.length := nodup_sub_len _ _ h.nodup h.sub
theorem goes_mark {g : G} {F : List Int} {r : Nat} {s : KS} (h : KInv F r s) {i : Int} (hi : i ∈ F) (hn : i ∉ s.M) (S' : List Int) (lost' : Bool)
    (hc : s.S.length = r ∧ S' = s.S ∧ lost' = true ∨ s.S.length < r ∧ S' = s.S ++ [i] ∧ lost' = s.lost) : Goes g F r s ⟨s.M ++ [i], S', lost'⟩ := by
  have hI : KInv F r ⟨s.M ++ [i], S', lost'⟩ := by
    refine ⟨?_, ?_, ?_, ?_⟩
    · show (s.M ++ [i]).Nodup
      rw [List.nodup_append]
      exact ⟨h.nodup, by simp, fun x hx y hy e => hn (by simp at hy; subst hy; subst e; exact hx)⟩
    · intro x hx
      rcases List.mem_append.1 hx with hx | hx
      · exact h.sub x hx
      · simp at hx; subst hx; exact hi
    · rcases hc with ⟨_, rfl, _⟩ | ⟨_, rfl, _⟩
      · exact fun x hx => List.mem_append_left _ (h.wait x hx)
      · intro x hx
        rcases List.mem_append.1 hx with hx | hx
        · exact List.mem_append_left _ (h.wait x hx)
        · exact List.mem_append_right _ hx
    · have := h.room
      rcases hc with ⟨_, rfl, _⟩ | ⟨_, rfl, _⟩
      · exact this
      · simp only [List.length_append, List.length_cons, List.length_nil]; omega
  have hl := hI.len
  simp only [List.length_append, List.length_cons, List.length_nil] at hl
  refine ⟨hI, List.prefix_append _ _, ?_, ?_, ?_, ?_⟩
  · rcases hc with ⟨_, _, rfl⟩ | ⟨_, _, rfl⟩
    · exact fun _ => rfl
    · exact id
  · intro _; right; simp
  · intro P hP hl2 y hy
    rcases hc with ⟨_, _, rfl⟩ | ⟨_, rfl, rfl⟩
    · cases hl2
    · rcases List.mem_append.1 hy with hy | hy
      · rcases hP hl2 y hy with h1 | h1 | h1
        · exact .inl (List.mem_append_left _ h1)
        · exact .inr (.inl fun j hj => List.mem_append_left _ (h1 j hj))
        · exact .inr (.inr h1)
      · exact .inl (List.mem_append_right _ hy)
  · unfold mu
    rcases hc with ⟨_, rfl, _⟩ | ⟨_, rfl, _⟩ <;> simp only [List.length_append, List.length_cons, List.length_nil] <;> omega
theorem vis_goes (g : G) {F : List Int} {r : Nat} {s : KS} (h : KInv F r s) {i : Int} (hi : i ∈ F) : Goes g F r s (vis r i s) ∧ i ∈ (vis r i s).M := by
  have := h.room
  unfold vis
  split
  · rename_i hin; exact ⟨Goes.refl h, hin⟩
  · rename_i hin
    split
    · rename_i hr
      exact ⟨goes_mark h hi hin _ _ (.inl ⟨hr, rfl, rfl⟩), by simp⟩
    · rename_i hr
      exact ⟨goes_mark h hi hin _ _ (.inr ⟨by omega, rfl, rfl⟩), by simp⟩
theorem visW_goes (g : G) (os : List Ob) {F : List Int} {r : Nat} {s : KS} (h : KInv F r s) {x : Int} (hi : x % 2 = 1 ∨ (idx os (x / 2) : Int) ∈ F) : Goes g F r s (visW os r x s) ∧ ∀ j ∈ targets [valG os x], j ∈ (visW os r x s).M := by
  unfold visW
  split
  · rename_i hx
    refine ⟨Goes.refl h, ?_⟩
    simp [targets, valG, hx]
  · rename_i hx
    obtain ⟨h1, h2⟩ := vis_goes g h (hi.resolve_left hx)
    refine ⟨h1, ?_⟩
    simp only [targets, valG, hx]
    simpa using h2
theorem targets_append (l m : List V) : targets (l ++ m) = targets l ++ targets m := by simp [targets]
theorem visL_goes (g : G) (os : List Ob) {F : List Int} {r : Nat} : ∀ (l : List Int) {s : KS}, KInv F r s → (∀ x ∈ l, x % 2 = 1 ∨ (idx os (x / 2) : Int) ∈ F) → Goes g F r s (visL os r l s) ∧ ∀ j ∈ targets (l.map (valG os)), j ∈ (visL os r l s).M
  | [], s, h, _ => ⟨Goes.refl h, by simp [targets]⟩
  | x :: l, s, h, hl => by
    obtain ⟨h1, h2⟩ := visW_goes g os h (hl x List.mem_cons_self)
    obtain ⟨h3, h4⟩ := visL_goes g os l h1.inv (fun y hy => hl y (List.mem_cons_of_mem _ hy))
    refine ⟨h1.trans h3, ?_⟩
    rw [show (x :: l).map (valG os) = [valG os x] ++ l.map (valG os) from rfl, targets_append]
    intro j hj
    rcases List.mem_append.1 hj with hj | hj
    · exact h3.pre.subset (h2 j hj)
    · exact h4 j hj
/-- Taken from the stack and gone through. -/
theorem pop_goes {g : G} {os : List Ob} {F : List Int} {r : Nat} {s : KS} (h : KInv F r s) {S0 : List Int} {x : Int} (hS : s.S = S0 ++ [x]) (l : List Int) (hl : ∀ y ∈ l, y % 2 = 1 ∨ (idx os (y / 2) : Int) ∈ F)
    (hf : fieldsAt g x = l.map (valG os)) : KInv F r ⟨s.M, S0, s.lost⟩ ∧ Goes g F r s (visL os r l ⟨s.M, S0, s.lost⟩) ∧ mu F (visL os r l ⟨s.M, S0, s.lost⟩) < mu F s := by
  have hr := h.room
  rw [hS, List.length_append, List.length_cons, List.length_nil] at hr
  have h3 : KInv F r ⟨s.M, S0, s.lost⟩ := ⟨h.nodup, h.sub, fun y hy => h.wait y (by rw [hS]; exact List.mem_append_left _ hy), by show S0.length ≤ r; omega⟩
  obtain ⟨h4, h5⟩ := visL_goes g os l h3 hl
  have hm : mu F ⟨s.M, S0, s.lost⟩ < mu F s := by unfold mu; rw [hS]; simp
  refine ⟨h3, ⟨h4.inv, h4.pre, h4.lost1, h4.lost2, ?_, by have := h4.meas; omega⟩, by have := h4.meas; omega⟩
  intro P hP
  have h6 : Cl g (fun y => P y ∨ y = x) ⟨s.M, S0, s.lost⟩ := by
    intro e y hy
    rcases hP e y hy with h1 | h1 | h1
    · rw [hS] at h1
      rcases List.mem_append.1 h1 with h1 | h1
      · exact .inl h1
      · simp at h1; exact .inr (.inr (.inr h1))
    · exact .inr (.inl h1)
    · exact .inr (.inr (.inl h1))
  intro e y hy
  rcases h4.cl _ h6 e y hy with h1 | h1 | h1 | h1
  · exact .inl h1
  · exact .inr (.inl h1)
  · exact .inr (.inr h1)
  · subst h1
    rw [← hf] at h5
    exact .inr (.inl h5)
/-- The end: all that can be come to. -/
theorem mark_all {g : G} {F : List Int} (hF : OrdS g F) {r : Nat} {s : KS} (h : KInv F r s) (hl : s.lost = false) (hS : s.S = []) (hc : Cl g (fun _ => False) s) (h0 : ∀ j ∈ targets g.roots, j ∈ s.M) (x : Int) : x ∈ s.M ↔ x ∈ F := by
  refine ⟨h.sub x, fun hx => ?_⟩
  refine hF.least (P := fun x => x ∈ s.M) h0 ?_ x hx
  intro y hy j hj
  rcases hc hl y hy with h1 | h1 | h1
  · rw [hS] at h1; cases h1
  · exact h1 j hj
  · exact h1.elim
end Go.Proofs.Ytigdpdndnghldaa
