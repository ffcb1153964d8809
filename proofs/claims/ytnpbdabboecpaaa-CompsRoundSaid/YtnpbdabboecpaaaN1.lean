/- Components: what is found in the end; what goes round. Plain. -/
import Derived.Test.YtnpbdabboecpaaaN0
namespace Go.Proofs.Ytnpbdabboecpaaa
namespace Tarj
section
variable {E : Int → Int → Prop} {n : Nat}
/-- What has been found in the end. -/
structure Res (E : Int → Int → Prop) (n : Nat) (comp : Int → Int) (all : List (List Int)) : Prop where
  rng : ∀ x : Int, 0 ≤ x → x < n → 0 ≤ comp x
  out : ∀ x, 0 ≤ comp x → 0 ≤ x ∧ x < n
  done : ∀ x y, 0 ≤ comp x → E x y → 0 ≤ comp y ∧ comp y ≤ comp x
  cls : ∀ (k : Nat) (c : List Int), all[k]? = some c → c ≠ [] ∧ c.Pairwise (· < ·) ∧ ∀ x, x ∈ c ↔ comp x = (k : Int)
  ltl : ∀ x, comp x < all.length
  same : ∀ x y, 0 ≤ comp x → comp x = comp y → Lead E x y
  room : all.length ≤ n
def start : TS := ⟨fun _ => 0, fun _ => 0, fun _ => -1, [], []⟩
theorem zer_le (f : Int → Int) : ∀ m, zer f m ≤ m := by
  intro m
  induction m with
  | zero => exact Nat.le_refl _
  | succ m ih => simp only [zer]; split <;> omega
theorem TInv.start : TInv E n start (fun _ => False) := by
  refine ⟨by simp [Tarj.start], by simp [Tarj.start], ?_, by simp [Tarj.start], by simp [Tarj.start], by simp [Tarj.start], by simp, by simp [Tarj.start], by simp, by simp [Tarj.start], by simp [Tarj.start], by simp [Tarj.start], by simp [Tarj.start], by simp [Tarj.start], ?_⟩
  · intro x
    have := zer_le (fun _ => 0) n
    simp only [Tarj.start]; omega
  · have := zer_le (fun _ => 0) n
    simp only [Tarj.start, List.length_nil]; omega
theorem TInv.end_ {s : TS} (h : TInv E n s (fun _ => False)) (hall : ∀ x : Int, 0 ≤ x → x < n → s.at_ x ≠ 0) : Res E n s.comp s.all := by
  have hst : ∀ x, x ∉ s.stack := fun x hx => by
    obtain ⟨_, hg, _⟩ := h.down x hx
    exact hg
  refine ⟨?_, fun x hx => h.rng x (h.seen x hx), h.done, h.cls, h.ltl, h.same, by have := h.room; omega⟩
  intro x h0 h1
  rcases Int.lt_or_le (s.comp x) 0 with h2 | h2
  · exact absurd ((h.mem x).2 ⟨hall x h0 h1, h2⟩) (hst x)
  · exact h2
variable {comp : Int → Int} {all : List (List Int)}
theorem Res.lead (h : Res E n comp all) {x y : Int} (hx : 0 ≤ comp x) (hl : Lead E x y) : 0 ≤ comp y ∧ comp y ≤ comp x := by
  induction hl with
  | here => exact ⟨hx, Int.le_refl _⟩
  | step e _ ih =>
    obtain ⟨h1, h2⟩ := h.done _ _ hx e
    obtain ⟨h3, h4⟩ := ih h1
    exact ⟨h3, by omega⟩
theorem Res.mutual (h : Res E n comp all) {x y : Int} (hx : 0 ≤ comp x) (hy : 0 ≤ comp y) : comp x = comp y ↔ Lead E x y ∧ Lead E y x := by
  constructor
  · intro e; exact ⟨h.same x y hx e, h.same y x hy e.symm⟩
  · rintro ⟨h1, h2⟩
    have h3 := (h.lead hx h1).2
    have h4 := (h.lead hy h2).2
    omega
/-- To lead to oneself, by at least one step. -/
def Rnd (E : Int → Int → Prop) (x : Int) : Prop := ∃ j, E x j ∧ Lead E j x
theorem Res.round (h : Res E n comp all) {x : Int} {k : Nat} {c : List Int} (hk : comp x = k) (hc : all[k]? = some c) : Rnd E x ↔ 1 < c.length ∨ E x x := by
  obtain ⟨_, hr, hm⟩ := h.cls k c hc
  have hnd : c.Nodup := hr.imp (fun h => by omega)
  have hx : 0 ≤ comp x := by omega
  have hxc : x ∈ c := (hm x).2 hk
  constructor
  · rintro ⟨j, h1, h2⟩
    by_cases e : j = x
    · subst e; exact .inr h1
    · left
      have h3 := h.done x j hx h1
      have h4 := (h.lead h3.1 h2).2
      have hj : j ∈ c := (hm j).2 (by omega)
      have := (List.nodup_cons.2 ⟨by simpa using e, by simp⟩ : [j, x].Nodup).length_le_of_subset (l₂ := c) (by
        intro y hy
        rcases List.mem_cons.1 hy with rfl | hy
        · exact hj
        · rw [List.mem_singleton.1 hy]; exact hxc)
      simp at this; omega
  · rintro (h1 | h1)
    · obtain ⟨y, hy, hne⟩ : ∃ y ∈ c, y ≠ x := by
        apply Classical.byContradiction
        intro hno
        have h2 : ∀ y ∈ c, y = x := fun y hy => Classical.byContradiction fun e => hno ⟨y, hy, e⟩
        have := hnd.length_le_of_subset (l₂ := [x]) (fun y hy => by rw [h2 y hy]; simp)
        simp at this; omega
      have h2 := h.same x y hx (by rw [hk, (hm y).1 hy])
      have h3 := h.same y x (by rw [(hm y).1 hy]; omega) (by rw [hk, (hm y).1 hy])
      cases h2 with
      | here => exact absurd rfl hne
      | step e hl => exact ⟨_, e, hl.trans h3⟩
    · exact ⟨x, h1, .here x⟩
end
end Tarj
end Go.Proofs.Ytnpbdabboecpaaa
