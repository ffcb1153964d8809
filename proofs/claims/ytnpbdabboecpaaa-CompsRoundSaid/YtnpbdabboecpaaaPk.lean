/- Graphs relabelled, as data; places in lists. Plain. -/
import Derived.Test.YtnpbdabboecpaaaIa
namespace Go.Proofs.Ytnpbdabboecpaaa

def fieldsAt (g : G) (i : Int) : List V := g.objs.getD i.toNat []
def turnV (p : Int → Int) (v : V) : V := if v.ref then ⟨true, p v.n⟩ else v
/-- The first place of a number in a list, counted from o; 0: none. -/
def plc : List Int → Int → Nat → Int
  | [], _, _ => 0
  | x :: xs, y, o => if x = y then o else plc xs y (o + 1)
theorem plc_rng : ∀ (l : List Int) (y : Int) (o : Nat), 0 ≤ plc l y o ∧ plc l y o ≤ o + l.length := by
  intro l
  induction l with
  | nil => intro y o; simp only [plc, List.length_nil]; omega
  | cons x xs ih =>
    intro y o
    unfold plc
    split
    · simp; omega
    · have := ih y (o + 1); simp; omega
theorem plc_get : ∀ (l : List Int) (y : Int) (o i : Nat), l[i]? = some y → (∀ j, j < i → l[j]? ≠ some y) → plc l y o = ((o + i : Nat) : Int) := by
  intro l
  induction l with
  | nil => intro y o i h; simp at h
  | cons x xs ih =>
    intro y o i h hf
    unfold plc
    cases i with
    | zero => simp at h; subst h; simp
    | succ i =>
      have hx : x ≠ y := by intro e; exact hf 0 (by omega) (by simp [e])
      rw [if_neg hx, ih y (o + 1) i (by simpa using h) (fun j hj => by have := hf (j + 1) (by omega); simpa using this)]
      congr 1; omega
theorem plc_mem : ∀ (l : List Int) (y : Int) (o : Nat), y ∈ l → ∃ i, l[i]? = some y ∧ plc l y o = ((o + i : Nat) : Int)
  | [], y, o, h => by cases h
  | x :: xs, y, o, h => by
    unfold plc
    by_cases e : x = y
    · subst e; exact ⟨0, by simp, by simp⟩
    · rw [if_neg e]
      have hm : y ∈ xs := by rcases List.mem_cons.1 h with h1 | h1; exact absurd h1.symm e; exact h1
      obtain ⟨i, h1, h2⟩ := plc_mem xs y (o + 1) hm
      exact ⟨i + 1, by simpa using h1, by rw [h2]; congr 1; omega⟩
/-- h is g, relabelled by p on the objects of L. -/
structure Iso (g h : G) (L : List Int) (p : Int → Int) : Prop where
  rng : ∀ x ∈ L, (0 ≤ x ∧ x < g.objs.length) ∧ 0 ≤ p x ∧ p x < h.objs.length
  inj : ∀ x ∈ L, ∀ y ∈ L, p x = p y → x = y
  roots : h.roots = g.roots.map (turnV p)
  rootsL : ∀ j ∈ targets g.roots, j ∈ L
  fields : ∀ x ∈ L, fieldsAt h (p x) = (fieldsAt g x).map (turnV p)
  fieldsL : ∀ x ∈ L, ∀ j ∈ targets (fieldsAt g x), j ∈ L
theorem targets_map (p : Int → Int) (l : List V) : targets (l.map (turnV p)) = (targets l).map p := by
  induction l with
  | nil => rfl
  | cons v l ih =>
    obtain ⟨r, n⟩ := v
    unfold targets at *
    cases r <;> simp [turnV] <;> simpa using ih
/-- What stands at the places that were paired. -/
structure Paired (L F : List Int) : Prop where
  nodup : F.Nodup
  sub : ∀ x ∈ F, x ∈ L
theorem Paired.snoc {L F : List Int} (h : Paired L F) {x : Int} (hx : x ∈ L) (hn : x ∉ F) : Paired L (F ++ [x]) := by
  refine ⟨?_, ?_⟩
  · rw [List.nodup_append]
    refine ⟨h.nodup, by simp, ?_⟩
    intro a ha c hc e
    simp at hc
    subst hc e
    exact hn ha
  · intro y hy
    rcases List.mem_append.1 hy with h1 | h1
    · exact h.sub y h1
    · simp at h1; subst h1; exact hx
theorem nodup_sub_len : ∀ (F L : List Int), F.Nodup → (∀ x ∈ F, x ∈ L) → F.length ≤ L.length
  | [], _, _, _ => by simp
  | x :: xs, L, hn, hs => by
    rw [List.nodup_cons] at hn
    have hx := hs x (by simp)
    have ih := nodup_sub_len xs (L.erase x) hn.2 (fun y hy => by
      rw [List.mem_erase_of_ne (by rintro rfl; exact hn.1 hy)]
      exact hs y (by simp [hy]))
    rw [List.length_erase_of_mem hx] at ih
    have : 0 < L.length := List.length_pos_of_mem hx
    simp only [List.length_cons]; omega
theorem Paired.le {L F : List Int} (h : Paired L F) : F.length ≤ L.length := nodup_sub_len F L h.nodup h.sub
/-- A relabelling that tells the objects of L apart. -/
structure Lab (L : List Int) (p : Int → Int) : Prop where
  inj : ∀ x ∈ L, ∀ y ∈ L, p x = p y → x = y
  ok : ∀ x ∈ L, i64ok x ∧ i64ok (p x)
  len : L.length ≤ 1000
def renumP (g : G) (l : List Int) (q : Int → Int) : G := ⟨l.map fun x => (fieldsAt g x).map (turnV q), g.roots.map (turnV q)⟩
end Go.Proofs.Ytnpbdabboecpaaa
