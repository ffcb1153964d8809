/- The plain law of trial.take: what it takes, and what is left. -/
import Derived.Test.YtdmgpiimacnapaaTz
namespace Go.Proofs.Ytdmgpiimacnapaa
open Go.RowKit Go.Shelf

/-- Is an object tried? -/
def on (st : List Int) (i : Int) : Prop := 0 ≤ i ∧ st.getD i.toNat 0 = 1
/-- How often tried ones refer to j. -/
def cntOut (g : G) (st : List Int) (j : Int) : Nat := ((List.range g.objs.length).map fun (i : Nat) => if st.getD i 0 = 1 then (targets (fieldsAt g i)).count j else 0).sum
theorem getD_put (l : List Int) {i : Nat} (hi : i < l.length) (x : Int) (y : Nat) : (l.set i x).getD y 0 = if y = i then x else l.getD y 0 := by
  rw [List.getD_eq_getElem?_getD, List.getElem?_set, List.getD_eq_getElem?_getD]
  by_cases h : i = y
  · subst h; simp [hi]
  · rw [if_neg h, if_neg (fun e => h e.symm)]
theorem on_set {st : List Int} {i : Nat} (hi : i < st.length) (j : Int) : on (st.set i 1) j ↔ on st j ∨ j = (i : Int) := by
  unfold on
  rw [getD_put st hi]
  by_cases h : j.toNat = i
  · rw [if_pos h]
    constructor
    · rintro ⟨h0, _⟩; exact .inr (by omega)
    · rintro (⟨h0, _⟩ | rfl)
      · exact ⟨h0, rfl⟩
      · exact ⟨by omega, rfl⟩
  · rw [if_neg h]
    constructor
    · exact .inl
    · rintro (h1 | rfl)
      · exact h1
      · exact absurd (Int.toNat_natCast i) h
theorem sum_set (n : Nat) (st : List Int) (f : Nat → Nat) {i : Nat} (hi : i < st.length) (h0 : st.getD i 0 ≠ 1) :
    ((List.range n).map fun k => if (st.set i 1).getD k 0 = 1 then f k else 0).sum = ((List.range n).map fun k => if st.getD k 0 = 1 then f k else 0).sum + if i < n then f i else 0 := by
  induction n with
  | zero => simp
  | succ n ih =>
    rw [List.range_succ, List.map_append, List.map_append, List.sum_append, List.sum_append, ih]
    simp only [List.map_cons, List.map_nil, List.sum_cons, List.sum_nil, Nat.add_zero]
    rw [getD_put st hi]
    by_cases hn : n = i
    · subst hn
      rw [if_pos rfl, if_pos rfl, if_neg (Nat.lt_irrefl _), if_neg h0, if_pos (Nat.lt_succ_self _)]
    · rw [if_neg hn]
      have e1 : (if i < n + 1 then f i else 0) = (if i < n then f i else 0) := by
        by_cases h1 : i < n
        · rw [if_pos h1, if_pos (show i < n + 1 by omega)]
        · rw [if_neg h1, if_neg (show ¬ i < n + 1 by omega)]
      rw [e1]; omega
theorem cntOut_set (g : G) {st : List Int} {i : Nat} (hl : st.length = g.objs.length) (hi : i < st.length) (h0 : st.getD i 0 ≠ 1) (j : Int) : cntOut g (st.set i 1) j = cntOut g st j + (targets (fieldsAt g i)).count j := by
  unfold cntOut
  have := sum_set g.objs.length st (fun k => (targets (fieldsAt g k)).count j) hi h0
  rw [if_pos (by omega)] at this
  exact this
/-- xs are taken; c: what was counted off beside. -/
structure TakeS (g : G) (s s' : List Int × List Int) (xs : List Int) (c : Int → Nat) : Prop where
  len : s'.1.length = s.1.length
  lenF : s'.2.length = s.2.length
  sub : ∀ j, on s.1 j → on s'.1 j
  has : ∀ x ∈ xs, on s'.1 x
  new : ∀ i, on s'.1 i → on s.1 i ∨ ∀ j ∈ targets (fieldsAt g i), on s'.1 j
  least : ∀ S : Int → Prop, (∀ i, S i → ∀ j ∈ targets (fieldsAt g i), S j) → (∀ x ∈ xs, S x) → ∀ j, on s'.1 j → on s.1 j ∨ S j
  sums : ∀ j : Nat, j < g.objs.length → s'.2.getD j 0 + (cntOut g s'.1 j : Nat) + (c j : Nat) = s.2.getD j 0 + (cntOut g s.1 j : Nat)
theorem TakeS.nil (g : G) (s : List Int × List Int) : TakeS g s s [] (fun _ => 0) := ⟨rfl, rfl, fun _ h => h, by simp, fun _ h => .inl h, fun _ _ _ _ h => .inl h, fun _ _ => by omega⟩
/-- One that is tried already. -/
theorem TakeS.old {g : G} {s : List Int × List Int} {x : Int} (h : on s.1 x) : TakeS g s s [x] (fun _ => 0) :=
  ⟨rfl, rfl, fun _ h => h, by intro y hy; simp at hy; subst hy; exact h, fun _ h => .inl h, fun _ _ _ _ h => .inl h, fun _ _ => by omega⟩
/-- One more of the targets: it is counted off, then taken. -/
theorem TakeS.snoc {g : G} {s s1 s2 : List Int × List Int} {xs : List Int} {x : Nat} {y : Int} (h : TakeS g s s1 xs (fun j => xs.count j)) (hx : s1.2[x]? = some y) (h2 : TakeS g (s1.1, s1.2.set x (y - 1)) s2 [(x : Int)] (fun _ => 0)) :
    TakeS g s s2 (xs ++ [(x : Int)]) (fun j => (xs ++ [(x : Int)]).count j) := by
  have hxl : x < s1.2.length := (List.getElem?_eq_some_iff.1 hx).1
  refine ⟨h2.len.trans h.len, by rw [h2.lenF]; simpa using h.lenF, fun j hj => h2.sub j (h.sub j hj), ?_, ?_, ?_, ?_⟩
  · intro z hz
    rcases List.mem_append.1 hz with h1 | h1
    · exact h2.sub z (h.has z h1)
    · exact h2.has z h1
  · intro i hi
    rcases h2.new i hi with h1 | h1
    · rcases h.new i h1 with h3 | h3
      · exact .inl h3
      · exact .inr fun j hj => h2.sub j (h3 j hj)
    · exact .inr h1
  · intro S hS hxs j hj
    rcases h2.least S hS (fun z hz => hxs z (List.mem_append_right _ hz)) j hj with h1 | h1
    · exact h.least S hS (fun z hz => hxs z (List.mem_append_left _ hz)) j h1
    · exact .inr h1
  · intro j hj
    have h3 := h.sums j hj
    have h4 := h2.sums j hj
    simp only at h4
    rw [getD_put s1.2 hxl] at h4
    rw [List.count_append, List.count_singleton]
    by_cases e : j = x
    · subst e
      have hy : s1.2.getD j 0 = y := by rw [List.getD_eq_getElem?_getD, hx]; rfl
      rw [if_pos rfl] at h4
      simp only [beq_self_eq_true, if_true]
      omega
    · rw [if_neg e] at h4
      have : (((x : Int) == (j : Int)) = false) := by simp; omega
      rw [this]
      simp only [Bool.false_eq_true, if_false]
      omega
/-- A new one: it is tried now, and all its targets are taken. -/
theorem TakeS.take {g : G} {s s1 : List Int × List Int} {x : Nat} (hl : s.1.length = g.objs.length) (hx : x < s.1.length) (h0 : s.1.getD x 0 ≠ 1) (h : TakeS g (s.1.set x 1, s.2) s1 (targets (fieldsAt g x)) (fun j => (targets (fieldsAt g x)).count j)) :
    TakeS g s s1 [(x : Int)] (fun _ => 0) := by
  have hon := fun j => on_set hx (st := s.1) j
  refine ⟨by rw [h.len]; simp, h.lenF, fun j hj => h.sub j ((hon j).2 (.inl hj)), ?_, ?_, ?_, ?_⟩
  · intro y hy
    simp at hy; subst hy
    exact h.sub _ ((hon _).2 (.inr rfl))
  · intro i hi
    rcases h.new i hi with h1 | h1
    · rcases (hon i).1 h1 with h2 | rfl
      · exact .inl h2
      · exact .inr fun j hj => h.has j hj
    · exact .inr h1
  · intro S hS hxs j hj
    have hSx : S (x : Int) := hxs _ (by simp)
    rcases h.least S hS (fun z hz => hS _ hSx z hz) j hj with h1 | h1
    · rcases (hon j).1 h1 with h2 | rfl
      · exact .inl h2
      · exact .inr hSx
    · exact .inr h1
  · intro j hj
    have h3 := h.sums j hj
    simp only at h3
    rw [cntOut_set g hl hx h0] at h3
    omega
end Go.Proofs.Ytdmgpiimacnapaa
