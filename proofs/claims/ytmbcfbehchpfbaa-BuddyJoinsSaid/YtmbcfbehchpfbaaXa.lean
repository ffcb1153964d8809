/- Buddies: pieces of powers of two. Plain. -/
import Derived.Test.YtmbcfbehchpfbaaG0
namespace Go.Proofs.Ytmbcfbehchpfbaa

/-- Which pieces are free: by level and place. -/
abbrev Fr := Nat → Nat → Bool
structure BSt where
  fr : Fr
  tk : Int → Option Nat
/-- The least level whose pieces have as many words. -/
def needB (n : Nat) : Nat := if n ≤ 1 then 0 else if n ≤ 2 then 1 else if n ≤ 4 then 2 else if n ≤ 8 then 3 else if n ≤ 16 then 4 else if n ≤ 32 then 5 else if n ≤ 64 then 6 else 7
def minAt (f : Nat → Bool) (N : Nat) : Option Nat := (List.range N).find? f
def levelB (lev need : Nat) (fr : Fr) : Option Nat := (List.range (lev + 1)).find? fun k => decide (need ≤ k) && (minAt (fr k) (2 ^ lev)).isSome
/-- A piece at level k is split down to level need. -/
def splitB (fr : Fr) (need k p : Nat) : Fr := fun j x => if j = k ∧ x = p then false else if need ≤ j ∧ j < k ∧ x = p + 2 ^ j then true else fr j x
def takeB (lev : Nat) (s : BSt) (n : Nat) : Option (Nat × BSt) :=
  match levelB lev (needB n) s.fr with
  | none => none
  | some k =>
    match minAt (s.fr k) (2 ^ lev) with
    | none => none
    | some p => some (p, ⟨splitB s.fr (needB n) k p, fun x => if x = (p : Int) then some (needB n) else s.tk x⟩)
def setB (fr : Fr) (k p : Nat) (b : Bool) : Fr := fun j x => if j = k ∧ x = p then b else fr j x
/-- A piece goes back, with its twin where that is free. -/
def joinB (lev : Nat) : Nat → Fr → Nat → Nat → Fr
  | 0, fr, k, p => setB fr k p true
  | f + 1, fr, k, p => if k < lev ∧ fr k (p ^^^ 2 ^ k) = true then joinB lev f (setB fr k (p ^^^ 2 ^ k) false) (k + 1) (p &&& (p ^^^ 2 ^ k)) else setB fr k p true
def giveB (lev : Nat) (s : BSt) (x : Int) : Option BSt :=
  match s.tk x with
  | none => none
  | some k => some ⟨joinB lev (lev - k) s.fr k x.toNat, fun y => if y = x then none else s.tk y⟩
/-- One ask: the state, the code, the place. -/
def stepB (lev : Nat) (s : BSt) (a : Int × Int) : BSt × Int × Nat :=
  if a.1 = 1 then
    if a.2 < 1 ∨ ((2 ^ lev : Nat) : Int) < a.2 then (s, 3, 0)
    else match takeB lev s a.2.toNat with
      | none => (s, 6, 0)
      | some (p, s') => (s', 0, p)
  else if a.1 = 2 then
    match giveB lev s a.2 with
    | none => (s, 2, 0)
    | some s' => (s', 0, 0)
  else (s, 5, 0)
def startB (lev : Nat) : BSt := ⟨fun k x => decide (k = lev ∧ x = 0), fun _ => none⟩
def stateB (lev : Nat) (l : List (Int × Int)) (k : Nat) : BSt := (l.take k).foldl (fun s a => (stepB lev s a).1) (startB lev)
def codeB (lev : Nat) (l : List (Int × Int)) (k : Nat) : Int := (stepB lev (stateB lev l k) (l.getD k (0, 0))).2.1
def atB (lev : Nat) (l : List (Int × Int)) (k : Nat) : Nat := (stepB lev (stateB lev l k) (l.getD k (0, 0))).2.2
theorem stateB_succ {lev : Nat} {l : List (Int × Int)} {k : Nat} {a : Int × Int} (h : l[k]? = some a) : stateB lev l (k + 1) = (stepB lev (stateB lev l k) a).1 := by
  unfold stateB
  rw [List.take_add_one, h]; simp
theorem codeB_at {lev : Nat} {l : List (Int × Int)} {k : Nat} {a : Int × Int} (h : l[k]? = some a) : codeB lev l k = (stepB lev (stateB lev l k) a).2.1 := by
  unfold codeB; rw [List.getD_eq_getElem?_getD, h]; rfl
theorem atB_at {lev : Nat} {l : List (Int × Int)} {k : Nat} {a : Int × Int} (h : l[k]? = some a) : atB lev l k = (stepB lev (stateB lev l k) a).2.2 := by
  unfold atB; rw [List.getD_eq_getElem?_getD, h]; rfl
theorem stateB_pre {lev : Nat} {l m : List (Int × Int)} {k : Nat} (h : l.take k = m.take k) : stateB lev l k = stateB lev m k := by unfold stateB; rw [h]
theorem codeB_pre {lev : Nat} {l m : List (Int × Int)} {k : Nat} (h : l.take (k + 1) = m.take (k + 1)) : codeB lev l k = codeB lev m k ∧ atB lev l k = atB lev m k := by
  have h1 : l.take k = m.take k := by
    have := congrArg (List.take k) h
    rwa [List.take_take, List.take_take, Nat.min_eq_left (by omega)] at this
  have h2 : l.getD k (0, 0) = m.getD k (0, 0) := by
    have := congrArg (fun x => x[k]?) h
    simp only [List.getElem?_take, if_pos (Nat.lt_succ_self k)] at this
    rw [List.getD_eq_getElem?_getD, List.getD_eq_getElem?_getD, this]
  unfold codeB atB
  rw [stateB_pre h1, h2]
  exact ⟨rfl, rfl⟩

/-! ### twins -/
theorem pow_le7 {k : Nat} (h : k ≤ 7) : 2 ^ k ≤ 128 ∧ 1 ≤ 2 ^ k := by
  have h2 : k = 0 ∨ k = 1 ∨ k = 2 ∨ k = 3 ∨ k = 4 ∨ k = 5 ∨ k = 6 ∨ k = 7 := by omega
  rcases h2 with rfl | rfl | rfl | rfl | rfl | rfl | rfl | rfl <;> decide
/-- The twin's place. -/
def twinB (k p : Nat) : Nat := if p / 2 ^ k % 2 = 0 then p + 2 ^ k else p - 2 ^ k
theorem twin_bits : ∀ p, p < 128 → ∀ k, k < 8 → p % 2 ^ k = 0 → p ^^^ 2 ^ k = twinB k p ∧ p &&& (p ^^^ 2 ^ k) = p / 2 ^ (k + 1) * 2 ^ (k + 1) := by decide +kernel
end Go.Proofs.Ytmbcfbehchpfbaa
