/- Share's map, round by round: lists of pairs. -/
import Derived.Test.YtdmgpiimacnapaaHa
namespace Go.Proofs.Ytdmgpiimacnapaa
open Go.RowKit Go.Shelf

/-- All pairs, in the order of the loops. -/
def pairsN (n : Nat) : List (Int × Int) := (List.range n).flatMap fun (a : Nat) => (List.range n).map fun (b : Nat) => ((a : Int), (b : Int))
theorem mem_pairsN {n : Nat} {p : Int × Int} : p ∈ pairsN n ↔ (0 ≤ p.1 ∧ p.1 < n) ∧ 0 ≤ p.2 ∧ p.2 < n := by
  unfold pairsN
  rw [List.mem_flatMap]
  constructor
  · rintro ⟨a, ha, h⟩
    obtain ⟨b, hb, rfl⟩ := List.mem_map.1 h
    rw [List.mem_range] at ha hb
    simp only
    omega
  · rintro ⟨⟨h1, h2⟩, h3, h4⟩
    refine ⟨p.1.toNat, List.mem_range.2 (by omega), List.mem_map.2 ⟨p.2.toNat, List.mem_range.2 (by omega), ?_⟩⟩
    obtain ⟨a, b⟩ := p
    simp only at *
    rw [Int.toNat_of_nonneg h1, Int.toNat_of_nonneg h3]
theorem length_pairsN (n : Nat) : (pairsN n).length = n * n := by
  unfold pairsN
  rw [List.length_flatMap]
  simp [List.map_const', List.sum_replicate_nat]
/-- Those that m does not hold. -/
def unk (n : Nat) (m : Int × Int → Option Nat) : List (Int × Int) := (pairsN n).filter fun p => (m p).isNone
theorem mem_unk {g : G} {m : Int × Int → Option Nat} {p : Int × Int} : p ∈ unk g.objs.length m ↔ inO g p ∧ m p = none := by
  unfold unk
  rw [List.mem_filter, mem_pairsN, Option.isNone_iff_eq_none]
  rfl
open Classical in
/-- Those that a way of n fields tells. -/
noncomputable def fnd (g : G) (m : Int × Int → Option Nat) (n : Nat) : List (Int × Int) := (unk g.objs.length m).filter fun p => decide (∃ k, k < 4 ∧ tellsP g m p k n)
theorem mem_fnd {g : G} {m : Int × Int → Option Nat} {n : Nat} {p : Int × Int} : p ∈ fnd g m n ↔ (inO g p ∧ m p = none) ∧ ∃ k, k < 4 ∧ tellsP g m p k n := by
  unfold fnd
  rw [List.mem_filter, mem_unk]
  simp only [decide_eq_true_eq]
theorem mapAt_next {g : G} {n : Nat} (p : Int × Int) : mapAt g (n + 1) p = if p ∈ fnd g (mapAt g n) (n + 1) then some (n + 1) else mapAt g n p := by
  by_cases hp : p ∈ fnd g (mapAt g n) (n + 1)
  · rw [if_pos hp]
    have h2 := mem_fnd.1 hp
    simp only [mapAt, h2.1.2]
    rw [if_pos ⟨h2.1.1, h2.2⟩]
  · rw [if_neg hp]
    cases h : mapAt g n p with
    | some j => exact mapAt_succ h
    | none =>
      simp only [mapAt, h]
      rw [if_neg (fun hc => hp (mem_fnd.2 ⟨⟨hc.1, h⟩, hc.2⟩))]
/-- A round that finds none ends it. -/
theorem apart_none {g : G} {n : Nat} (h : fnd g (mapAt g n) (n + 1) = []) : Apart g (mapAt g n) := apart_of (fun p => by rw [mapAt_next, h]; simp)
theorem filter_lt {α : Type} (q r : α → Bool) (l : List α) (h : ∀ x, q x = true → r x = true) (y : α) (hy : y ∈ l) (h1 : r y = true) (h2 : q y = false) : (l.filter q).length < (l.filter r).length := by
  induction l with
  | nil => cases hy
  | cons x l ih =>
    have hle : (l.filter q).length ≤ (l.filter r).length := by
      rw [← List.countP_eq_length_filter, ← List.countP_eq_length_filter]
      exact List.countP_mono_left (fun x _ hx => h x hx)
    rcases List.mem_cons.1 hy with rfl | hm
    · rw [List.filter_cons_of_neg (by simp [h2]), List.filter_cons_of_pos h1, List.length_cons]
      omega
    · have := ih hm
      rw [List.filter_cons, List.filter_cons]
      cases hq : q x with
      | true => rw [h x hq]; simp; exact this
      | false =>
        cases hr : r x with
        | true => simp; omega
        | false => simp; exact this
theorem unk_lt {g : G} {n : Nat} (h : fnd g (mapAt g n) (n + 1) ≠ []) : (unk g.objs.length (mapAt g (n + 1))).length < (unk g.objs.length (mapAt g n)).length := by
  obtain ⟨p, hp⟩ := List.exists_mem_of_ne_nil _ h
  have hp2 := mem_fnd.1 hp
  refine filter_lt _ _ _ ?_ p (mem_pairsN.2 hp2.1.1) (by rw [hp2.1.2]; rfl) (by rw [mapAt_next, if_pos hp]; rfl)
  intro x hx
  rw [Option.isNone_iff_eq_none] at hx ⊢
  cases hm : mapAt g n x with
  | none => rfl
  | some j => rw [mapAt_succ hm] at hx; cases hx
theorem unk_le (g : G) (m : Int × Int → Option Nat) : (unk g.objs.length m).length ≤ g.objs.length * g.objs.length := by
  rw [← length_pairsN]
  exact List.length_filter_le _ _
theorem length_parts {α : Type} (q : α → Bool) (l : List α) : (l.filter q).length + (l.filter fun x => !q x).length = l.length := by
  induction l with
  | nil => rfl
  | cons x l ih => cases h : q x <;> simp [h] <;> omega
/-- A round takes from the unknown what it finds. -/
theorem unk_next {g : G} {n : Nat} : (unk g.objs.length (mapAt g (n + 1))).length + (fnd g (mapAt g n) (n + 1)).length = (unk g.objs.length (mapAt g n)).length := by
  have h1 : unk g.objs.length (mapAt g (n + 1)) = (unk g.objs.length (mapAt g n)).filter fun p => !(@decide (∃ k, k < 4 ∧ tellsP g (mapAt g n) p k (n + 1)) (Classical.propDecidable _)) := by
    unfold unk
    rw [List.filter_filter]
    refine List.filter_congr ?_
    intro p hp
    rw [mapAt_next]
    have hin : inO g p := mem_pairsN.1 hp
    by_cases hf : p ∈ fnd g (mapAt g n) (n + 1)
    · rw [if_pos hf]
      have := (mem_fnd.1 hf).2
      simp [this]
    · rw [if_neg hf]
      cases hm : mapAt g n p with
      | some j => simp
      | none =>
        have : ¬ ∃ k, k < 4 ∧ tellsP g (mapAt g n) p k (n + 1) := fun h => hf (mem_fnd.2 ⟨⟨hin, hm⟩, h⟩)
        simp [this]
  rw [h1, Nat.add_comm]
  unfold fnd
  exact length_parts _ _
end Go.Proofs.Ytdmgpiimacnapaa
