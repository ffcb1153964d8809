/- What is owned, by pattern: small lemmas for walks in which the world's shape is found by trying. -/
import Derived.Test.YtmmcjjklmcfegaaBcx
import Derived.Test.YtmmcjjklmcfegaaMx
namespace Go.Proofs.Ytmmcjjklmcfegaa
open Go.RowKit

theorem box3 {B : Nat} {w0 w : World} {L : List Ent} {C : Prop} (h : Mem B w0 w L) {b : Nat} {x y z : Value} {t : TypeId} (hm : ebox b #[x, y, z] t ∈ L)
    (k : w.cell? ⟨b, 0, none⟩ = some x → w.cell? ⟨b, 1, none⟩ = some y → w.cell? ⟨b, 2, none⟩ = some z → w.frozen? ⟨b, 0, none⟩ = false → w.frozen? ⟨b, 1, none⟩ = false → w.frozen? ⟨b, 2, none⟩ = false → b < w.heap.size → C) : C :=
  k (h.boxCell hm 0 rfl) (h.boxCell hm 1 rfl) (h.boxCell hm 2 rfl) (h.boxFree hm 0).1 (h.boxFree hm 1).1 (h.boxFree hm 2).1 (h.boxFree hm 0).2
theorem Mem.setBox0 {B : Nat} {w0 w : World} {L : List Ent} {b : Nat} {c : Array Value} {t : TypeId} {j : Nat} {u : Value} (h : Mem B w0 w (ebox b c t :: L)) : Mem B w0 (w.setCell ⟨b, j, none⟩ u) (ebox b (c.setIfInBounds j u) t :: L) := h.setBox 0 rfl j u
theorem permC {a b x : Ent} {L : List Ent} : (x :: a :: b :: L).Perm (a :: b :: x :: L) := (List.perm_middle (l₁ := [a, b])).symm
theorem box2 {B : Nat} {w0 w : World} {L : List Ent} {C : Prop} (h : Mem B w0 w L) {b : Nat} {x y : Value} {t : TypeId} (hm : ebox b #[x, y] t ∈ L)
    (k : w.cell? ⟨b, 0, none⟩ = some x → w.cell? ⟨b, 1, none⟩ = some y → w.frozen? ⟨b, 0, none⟩ = false → w.frozen? ⟨b, 1, none⟩ = false → b < w.heap.size → C) : C :=
  k (h.boxCell hm 0 rfl) (h.boxCell hm 1 rfl) (h.boxFree hm 0).1 (h.boxFree hm 1).1 (h.boxFree hm 0).2
theorem boxL0 {B : Nat} {w0 w : World} {b : Nat} {x y : Value} {t : TypeId} (h : ∃ L, Mem B w0 w L ∧ ebox b #[x, y] t ∈ L) : w.cell? ⟨b, 0, none⟩ = some x := by
  obtain ⟨L, h1, h2⟩ := h
  exact h1.boxCell h2 0 rfl
theorem boxL1 {B : Nat} {w0 w : World} {b : Nat} {x y : Value} {t : TypeId} (h : ∃ L, Mem B w0 w L ∧ ebox b #[x, y] t ∈ L) : w.cell? ⟨b, 1, none⟩ = some y := by
  obtain ⟨L, h1, h2⟩ := h
  exact h1.boxCell h2 1 rfl
theorem Mem.setBox1 {B : Nat} {w0 w : World} {L : List Ent} {a : Ent} {b : Nat} {c : Array Value} {t : TypeId} {j : Nat} {u : Value} (h : Mem B w0 w (a :: ebox b c t :: L)) : Mem B w0 (w.setCell ⟨b, j, none⟩ u) (a :: ebox b (c.setIfInBounds j u) t :: L) := h.setBox 1 rfl j u
end Go.Proofs.Ytmmcjjklmcfegaa
