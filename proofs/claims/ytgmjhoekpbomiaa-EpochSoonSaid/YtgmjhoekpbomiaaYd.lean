/- Slices of the call's own: cleared behind a place, cut. -/
import Derived.Test.YtgmjhoekpbomiaaTu
import Derived.Lib.SliceRun
namespace Go.Proofs.Ytgmjhoekpbomiaa
open Go.RowKit

section
variable {B : Nat} {w0 w : World} {L : List Ent} {e : TypeId} {sz : Nat}
theorem set_same_at {α : Type} {L : List α} {k : Nat} {x : α} (h : L[k]? = some x) : L.set k x = L := by
  obtain ⟨h1, h2⟩ := List.getElem?_eq_some_iff.1 h
  rw [← h2, List.set_getElem_self]
theorem Mem.setMany : ∀ (vs : List Value) {w : World} {L : List Ent} (_ : Mem B w0 w L) (k : Nat) {g n cap : Nat} {xs : List Value} (_ : L[k]? = some (erow e sz (.slice (some ⟨g, 0, none⟩) n cap) n xs)) (o m : Nat) (_ : m ≤ o),
    ∃ ys, ys.take m = xs.take m ∧ Mem B w0 (w.setCells g o vs) (L.set k (erow e sz (.slice (some ⟨g, 0, none⟩) n cap) n ys))
  | [], w, L, h, k, g, n, cap, xs, hk, o, m, _ => ⟨xs, rfl, h.cast (set_same_at hk).symm⟩
  | v :: vs, w, L, h, k, g, n, cap, xs, hk, o, m, hm => by
    have h1 := h.setRow k hk o v
    have hkl := (List.getElem?_eq_some_iff.1 hk).1
    obtain ⟨ys, h2, h3⟩ := Mem.setMany vs h1 k (List.getElem?_set_self hkl) (o + 1) m (by omega)
    refine ⟨ys, h2.trans ?_, h3.cast (by rw [List.set_set])⟩
    rw [List.take_set_of_le hm]
/-- s[:m]. -/
theorem Mem.cut (h : Mem B w0 w L) (k : Nat) {g n cap : Nat} {xs : List Value} (hk : L[k]? = some (erow e sz (.slice (some ⟨g, 0, none⟩) n cap) n xs)) (m : Nat) (hm : m ≤ n) :
    Mem B w0 w (L.set k (erow e sz (.slice (some ⟨g, 0, none⟩) m cap) m (xs.take (m * sz)))) := by
  have hr := h.row k hk
  have hms : m * sz ≤ n * sz := Nat.mul_le_mul_right sz hm
  refine h.turn k hk ⟨rfl, rfl, rfl, Nat.le_refl _, fun _ _ _ => rfl⟩ (row_ok.2 ⟨by rw [List.length_take, hr.1]; omega, ?_⟩) fun b' e => .inl e
  rcases hr.2 with ⟨h1, _⟩ | ⟨g', cap', cur, h1, hb, hg, hc1, hc2, hc3, hc4⟩
  · cases h1
  · cases h1
    refine .inr ⟨g, cap, cur, rfl, hb, hg, by omega, hc2, hc3, ?_⟩
    rw [← hc4, List.take_take, Nat.min_eq_left hms]
variable {α : Type} {enc : α → List Value} {z : α}
theorem flat_take (hz : ∀ x, (enc x).length = sz) : ∀ (l : List α) (m : Nat), (l.flatMap enc).take (m * sz) = (l.take m).flatMap enc
  | [], m => by simp
  | x :: l, 0 => by simp
  | x :: l, m + 1 => by
    rw [List.flatMap_cons, List.take_succ_cons, List.flatMap_cons, List.take_append, hz, show (m + 1) * sz - sz = m * sz by rw [Nat.add_mul]; omega, flat_take hz l m,
      List.take_of_length_le (by rw [hz, Nat.add_mul]; omega)]
/-- clear(s[i:]), and s[:i]. -/
theorem Mem.clearCutT (h : Mem B w0 w L) (k : Nat) {g n cap : Nat} {l : List α} (hk : L[k]? = some (rowT e sz enc (.slice (some ⟨g, 0, none⟩) n cap) l)) (hn : l.length = n) (hz : ∀ x, (enc x).length = sz) (i : Nat) (hi : i ≤ n) (vs : List Value) :
    Mem B w0 (w.setCells g (i * sz) vs) (L.set k (rowT e sz enc (.slice (some ⟨g, 0, none⟩) i cap) (l.take i))) := by
  subst hn
  obtain ⟨ys, h1, h2⟩ := Mem.setMany vs h k hk (i * sz) (i * sz) (Nat.le_refl _)
  have hkl := (List.getElem?_eq_some_iff.1 hk).1
  have h3 := h2.cut k (List.getElem?_set_self hkl) i hi
  refine h3.cast ?_
  rw [List.set_set, h1, flat_take hz]
  unfold rowT
  rw [List.length_take, Nat.min_eq_left hi]
open Go.Lib in
/-- 'clear' of n > 0 elements of more than one cell. -/
theorem run_clearT {P : Program} (w : World) (t e ty : TypeId) (z : Value) (ht : P.underlying t = some (.slice e)) (hv : ∀ w, (zeroValue e).run P w = .ok z w) (b o n c : Nat) (hn : 0 < n) (sz : Nat) (hs : z.cells.size = sz) (h1 : ∀ v ∈ z.cells, v.oneCell' = true)
    (hc : ∀ j, j < n * sz → (w.cell? ⟨b, o + j, none⟩).isSome = true) (hf : ∀ j, j < n * sz → w.frozen? ⟨b, o + j, none⟩ = false) (hp : 0 < sz) :
    (Builtin.clear_ #[t] ty #[.slice (some ⟨b, o, none⟩) n c]).run P w = .ok (.tuple #[]) (w.setCells b o (Builtin.zeroCells z.cells n).toList) := by
  have hl : (Builtin.zeroCells z.cells n).toList.length = n * sz := by simp [Builtin.zeroCells, hs]
  have hst := run_storeCells_cells (P := P) b o (Builtin.zeroCells z.cells n).toList 0 w (by rw [hl]; simpa using hc) (by rw [hl]; simpa using hf) (by
    intro v hv'
    obtain ⟨i, hi, rfl⟩ := List.mem_iff_getElem.1 hv'
    simp only [Builtin.zeroCells, Array.getElem_toList, Array.getElem_map]
    have hm : ∀ m : Nat, z.cells[m % z.cells.size]! ∈ z.cells := fun m => by
      have hlt : m % z.cells.size < z.cells.size := Nat.mod_lt _ (by omega)
      rw [getElem!_pos z.cells _ hlt]
      exact Array.getElem_mem hlt
    exact h1 _ (hm _))
  simp only [Nat.add_zero] at hst
  obtain ⟨m, rfl⟩ : ∃ m, n = m + 1 := ⟨n - 1, by omega⟩
  simp [Builtin.clear_, run_underlying ht, hv, hst]
end
end Go.Proofs.Ytgmjhoekpbomiaa
