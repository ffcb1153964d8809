/- A make of ints at whatever world; what a box holds. -/
import Derived.Test.YtjnbnfmlpdnngaaBase1
import Derived.Test.YtjnbnfmlpdnngaaBcx
namespace Go.Proofs.Ytjnbnfmlpdnngaa
open Go.RowKit Go.Shelf
section
variable {P : Program} {B : Nat} {w0 w : World} {L : List Ent} {t e : TypeId}
/-- make([]int, m), at whatever world: the world behind it. -/
theorem make_fun (T : Elem P t e 1 8 (.int .i64 0)) (m : Nat) (hm : m ≤ 1000) : ∃ mk : World → World,
    (∀ W, Sem.run P (Instr.makeSlice t (.int .i64 m) (.int .i64 m)) W = .ok (.slice (some ⟨W.heap.size, 0, none⟩) m m) (mk W)) ∧
    (∀ (B : Nat) (w0 W : World) (L : List Ent), Mem B w0 W L → Mem B w0 (mk W) (rowI e (.slice (some ⟨W.heap.size, 0, none⟩) m m) (List.replicate m 0) :: L)) := by
  obtain ⟨i, hi, hz, hs, hb⟩ := T.info
  have h : ∀ W : World, ∃ W', Sem.run P (Instr.makeSlice t (.int .i64 m) (.int .i64 m)) W = .ok (.slice (some ⟨W.heap.size, 0, none⟩) m m) W' ∧ ∀ (B : Nat) (w0 : World) (L : List Ent), Mem B w0 W L → Mem B w0 W' (rowI e (.slice (some ⟨W.heap.size, 0, none⟩) m m) (List.replicate m 0) :: L) := by
    intro W
    obtain ⟨W', hrun, r1, r2⟩ := run_make_full (P := P) W W.heap.size t e i _ 1 T.under hi hz hs .i64 .i64 m (by rw [hb]; omega) (by simp [maxLen]; omega) (Nat.le_refl _)
    exact ⟨W', hrun, fun B w0 L hM => hM.make_own r1 r2⟩
  exact ⟨fun W => Classical.choose (h W), fun W => (Classical.choose_spec (h W)).1, fun B w0 W L hM => (Classical.choose_spec (h W)).2 B w0 L hM⟩
end
theorem drew_heap (w : World) : w.drew.heap = w.heap := rfl
theorem mem_cps {B : Nat} {w0 W : World} {L A' : List Ent} (hM : Mem B w0 W L) (h : Mem B w0 W L → Mem B w0 W A') : Mem B w0 W A' := h hM
def BoxIn (B : Nat) (w0 w : World) (b : Nat) (c : Array Value) (t : TypeId) : Prop := ∃ L, Mem B w0 w L ∧ ebox b c t ∈ L
theorem BoxIn.both {B : Nat} {w0 w : World} {b : Nat} {x y : Value} {t : TypeId} (h : BoxIn B w0 w b #[x, y] t) : w.cell? ⟨b, 0, none⟩ = some x ∧ w.cell? ⟨b, 1, none⟩ = some y := by
  obtain ⟨L, h1, h2⟩ := h
  exact ⟨h1.boxCell h2 0 rfl, h1.boxCell h2 1 rfl⟩

end Go.Proofs.Ytjnbnfmlpdnngaa
