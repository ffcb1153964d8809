/- Steps for grow: a make of ints in a drawing region; what a box holds; a drawing region in a round of a range over a function. -/
import Derived.Test.YtnpbdabboecpaaaSt
import Derived.Test.YtnpbdabboecpaaaF1
import Derived.Test.YtnpbdabboecpaaaEi
import Derived.Test.YtnpbdabboecpaaaRe
namespace Go.Proofs.Ytnpbdabboecpaaa
open Go.RowKit Go.Shelf

section
variable {P : Program} {B : Nat} {w0 w : World} {L : List Ent} {t e : TypeId}
/-- make([]int, m), at whatever world: the world behind it. -/
theorem make_fun (T : Elem P t e 1 8 (.int .i64 0)) (m : Nat) (hm : m ≤ 1000) : ∃ mk : World → World,
    (∀ W, Sem.run P (Instr.makeSlice t (.int .i64 m) (.int .i64 m)) W = .ok (.slice (some ⟨W.heap.size, 0, none⟩) m m) (mk W)) ∧
    (∀ (B : Nat) (w0 W : World) (L : List Ent), Mem B w0 W L → Mem B w0 (mk W) (rowI e (.slice (some ⟨W.heap.size, 0, none⟩) m m) (List.replicate m 0) :: L)) := by
  obtain ⟨i, hi, hz, hs, hb⟩ := T.info
  have h : ∀ W : World, ∃ W', Sem.run P (Instr.makeSlice t (.int .i64 m) (.int .i64 m)) W = .ok (.slice (some ⟨W.heap.size, 0, none⟩) m m) W' ∧ ∀ (B : Nat) (w0 : World) (L : List Ent), Mem B w0 W L → Mem B w0 W' (rowI e (.slice (some ⟨W.heap.size, 0, none⟩) m m) (List.replicate m 0) :: L) := by
    intro W
    obtain ⟨W', hrun, r1, r2⟩ := run_make_full (P := P) W W.heap.size t e i _ 1 T.under hi hz hs .i64 .i64 m (by rw [hb]; omega) (by simp [maxLen]; omega) (Nat.le_refl _)
    exact ⟨W', hrun, fun B w0 L hM => hM.make_own r1 r2⟩
  exact ⟨fun W => Classical.choose (h W), fun W => (Classical.choose_spec (h W)).1, fun B w0 W L hM => (Classical.choose_spec (h W)).2 B w0 L hM⟩
theorem Mem.boxCell (h : Mem B w0 w L) {b : Nat} {c : Array Value} {t : TypeId} (hm : ebox b c t ∈ L) (i : Nat) {v : Value} (hv : c[i]? = some v) : w.cell? ⟨b, i, none⟩ = some v := by
  obtain ⟨k, hk⟩ := List.mem_iff_getElem?.1 hm
  have := h.cell k hk i
  rw [this, hv]
theorem Mem.boxInts (h : Mem B w0 w L) {b : Nat} {x : Int} {t : TypeId} (hm : ebox b #[.int .i64 x] t ∈ L) (hx : i64ok x) : IsInts w (.slice (some ⟨b, 0, none⟩) 1 1) [x] := by
  refine ⟨some ⟨b, 0, none⟩, 1, rfl, by simp, ?_⟩
  intro k y hk
  cases k with
  | zero =>
    simp at hk; subst hk
    exact ⟨b, 0, rfl, (h.lt hm _ rfl).2, h.boxCell hm 0 rfl, hx⟩
  | succ k => simp at hk
end
section
variable {P : Program} {n r : Nat}
/-- A region that draws, in a round of a range over a function: some of its loads first. -/
theorem region_round_held {id : Nat} {S : World → Prop} {Q : Exit → Act → World → Prop} {a : Act} {w : World} {l : List Oper} (hm : P.follows .mixedOrders = true) (hd : noDefer l = true) (hQ : ¬ LetsOut Q) (hS : S w.drew)
    (h : S w.drew → wpAnyH P .any l.toArray Q S l.toArray.size (Array.replicate l.toArray.size false) a w.drew) : (Code.region id l.toArray true).wpIn (Fence.wide.inRound r) n P Q a w :=
  wpIn_region_any hm (any_round hd hQ _ _ _ _ (wpAny_of_held _ _ _ _ (h hS)))
end
end Go.Proofs.Ytnpbdabboecpaaa
