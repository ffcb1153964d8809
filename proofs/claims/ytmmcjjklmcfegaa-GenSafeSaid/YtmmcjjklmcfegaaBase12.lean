/- Texts Mx Pc Pm in one. -/
import Derived.Test.YtmmcjjklmcfegaaBase1
import Derived.Test.YtmmcjjklmcfegaaBcx
import Derived.Test.YtmmcjjklmcfegaaQ4
import Derived.Test.YtmmcjjklmcfegaaS0
/- A make of ints at whatever world; what a box holds. -/
namespace Go.Proofs.Ytmmcjjklmcfegaa
open Go.RowKit Go.Shelf
section
variable {P : Program} {B : Nat} {w0 w : World} {L : List Ent} {t e : TypeId}
/-- make([]int, m), at whatever world: the world behind it. -/
theorem make_fun (T : Elem P t e 1 8 (.int .i64 0)) (m : Nat) (hm : m ≤ 1000) : ∃ mk : World → World,
    (∀ W, Sem.run P (Instr.makeSlice t (.int .i64 m) (.int .i64 m)) W = .ok (.slice (some ⟨W.heap.size, 0, none⟩) m m) (mk W)) ∧
    (∀ (B : Nat) (w0 W : World) (L : List Ent), Mem B w0 W L → Mem B w0 (mk W) (rowI e (.slice (some ⟨W.heap.size, 0, none⟩) m m) (List.replicate m 0) :: L)) := by
  obtain ⟨i, hi, hz, hs, hb⟩ := T.info
  have h : ∀ W : World, ∃ W', Sem.run P (Instr.makeSlice t (.int .i64 m) (.int .i64 m)) W = .ok (.slice (some ⟨W.heap.size, 0, none⟩) m m) W' ∧ ∀ (B : Nat) (w0 : World) (L : List Ent), Mem B w0 W L → Mem B w0 W' (rowI e (.slice (some ⟨W.heap.size, 0, none⟩) m m) (List.replicate m 0) :: L) := by
    intro W
    obtain ⟨W', hrun, r1, r2⟩ := run_make_full (P := P) W W.heap.size t e i _ 1 T.under hi hz hs .i64 .i64 m (by rw [hb]; omega) (by simp [maxLen]; omega) (Nat.le_refl _)
    exact ⟨W', hrun, fun B w0 L hM => hM.make_own r1 r2⟩
  exact ⟨fun W => Classical.choose (h W), fun W => (Classical.choose_spec (h W)).1, fun B w0 W L hM => (Classical.choose_spec (h W)).2 B w0 L hM⟩
end
theorem drew_heap (w : World) : w.drew.heap = w.heap := rfl
theorem mem_cps {B : Nat} {w0 W : World} {L A' : List Ent} (hM : Mem B w0 W L) (h : Mem B w0 W L → Mem B w0 W A') : Mem B w0 W A' := h hM
def BoxIn (B : Nat) (w0 w : World) (b : Nat) (c : Array Value) (t : TypeId) : Prop := ∃ L, Mem B w0 w L ∧ ebox b c t ∈ L
theorem BoxIn.both {B : Nat} {w0 w : World} {b : Nat} {x y : Value} {t : TypeId} (h : BoxIn B w0 w b #[x, y] t) : w.cell? ⟨b, 0, none⟩ = some x ∧ w.cell? ⟨b, 1, none⟩ = some y := by
  obtain ⟨L, h1, h2⟩ := h
  exact ⟨h1.boxCell h2 0 rfl, h1.boxCell h2 1 rfl⟩

end Go.Proofs.Ytmmcjjklmcfegaa

/- Play: what all machines share. -/
namespace Go.Proofs.Ytmmcjjklmcfegaa
open Go.RowKit Go.Shelf
def cellsC (p : Int × Int) : List Value := [.int .i64 p.1, .int .i64 p.2]
theorem cellsC_one (p : Int × Int) : ∀ u ∈ cellsC p, u.oneCell' = true := by
  intro u hu
  simp only [cellsC, List.mem_cons, List.not_mem_nil, or_false] at hu
  rcases hu with rfl | rfl <;> rfl
theorem elemCounts : Elem Try.prog 38 53 2 16 (.agg #[.int .i64 0, .int .i64 0]) := ⟨by kernel_rfl, info_parts (by kernel_rfl), rfl, by decide⟩
theorem of_cps {w W : World} {L : List Ent} {g : G} (hG : Good g) {v : Value} (hg : IsGraph w v g) {R : Ending → World → Prop} (hM : Mem w.heap.size w W L)
    (h : ∀ aO cO cs w', conts cs = g.objs.map some → Mem w.heap.size w w' (rowP (.slice aO cs.length cO) cs :: (objsE cs ++ L)) → R (.returned (.slice aO cs.length cO)) w') : Calls Try.prog 37 #[v] W R := by
  refine (of_any g hG v W (hg.later hM.below)).mono ?_
  rintro e w' ⟨vo, cs, rfl, h1, h2⟩
  have h3 := hM.callMem h2
  obtain ⟨aO, cO, rfl⟩ := (h3.cast (L' := [rowP vo cs] ++ (objsE cs ++ L)) rfl).ptrSlice (oAt_of (A := [rowP vo cs]) (kp := 0) (vo := vo) rfl)
  exact h aO cO cs w' h1 h3
theorem permA {x i p : Ent} {os R : List Ent} : (x :: p :: i :: (os ++ R)).Perm (x :: i :: p :: (os ++ R)) := List.Perm.cons _ (List.Perm.swap _ _ _)
theorem permB {x i p : Ent} {os R : List Ent} : (x :: p :: i :: (os ++ R)).Perm (x :: p :: (os ++ i :: R)) := List.Perm.cons _ (List.Perm.cons _ List.perm_middle.symm)
theorem pushIn {x a b : Ent} {P Q : List Ent} : (x :: a :: b :: (P ++ Q)).Perm (a :: b :: (P ++ x :: Q)) := (List.Perm.swap _ _ _).trans (List.Perm.cons _ ((List.Perm.swap _ _ _).trans (List.Perm.cons _ List.perm_middle.symm)))
theorem pull1 {m x : Ent} {L Q : List Ent} : (x :: m :: (L ++ Q)).Perm (m :: (L ++ x :: Q)) := (List.Perm.swap _ _ _).trans (List.Perm.cons _ List.perm_middle.symm)
theorem pull2 {m x y : Ent} {L Q : List Ent} : (x :: y :: m :: (L ++ Q)).Perm (m :: (L ++ x :: y :: Q)) := (List.Perm.cons _ pull1).trans pull1
theorem pull3 {m x y z : Ent} {L Q : List Ent} : (x :: y :: z :: m :: (L ++ Q)).Perm (m :: (L ++ x :: y :: z :: Q)) := (List.Perm.cons _ pull2).trans pull1
end Go.Proofs.Ytmmcjjklmcfegaa

/- What is owned, by pattern: small lemmas for walks in which the world's shape is found by trying. -/
namespace Go.Proofs.Ytmmcjjklmcfegaa
open Go.RowKit

theorem box3 {B : Nat} {w0 w : World} {L : List Ent} {C : Prop} (h : Mem B w0 w L) {b : Nat} {x y z : Value} {t : TypeId} (hm : ebox b #[x, y, z] t ∈ L)
    (k : w.cell? ⟨b, 0, none⟩ = some x → w.cell? ⟨b, 1, none⟩ = some y → w.cell? ⟨b, 2, none⟩ = some z → w.frozen? ⟨b, 0, none⟩ = false → w.frozen? ⟨b, 1, none⟩ = false → w.frozen? ⟨b, 2, none⟩ = false → b < w.heap.size → C) : C :=
  k (h.boxCell hm 0 rfl) (h.boxCell hm 1 rfl) (h.boxCell hm 2 rfl) (h.boxFree hm 0).1 (h.boxFree hm 1).1 (h.boxFree hm 2).1 (h.boxFree hm 0).2
theorem Mem.setBox0 {B : Nat} {w0 w : World} {L : List Ent} {b : Nat} {c : Array Value} {t : TypeId} {j : Nat} {u : Value} (h : Mem B w0 w (ebox b c t :: L)) : Mem B w0 (w.setCell ⟨b, j, none⟩ u) (ebox b (c.setIfInBounds j u) t :: L) := h.setBox 0 rfl j u
theorem permC {a b x : Ent} {L : List Ent} : (x :: a :: b :: L).Perm (a :: b :: x :: L) := (List.perm_middle (l₁ := [a, b])).symm
theorem box2 {B : Nat} {w0 w : World} {L : List Ent} {C : Prop} (h : Mem B w0 w L) {b : Nat} {x y : Value} {t : TypeId} (hm : ebox b #[x, y] t ∈ L)
    (k : w.cell? ⟨b, 0, none⟩ = some x → w.cell? ⟨b, 1, none⟩ = some y → w.frozen? ⟨b, 0, none⟩ = false → w.frozen? ⟨b, 1, none⟩ = false → b < w.heap.size → C) : C :=
  k (h.boxCell hm 0 rfl) (h.boxCell hm 1 rfl) (h.boxFree hm 0).1 (h.boxFree hm 1).1 (h.boxFree hm 0).2
theorem boxL0 {B : Nat} {w0 w : World} {b : Nat} {x y : Value} {t : TypeId} (h : ∃ L, Mem B w0 w L ∧ ebox b #[x, y] t ∈ L) : w.cell? ⟨b, 0, none⟩ = some x := by
  obtain ⟨L, h1, h2⟩ := h
  exact h1.boxCell h2 0 rfl
theorem boxL1 {B : Nat} {w0 w : World} {b : Nat} {x y : Value} {t : TypeId} (h : ∃ L, Mem B w0 w L ∧ ebox b #[x, y] t ∈ L) : w.cell? ⟨b, 1, none⟩ = some y := by
  obtain ⟨L, h1, h2⟩ := h
  exact h1.boxCell h2 1 rfl
theorem Mem.setBox1 {B : Nat} {w0 w : World} {L : List Ent} {a : Ent} {b : Nat} {c : Array Value} {t : TypeId} {j : Nat} {u : Value} (h : Mem B w0 w (a :: ebox b c t :: L)) : Mem B w0 (w.setCell ⟨b, j, none⟩ u) (a :: ebox b (c.setIfInBounds j u) t :: L) := h.setBox 1 rfl j u
end Go.Proofs.Ytmmcjjklmcfegaa
