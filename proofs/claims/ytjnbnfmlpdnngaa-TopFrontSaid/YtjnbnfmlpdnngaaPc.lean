/- Play: what all machines share. -/
import Derived.Test.YtjnbnfmlpdnngaaQ4
import Derived.Test.YtjnbnfmlpdnngaaS0
import Derived.Test.YtjnbnfmlpdnngaaMx
namespace Go.Proofs.Ytjnbnfmlpdnngaa
open Go.RowKit Go.Shelf
def cellsC (p : Int × Int) : List Value := [.int .i64 p.1, .int .i64 p.2]
theorem cellsC_one (p : Int × Int) : ∀ u ∈ cellsC p, u.oneCell' = true := by
  intro u hu
  simp only [cellsC, List.mem_cons, List.not_mem_nil, or_false] at hu
  rcases hu with rfl | rfl <;> rfl
theorem elemCounts : Elem Try.prog 28 98 2 16 (.agg #[.int .i64 0, .int .i64 0]) := ⟨by kernel_rfl, info_parts (by kernel_rfl), rfl, by decide⟩
theorem of_cps {w W : World} {L : List Ent} {g : G} (hG : Good g) {v : Value} (hg : IsGraph w v g) {R : Ending → World → Prop} (hM : Mem w.heap.size w W L)
    (h : ∀ aO cO cs w', conts cs = g.objs.map some → Mem w.heap.size w w' (rowP (.slice aO cs.length cO) cs :: (objsE cs ++ L)) → R (.returned (.slice aO cs.length cO)) w') : Calls Try.prog 33 #[v] W R := by
  refine (of_any g hG v W (hg.later hM.below)).mono ?_
  rintro e w' ⟨vo, cs, rfl, h1, h2⟩
  have h3 := hM.callMem h2
  obtain ⟨aO, cO, rfl⟩ := (h3.cast (L' := [rowP vo cs] ++ (objsE cs ++ L)) rfl).ptrSlice (oAt_of (A := [rowP vo cs]) (kp := 0) (vo := vo) rfl)
  exact h aO cO cs w' h1 h3
theorem permA {x i p : Ent} {os R : List Ent} : (x :: p :: i :: (os ++ R)).Perm (x :: i :: p :: (os ++ R)) := List.Perm.cons _ (List.Perm.swap _ _ _)
theorem permB {x i p : Ent} {os R : List Ent} : (x :: p :: i :: (os ++ R)).Perm (x :: p :: (os ++ i :: R)) := List.Perm.cons _ (List.Perm.cons _ List.perm_middle.symm)
theorem pushIn {x a b : Ent} {P Q : List Ent} : (x :: a :: b :: (P ++ Q)).Perm (a :: b :: (P ++ x :: Q)) := (List.Perm.swap _ _ _).trans (List.Perm.cons _ ((List.Perm.swap _ _ _).trans (List.Perm.cons _ List.perm_middle.symm)))
theorem pull1 {m x : Ent} {L Q : List Ent} : (x :: m :: (L ++ Q)).Perm (m :: (L ++ x :: Q)) := (List.Perm.swap _ _ _).trans (List.Perm.cons _ List.perm_middle.symm)
theorem pull2 {m x y : Ent} {L Q : List Ent} : (x :: y :: m :: (L ++ Q)).Perm (m :: (L ++ x :: y :: Q)) := (List.Perm.cons _ pull1).trans pull1
theorem pull3 {m x y z : Ent} {L Q : List Ent} : (x :: y :: z :: m :: (L ++ Q)).Perm (m :: (L ++ x :: y :: z :: Q)) := (List.Perm.cons _ pull2).trans pull1
end Go.Proofs.Ytjnbnfmlpdnngaa
