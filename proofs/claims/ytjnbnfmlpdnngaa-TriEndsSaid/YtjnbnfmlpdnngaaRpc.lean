/- slices.Repeat of one int that lies in a box of the call's own. -/
import Derived.Test.YtjnbnfmlpdnngaaRe
import Derived.Test.YtjnbnfmlpdnngaaBxi
namespace Go.Proofs.Ytjnbnfmlpdnngaa
open Go.RowKit Go.Shelf
theorem rep_any {B : Nat} {w0 w : World} {L : List Ent} (x : Int) (hx : i64ok x) (n : Nat) (hn : n ≤ 1000) (hM : Mem B w0 w L) (b : Nat) (hm : ebox b #[.int .i64 x] 3 ∈ L) :
    Calls Try.prog 34 #[.slice (some ⟨b, 0, none⟩) 1 1, .int .i64 (n : Int)] w fun e w' => ∃ v, e = .returned v ∧ Mem B w0 w' (rowI 3 v (List.replicate n x) :: L) := by
  refine (repeat_any _ x n (by omega) _ (hM.boxInts hm hx)).mono ?_
  rintro e wq ⟨vu, rfl, hMq⟩
  exact ⟨vu, rfl, hM.callMem hMq⟩

theorem rep_cps {B : Nat} {w0 w : World} {L : List Ent} {x : Int} {n : Nat} (hx : i64ok x) (hn : n ≤ 1000) {b : Nat} {R : Ending → World → Prop} (hM : Mem B w0 w L) (hm : ebox b #[.int .i64 x] 3 ∈ L)
    (h : ∀ v w', Mem B w0 w' (rowI 3 v (List.replicate n x) :: L) → R (.returned v) w') : Calls Try.prog 34 #[.slice (some ⟨b, 0, none⟩) 1 1, .int .i64 (n : Int)] w R := by
  refine (rep_any x hx n hn hM b hm).mono ?_
  rintro e w' ⟨v, rfl, hM2⟩
  exact h v w' hM2
end Go.Proofs.Ytjnbnfmlpdnngaa
