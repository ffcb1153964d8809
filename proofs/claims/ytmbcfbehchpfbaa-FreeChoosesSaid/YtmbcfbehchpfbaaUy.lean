/- FreeChooses at every input. -/
import Derived.Test.YtmbcfbehchpfbaaUx
namespace Go.Proofs.Ytmbcfbehchpfbaa
open Go.RowKit

set_option maxRecDepth 100000 in
set_option maxHeartbeats 1000000 in
theorem freeChooses_err (size pol n : Int) (v : Value) (l : List (Int × Int)) (w : World) (hl : IsTup 2 encA w v l) (h64 : AsksOk l) (he : errF size pol l.length ≠ 0) :
    Calls Try.prog 5 #[.int .i64 size, .int .i64 pol, v, .int .i64 n] w fun e w' => e = .returned (.bool true) ∧ Below w.heap.size w w' := by
  obtain ⟨al, cl, rfl, hlm⟩ := hl.slice
  have hP := fplay_told size pol _ l w hl h64
  obtain ⟨e1, he1⟩ : ∃ e1, errF size pol l.length = e1 := ⟨_, rfl⟩
  rw [he1] at hP he
  have HP := Lib.hid hP
  have q1 : (e1 != 0) = true := by simpa using he
  clear hl h64 he1 hP he
  go_enter Try.func5, Try.ntmps5
  go_wp2_with fail
  with_reducible refine HP.out.mono ?_
  rintro e w1 ⟨aC, nC, cC, aA, nA, cA, aF, nF, cF, rfl, hb1, _⟩
  have HB := Lib.hid (hb1.alloc hb1.size (.cells #[.slice aC nC cC, .slice aA nA cA, .slice aF nF cF] 27))
  clear hb1 HP
  go_wp2
  go_ret
  exact ⟨by first | rfl | simp, HB.out⟩
theorem freeChooses_walk (W : World) (v0 v1 v2 v3 : Value) (g0 : ∃ x : Int, v0 = .int .i64 x ∧ i64ok x) (g1 : ∃ x : Int, v1 = .int .i64 x ∧ i64ok x) (g2 : ∃ l : List (Int × Int), IsTup 2 encA W v2 l ∧ AsksOk l ∧ l.length ≤ 17592186044416) (g3 : ∃ x : Int, v3 = .int .i64 x ∧ i64ok x) :
    Calls Try.prog 5 #[v0, v1, v2, v3] W fun e w' => e = .returned (.bool true) ∧ Below W.heap.size W w' := by
  obtain ⟨size, rfl, _⟩ := g0
  obtain ⟨pol, rfl, _⟩ := g1
  obtain ⟨l, hl, h64, hr⟩ := g2
  obtain ⟨n, rfl, hn⟩ := g3
  by_cases he : errF size pol l.length = 0
  · by_cases hs : size < 1 ∨ 256 < size
    · unfold errF at he; rw [if_pos hs] at he; cases he
    by_cases hp : 1 ≤ pol ∧ pol ≤ 4
    · by_cases hL : 100 < l.length
      · unfold errF at he; rw [if_neg hs, if_neg (by simpa using hp), if_pos hL] at he; cases he
      · obtain ⟨N, rfl⟩ : ∃ N : Nat, size = N := ⟨size.toNat, by omega⟩
        exact freeChooses_good N (by omega) (by omega) pol hp n v2 l W hn hl h64 (by omega)
    · unfold errF at he; rw [if_neg hs, if_pos hp] at he; cases he
  · exact freeChooses_err size pol n v2 l W hl h64 he
end Go.Proofs.Ytmbcfbehchpfbaa
