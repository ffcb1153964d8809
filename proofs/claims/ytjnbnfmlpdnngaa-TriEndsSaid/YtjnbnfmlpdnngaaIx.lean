/- One of eight registers, out of an array value. -/
import Derived.Test.YtjnbnfmlpdnngaaQ1
namespace Go.Proofs.Ytjnbnfmlpdnngaa
open Go.RowKit Go.Shelf

theorem ix0 (a0 b0 a1 b1 a2 b2 a3 b3 a4 b4 a5 b5 a6 b6 a7 b7 : Value) (w : World) : Sem.run Try.prog (Instr.index 86 (.agg #[a0, b0, a1, b1, a2, b2, a3, b3, a4, b4, a5, b5, a6, b6, a7, b7]) (.int .i64 0)) w = .ok (.agg #[a0, b0]) w := by kernel_rfl
theorem ix1 (a0 b0 a1 b1 a2 b2 a3 b3 a4 b4 a5 b5 a6 b6 a7 b7 : Value) (w : World) : Sem.run Try.prog (Instr.index 86 (.agg #[a0, b0, a1, b1, a2, b2, a3, b3, a4, b4, a5, b5, a6, b6, a7, b7]) (.int .i64 1)) w = .ok (.agg #[a1, b1]) w := by kernel_rfl
theorem ix2 (a0 b0 a1 b1 a2 b2 a3 b3 a4 b4 a5 b5 a6 b6 a7 b7 : Value) (w : World) : Sem.run Try.prog (Instr.index 86 (.agg #[a0, b0, a1, b1, a2, b2, a3, b3, a4, b4, a5, b5, a6, b6, a7, b7]) (.int .i64 2)) w = .ok (.agg #[a2, b2]) w := by kernel_rfl
theorem ix3 (a0 b0 a1 b1 a2 b2 a3 b3 a4 b4 a5 b5 a6 b6 a7 b7 : Value) (w : World) : Sem.run Try.prog (Instr.index 86 (.agg #[a0, b0, a1, b1, a2, b2, a3, b3, a4, b4, a5, b5, a6, b6, a7, b7]) (.int .i64 3)) w = .ok (.agg #[a3, b3]) w := by kernel_rfl
theorem ix4 (a0 b0 a1 b1 a2 b2 a3 b3 a4 b4 a5 b5 a6 b6 a7 b7 : Value) (w : World) : Sem.run Try.prog (Instr.index 86 (.agg #[a0, b0, a1, b1, a2, b2, a3, b3, a4, b4, a5, b5, a6, b6, a7, b7]) (.int .i64 4)) w = .ok (.agg #[a4, b4]) w := by kernel_rfl
theorem ix5 (a0 b0 a1 b1 a2 b2 a3 b3 a4 b4 a5 b5 a6 b6 a7 b7 : Value) (w : World) : Sem.run Try.prog (Instr.index 86 (.agg #[a0, b0, a1, b1, a2, b2, a3, b3, a4, b4, a5, b5, a6, b6, a7, b7]) (.int .i64 5)) w = .ok (.agg #[a5, b5]) w := by kernel_rfl
theorem ix6 (a0 b0 a1 b1 a2 b2 a3 b3 a4 b4 a5 b5 a6 b6 a7 b7 : Value) (w : World) : Sem.run Try.prog (Instr.index 86 (.agg #[a0, b0, a1, b1, a2, b2, a3, b3, a4, b4, a5, b5, a6, b6, a7, b7]) (.int .i64 6)) w = .ok (.agg #[a6, b6]) w := by kernel_rfl
theorem ix7 (a0 b0 a1 b1 a2 b2 a3 b3 a4 b4 a5 b5 a6 b6 a7 b7 : Value) (w : World) : Sem.run Try.prog (Instr.index 86 (.agg #[a0, b0, a1, b1, a2, b2, a3, b3, a4, b4, a5, b5, a6, b6, a7, b7]) (.int .i64 7)) w = .ok (.agg #[a7, b7]) w := by kernel_rfl
/-- At any place. -/
theorem ix_any {l : List V} (h8 : l.length = 8) {k : Nat} {v : V} (h : l[k]? = some v) (w : World) : Sem.run Try.prog (Instr.index 86 (regsV l) (.int .i64 (k : Int))) w = .ok (.agg #[.bool v.ref, .int .i64 v.n]) w := by
  obtain ⟨v0, v1, v2, v3, v4, v5, v6, v7, rfl⟩ := eight h8
  have hk : k < 8 := (List.getElem?_eq_some_iff.1 h).1
  obtain rfl | rfl | rfl | rfl | rfl | rfl | rfl | rfl : k = 0 ∨ k = 1 ∨ k = 2 ∨ k = 3 ∨ k = 4 ∨ k = 5 ∨ k = 6 ∨ k = 7 := by omega
  · cases h; exact ix0 _ _ _ _ _ _ _ _ _ _ _ _ _ _ _ _ w
  · cases h; exact ix1 _ _ _ _ _ _ _ _ _ _ _ _ _ _ _ _ w
  · cases h; exact ix2 _ _ _ _ _ _ _ _ _ _ _ _ _ _ _ _ w
  · cases h; exact ix3 _ _ _ _ _ _ _ _ _ _ _ _ _ _ _ _ w
  · cases h; exact ix4 _ _ _ _ _ _ _ _ _ _ _ _ _ _ _ _ w
  · cases h; exact ix5 _ _ _ _ _ _ _ _ _ _ _ _ _ _ _ _ w
  · cases h; exact ix6 _ _ _ _ _ _ _ _ _ _ _ _ _ _ _ _ w
  · cases h; exact ix7 _ _ _ _ _ _ _ _ _ _ _ _ _ _ _ _ w
end Go.Proofs.Ytjnbnfmlpdnngaa
