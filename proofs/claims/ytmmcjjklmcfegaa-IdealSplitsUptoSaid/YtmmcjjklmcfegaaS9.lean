/- Opening scripts, with what they weigh. -/
import Derived.Test.YtmmcjjklmcfegaaS8
import Derived.Test.YtmmcjjklmcfegaaBase1
import Derived.Lib.SmallJoins
import Derived.ProofKit
namespace Go.Proofs.Ytmmcjjklmcfegaa
open Go.RowKit Go.ChangeShapes Go.WideShapes Go.Joins
theorem bulk_one {H : Type} (d : DataW H) : 1 ≤ Rows.uptoBulk d := by
  cases d with
  | lit l => cases l <;> simp [Rows.uptoBulk]
  | nil => simp [Rows.uptoBulk]
  | ptr d => simp [Rows.uptoBulk]
  | slice elems spare => simp [Rows.uptoBulk]
  | agg parts => simp [Rows.uptoBulk]
  | iface t d => simp [Rows.uptoBulk]
  | map entries => simp [Rows.uptoBulk]
  | held h => simp [Rows.uptoBulk]
theorem bulk_length {H : Type} (l : List (DataW H)) : l.length ≤ Rows.uptoBulkAll l := by
  induction l with
  | nil => simp [Rows.uptoBulkAll]
  | cons x r ih => have := bulk_one x; simp only [Rows.uptoBulkAll, List.length_cons]; omega
set_option maxRecDepth 100000 in
open Go.Deep in
theorem open_dosB {H : Type} {enc : TypeId × Value → H} {W : World} {base : Nat} {v : Value} {d : DataW H} {p : List MemPlace}
    (hv : Value.okWide Try.prog W .any base 26 v) (h : DataW.Trod enc Try.prog W 0 (fun _ => true) true 26 v d p) : ∃ l : List Dd, (IsTup 5 cellsD W v l ∧ ∀ d ∈ l, DdOk d) ∧ l.length ≤ Rows.uptoBulk d := by
  obtain ⟨a, len, cap, rfl⟩ := okWide_slice Try.underlying26 hv
  obtain ⟨n, hn⟩ := h
  obtain ⟨u, l, e, hy, hl, hx⟩ := open_intTup Try.underlying26 Try.underlying58 (by kernel_rfl) (by kernel_rfl) (by decide) (by
    intro j f hj
    match j, hj with
    | 0, hj => cases hj; exact Try.underlying3
    | 1, hj => cases hj; exact Try.underlying3
    | 2, hj => cases hj; exact Try.underlying3
    | 3, hj => cases hj; exact Try.underlying3
    | 4, hj => cases hj; exact Try.underlying2
    | n + 5, hj => simp at hj) hn
  obtain rfl := (List.cons.inj e).1
  refine ⟨l.map fun y => ⟨y.getD 0 0, y.getD 1 0, y.getD 2 0, y.getD 3 0, y.getD 4 0⟩, ⟨hl.map _ ?_, ?_⟩, ?_⟩
  · intro y hyl
    obtain ⟨h3, _⟩ := hy y hyl
    match y, h3 with
    | [a, b, c, d, e], _ => rfl
  · intro d hd
    obtain ⟨y, hyl, rfl⟩ := List.mem_map.1 hd
    obtain ⟨h3, h4⟩ := hy y hyl
    match y, h3, h4 with
    | [a, b, c, d, e], _, h4 => exact ⟨h4 a (by simp), h4 b (by simp), h4 c (by simp), h4 d (by simp), h4 e (by simp)⟩
  · rw [List.length_map]
    rcases hx with ⟨_, rfl⟩ | ⟨el, sp, hd1, h2⟩
    · simp
    · simp only at hd1
      subst hd1
      have := bulk_length el
      simp only [Rows.uptoBulk]
      omega
end Go.Proofs.Ytmmcjjklmcfegaa
