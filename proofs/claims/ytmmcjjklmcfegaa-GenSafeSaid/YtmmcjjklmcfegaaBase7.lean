/- Texts S4 Oi in one. -/
import Derived.Test.YtmmcjjklmcfegaaBase1
import Derived.Test.YtmmcjjklmcfegaaM8
import Derived.Lib.SmallJoins
import Derived.ProofKit
import Derived.SizedLaws
/- Opening scripts of what is done. -/
namespace Go.Proofs.Ytmmcjjklmcfegaa
open Go.RowKit Go.ChangeShapes Go.WideShapes Go.Joins
set_option maxRecDepth 100000 in
open Go.Deep in
theorem open_dos {H : Type} {enc : TypeId × Value → H} {W : World} {base : Nat} {v : Value} {d : DataW H} {p : List MemPlace}
    (hv : Value.okWide Try.prog W .any base 26 v) (h : DataW.Trod enc Try.prog W 0 (fun _ => true) true 26 v d p) : ∃ l : List Dd, IsTup 5 cellsD W v l ∧ ∀ d ∈ l, DdOk d := by
  obtain ⟨a, len, cap, rfl⟩ := okWide_slice Try.underlying26 hv
  obtain ⟨n, hn⟩ := h
  obtain ⟨u, l, e, hy, hl, hx⟩ := open_intTup Try.underlying26 Try.underlying58 (by kernel_rfl) (by kernel_rfl) (by decide) (by
    intro j f hj
    match j, hj with
    | 0, hj => cases hj; exact Try.underlying3
    | 1, hj => cases hj; exact Try.underlying3
    | 2, hj => cases hj; exact Try.underlying3
    | 3, hj => cases hj; exact Try.underlying3
    | 4, hj => cases hj; exact Try.underlying2
    | n + 5, hj => simp at hj) hn
  obtain rfl := (List.cons.inj e).1
  refine ⟨l.map fun y => ⟨y.getD 0 0, y.getD 1 0, y.getD 2 0, y.getD 3 0, y.getD 4 0⟩, hl.map _ ?_, ?_⟩
  · intro y hyl
    obtain ⟨h3, _⟩ := hy y hyl
    match y, h3 with
    | [a, b, c, d, e], _ => rfl
  · intro d hd
    obtain ⟨y, hyl, rfl⟩ := List.mem_map.1 hd
    obtain ⟨h3, h4⟩ := hy y hyl
    match y, h3, h4 with
    | [a, b, c, d, e], _, h4 => exact ⟨h4 a (by simp), h4 b (by simp), h4 c (by simp), h4 d (by simp), h4 e (by simp)⟩
end Go.Proofs.Ytmmcjjklmcfegaa

/- Opening ints and bytes. -/
namespace Go.Proofs.Ytmmcjjklmcfegaa
open Go.RowKit Go.ChangeShapes Go.WideShapes Go.Joins

set_option maxRecDepth 100000 in
theorem open_i64' {H : Type} {enc : TypeId × Value → H} {W : World} {base : Nat} {v : Value} {d : DataW H} {p : List MemPlace}
    (hv : Value.okWide Try.prog W .any base 3 v) (h : DataW.Trod enc Try.prog W 0 (fun _ => true) true 3 v d p) : ∃ x : Int, v = .int .i64 x ∧ i64ok x := by
  obtain ⟨x, rfl, rfl, rfl, wx⟩ := open_int Try.underlying3 hv h
  have hb := bounds_i64 wx
  exact ⟨_, rfl, by omega, by omega⟩
set_option maxRecDepth 100000 in
theorem open_byte' {H : Type} {enc : TypeId × Value → H} {W : World} {base : Nat} {v : Value} {d : DataW H} {p : List MemPlace}
    (hv : Value.okWide Try.prog W .any base 5 v) (h : DataW.Trod enc Try.prog W 0 (fun _ => true) true 5 v d p) : ∃ k : Nat, v = .int .u8 (k : Int) ∧ k < 256 := by
  obtain ⟨x, rfl, rfl, rfl, wx⟩ := open_int Try.underlying5 hv h
  have hb := bounds_u8 wx
  exact ⟨x.toNat, by rw [Int.toNat_of_nonneg (by omega)], by omega⟩
end Go.Proofs.Ytmmcjjklmcfegaa
