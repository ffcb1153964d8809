/- The arguments of the laws on words, opened; the walks as the rows want them. -/
import Derived.Test.YthpdgpeoadlhjaaWordsLaws
import Derived.ProofKit
import Derived.Lib.SmallJoins
import Derived.OpenShut
namespace Go.Proofs.Ythpdgpeoadlhjaa
open Go.RowKit Go.ChangeShapes Go.WideShapes Go.Joins

theorem cellsHeader : Try.prog.cellsOf 23 = 3 := by kernel_rfl
theorem cellsValue : Try.prog.cellsOf 32 = 2 := by kernel_rfl
def IsHeader (v : Value) : Prop := ∃ (l a : Int) (m : Bool), v = .agg #[.int .i64 l, .bool m, .int .i64 a]
def IsValue (v : Value) : Prop := ∃ (n : Int) (r : Bool), v = .agg #[.bool r, .int .i64 n] ∧ -9223372036854775808 ≤ n ∧ n < 9223372036854775808
def IsWord (v : Value) : Prop := ∃ n : Int, v = .int .u64 n ∧ 0 ≤ n ∧ n < 18446744073709551616

theorem open_header {H : Type} {enc : TypeId × Value → H} {W : World} {base : Nat} {v : Value} {d : DataW H} {p : List MemPlace}
    (hv : Value.okWide Try.prog W .any base 23 v) (h : DataW.Trod enc Try.prog W 0 (fun _ => true) true 23 v d p) : IsHeader v := by
  obtain ⟨c0, c1, c2, y0, y1, y2, m, rfl, rfl, rfl, hy0, hy1, hy2⟩ := open_agg3 Try.underlying23 (by kernel_rfl) cellsHeader hv h
  obtain ⟨a, e0, _, _⟩ := DataW.trod_int Try.underlying3 hy0
  obtain ⟨b, e1, _⟩ := DataW.trod_bool Try.underlying4 hy1
  obtain ⟨c, e2, _, _⟩ := DataW.trod_int Try.underlying3 hy2
  simp at e0 e1 e2
  subst e0 e1 e2
  exact ⟨_, _, _, rfl⟩
theorem open_value {H : Type} {enc : TypeId × Value → H} {W : World} {base : Nat} {v : Value} {d : DataW H} {p : List MemPlace}
    (hv : Value.okWide Try.prog W .any base 32 v) (h : DataW.Trod enc Try.prog W 0 (fun _ => true) true 32 v d p) : IsValue v := by
  obtain ⟨c0, c1, y0, y1, m, rfl, rfl, rfl, hy0, hy1⟩ := open_agg2 Try.underlying32 (by kernel_rfl) cellsValue hv h
  obtain ⟨b, e0, _⟩ := DataW.trod_bool Try.underlying4 hy0
  obtain ⟨c, e1, _, wc⟩ := DataW.trod_int Try.underlying2 hy1
  simp at e0 e1
  subst e0 e1
  have hb := bounds_i64 wc
  exact ⟨_, _, rfl, by omega, by omega⟩
theorem open_word {H : Type} {enc : TypeId × Value → H} {W : World} {base : Nat} {v : Value} {d : DataW H} {p : List MemPlace}
    (hv : Value.okWide Try.prog W .any base 24 v) (h : DataW.Trod enc Try.prog W 0 (fun _ => true) true 24 v d p) : IsWord v := by
  obtain ⟨x, rfl, rfl, rfl, wx⟩ := open_int Try.underlying24 hv h
  have hb := bounds_u64 wx
  exact ⟨_, rfl, by omega, by omega⟩

theorem headed_walk (w : World) (v : Value) (g : IsHeader v) : Calls Try.prog 3 #[v] w fun e w' => e = .returned (.bool true) ∧ Below w.heap.size w w' := by
  obtain ⟨l, a, m, rfl⟩ := g
  by_cases h : l < 0 ∨ 4 < l ∨ a < 0 ∨ 7 < a
  · exact headed_bad l a m w h
  · exact headed_ok l a m w (by omega) (by omega) (by omega) (by omega)

theorem back_walk (w : World) (v u : Value) (g : IsValue v) (g' : IsValue u) : Calls Try.prog 4 #[v, u] w fun e w' => e = .returned (.bool true) ∧ Below w.heap.size w w' := by
  obtain ⟨n, r, rfl, _, _⟩ := g
  obtain ⟨k, s, rfl, _, _⟩ := g'
  by_cases h : canPack r n
  · by_cases h' : canPack s k
    · exact back_both r s n k w h h'
    · exact back_one r s n k w h h'
  · exact back_bad r s n k w h
theorem only_walk (w : World) (v : Value) (g : IsWord v) : Calls Try.prog 5 #[v] w fun e w' => e = .returned (.bool true) ∧ Below w.heap.size w w' := by
  obtain ⟨n, rfl, h, h'⟩ := g
  exact only_any n w h h'
end Go.Proofs.Ythpdgpeoadlhjaa
