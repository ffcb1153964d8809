/- WeakMore: the walk. -/
import Derived.Test.YtdmgpiimacnapaaWj
import Derived.Test.YtdmgpiimacnapaaOpen
namespace Go.Proofs.Ytdmgpiimacnapaa
open Go.RowKit Go.Shelf
set_option maxRecDepth 100000 in
open Go.ChangeShapes Go.WideShapes Go.Joins in
theorem open_num {H : Type} {enc : TypeId × Value → H} {W : World} {base : Nat} {v : Value} {d : DataW H} {p : List MemPlace}
    (hv : Value.okWide Try.prog W .any base 3 v) (h : DataW.Trod enc Try.prog W 0 (fun _ => true) true 3 v d p) : ∃ x : Int, v = .int .i64 x := by
  obtain ⟨x, rfl, rfl, rfl, wx⟩ := open_int Try.underlying3 hv h
  exact ⟨_, rfl⟩
theorem wmore_walk (w : World) (v u x : Value) (h : ∃ g, IsGraph w v g ∧ RoomG w v g) (hu : ∃ l, IsInts w u l) (hx : ∃ i : Int, x = .int .i64 i) :
    Calls Try.prog 5 #[v, u, x] w fun e w' => e = .returned (.bool true) ∧ Below w.heap.size w w' := by
  obtain ⟨g, hg, hr⟩ := h
  obtain ⟨ks, hu⟩ := hu
  obtain ⟨i, rfl⟩ := hx
  by_cases hk : KindOf g ks
  · by_cases hi : 0 ≤ i ∧ i < (ks.length : Int)
    · obtain ⟨n, rfl⟩ : ∃ n : Nat, i = (n : Int) := ⟨i.toNat, by omega⟩
      exact wmore_main g v u ks n w hg hr hu hk (by omega)
    · exact wmore_out g v u ks i w hg hr hu hk (by omega)
  · exact wmore_bad g v u ks i w hg hu hk
end Go.Proofs.Ytdmgpiimacnapaa
