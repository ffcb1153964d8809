/- Opening scripts of grips, and ints; what the laid variable holds. -/
import Derived.Test.YthlllbpilcapiaaDoorTu
import Derived.Test.YthlllbpilcapiaaDoorVi
import Derived.SizedLaws
import Derived.Lib.SmallJoins
import Derived.ProofKit
import Derived.LaidLaws
import Derived.LaidHandle
import Derived.Stop.Joined
namespace Go.Proofs.YthlllbpilcapiaaDoor
open Go.RowKit Go.ChangeShapes Go.WideShapes Go.Joins
set_option maxRecDepth 100000 in
open Go.Deep in
/-- A script of grips that comes in. -/
theorem open_grips {H : Type} {enc : TypeId × Value → H} {W : World} {base : Nat} {v : Value} {d : DataW H} {p : List MemPlace}
    (hv : Value.okWide Tryd.prog W .any base 22 v) (h : DataW.Trod enc Tryd.prog W 0 (fun _ => true) true 22 v d p) : ∃ l : List (Int × Int), IsTup 2 encG W v l ∧ ∀ a ∈ l, i64ok a.1 ∧ i64ok a.2 := by
  obtain ⟨a, len, cap, rfl⟩ := okWide_slice Tryd.underlying22 hv
  obtain ⟨n, hn⟩ := h
  obtain ⟨u, l, e, hy, hl, hx⟩ := open_intTup Tryd.underlying22 Tryd.underlying30 (by kernel_rfl) (by kernel_rfl) (by decide) (by
    intro j f hj
    match j, hj with
    | 0, hj => cases hj; exact Tryd.underlying3
    | 1, hj => cases hj; exact Tryd.underlying2
    | n + 2, hj => simp at hj) hn
  obtain rfl := (List.cons.inj e).1
  refine ⟨l.map fun y => (y.getD 0 0, y.getD 1 0), hl.map _ ?_, ?_⟩
  · intro y hyl
    obtain ⟨h3, _⟩ := hy y hyl
    match y, h3 with
    | [a, b], _ => rfl
  · intro z hz
    obtain ⟨y, hyl, rfl⟩ := List.mem_map.1 hz
    obtain ⟨h3, h4⟩ := hy y hyl
    match y, h3, h4 with
    | [a, b], _, h4 => exact ⟨h4 a (by simp), h4 b (by simp)⟩
set_option maxRecDepth 100000 in
theorem open_i64' {H : Type} {enc : TypeId × Value → H} {W : World} {base : Nat} {v : Value} {d : DataW H} {p : List MemPlace}
    (hv : Value.okWide Tryd.prog W .any base 3 v) (h : DataW.Trod enc Tryd.prog W 0 (fun _ => true) true 3 v d p) : ∃ x : Int, v = .int .i64 x ∧ i64ok x := by
  obtain ⟨x, rfl, rfl, rfl, wx⟩ := open_int Tryd.underlying3 hv h
  have hb := bounds_i64 wx
  exact ⟨_, rfl, by omega, by omega⟩
theorem et_named : Tryd.prog.globalNamed "errors.errorType" = some 0 := by kernel_rfl
theorem et_cut : (Tryd.prog.cutTypes.find? (·.1 == "internal/reflectlite.rtype")).map (·.2) = some 67 := by kernel_rfl
theorem et_row : ((List.range 110).filter fun t => Tryd.prog.rowNamed t [101, 114, 114, 111, 114]) = [39] := by kernel_rfl
theorem et_size : Tryd.prog.types.size = 110 := by kernel_rfl
def laidL : List (String × DataW Unit) := [("errors.errorType", Rows.laid_errors_errorType)]
/-- What the row's condition gives a walk. -/
theorem handle_of_laid {W : World} (h : laidMetH Tryd.prog laidL W) : EtOk W := by
  have h' : laidMet Tryd.prog [] W ∧ handlesMet Tryd.prog laidL W := h
  obtain ⟨name, u, ty, e1, e2, e3, e4, e5⟩ := h'.2 _ (List.mem_singleton.2 rfl)
  have en : name = [101, 114, 114, 111, 114] := (Option.some.inj e1).symm
  subst en
  obtain rfl := Option.some.inj (et_cut.symm.trans e2)
  have hm : ty ∈ (List.range 110).filter fun t => Tryd.prog.rowNamed t [101, 114, 114, 111, 114] := List.mem_filter.2 ⟨List.mem_range.2 (by rw [← et_size]; exact e3), e4⟩
  rw [et_row] at hm
  obtain rfl := List.mem_singleton.1 hm
  have hh : typeHandle Tryd.prog 39 = .pointer (some ⟨1, 39, none⟩) := by kernel_rfl
  rw [hh] at e5
  unfold EtOk
  simpa using World.var?_cell et_named e5 0
/-- A world that meets the condition: the settled one, the variable's cell laid. -/
noncomputable def laidWorld (os : Os) : World :=
  let w0 := World.holding Tryd.prog os ⟨#[], #[], []⟩
  { w0 with heap := w0.heap.modify 0 fun
      | .cells _ t frozen => .cells #[.iface 67 (.agg #[.pointer (some ⟨1, 39, none⟩)])] t frozen
      | o => o }
theorem laidWorld_met (os : Os) (args : Array Value) : laidMetH Tryd.prog laidL ((laidWorld os).forCall (fun _ _ => 0) ⟨#[], args, []⟩).memory :=
  laidMetH_of_parts (laidMet_nil _ _) (by kernel_rfl)
end Go.Proofs.YthlllbpilcapiaaDoor
