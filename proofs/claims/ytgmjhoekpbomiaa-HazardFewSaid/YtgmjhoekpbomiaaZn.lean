/- Opening scripts of deeds, and ints. -/
import Derived.Test.YtgmjhoekpbomiaaTu
import Derived.Test.YtgmjhoekpbomiaaZa
import Derived.SizedLaws
import Derived.Lib.SmallJoins
import Derived.ProofKit
namespace Go.Proofs.Ytgmjhoekpbomiaa
open Go.RowKit Go.ChangeShapes Go.WideShapes Go.Joins
set_option maxRecDepth 100000 in
open Go.Deep in
/-- A script of deeds that comes in. -/
theorem open_deeds {H : Type} {enc : TypeId × Value → H} {W : World} {base : Nat} {v : Value} {d : DataW H} {p : List MemPlace}
    (hv : Value.okWide Try.prog W .any base 22 v) (h : DataW.Trod enc Try.prog W 0 (fun _ => true) true 22 v d p) : ∃ l : List Deed, IsTup 3 encD W v l ∧ ((d = .nil ∧ l = []) ∨ ∃ elems spare, d = .slice elems spare ∧ elems.length = l.length) := by
  obtain ⟨a, len, cap, rfl⟩ := okWide_slice Try.underlying22 hv
  obtain ⟨n, hn⟩ := h
  obtain ⟨u, l, e, hy, hl, hx⟩ := open_intTup Try.underlying22 Try.underlying34 (by kernel_rfl) (by kernel_rfl) (by decide) (by
    intro j f hj
    match j, hj with
    | 0, hj => cases hj; exact Try.underlying3
    | 1, hj => cases hj; exact Try.underlying3
    | 2, hj => cases hj; exact Try.underlying3
    | n + 3, hj => simp at hj) hn
  obtain rfl := (List.cons.inj e).1
  refine ⟨l.map fun y => ⟨y.getD 0 0, y.getD 1 0, y.getD 2 0⟩, hl.map _ ?_, ?_⟩
  · intro y hyl
    obtain ⟨h3, _⟩ := hy y hyl
    match y, h3 with
    | [a, b, c], _ => rfl
  · rcases hx with ⟨h1, h2⟩ | ⟨el, sp, h1, h2⟩
    · exact .inl ⟨h1, by rw [h2]; rfl⟩
    · exact .inr ⟨el, sp, h1, by simpa using h2⟩
set_option maxRecDepth 100000 in
theorem open_script {H : Type} {enc : TypeId × Value → H} {W : World} {base : Nat} {v : Value} {d : DataW H} {p : List MemPlace}
    (hv : Value.okWide Try.prog W .any base 22 v) (h : DataW.Trod enc Try.prog W 0 (fun _ => true) true 22 v d p) : ∃ l : List Deed, IsTup 3 encD W v l := by
  obtain ⟨l, h1, _⟩ := open_deeds hv h
  exact ⟨l, h1⟩
set_option maxRecDepth 100000 in
open Go.Deep in
/-- .. and it is no longer than the form's own reach. -/
theorem open_script_sized {H : Type} {enc : TypeId × Value → H} {W : World} {base : Nat} {v : Value} {d : DataW H} {p : List MemPlace} {ts : List TypeId} {ds : List (DataW H)} {j : Nat}
    (hv : Value.okWide Try.prog W .any base 22 v) (h : DataW.Trod enc Try.prog W 0 (fun _ => true) true 22 v d p)
    (hs : (DataW.weightsEach Try.prog ts ds).all (· ≤ reachBytes) = true) (ht : ts[j]? = some 22) (hd : ds[j]? = some d) : ∃ l : List Deed, IsTup 3 encD W v l ∧ l.length ≤ 17592186044416 := by
  obtain ⟨l, h1, hx⟩ := open_deeds hv h
  refine ⟨l, h1, ?_⟩
  rcases hx with ⟨_, rfl⟩ | ⟨el, sp, rfl, h2⟩
  · simp
  · have h1 := sized_slice hs ht hd Try.underlying22
    rw [show Try.prog.bytesOf 34 = 24 from by kernel_rfl] at h1
    have h2 := reachBytes_lt
    omega
set_option maxRecDepth 100000 in
theorem open_i64' {H : Type} {enc : TypeId × Value → H} {W : World} {base : Nat} {v : Value} {d : DataW H} {p : List MemPlace}
    (hv : Value.okWide Try.prog W .any base 3 v) (h : DataW.Trod enc Try.prog W 0 (fun _ => true) true 3 v d p) : ∃ x : Int, v = .int .i64 x ∧ i64ok x := by
  obtain ⟨x, rfl, rfl, rfl, wx⟩ := open_int Try.underlying3 hv h
  have hb := bounds_i64 wx
  exact ⟨_, rfl, by omega, by omega⟩
end Go.Proofs.Ytgmjhoekpbomiaa
