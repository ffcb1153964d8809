/- Opening lists of ints, and ints. -/
import Derived.Test.YtnpbdabboecpaaaOpen
import Derived.SizedLaws
namespace Go.Proofs.Ytnpbdabboecpaaa
open Go.RowKit Go.ChangeShapes Go.WideShapes Go.Joins
set_option maxRecDepth 100000 in
theorem open_ks {H : Type} {enc : TypeId × Value → H} {W : World} {base : Nat} {v : Value} {d : DataW H} {p : List MemPlace}
    (hv : Value.okWide Try.prog W .any base 27 v) (h : DataW.Trod enc Try.prog W 0 (fun _ => true) true 27 v d p) : ∃ l, IsInts W v l := by
  obtain ⟨a, len, cap, rfl⟩ := okWide_slice Try.underlying27 hv
  obtain ⟨n, hn⟩ := h
  obtain ⟨u, l, e, hu⟩ := open_ints hn
  obtain rfl := (List.cons.inj e).1
  exact ⟨l, hu⟩
set_option maxRecDepth 100000 in
theorem open_i64 {H : Type} {enc : TypeId × Value → H} {W : World} {base : Nat} {v : Value} {d : DataW H} {p : List MemPlace}
    (hv : Value.okWide Try.prog W .any base 3 v) (h : DataW.Trod enc Try.prog W 0 (fun _ => true) true 3 v d p) : ∃ x : Int, v = .int .i64 x ∧ i64ok x := by
  obtain ⟨x, rfl, rfl, rfl, wx⟩ := open_int Try.underlying3 hv h
  have hb := bounds_i64 wx
  exact ⟨_, rfl, by omega, by omega⟩
set_option maxRecDepth 100000 in
open Go.Deep in
/-- A list of ints that comes in: no longer than the form's own reach. -/
theorem open_ks_sized {H : Type} {enc : TypeId × Value → H} {W : World} {base : Nat} {v : Value} {d : DataW H} {p : List MemPlace} {ts : List TypeId} {ds : List (DataW H)} {j : Nat}
    (hv : Value.okWide Try.prog W .any base 27 v) (h : DataW.Trod enc Try.prog W 0 (fun _ => true) true 27 v d p)
    (hs : (DataW.weightsEach Try.prog ts ds).all (· ≤ reachBytes) = true) (ht : ts[j]? = some 27) (hd : ds[j]? = some d) : ∃ l, IsInts W v l ∧ l.length ≤ 17592186044416 := by
  obtain ⟨l, hl⟩ := open_ks hv h
  refine ⟨l, hl, ?_⟩
  obtain ⟨a, cap, hv1, _⟩ := hl.slice
  obtain ⟨n, hn⟩ := h
  subst hv1
  rcases open_slice1 Try.underlying27 (by kernel_rfl) hn with ⟨hc, _⟩ | ⟨a', len, cap', m, n', V, D, P, hc, _, hlc, hcm, _, hx, _⟩
  · have h3 : Value.slice a l.length cap = .slice none 0 0 := (List.cons.inj hc).1
    injection h3 with _ h4 _
    omega
  · have h3 : Value.slice a l.length cap = .slice (some a') len cap' := (List.cons.inj hc).1
    injection h3 with _ h4 _
    have hx := (Prod.mk.inj hx).1
    subst hx
    have h1 := sized_slice hs ht hd Try.underlying27
    rw [show Try.prog.bytesOf 3 = 8 from by kernel_rfl] at h1
    rw [List.length_map, List.length_range] at h1
    have h2 := reachBytes_lt
    omega
end Go.Proofs.Ytnpbdabboecpaaa
