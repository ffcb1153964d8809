/- Opening scripts of asks, and ints. -/
import Derived.Test.YtmbcfbehchpfbaaTu
import Derived.Test.YtmbcfbehchpfbaaUn
import Derived.SizedLaws
import Derived.Lib.SmallJoins
import Derived.ProofKit
namespace Go.Proofs.Ytmbcfbehchpfbaa
open Go.RowKit Go.ChangeShapes Go.WideShapes Go.Joins
set_option maxRecDepth 100000 in
open Go.Deep in
/-- A script of asks that comes in, no longer than the form's own reach. -/
theorem open_asks {H : Type} {enc : TypeId × Value → H} {W : World} {base : Nat} {v : Value} {d : DataW H} {p : List MemPlace} {ts : List TypeId} {ds : List (DataW H)} {j : Nat}
    (hv : Value.okWide Try.prog W .any base 22 v) (h : DataW.Trod enc Try.prog W 0 (fun _ => true) true 22 v d p)
    (hs : (DataW.weightsEach Try.prog ts ds).all (· ≤ reachBytes) = true) (ht : ts[j]? = some 22) (hd : ds[j]? = some d) : ∃ l : List (Int × Int), IsTup 2 encA W v l ∧ AsksOk l ∧ l.length ≤ 17592186044416 := by
  obtain ⟨a, len, cap, rfl⟩ := okWide_slice Try.underlying22 hv
  obtain ⟨n, hn⟩ := h
  obtain ⟨u, l, e, hy, hl, hx⟩ := open_intTup Try.underlying22 Try.underlying36 (by kernel_rfl) (by kernel_rfl) (by decide) (by
    intro j f hj
    match j, hj with
    | 0, hj => cases hj; exact Try.underlying3
    | 1, hj => cases hj; exact Try.underlying3
    | n + 2, hj => simp at hj) hn
  obtain rfl := (List.cons.inj e).1
  refine ⟨l.map fun y => (y.getD 0 0, y.getD 1 0), hl.map _ ?_, ?_, ?_⟩
  · intro y hyl
    obtain ⟨h3, _⟩ := hy y hyl
    match y, h3 with
    | [a, b], _ => rfl
  · intro z hz
    obtain ⟨y, hyl, rfl⟩ := List.mem_map.1 hz
    obtain ⟨h3, h4⟩ := hy y hyl
    match y, h3, h4 with
    | [a, b], _, h4 => exact ⟨h4 a (by simp), h4 b (by simp)⟩
  · rw [List.length_map]
    rcases hx with ⟨_, rfl⟩ | ⟨el, sp, hd1, h2⟩
    · simp
    · have h1 := sized_slice hs ht (hd.trans (congrArg some (show d = _ from hd1))) Try.underlying22
      rw [show Try.prog.bytesOf 36 = 16 from by kernel_rfl] at h1
      have h2 := reachBytes_lt
      omega
set_option maxRecDepth 100000 in
theorem open_i64' {H : Type} {enc : TypeId × Value → H} {W : World} {base : Nat} {v : Value} {d : DataW H} {p : List MemPlace}
    (hv : Value.okWide Try.prog W .any base 3 v) (h : DataW.Trod enc Try.prog W 0 (fun _ => true) true 3 v d p) : ∃ x : Int, v = .int .i64 x ∧ i64ok x := by
  obtain ⟨x, rfl, rfl, rfl, wx⟩ := open_int Try.underlying3 hv h
  have hb := bounds_i64 wx
  exact ⟨_, rfl, by omega, by omega⟩
set_option maxRecDepth 100000 in
theorem open_byte' {H : Type} {enc : TypeId × Value → H} {W : World} {base : Nat} {v : Value} {d : DataW H} {p : List MemPlace}
    (hv : Value.okWide Try.prog W .any base 5 v) (h : DataW.Trod enc Try.prog W 0 (fun _ => true) true 5 v d p) : ∃ k : Nat, v = .int .u8 (k : Int) ∧ k < 256 := by
  obtain ⟨x, rfl, rfl, rfl, wx⟩ := open_int Try.underlying5 hv h
  have hb := bounds_u8 wx
  exact ⟨x.toNat, by rw [Int.toNat_of_nonneg (by omega)], by omega⟩
end Go.Proofs.Ytmbcfbehchpfbaa
