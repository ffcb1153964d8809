/- Opening scripts of what is done, with their room; no longer than the form's own reach. -/
import Derived.Test.YtmmcjjklmcfegaaBase1
import Derived.Test.YtmmcjjklmcfegaaM8
import Derived.SizedLaws
import Derived.Lib.SmallJoins
import Derived.ProofKit
namespace Go.Proofs.Ytmmcjjklmcfegaa
open Go.RowKit Go.ChangeShapes Go.WideShapes Go.Joins
set_option maxRecDepth 100000 in
open Go.Deep in
theorem open_dosC {H : Type} {enc : TypeId × Value → H} {W : World} {base : Nat} {v : Value} {d : DataW H} {p : List MemPlace} {ts : List TypeId} {ds : List (DataW H)} {j : Nat}
    (hv : Value.okWide Try.prog W .any base 26 v) (h : DataW.Trod enc Try.prog W 0 (fun _ => true) true 26 v d p)
    (hs : (DataW.weightsEach Try.prog ts ds).all (· ≤ reachBytes) = true) (ht : ts[j]? = some 26) (hd : ds[j]? = some d) :
    ∃ l : List Dd, ((IsTup 5 cellsD W v l ∧ ∀ d ∈ l, DdOk d) ∧ l.length ≤ 17592186044416) ∧ ∃ a c, v = .slice a l.length c ∧ l.length ≤ c := by
  obtain ⟨a, len, cap, rfl⟩ := okWide_slice Try.underlying26 hv
  obtain ⟨n, hn⟩ := h
  obtain ⟨u, l, e, hy, hl, hx⟩ := open_intTup Try.underlying26 Try.underlying58 (by kernel_rfl) (by kernel_rfl) (by decide) (by
    intro j f hj
    match j, hj with
    | 0, hj => cases hj; exact Try.underlying3
    | 1, hj => cases hj; exact Try.underlying3
    | 2, hj => cases hj; exact Try.underlying3
    | 3, hj => cases hj; exact Try.underlying3
    | 4, hj => cases hj; exact Try.underlying2
    | n + 5, hj => simp at hj) hn
  obtain rfl := (List.cons.inj e).1
  have hlen : (Value.slice a len cap) = .slice a l.length cap := by
    obtain ⟨a', c', e', _⟩ := hl.slice
    cases e'; rfl
  refine ⟨l.map fun y => ⟨y.getD 0 0, y.getD 1 0, y.getD 2 0, y.getD 3 0, y.getD 4 0⟩, ⟨⟨hl.map _ ?_, ?_⟩, ?_⟩, a, cap, by rw [List.length_map]; exact hlen, ?_⟩
  · intro y hyl
    obtain ⟨h3, _⟩ := hy y hyl
    match y, h3 with
    | [a, b, c, d, e], _ => rfl
  · intro d hd
    obtain ⟨y, hyl, rfl⟩ := List.mem_map.1 hd
    obtain ⟨h3, h4⟩ := hy y hyl
    match y, h3, h4 with
    | [a, b, c, d, e], _, h4 => exact ⟨h4 a (by simp), h4 b (by simp), h4 c (by simp), h4 d (by simp), h4 e (by simp)⟩
  · rw [List.length_map]
    rcases hx with ⟨_, rfl⟩ | ⟨el, sp, hd1, h2⟩
    · simp
    · have h1 := sized_slice hs ht (hd.trans (congrArg some (show d = _ from hd1))) Try.underlying26
      rw [show Try.prog.bytesOf 58 = 40 from by kernel_rfl] at h1
      have h2 := reachBytes_lt
      omega
  · rw [List.length_map]
    rcases open_slice_fields Try.underlying26 Try.underlying58 (by kernel_rfl) (by kernel_rfl) hn with ⟨e, _⟩ | ⟨a', len', cap', m, D, e, hlc, _⟩
    · have e1 := (List.cons.inj e).1
      injection e1 with e2 e3 e4
      injection hlen with e5 e6 e7
      omega
    · have e1 := (List.cons.inj e).1
      injection e1 with e2 e3 e4
      injection hlen with e5 e6 e7
      omega
end Go.Proofs.Ytmmcjjklmcfegaa
