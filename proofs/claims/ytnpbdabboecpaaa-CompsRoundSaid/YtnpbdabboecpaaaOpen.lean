/- The arguments of the laws on graphs, opened. -/
import Derived.Test.YtnpbdabboecpaaaG1
import Derived.ProofKit
import Derived.Lib.SmallJoins
import Derived.OpenShut
import Derived.Deep.Slices
import Derived.Deep.SlicePairs
namespace Go.Proofs.Ytnpbdabboecpaaa
open Go.RowKit Go.ChangeShapes Go.WideShapes Go.Joins Go.Deep

theorem addr_plain {w : World} {a : Addr} {v : Value} (h : w.cell? (a.add 0) = some v) : ∃ b off, a = ⟨b, off, none⟩ ∧ b < w.heap.size := by
  obtain ⟨b, off, s⟩ := a
  simp only [Addr.add, if_true] at h
  unfold World.cell? at h
  split at h
  · rename_i c _ _ hc
    have hlt := (Array.getElem?_eq_some_iff.1 hc).1
    cases s with
    | none => exact ⟨b, off, rfl, hlt⟩
    | some s => simp at h
  · cases h

section
variable {H : Type} {enc : TypeId × Value → H} {W : World}

theorem open_vals {fuel : Nat} {cs : List Value} {x : DataW H × List MemPlace} (h : DataW.trod enc Try.prog W 0 (fun _ => true) true fuel 23 cs = some x) : ∃ v l, cs = [v] ∧ IsVals W v l := by
  rcases open_slice_pairs Try.underlying23 Try.underlying60 (by kernel_rfl) (by kernel_rfl) (by kernel_rfl) (by kernel_rfl) (by kernel_rfl) h with ⟨rfl, _⟩ | ⟨a, len, cap, m, n, V0, V1, D0, D1, P0, P1, rfl, _, hlc, hcm, rfl, _, hx⟩
  · exact ⟨_, [], rfl, none, 0, rfl, by simp, by simp⟩
  · have hm : len ≤ 9223372036854775807 := by simp [maxLen] at hcm; omega
    obtain ⟨f, hf⟩ := choose_lt (n := len) (p := fun i (v : V) => W.cell? (a.add (i * 2)) = some (.bool v.ref) ∧ W.cell? (a.add (i * 2 + 1)) = some (.int .i64 v.n) ∧ i64ok v.n) (fun i hi => by
      obtain ⟨c0, c1, t0, t1⟩ := hx i (by omega)
      obtain ⟨b, e0, _⟩ := DataW.trod_bool Try.underlying4 t0
      obtain ⟨c, e1, _, wc⟩ := DataW.trod_int Try.underlying2 t1
      simp at e0 e1
      rw [e0] at c0; rw [e1] at c1
      have hb := bounds_i64 wc
      exact ⟨⟨b, c⟩, c0, c1, by dsimp only; omega, by dsimp only; omega⟩)
    refine ⟨_, (List.range len).map f, rfl, some a, _, by simp; rfl, by simpa using hm, ?_⟩
    intro k y hy
    have hk : k < len := by have := (List.getElem?_eq_some_iff.1 hy).1; simpa using this
    have hyf : y = f k := by simp [hk] at hy; exact hy.symm
    subst hyf
    obtain ⟨b, off, rfl, hb⟩ := addr_plain (hf 0 (by omega)).1
    obtain ⟨h0, h1, h2⟩ := hf k hk
    rw [add_plain] at h0 h1
    exact ⟨b, off, rfl, hb, h0, h1, h2⟩

theorem open_ints {fuel : Nat} {cs : List Value} {x : DataW H × List MemPlace} (h : DataW.trod enc Try.prog W 0 (fun _ => true) true fuel 27 cs = some x) : ∃ v l, cs = [v] ∧ IsInts W v l := by
  rcases open_slice1 Try.underlying27 (by kernel_rfl) h with ⟨rfl, _⟩ | ⟨a, len, cap, m, n, V, D, P, rfl, _, hlc, hcm, rfl, _, hx⟩
  · exact ⟨_, [], rfl, none, 0, rfl, by simp, by simp⟩
  · have hm : len ≤ 9223372036854775807 := by simp [maxLen] at hcm; omega
    obtain ⟨f, hf⟩ := choose_lt (n := len) (p := fun i (v : Int) => W.cell? (a.add i) = some (.int .i64 v) ∧ i64ok v) (fun i hi => by
      obtain ⟨c0, t0⟩ := hx i (by omega)
      obtain ⟨c, e1, _, wc⟩ := DataW.trod_int Try.underlying3 t0
      simp at e1
      rw [e1] at c0
      have hb := bounds_i64 wc
      exact ⟨c, c0, by omega, by omega⟩)
    refine ⟨_, (List.range len).map f, rfl, some a, _, by simp; rfl, by simpa using hm, ?_⟩
    intro k y hy
    have hk : k < len := by have := (List.getElem?_eq_some_iff.1 hy).1; simpa using this
    have hyf : y = f k := by simp [hk] at hy; exact hy.symm
    subst hyf
    obtain ⟨b, off, rfl, hb⟩ := addr_plain (hf 0 (by omega)).1
    obtain ⟨h0, h2⟩ := hf k hk
    rw [add_plain] at h0
    exact ⟨b, off, rfl, hb, h0, h2⟩

theorem open_objs {fuel : Nat} {cs : List Value} {x : DataW H × List MemPlace} (h : DataW.trod enc Try.prog W 0 (fun _ => true) true fuel 22 cs = some x) : ∃ v l, cs = [v] ∧ IsObjs W v l := by
  rcases open_slice1 Try.underlying22 (by kernel_rfl) h with ⟨rfl, _⟩ | ⟨a, len, cap, m, n, V, D, P, rfl, _, hlc, hcm, rfl, _, hx⟩
  · exact ⟨_, [], rfl, none, 0, rfl, by simp, by simp⟩
  · have hm : len ≤ 9223372036854775807 := by simp [maxLen] at hcm; omega
    obtain ⟨f, hf⟩ := choose_lt (n := len) (p := fun i (u : Value × List Go.Proofs.Ytnpbdabboecpaaa.V) => W.cell? (a.add i) = some u.1 ∧ IsVals W u.1 u.2) (fun i hi => by
      obtain ⟨c0, t0⟩ := hx i (by omega)
      obtain ⟨y0, n', _, _, t1⟩ := trod_struct1 Try.underlying50 t0
      have hc : Try.prog.cellsOf 23 = 1 := by kernel_rfl
      simp only [hc, List.drop_zero, List.take_succ_cons, List.take_zero] at t1
      obtain ⟨v, l, e1, hv⟩ := open_vals t1
      obtain rfl := (List.cons.inj e1).1
      exact ⟨(V i, l), c0, hv⟩)
    refine ⟨_, (List.range len).map (fun i => (f i).2), rfl, some a, _, by simp; rfl, by simpa using hm, ?_⟩
    intro k y hy
    have hk : k < len := by have := (List.getElem?_eq_some_iff.1 hy).1; simpa using this
    have hyf : y = (f k).2 := by simp [hk] at hy; exact hy.symm
    subst hyf
    obtain ⟨b, off, rfl, hb⟩ := addr_plain (hf 0 (by omega)).1
    obtain ⟨h0, h2⟩ := hf k hk
    rw [add_plain] at h0
    exact ⟨b, off, _, rfl, hb, h0, h2⟩

set_option maxRecDepth 100000 in
theorem open_graph {base : Nat} {v : Value} {d : DataW H} {p : List MemPlace} (hv : Value.okWide Try.prog W .any base 25 v) (h : DataW.Trod enc Try.prog W 0 (fun _ => true) true 25 v d p) : ∃ g, IsGraph W v g := by
  obtain ⟨c0, c1, y0, y1, m, rfl, rfl, rfl, hy0, hy1⟩ := open_agg2 Try.underlying25 (by kernel_rfl) (by kernel_rfl) hv h
  obtain ⟨u0, l0, e0, h0⟩ := open_objs hy0
  obtain ⟨u1, l1, e1, h1⟩ := open_vals hy1
  simp at e0 e1
  subst e0 e1
  exact ⟨⟨l0, l1⟩, _, _, rfl, h0, h1⟩
end
end Go.Proofs.Ytnpbdabboecpaaa
