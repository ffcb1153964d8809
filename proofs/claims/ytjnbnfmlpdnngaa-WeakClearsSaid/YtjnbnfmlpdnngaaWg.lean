/- A graph as it comes in, its fields with room. -/
import Derived.Test.YtjnbnfmlpdnngaaWe
import Derived.Test.YtjnbnfmlpdnngaaBase1
namespace Go.Proofs.Ytjnbnfmlpdnngaa
open Go.RowKit Go.ChangeShapes Go.WideShapes Go.Joins Go.Deep

section
variable {H : Type} {enc : TypeId × Value → H} {W : World}
theorem room_vals {fuel : Nat} {v : Value} {x : DataW H × List MemPlace} (h : DataW.trod enc Try.prog W 0 (fun _ => true) true fuel 23 [v] = some x) : Room v := by
  rcases open_slice_pairs Try.underlying23 Try.underlying84 (by kernel_rfl) (by kernel_rfl) (by kernel_rfl) (by kernel_rfl) (by kernel_rfl) h with ⟨he, _⟩ | ⟨a', len', cap', m, n', V0, V1, D0, D1, P0, P1, he, _, hlc, hcm, _⟩
  · simp at he; subst he; exact ⟨_, _, _, rfl, Nat.le_refl _, by omega⟩
  · simp at he; subst he; exact ⟨_, _, _, rfl, hlc, by simpa [maxLen] using hcm⟩
theorem open_objsR {fuel : Nat} {cs : List Value} {x : DataW H × List MemPlace} (h : DataW.trod enc Try.prog W 0 (fun _ => true) true fuel 22 cs = some x) : ∃ v l, cs = [v] ∧ IsObjs W v l ∧ RoomO W v l := by
  rcases open_slice1 Try.underlying22 (by kernel_rfl) h with ⟨rfl, _⟩ | ⟨a, len, cap, m, n, V, D, P, rfl, _, hlc, hcm, rfl, _, hx⟩
  · exact ⟨_, [], rfl, ⟨none, 0, rfl, by simp, by simp⟩, by intro k x b off n cap u hx; simp at hx⟩
  · have hm : len ≤ 9223372036854775807 := by simp [maxLen] at hcm; omega
    obtain ⟨f, hf⟩ := choose_lt (n := len) (p := fun i (u : Value × List Go.Proofs.Ytjnbnfmlpdnngaa.V) => W.cell? (a.add i) = some u.1 ∧ IsVals W u.1 u.2 ∧ Room u.1) (fun i hi => by
      obtain ⟨c0, t0⟩ := hx i (by omega)
      obtain ⟨y0, n', _, _, t1⟩ := trod_struct1 Try.underlying61 t0
      have hc : Try.prog.cellsOf 23 = 1 := by kernel_rfl
      simp only [hc, List.drop_zero, List.take_succ_cons, List.take_zero] at t1
      have hr := room_vals t1
      obtain ⟨v, l, e1, hv⟩ := open_vals t1
      obtain rfl := (List.cons.inj e1).1
      exact ⟨(V i, l), c0, hv, hr⟩)
    refine ⟨_, (List.range len).map (fun i => (f i).2), rfl, ⟨some a, _, by simp; rfl, by simpa using hm, ?_⟩, ?_⟩
    · intro k y hy
      have hk : k < len := by have := (List.getElem?_eq_some_iff.1 hy).1; simpa using this
      have hyf : y = (f k).2 := by simp [hk] at hy; exact hy.symm
      subst hyf
      obtain ⟨b, off, rfl, hb⟩ := addr_plain (hf 0 (by omega)).1
      obtain ⟨h0, h2, _⟩ := hf k hk
      rw [add_plain] at h0
      exact ⟨b, off, _, rfl, hb, h0, h2⟩
    · intro k y b off n cap u hy hv hc
      have hk : k < len := by have := (List.getElem?_eq_some_iff.1 hy).1; simpa using this
      obtain ⟨b', off', he, hb⟩ := addr_plain (hf 0 (by omega)).1
      subst he
      cases hv
      obtain ⟨h0, _, h2⟩ := hf k hk
      rw [add_plain] at h0
      rw [hc] at h0
      simp only [Option.some.injEq] at h0
      rw [h0]; exact h2
set_option maxRecDepth 100000 in
theorem open_graphR {base : Nat} {v : Value} {d : DataW H} {p : List MemPlace} (hv : Value.okWide Try.prog W .any base 25 v) (h : DataW.Trod enc Try.prog W 0 (fun _ => true) true 25 v d p) : ∃ g, IsGraph W v g ∧ RoomG W v g := by
  obtain ⟨c0, c1, y0, y1, m, rfl, rfl, rfl, hy0, hy1⟩ := open_agg2 Try.underlying25 (by kernel_rfl) (by kernel_rfl) hv h
  obtain ⟨u0, l0, e0, h0, hr⟩ := open_objsR hy0
  obtain ⟨u1, l1, e1, h1⟩ := open_vals hy1
  simp at e0 e1
  subst e0 e1
  exact ⟨⟨l0, l1⟩, ⟨_, _, rfl, h0, h1⟩, _, _, rfl, hr⟩
end
set_option maxRecDepth 100000 in
open Go.WideShapes in
theorem open_kinds {H : Type} {enc : TypeId × Value → H} {W : World} {base : Nat} {v : Value} {d : DataW H} {p : List MemPlace}
    (hv : Value.okWide Try.prog W .any base 29 v) (h : DataW.Trod enc Try.prog W 0 (fun _ => true) true 29 v d p) : ∃ l, IsInts W v l := by
  obtain ⟨a, len, cap, rfl⟩ := okWide_slice Try.underlying29 hv
  obtain ⟨n, hn⟩ := h
  obtain ⟨u, l, e, hu⟩ := open_ints hn
  obtain rfl := (List.cons.inj e).1
  exact ⟨l, hu⟩
end Go.Proofs.Ytjnbnfmlpdnngaa
