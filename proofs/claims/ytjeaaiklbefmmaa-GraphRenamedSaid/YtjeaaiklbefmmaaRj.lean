/- The graph with an object more, as it lies. -/
import Derived.Test.YtjeaaiklbefmmaaRh
namespace Go.Proofs.Ytjeaaiklbefmmaa
open Go.RowKit Go.Shelf

theorem isVals_one {w : World} {b : Nat} {t : TypeId} {x : V} (h : w.heap[b]? = some (.cells #[.bool x.ref, .int .i64 x.n] t (0, 0))) (hx : i64ok x.n) : IsVals w (.slice (some ⟨b, 0, none⟩) 1 1) [x] := by
  refine ⟨_, 1, rfl, by simp, ?_⟩
  intro k y hk
  cases k with
  | zero =>
    simp at hk; subst hk
    refine ⟨b, 0, rfl, (Array.getElem?_eq_some_iff.1 h).1, ?_, ?_, hx⟩
    · simp [World.cell?, h]
    · simp [World.cell?, h]
  | succ k => simp at hk

theorem moreR_graph {us : List Value} {n : Nat} {vr : Value} {T9 T51 : TypeId} {w w4 : World} {s9 : Value} {wx : World} {g : G} (hn : g.objs.length = n) (hn24 : n < 24) (hul : us.length = n)
    (huv : ∀ (j : Nat) (x : List V), g.objs[j]? = some x → ∃ u, us[j]? = some u ∧ IsVals w u x) (hr : IsVals w vr g.roots) (hw : Below w.heap.size w w4) (h : MoreR us n vr T9 T51 w4 s9 wx) :
    ∃ (b9 bO capO : Nat), s9 = .pointer (some ⟨b9, 0, none⟩) ∧ Below w4.heap.size w4 wx ∧ w4.heap.size ≤ b9 ∧ b9 < wx.heap.size ∧
      wx.heap[b9]? = some (.cells #[.slice (some ⟨bO, 0, none⟩) (n + 1) capO, vr] T9 (0, 0)) ∧
      IsGraph wx (.agg #[.slice (some ⟨bO, 0, none⟩) (n + 1) capO, vr]) (more g) := by
  obtain ⟨b9, b51, bO, capO, rfl, hc, hb, h1, h2, h3, h4, h5⟩ := h
  have hwx : Below w.heap.size w wx := hw.trans (hb.mono hw.size)
  refine ⟨b9, bO, capO, rfl, hb, h1, h2, h3, _, _, rfl, ⟨some ⟨bO, 0, none⟩, capO, by simp [more, hn], by simp [more]; omega, ?_⟩, hr.later hwx⟩
  intro k x hx
  simp only [more] at hx
  by_cases hk : k < n
  · rw [List.getElem?_append_left (by omega)] at hx
    obtain ⟨u, hu, hv⟩ := huv k x hx
    exact ⟨bO, 0, u, rfl, h5, by rw [Nat.zero_add]; exact hc k u (by rw [List.getElem?_append_left (by omega)]; exact hu), hv.later hwx⟩
  · have hk2 := (List.getElem?_eq_some_iff.1 hx).1
    simp at hk2
    have hkn : k = n := by omega
    subst hkn
    rw [List.getElem?_append_right (by omega), hn] at hx
    simp at hx
    subst hx
    refine ⟨bO, 0, _, rfl, h5, by rw [Nat.zero_add]; exact hc k _ (by rw [List.getElem?_append_right (by omega), hul]; simp), isVals_one (x := ⟨true, 0⟩) h4 (by simp [i64ok])⟩
end Go.Proofs.Ytjeaaiklbefmmaa
