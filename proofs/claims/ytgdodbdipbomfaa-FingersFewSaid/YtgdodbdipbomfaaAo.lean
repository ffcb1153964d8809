/- Arenas that come in, opened. -/
import Derived.Test.YtgdodbdipbomfaaBase2
import Derived.Test.YtgdodbdipbomfaaOpen
namespace Go.Proofs.Ytgdodbdipbomfaa
open Go.RowKit Go.ChangeShapes Go.WideShapes Go.Joins Go.Deep
section
variable {H : Type} {enc : TypeId × Value → H} {W : World}
theorem open_words {fuel : Nat} {cs : List Value} {x : DataW H × List MemPlace} (h : DataW.trod enc Try.prog W 0 (fun _ => true) true fuel 22 cs = some x) : ∃ v l, cs = [v] ∧ IsW W v l := by
  rcases open_slice1 Try.underlying22 (by kernel_rfl) h with ⟨rfl, _⟩ | ⟨a, len, cap, m, n, V, D, P, rfl, _, hlc, hcm, rfl, _, hx⟩
  · exact ⟨_, [], rfl, ⟨none, 0, rfl, Nat.zero_le _⟩, none, 0, rfl, by simp, by simp⟩
  · have hm : len ≤ 9223372036854775807 := by simp [maxLen] at hcm; omega
    obtain ⟨f, hf⟩ := choose_lt (n := len) (p := fun i (v : Int) => W.cell? (a.add i) = some (.int .u64 v) ∧ w64 v) (fun i hi => by
      obtain ⟨c0, t0⟩ := hx i (by omega)
      obtain ⟨c, e1, _, wc⟩ := DataW.trod_int Try.underlying60 t0
      simp at e1
      rw [e1] at c0
      have hb := bounds_u64 wc
      exact ⟨c, c0, by omega, by omega⟩)
    refine ⟨_, (List.range len).map f, rfl, ⟨some a, _, by simp; rfl, by simpa using hlc⟩, some a, _, by simp; rfl, by simpa using hm, ?_⟩
    intro k y hy
    have hk : k < len := by have := (List.getElem?_eq_some_iff.1 hy).1; simpa using this
    have hyf : y = f k := by simp [hk] at hy; exact hy.symm
    subst hyf
    obtain ⟨b, off, rfl, hb⟩ := addr_plain (hf 0 (by omega)).1
    obtain ⟨h0, h2⟩ := hf k hk
    rw [add_plain] at h0
    exact ⟨b, off, rfl, hb, h0, h2⟩
/-- An arena that comes in. -/
def IsArena (w : World) (v : Value) (ws rs : List Int) : Prop := ∃ vw vr, v = .agg #[vw, vr] ∧ IsW w vw ws ∧ IsW w vr rs
set_option maxRecDepth 100000 in
theorem open_arena {base : Nat} {v : Value} {d : DataW H} {p : List MemPlace} (hv : Value.okWide Try.prog W .any base 24 v) (h : DataW.Trod enc Try.prog W 0 (fun _ => true) true 24 v d p) : ∃ ws rs, IsArena W v ws rs := by
  obtain ⟨c0, c1, y0, y1, m, rfl, rfl, rfl, hy0, hy1⟩ := open_agg2 Try.underlying24 (by kernel_rfl) (by kernel_rfl) hv h
  obtain ⟨u0, l0, e0, h0⟩ := open_words hy0
  obtain ⟨u1, l1, e1, h1⟩ := open_words hy1
  simp at e0 e1
  subst e0 e1
  exact ⟨l0, l1, _, _, rfl, h0, h1⟩
end
end Go.Proofs.Ytgdodbdipbomfaa
