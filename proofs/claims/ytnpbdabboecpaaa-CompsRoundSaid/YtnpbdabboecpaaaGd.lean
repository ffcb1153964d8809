/- refused: graph.Check at what may not be. -/
import Derived.Test.YtnpbdabboecpaaaGc
namespace Go.Proofs.Ytnpbdabboecpaaa
open Go.RowKit Go.Shelf
set_option maxHeartbeats 400000 in
theorem refused_yes (v : Value) (g : G) (w : World) (hg : IsGraph w v g) (h : ¬ Good g) :
    Calls Try.prog 12 #[v] w fun e w' => e = .returned (.bool true) ∧ Below w.heap.size w w' := by
  have hg0 := hg
  obtain ⟨vo, vr, rfl, ho, hr⟩ := hg
  obtain ⟨ao, co, rfl, hlo⟩ := ho.slice
  obtain ⟨ar, cr, rfl, hlr⟩ := hr.slice
  have Hg := Lib.hid hg0
  have H := Lib.hid h
  clear ho hr hg0 h
  go_enter Try.func12, Try.ntmps12
  go_wp2_with fail
  refine (gcheck_no _ g _ (Hg.out.later ((Below.refl _ _).alloc (Nat.le_refl _) _)) H.out).mono ?_
  rintro e w1 ⟨⟨c, rfl, hc⟩, hb⟩
  have hc' : (c != 0) = true := by simp at hc; simp [hc]
  go_wp2
  go_ret
  exact ⟨rfl, (by repeat (first | exact Below.refl _ _ | refine Below.setCell ?_ (by first | exact Nat.le_refl _ | (simp; done) | (simp; omega) | (simp at *; omega)) _ | refine Below.alloc ?_ (by first | exact Nat.le_refl _ | (simp; done) | (simp; omega) | (simp at *; omega)) _ | refine Below.drew ?_ | refine Below.trans ?_ (Below.mono (by assumption) (by first | exact Nat.le_refl _ | (simp; done) | (simp; omega) | (simp at *; omega)))))⟩
end Go.Proofs.Ytnpbdabboecpaaa
