/- The law file's sound, at what is sound. -/
import Derived.Test.YtgdodbdipbomfaaAi
namespace Go.Proofs.Ytgdodbdipbomfaa
open Go.RowKit Go.Shelf

theorem sound_yes (vw vr : Value) (ws rs : List Int) (os : List Ob) (w : World) (hw : IsW w vw ws) (hr : IsW w vr rs) (hS : Sound ws rs os) :
    Calls Try.prog 12 #[.agg #[vw, vr]] w fun e w' => e = .returned (.bool true) ∧ Below w.heap.size w w' := by
  refine (sound_any vw vr ws rs w hw hr).mono ?_
  rintro e w' ⟨hb, ⟨rfl, _⟩ | ⟨_, hno⟩⟩
  · exact ⟨rfl, hb⟩
  · exact absurd hS (hno os)
end Go.Proofs.Ytgdodbdipbomfaa
