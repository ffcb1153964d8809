/- How many holes are below; who stays stays. Plain. -/
import Derived.Test.YtgdodbdipbomfaaQg
import Derived.Test.YtgdodbdipbomfaaJk
namespace Go.Proofs.Ytgdodbdipbomfaa
open Go.RowKit

/-- How many places below k do not live. -/
def cntH (R : List Int) (k : Nat) : Nat := (upTo k).countP fun i => decide (i ∉ R)
theorem cntH_zero (R : List Int) : cntH R 0 = 0 := rfl
theorem cntH_in {R : List Int} {k : Nat} (h : (k : Int) ∈ R) : cntH R (k + 1) = cntH R k := by unfold cntH; rw [upTo_succ, List.countP_append]; simp [h]
theorem cntH_out {R : List Int} {k : Nat} (h : (k : Int) ∉ R) : cntH R (k + 1) = cntH R k + 1 := by unfold cntH; rw [upTo_succ, List.countP_append]; simp [h]
theorem cntH_le (R : List Int) (k : Nat) : cntH R k ≤ k := by
  have := List.countP_le_length (p := fun i => decide (i ∉ R)) (l := upTo k)
  rw [upTo_len] at this; exact this
theorem holes_cnt {F A R : List Int} {n h : Nat} (hI : FI F n A.length h A) (hall : ∀ x, x ∈ A ↔ x ∈ F) (hR : ∀ x, x ∈ R ↔ x ∈ F) : (holes A).length = cntH R A.length := by
  unfold holes cntH
  rw [List.countP_eq_length_filter]
  congr 1
  refine List.filter_congr fun k hk => ?_
  have hk := mem_upTo.1 hk
  obtain ⟨x, hx⟩ := get_some A k.toNat (by omega)
  have hxF := (hall x).1 (List.mem_of_getElem? hx)
  by_cases hkR : k ∈ R
  · have := hI.stay k.toNat (by omega) (by rw [show ((k.toNat : Nat) : Int) = k by omega]; exact (hR k).1 hkR)
    rw [this, show ((k.toNat : Nat) : Int) = k by omega]; simp [hkR]
  · rw [hx]
    have hne : x ≠ k := fun e => hkR ((hR k).2 (e ▸ hxF))
    simp [hkR, hne]
/-- All that FingersFew asks of one object that lives. -/
theorem few_at {ws rs : List Int} {os : List Ob} {F A : List Int} {h z : Nat} (hS : Sound ws rs os) (hI : FI F os.length A.length h A) (hall : ∀ x, x ∈ A ↔ x ∈ F) (hr : ∀ x ∈ F, 0 ≤ x ∧ x < (os.length : Int)) (hz : Alike os z) {k : Nat} (hk : k < A.length) (hkF : (k : Int) ∈ F) :
    k * z ≤ 256 ∧ ws[k * z]? = some (obj os k).1 ∧ isHead (obj os k).1 ∧ (flat (relO os A (hdD os)))[k * z]? = some (hdS (obj os k).1 false) := by
  have hkn := hr k hkF
  have hst := hI.stay k hk hkF
  have hp := hz.place (k := k) (by omega)
  have hpA := hz.placeF (A := A) (fun x hx => hr x ((hall x).1 hx)) (k := k) (by omega)
  have hg := hd_good hS.laid (k := k) (by omega)
  have h1 := flat_head (obj_get (os := os) (i := (k : Int)) ⟨by omega, by omega⟩)
  rw [Int.toNat_natCast, hp] at h1
  have hob : (relO os A (hdD os))[k]? = some (hdD os (k : Int), (obj os k).2.map (mvW os A)) := rel_obj hst
  have h2 := flat_head hob
  rw [rel_place, hpA] at h2
  have h3 : k * z ≤ (flat os).length := by rw [← hp, ← place_all]; exact place_mono (by omega)
  have h4 := hS.words
  rw [hS.laid.1] at h4
  exact ⟨by omega, by rw [hS.laid.1]; exact h1, hg.1, h2⟩
end Go.Proofs.Ytgdodbdipbomfaa
