/- What has been moved so far. Plain. -/
import Derived.Test.YtgdodbdipbomfaaBn
import Derived.Test.YtgdodbdipbomfaaBase3
namespace Go.Proofs.Ytgdodbdipbomfaa
open Go.RowKit

/-- New words, where the objects of P were taken and s words gone through. -/
def toW (os : List Ob) (F : List Int) (hd : Int → Int) (P : List Int) (s : Nat) : List Int := (flat (relO os F hd)).take s ++ (flat (rawO os hd P)).drop s
/-- Where each object is. -/
def nowF (os : List Ob) (F P : List Int) : Int → Option Value := fun y => if y ∈ starts os ∧ (idx os y : Int) ∈ P then some (.int .i64 (placeF os F (plc F (idx os y) 0).toNat : Nat)) else none
theorem toW_nil (os : List Ob) (F : List Int) (hd : Int → Int) : toW os F hd [] 0 = [] := rfl
theorem raw_snoc (os : List Ob) (hd : Int → Int) (P : List Int) (i : Int) : flat (rawO os hd (P ++ [i])) = flat (rawO os hd P) ++ (hd i :: (obj os i).2) := by
  unfold rawO; rw [List.map_append, flat_append]; simp [flat]
theorem rel_le {os : List Ob} {F P : List Int} {hd : Int → Int} (hP : P <+: F) : placeF os F P.length ≤ (flat (relO os F hd)).length := by
  rw [rel_len]; exact placeF_mono os F hP.length_le
theorem raw_len' {os : List Ob} {F P : List Int} {hd : Int → Int} (hP : P <+: F) : (flat (rawO os hd P)).length = placeF os F P.length := by
  rw [raw_len, placeF_pre os hP (Nat.le_refl _)]
theorem toW_len {os : List Ob} {F P : List Int} {hd : Int → Int} (hP : P <+: F) {s : Nat} (hs : s ≤ placeF os F P.length) : (toW os F hd P s).length = placeF os F P.length := by
  have h1 := rel_le (os := os) (hd := hd) hP
  unfold toW
  rw [List.length_append, List.length_take, List.length_drop, raw_len' hP]; omega
theorem toW_snoc {os : List Ob} {F P : List Int} {hd : Int → Int} (hP : P <+: F) {s : Nat} (hs : s ≤ placeF os F P.length) (i : Int) : toW os F hd (P ++ [i]) s = (toW os F hd P s ++ [hd i]) ++ (obj os i).2 := by
  unfold toW
  rw [raw_snoc, List.drop_append_of_le_length (by rw [raw_len' hP]; exact hs)]
  simp
theorem toW_get {os : List Ob} {F P : List Int} {hd : Int → Int} (hP : P <+: F) {s t : Nat} (hst : s ≤ t) (hs : s ≤ placeF os F P.length) : (toW os F hd P s)[t]? = (flat (rawO os hd P))[t]? := by
  have h1 := rel_le (os := os) (hd := hd) hP
  unfold toW
  rw [List.getElem?_append_right (by rw [List.length_take]; omega), List.length_take, List.getElem?_drop]
  congr 1; omega
theorem toW_set {os : List Ob} {F P : List Int} {hd : Int → Int} (hP : P <+: F) {s : Nat} (hs : s < placeF os F P.length) {x : Int} (hx : (flat (relO os F hd))[s]? = some x) : (toW os F hd P s).set s x = toW os F hd P (s + 1) := by
  have h1 := rel_le (os := os) (hd := hd) hP
  have h2 := raw_len' (os := os) (hd := hd) hP
  unfold toW
  rw [take_succ_some _ _ _ hx]
  have hne : s < (flat (rawO os hd P)).length := by omega
  rw [List.drop_eq_getElem_cons hne, List.set_append_right s x (by rw [List.length_take]; omega), List.length_take, show s - min s (flat (relO os F hd)).length = 0 by omega, List.set_cons_zero]
  simp
theorem raw_obj {os : List Ob} {P : List Int} {hd : Int → Int} {k : Nat} {i : Int} (h : P[k]? = some i) : (rawO os hd P)[k]? = some (hd i, (obj os i).2) := by unfold rawO; rw [List.getElem?_map, h]; rfl
theorem rel_obj {os : List Ob} {F : List Int} {hd : Int → Int} {k : Nat} {i : Int} (h : F[k]? = some i) : (relO os F hd)[k]? = some (hd i, (obj os i).2.map (mvW os F)) := by unfold relO; rw [List.getElem?_map, h]; rfl
theorem toW_head {os : List Ob} {F P : List Int} {hd : Int → Int} (hP : P <+: F) {k : Nat} {i : Int} (hk : P[k]? = some i) : (toW os F hd P (placeF os F k))[placeF os F k]? = some (hd i) ∧ toW os F hd P (placeF os F k + 1) = toW os F hd P (placeF os F k) := by
  have hkl := (List.getElem?_eq_some_iff.1 hk).1
  have hkF : F[k]? = some i := by rw [prefix_get hP hkl]; exact hk
  have h1 := placeF_succ os hkF
  have h2 := placeF_mono os F (show k + 1 ≤ P.length by omega)
  have h3 := flat_head (raw_obj (os := os) (hd := hd) hk)
  rw [raw_place, ← placeF_pre os hP (Nat.le_of_lt hkl)] at h3
  have h4 := flat_head (rel_obj (os := os) (hd := hd) hkF)
  rw [rel_place] at h4
  unfold szO at h1
  have h5 : (toW os F hd P (placeF os F k))[placeF os F k]? = some (hd i) := by rw [toW_get hP (Nat.le_refl _) (by omega), h3]
  refine ⟨h5, ?_⟩
  rw [← toW_set hP (by omega) h4]
  refine List.ext_getElem? fun t => ?_
  rw [List.getElem?_set]
  split
  · rename_i e
    subst e
    rw [h5, if_pos (by rw [toW_len hP (by omega)]; omega)]
  · rfl
theorem toW_field {os : List Ob} {F P : List Int} {hd : Int → Int} (hP : P <+: F) {k : Nat} {i : Int} (hk : P[k]? = some i) {j : Nat} {x : Int} (hx : (obj os i).2[j]? = some x) :
    (toW os F hd P (placeF os F k + 1 + j))[placeF os F k + 1 + j]? = some x ∧ placeF os F k + 1 + j < placeF os F P.length := by
  have hkl := (List.getElem?_eq_some_iff.1 hk).1
  have hjl := (List.getElem?_eq_some_iff.1 hx).1
  have hkF : F[k]? = some i := by rw [prefix_get hP hkl]; exact hk
  have h1 := placeF_succ os hkF
  have h2 := placeF_mono os F (show k + 1 ≤ P.length by omega)
  have h3 := flat_field (raw_obj (os := os) (hd := hd) hk) hx
  rw [raw_place, ← placeF_pre os hP (Nat.le_of_lt hkl)] at h3
  unfold szO at h1
  exact ⟨by rw [toW_get hP (Nat.le_refl _) (by omega), h3], by omega⟩
theorem toW_moved {os : List Ob} {F P : List Int} {hd : Int → Int} (hP : P <+: F) {k : Nat} {i : Int} (hk : P[k]? = some i) {j : Nat} {x : Int} (hx : (obj os i).2[j]? = some x) :
    (toW os F hd P (placeF os F k + 1 + j)).set (placeF os F k + 1 + j) (mvW os F x) = toW os F hd P (placeF os F k + 1 + (j + 1)) := by
  have hkl := (List.getElem?_eq_some_iff.1 hk).1
  have hkF : F[k]? = some i := by rw [prefix_get hP hkl]; exact hk
  have h4 := flat_field (rel_obj (os := os) (hd := hd) hkF) (j := j) (x := mvW os F x) (by rw [List.getElem?_map, hx]; rfl)
  rw [rel_place] at h4
  exact toW_set hP (toW_field (hd := hd) hP hk hx).2 h4
theorem toW_all (os : List Ob) (F : List Int) (hd : Int → Int) : toW os F hd F (placeF os F F.length) = flat (relO os F hd) := by
  unfold toW
  rw [List.take_of_length_le (by rw [rel_len]; omega), List.drop_of_length_le (by rw [raw_len]; omega), List.append_nil]
theorem nowF_nil (os : List Ob) (F : List Int) : nowF os F [] = fun _ => none := by
  funext y; unfold nowF; rw [if_neg (by simp)]
theorem nowF_old {os : List Ob} {F P : List Int} {i : Nat} (hi : i < os.length) (h : (i : Int) ∈ P) : nowF os F P (place os i) = some (.int .i64 (placeF os F (plc F i 0).toNat : Nat)) := by
  unfold nowF
  rw [if_pos ⟨starts_mem.2 ⟨i, hi, rfl⟩, by rw [idx_place hi]; exact h⟩, idx_place hi]
theorem nowF_new {os : List Ob} {F P : List Int} {i : Nat} (hi : i < os.length) (h : (i : Int) ∉ P) : nowF os F P (place os i) = none := by
  unfold nowF
  rw [if_neg (by rw [idx_place hi]; exact fun h2 => h h2.2)]
theorem nowF_snoc {os : List Ob} {F P : List Int} {i : Nat} (hi : i < os.length) : nowF os F (P ++ [(i : Int)]) = fun (u : Int) => if u = (place os i : Int) then some (.int .i64 (placeF os F (plc F i 0).toNat : Nat)) else nowF os F P u := by
  funext u
  by_cases e : u = (place os i : Int)
  · subst e
    rw [if_pos rfl]
    exact nowF_old hi (by simp)
  · rw [if_neg e]
    unfold nowF
    by_cases hu : u ∈ starts os
    · obtain ⟨k, hk, rfl⟩ := starts_mem.1 hu
      have hne : (k : Int) ≠ (i : Int) := by
        intro h; exact e (by rw [Int.ofNat_inj.1 h])
      rw [idx_place hk]
      simp [hu, hne]
    · rw [if_neg (fun h => hu h.1), if_neg (fun h => hu h.1)]
theorem take_step {F P : List Int} (hn : F.Nodup) {i : Int} (h2 : tk P i <+: F) : (i ∈ P ∧ tk P i = P) ∨ (i ∉ P ∧ tk P i = P ++ [i] ∧ P ++ [i] <+: F ∧ plc F i 0 = P.length) := by
  by_cases h : i ∈ P
  · exact .inl ⟨h, tk_old h⟩
  · rw [tk_new h] at h2
    refine .inr ⟨h, tk_new h, h2, plc_at hn ?_⟩
    rw [prefix_get h2 (by simp)]
    simp
end Go.Proofs.Ytgdodbdipbomfaa
