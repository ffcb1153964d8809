/- An object goes: its values stay owned. -/
import Derived.Test.YtmmcjjklmcfegaaM9
namespace Go.Proofs.Ytmmcjjklmcfegaa
open Go.RowKit Go.Shelf

/-- An object's values kept when the object itself goes. -/
theorem objs_take {B : Nat} {w0 w : World} {A T : List Ent} {cs : List (Option Oc)} {i : Nat} {o : Oc} (hi : cs[i]? = some (some o)) (h : Mem B w0 w (A ++ (objsE cs ++ T))) :
    Mem B w0 w (A ++ (objsE (cs.set i none) ++ (rowV 80 o.v o.l :: T))) := by
  have hlt : i < cs.length := (List.getElem?_eq_some_iff.1 hi).1
  have h1 := h.forget (A.length + i) (by rw [List.length_append, List.length_append, objsE_len]; omega)
  rw [List.set_append_right _ _ (by omega), show A.length + i - A.length = i by omega, List.set_append_left _ _ (by rw [objsE_len]; omega)] at h1
  unfold objsE at h1 ⊢
  rw [List.set_append_left _ _ (by simpa using hlt)] at h1
  have e1 : (cs.map boxO).set i enone = (cs.set i none).map boxO := by rw [List.map_set]; rfl
  rw [e1] at h1
  have hr : (cs.map rowO)[i]? = some (rowV 80 o.v o.l) := by rw [List.getElem?_map, hi]; rfl
  have e2 : cs.map rowO = (cs.map rowO).take i ++ rowV 80 o.v o.l :: (cs.map rowO).drop (i + 1) := by
    conv => lhs; rw [← List.take_append_drop i (cs.map rowO)]
    rw [List.drop_eq_getElem_cons (by simpa using hlt)]
    congr 2
    exact Option.some.inj ((List.getElem?_eq_getElem (by simpa using hlt)).symm.trans hr)
  have e3 : (cs.set i none).map rowO = (cs.map rowO).take i ++ enone :: (cs.map rowO).drop (i + 1) := by
    rw [List.map_set, List.set_eq_take_append_cons_drop, if_pos (by simpa using hlt)]; rfl
  rw [e2] at h1
  rw [e3]
  have h2 := h1.addNone
  obtain ⟨P, hP⟩ : ∃ P, A ++ (cs.set i none).map boxO ++ (cs.map rowO).take i = P := ⟨_, rfl⟩
  obtain ⟨Y, hY⟩ : ∃ Y, (cs.map rowO).drop (i + 1) = Y := ⟨_, rfl⟩
  have h3 : Mem B w0 w (enone :: (P ++ (rowV 80 o.v o.l :: (Y ++ T)))) := h2.cast (by rw [← hP, ← hY]; simp)
  have h4 : Mem B w0 w (P ++ enone :: (rowV 80 o.v o.l :: (Y ++ T))) := h3.perm List.perm_middle
  have h5 : Mem B w0 w (P ++ enone :: (Y ++ rowV 80 o.v o.l :: T)) := h4.perm (List.Perm.append_left _ (List.Perm.cons _ List.perm_middle))
  exact h5.cast (by rw [← hP, ← hY]; simp)
end Go.Proofs.Ytmmcjjklmcfegaa
