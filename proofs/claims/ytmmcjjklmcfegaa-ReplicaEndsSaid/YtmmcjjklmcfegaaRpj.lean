/- A memory that is copied: the exchange of one, plain. -/
import Derived.Test.YtmmcjjklmcfegaaRpi
import Derived.Test.YtmmcjjklmcfegaaOt
namespace Go.Proofs.Ytmmcjjklmcfegaa
open Go.RowKit Go.Shelf

theorem perm3 {α : Type} (A R S : List α) : (A ++ (R ++ S)).Perm (R ++ (A ++ S)) := by
  rw [← List.append_assoc, ← List.append_assoc]
  exact List.Perm.append_right _ List.perm_append_comm
section
variable {B : Nat} {w0 w : World} {L : List Ent}
theorem set_split {α : Type} (L : List α) (k : Nat) (hk : k < L.length) (x : α) : L.set k x = L.take k ++ x :: L.drop (k + 1) := by
  rw [List.set_eq_take_append_cons_drop, if_pos hk]
/-- One is taken out. -/
theorem Mem.liftOut (h : Mem B w0 w L) (k : Nat) {x : Ent} (hk : L[k]? = some x) : Mem B w0 w (x :: L.set k enone) := by
  have hlt := (List.getElem?_eq_some_iff.1 hk).1
  have e : L = L.take k ++ x :: L.drop (k + 1) := by
    conv => lhs; rw [← List.take_append_drop k L]
    rw [List.drop_eq_getElem_cons hlt]
    congr 2
    exact (List.getElem?_eq_some_iff.1 hk).2
  have h1 : Mem B w0 w (enone :: (L.take k ++ x :: L.drop (k + 1))) := h.addNone.cast (by rw [← e])
  rw [set_split L k hlt]
  refine h1.perm ?_
  refine (List.Perm.cons _ List.perm_middle).trans ?_
  refine List.Perm.trans ?_ (List.Perm.cons _ List.perm_middle.symm)
  exact List.Perm.swap _ _ _
theorem objs_fill {A T : List Ent} {cs : List (Option Oc)} {i : Nat} (hi : i < cs.length) {b : Nat} {v : Value} {l : List V} (h : Mem B w0 w (ebox b #[v] 94 :: rowV 80 v l :: (A ++ (objsE cs ++ T)))) :
    Mem B w0 w (A ++ (objsE (cs.set i (some ⟨b, v, l⟩)) ++ T)) := by
  have h1 := h.fill (A.length + i + 1) (by simp [objsE]; omega)
  rw [List.set_cons_succ, List.set_append_right _ _ (by omega), show A.length + i - A.length = i by omega] at h1
  unfold objsE at h1 ⊢
  rw [List.append_assoc, List.set_append_left _ _ (by simpa using hi)] at h1
  have e1 : (cs.map boxO).set i (ebox b #[v] 94) = (cs.set i (some ⟨b, v, l⟩)).map boxO := by rw [List.map_set]; rfl
  rw [e1] at h1
  have h2 := h1.fill (A.length + (cs.length + i)) (by simp; omega)
  rw [List.set_append_right _ _ (by omega), show A.length + (cs.length + i) - A.length = cs.length + i by omega, List.set_append_right _ _ (by simp), List.length_map, List.length_set, show cs.length + i - cs.length = i by omega, List.set_append_left _ _ (by simpa using hi)] at h2
  have e2 : (cs.map rowO).set i (rowV 80 v l) = (cs.set i (some ⟨b, v, l⟩)).map rowO := by rw [List.map_set]; rfl
  rw [e2] at h2
  exact h2.cast (by simp)
theorem objs_gone {A T : List Ent} {cs : List (Option Oc)} {i : Nat} (hi : i < cs.length) (h : Mem B w0 w (A ++ (objsE cs ++ T))) : Mem B w0 w (A ++ (objsE (cs.set i none) ++ T)) := by
  have h1 := h.forget (A.length + i) (by simp [objsE]; omega)
  rw [List.set_append_right _ _ (by omega), show A.length + i - A.length = i by omega] at h1
  unfold objsE at h1 ⊢
  rw [List.append_assoc, List.set_append_left _ _ (by simpa using hi)] at h1
  have e1 : (cs.map boxO).set i enone = (cs.set i none).map boxO := by rw [List.map_set]; rfl
  rw [e1] at h1
  have h2 := h1.forget (A.length + (cs.length + i)) (by simp; omega)
  rw [List.set_append_right _ _ (by omega), show A.length + (cs.length + i) - A.length = cs.length + i by omega, List.set_append_right _ _ (by simp), List.length_map, List.length_set, show cs.length + i - cs.length = i by omega, List.set_append_left _ _ (by simpa using hi)] at h2
  have e2 : (cs.map rowO).set i enone = (cs.set i none).map rowO := by rw [List.map_set]; rfl
  rw [e2] at h2
  exact h2.cast (by simp)
theorem Mem.setPtr (h : Mem B w0 w L) (k : Nat) {g cap : Nat} {cs : List (Option Oc)} (hk : L[k]? = some (rowP (.slice (some ⟨g, 0, none⟩) cs.length cap) cs)) (i : Nat) (c : Option Oc) :
    Mem B w0 (w.setCell ⟨g, i, none⟩ (ptrO c)) (L.set k (rowP (.slice (some ⟨g, 0, none⟩) cs.length cap) (cs.set i c))) := by
  have h1 := h.setRow k hk i (ptrO c)
  refine h1.cast ?_
  unfold rowP
  rw [List.length_set, List.map_set]
end
section
variable {B : Nat} {w0 w : World} {bx : Nat} {regs : List V} {mv : Value} {bm bc nc g cap : Nat} {cs : List (Option Oc)} {vr : Value} {row : List Int} {f : Int → Option Value} {vm : Value} {made : List Int} {fil : Nat} {vl : Value} {log : List (Int × Nat)} {times : Int} {cc : Cc} {T : List Ent}
theorem cc_slice {A : List Ent} (h : Mem B w0 w (A ++ (objsE cs ++ (cc.map rowC ++ T)))) {j : Nat} {u : Value} {l : List V} (hc : cc[j]? = some (some (u, l))) : ∃ a c, u = .slice a l.length c := by
  have h0 : Mem B w0 w ((A ++ objsE cs) ++ (cc.map rowC ++ T)) := h.cast (by rw [List.append_assoc])
  have hk := rowC_at (A := A ++ objsE cs) (R := T) hc
  have hr : w.ownsRow B 80 2 u l.length (l.flatMap cellsV) := h0.row _ hk
  rcases hr.2 with ⟨h1, h2⟩ | ⟨g, cap, cur, h1, _⟩
  · exact ⟨none, 0, by rw [h1, h2]⟩
  · exact ⟨_, cap, h1⟩
theorem ex_yes (h : Mem B w0 w (pA bx regs mv bm bc nc (.slice (some ⟨g, 0, none⟩) cs.length cap) cs vr row f vm made fil vl log times ++ (objsE cs ++ (cc.map rowC ++ T)))) {j : Nat} (hj : j < cs.length) {u : Value} {l : List V} (hc : cc[j]? = some (some (u, l))) :
    Mem B w0 ((w.setCell ⟨g, j, none⟩ (.pointer (some ⟨w.heap.size, 0, none⟩))).alloc (.cells #[u] 94)) (pA bx regs mv bm bc nc (.slice (some ⟨g, 0, none⟩) cs.length cap) (cs.set j (some ⟨w.heap.size, u, l⟩)) vr row f vm made fil vl log times ++ (objsE (cs.set j (some ⟨w.heap.size, u, l⟩)) ++ ((cc.set j none).map rowC ++ T))) := by
  obtain ⟨A, hA⟩ : ∃ A, pA bx regs mv bm bc nc (.slice (some ⟨g, 0, none⟩) cs.length cap) cs vr row f vm made fil vl log times = A := ⟨_, rfl⟩
  have h0 : Mem B w0 w ((A ++ objsE cs) ++ (cc.map rowC ++ T)) := h.cast (by rw [hA, List.append_assoc])
  have hk := rowC_at (A := A ++ objsE cs) (R := T) hc
  have h1 := h0.liftOut _ hk
  have hjc : j < cc.length := (List.getElem?_eq_some_iff.1 hc).1
  have e1 : ((A ++ objsE cs) ++ (cc.map rowC ++ T)).set ((A ++ objsE cs).length + j) enone = A ++ (objsE cs ++ ((cc.set j none).map rowC ++ T)) := by
    rw [List.set_append_right _ _ (by omega), show (A ++ objsE cs).length + j - (A ++ objsE cs).length = j by omega, List.set_append_left _ _ (by rw [List.length_map]; exact hjc), List.append_assoc]
    congr 3
    rw [List.map_set]; rfl
  rw [e1] at h1
  rw [← hA] at h1
  have h2 := h1.setPtr 3 rfl j (some ⟨w.heap.size, u, l⟩)
  have h3 := h2.allocAt w.heap.size (by simp) #[u] 94
  exact objs_fill (A := pA bx regs mv bm bc nc (.slice (some ⟨g, 0, none⟩) cs.length cap) (cs.set j (some ⟨w.heap.size, u, l⟩)) vr row f vm made fil vl log times) hj h3
theorem ex_no (h : Mem B w0 w (pA bx regs mv bm bc nc (.slice (some ⟨g, 0, none⟩) cs.length cap) cs vr row f vm made fil vl log times ++ (objsE cs ++ (cc.map rowC ++ T)))) {j : Nat} (hj : j < cs.length) :
    Mem B w0 (w.setCell ⟨g, j, none⟩ (.pointer none)) (pA bx regs mv bm bc nc (.slice (some ⟨g, 0, none⟩) cs.length cap) (cs.set j none) vr row f vm made fil vl log times ++ (objsE (cs.set j none) ++ (cc.map rowC ++ T))) := by
  have h3 := objs_gone hj h
  exact (h3.setPtr 2 rfl j none)
theorem exchO_step {row : List Int} {k : Nat} {x : Int} (hk : row[k]? = some x) (c : Cps) (os : Os) : exchO (row.take (k + 1)) c os = (exchO (row.take k) c os).set x.toNat (cpAt c x) := by
  rw [take_succ_some _ _ _ hk]
  unfold exchO
  rw [List.foldl_append]
  rfl
theorem conts_set (cs : List (Option Oc)) (i : Nat) (c : Option Oc) : conts (cs.set i c) = (conts cs).set i (c.map Oc.l) := by unfold conts; rw [List.map_set]
/-- A new round: what is left of the old one goes. -/
theorem fresh_round {bc2 : Nat} (vo : Value) (h : Mem B w0 w (gmap mapIV bc2 0 (fun _ => none) :: ([mbox bx regs mv] ++ (boxP bm bc2 vo vm (.slice none 0 0) 0 (.slice none 0 0) times :: (rowP vo cs :: rowI 3 vr row :: gmap mapIV bc nc f :: rowI 3 vm made :: logE 149 vl log :: (objsE cs ++ (cc.map rowC ++ T))))))) (n : Nat) :
    Mem B w0 w (pA bx regs mv bm bc2 0 vo cs vm made (cpF (List.replicate n none)) (.slice none 0 0) [] 0 (.slice none 0 0) [] times ++ (objsE cs ++ ((List.replicate n none).map rowC ++ T))) := by
  have h1 : Mem B w0 w (gmap mapIV bc2 0 (fun _ => none) :: mbox bx regs mv :: boxP bm bc2 vo vm (.slice none 0 0) 0 (.slice none 0 0) times :: rowP vo cs :: rowI 3 vm made :: (objsE cs ++ T)) := by
    refine h.drop ?_
    refine List.Sublist.cons_cons _ (List.Sublist.cons_cons _ (List.Sublist.cons_cons _ (List.Sublist.cons_cons _ (List.Sublist.cons _ (List.Sublist.cons _ (List.Sublist.cons_cons _ (List.Sublist.cons _ ?_)))))))
    exact List.Sublist.append_left (List.sublist_append_right _ _) _
  have h2 := ((h1.nilL 149).nil 3 1).nones n
  rw [cpF_nones, rowC_nones]
  refine h2.perm ?_
  obtain ⟨R, hR⟩ : ∃ R, List.replicate n enone = R := ⟨_, rfl⟩
  rw [hR]
  have p1 : (objsE cs ++ (R ++ T)).Perm (R ++ (objsE cs ++ T)) := by
    rw [← List.append_assoc, ← List.append_assoc]
    exact List.Perm.append_right _ List.perm_append_comm
  have p2 : (pA bx regs mv bm bc2 0 vo cs vm made (fun _ => none) (.slice none 0 0) [] 0 (.slice none 0 0) [] times).Perm [rowI 3 (.slice none 0 0) [], logE 149 (.slice none 0 0) [], gmap mapIV bc2 0 (fun _ => none), mbox bx regs mv, boxP bm bc2 vo vm (.slice none 0 0) 0 (.slice none 0 0) times, rowP vo cs, rowI 3 vm made] := by
    obtain ⟨e1, h1⟩ : ∃ e, mbox bx regs mv = e := ⟨_, rfl⟩
    obtain ⟨e2, h2⟩ : ∃ e, boxP bm bc2 vo vm (.slice none 0 0) 0 (.slice none 0 0) times = e := ⟨_, rfl⟩
    obtain ⟨e3, h3⟩ : ∃ e, rowP vo cs = e := ⟨_, rfl⟩
    obtain ⟨e4, h4⟩ : ∃ e, rowI 3 vm made = e := ⟨_, rfl⟩
    obtain ⟨e5, h5⟩ : ∃ e, gmap mapIV bc2 0 (fun _ => none) = e := ⟨_, rfl⟩
    obtain ⟨e6, h6⟩ : ∃ e, rowI 3 (.slice none 0 0) [] = e := ⟨_, rfl⟩
    obtain ⟨e7, h7⟩ : ∃ e, logE 149 (.slice none 0 0) [] = e := ⟨_, rfl⟩
    unfold pA
    rw [h1, h2, h3, h4, h5, h6, h7]
    have q : [e1, e2, e3, e4, e5, e6, e7] = [e1, e2, e3, e4] ++ [e5, e6, e7] := rfl
    rw [q]
    refine List.perm_append_comm.trans ?_
    show [e5, e6, e7, e1, e2, e3, e4].Perm _
    refine List.Perm.trans ?_ (List.Perm.cons _ (List.Perm.swap _ _ _))
    exact (List.Perm.swap _ _ _).trans (List.Perm.cons _ (List.Perm.refl _))
  refine (List.Perm.append p2 p1).trans ?_
  exact perm3 _ R _
end
end Go.Proofs.Ytmmcjjklmcfegaa
