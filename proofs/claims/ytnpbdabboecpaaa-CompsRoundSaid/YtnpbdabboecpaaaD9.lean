/- Rows of rows of ints. -/
import Derived.Test.YtnpbdabboecpaaaD6
namespace Go.Proofs.Ytnpbdabboecpaaa
open Go.RowKit Go.Shelf

def rowsI (fs : List (Value × List Int)) : List Ent := fs.map fun r => rowI 3 r.1 r.2
theorem rowsI_len (fs : List (Value × List Int)) : (rowsI fs).length = fs.length := by simp [rowsI]
theorem rowsI_get {fs : List (Value × List Int)} {i : Nat} {r : Value × List Int} (h : fs[i]? = some r) : (rowsI fs)[i]? = some (rowI 3 r.1 r.2) := by simp [rowsI, h]
theorem rowsI_set (fs : List (Value × List Int)) (i : Nat) (r : Value × List Int) : (rowsI fs).set i (rowI 3 r.1 r.2) = rowsI (fs.set i r) := by simp [rowsI, List.map_set]
theorem rowsI_calm (B : Nat) (fs : List (Value × List Int)) : ∀ x ∈ rowsI fs, x.Calm B := by
  intro x hx
  obtain ⟨r, _, rfl⟩ := List.mem_map.1 hx
  exact rowI_calm _ _ _ _
theorem elemRows : Elem Try.prog 31 27 1 24 (.slice none 0 0) := ⟨by kernel_rfl, info_parts (by kernel_rfl), rfl, by decide⟩
def rowR (v : Value) (vs : List Value) : Ent := erow 27 1 v vs.length vs
theorem rowR_calm (B : Nat) (v : Value) (vs : List Value) : (rowR v vs).Calm B := erow_calm B _ 1 v _ _
section
variable {F : Fence} {n : Nat} {P : Program} {B : Nat} {w0 w : World} {L : List Ent}
theorem Mem.make_rows (h : Mem B w0 w L) {w' : World} {v : Value} {m : Nat} (hown : w'.ownsRow w.heap.size 27 1 v m (madeCells #[.slice none 0 0] (m * 1)).toList) (hg : w.grownBy w' none) : Mem B w0 w' (rowR v (List.replicate m (.slice none 0 0)) :: L) := by
  rw [Nat.mul_one, toList_madeCells_one] at hown
  exact (h.callRow (grown_below hg) hown).cast (by simp [rowR])
theorem Mem.in_makeR (T : Elem P 31 27 1 24 (.slice none 0 0)) {ops : Array Oper} {rest : List Oper} {o : Oper} {a : Act} {Q : Exit → Act → World → Prop} (hgd : o.guard = none) (l c : Operand) (hop : o.op = Op.makeSlice 31 l c)
    (h : Mem B w0 w L) (m : Nat) (hl : a.eval l = .int .i64 (m : Int)) (hc : a.eval c = .int .i64 (m : Int)) (hm : m ≤ 1000)
    (hK : ∀ w', Mem B w0 w' (rowR (.slice (some ⟨w.heap.size, 0, none⟩) m m) (List.replicate m (.slice none 0 0)) :: L) → Below w.heap.size w w' → wpListIn F n P ops Q rest (a.put o.dst (.slice (some ⟨w.heap.size, 0, none⟩) m m)) w') :
    wpListIn F n P ops Q (o :: rest) a w := by
  obtain ⟨i, hi, hz, hs, hb⟩ := T.info
  refine wpListIn_plain hgd fun K hK' => ?_
  obtain ⟨w', hrun, r1, r2⟩ := run_make_full (P := P) w w.heap.size 31 27 i _ 1 T.under hi hz hs .i64 .i64 m (by rw [hb]; omega) (by simp [maxLen]; omega) (Nat.le_refl _)
  unfold Oper.wpIn
  refine ⟨?_, ?_⟩
  · simp [Oper.about, hop]
  · rw [Oper.semAt_plain F _ _ (by rw [hop]; intro c hc'; cases hc')]
    simp [execOp, hop, hl, hc, hrun, Result.andThen]
    exact hK' _ _ (hK w' (h.make_rows r1 r2) (grown_below r2))
theorem Mem.nils (h : Mem B w0 w L) : ∀ m : Nat, Mem B w0 w (rowsI (List.replicate m (.slice none 0 0, [])) ++ L)
  | 0 => h
  | m + 1 => by
    have h2 := (Mem.nils h m).nilI 3
    exact h2.cast (by simp [rowsI, List.replicate_succ])
/-- The cell of a row of rows. -/
theorem Mem.rowCell (h : Mem B w0 w L) (k : Nat) {b m cap : Nat} {vs : List Value} (hk : L[k]? = some (rowR (.slice (some ⟨b, 0, none⟩) m cap) vs)) {j : Nat} {x : Value} (hx : vs[j]? = some x) :
    w.cell? ⟨b, j, none⟩ = some x ∧ w.frozen? ⟨b, j, none⟩ = false ∧ b < w.heap.size := by
  have hr : w.ownsRow B 27 1 (.slice (some ⟨b, 0, none⟩) m cap) vs.length vs := h.row k hk
  have hj : j < vs.length := (List.getElem?_eq_some_iff.1 hx).1
  rcases hr.2 with ⟨h1, _⟩ | ⟨g, cap', cur, hv, hB, hg, _⟩
  · cases h1
  · cases hv
    refine ⟨?_, hr.frozenAt j, (Array.getElem?_eq_some_iff.1 hg).1⟩
    rw [hr.cellAt j (by omega)]
    exact hx
theorem Mem.setR (h : Mem B w0 w L) (k : Nat) {b m cap : Nat} {vs : List Value} (hk : L[k]? = some (rowR (.slice (some ⟨b, 0, none⟩) m cap) vs)) (hm : vs.length = m) (j : Nat) (x : Value) :
    Mem B w0 (w.setCell ⟨b, j, none⟩ x) (L.set k (rowR (.slice (some ⟨b, 0, none⟩) m cap) (vs.set j x))) := by
  subst hm
  exact (h.setRow k hk j x).cast (by simp [rowR])
end
/-- What grow holds. -/
@[reducible] def gl (n bt gR bg bf gF : Nat) (vF vU vo vr : Value) (F rk up : List Int) (fs : List (Value × List Int)) (T : List Ent) : List Ent :=
  ebox bt #[vF, .slice (some ⟨gR, 0, none⟩) n n, vU] 53 :: rowI 3 vF F :: rowI 3 (.slice (some ⟨gR, 0, none⟩) n n) rk :: rowI 3 vU up :: ebox bg #[vo, vr] 25 ::
    ebox bf #[.slice (some ⟨gF, 0, none⟩) n n] 31 :: rowR (.slice (some ⟨gF, 0, none⟩) n n) (fs.map (·.1)) :: (rowsI fs ++ T)
section
variable {n bt gR bg bf gF : Nat} {vF vU vo vr : Value} {F rk up : List Int} {fs : List (Value × List Int)} {T : List Ent}
theorem gl_row {j : Nat} {r : Value × List Int} (h : fs[j]? = some r) : (gl n bt gR bg bf gF vF vU vo vr F rk up fs T)[j + 7]? = some (rowI 3 r.1 r.2) := by
  show (rowsI fs ++ T)[j]? = _
  rw [List.getElem?_append_left (by rw [rowsI_len]; exact (List.getElem?_eq_some_iff.1 h).1)]
  exact rowsI_get h
theorem gl_top {x : Ent} : (gl n bt gR bg bf gF vF vU vo vr F rk up fs (x :: T))[fs.length + 7]? = some x := by
  show (rowsI fs ++ (x :: T))[fs.length]? = _
  rw [List.getElem?_append_right (by rw [rowsI_len]; exact Nat.le_refl _), rowsI_len, Nat.sub_self]
  rfl
theorem gl_set {j : Nat} (hj : j < fs.length) (v : Value) (l : List Int) : ((gl n bt gR bg bf gF vF vU vo vr F rk up fs T).set (j + 7) (rowI 3 v l)).set 6 (rowR (.slice (some ⟨gF, 0, none⟩) n n) ((fs.map (·.1)).set j v)) = gl n bt gR bg bf gF vF vU vo vr F rk up (fs.set j (v, l)) T := by
  show _ :: _ :: _ :: _ :: _ :: _ :: rowR _ _ :: (rowsI fs ++ T).set j (rowI 3 v l) = _
  rw [List.set_append_left _ _ (by rw [rowsI_len]; exact hj)]
  have h := rowsI_set fs j (v, l)
  simp only at h
  rw [h]
  unfold gl
  rw [List.map_set]
theorem gl_drop {x : Ent} : (gl n bt gR bg bf gF vF vU vo vr F rk up fs T).Sublist (gl n bt gR bg bf gF vF vU vo vr F rk up fs (x :: T)) := by
  refine List.Sublist.cons_cons _ (List.Sublist.cons_cons _ (List.Sublist.cons_cons _ (List.Sublist.cons_cons _ (List.Sublist.cons_cons _ (List.Sublist.cons_cons _ (List.Sublist.cons_cons _ ?_))))))
  exact List.Sublist.append (List.Sublist.refl _) (List.sublist_cons_self _ _)
theorem gl_tail {B : Nat} {w0 w : World} {x : Ent} (h : Mem B w0 w (x :: gl n bt gR bg bf gF vF vU vo vr F rk up fs T)) : Mem B w0 w (gl n bt gR bg bf gF vF vU vo vr F rk up fs (x :: T)) :=
  Mem.tailDef (A := [_, _, _, _, _, _, _] ++ rowsI fs) h
theorem gl_flip {B : Nat} {w0 w : World} (h : Mem B w0 w (gl n bt gR bg bf gF vF vU vo vr F rk up fs T)) : Mem B w0 w (T ++ gl n bt gR bg bf gF vF vU vo vr F rk up fs []) := by
  have h2 : gl n bt gR bg bf gF vF vU vo vr F rk up fs T = gl n bt gR bg bf gF vF vU vo vr F rk up fs [] ++ T := by simp [gl]
  rw [h2] at h
  exact h.perm List.perm_append_comm
theorem gl_end {B : Nat} {w0 w : World} (h : Mem B w0 w (gl n bt gR bg bf gF vF vU vo vr F rk up fs T)) : Mem B w0 w [ebox bt #[vF, .slice (some ⟨gR, 0, none⟩) n n, vU] 53, rowI 3 vU up] := by
  refine h.drop ?_
  refine List.Sublist.cons_cons _ (List.Sublist.cons _ (List.Sublist.cons _ (List.Sublist.cons_cons _ (List.nil_sublist _))))
theorem gl_calm (B : Nat) (hT : ∀ x ∈ T, x.Calm B) : ∀ x ∈ gl n bt gR bg bf gF vF vU vo vr F rk up fs T, x.Calm B :=
  calm_cons (ebox_calm _ _ _ _) (calm_cons (rowI_calm _ _ _ _) (calm_cons (rowI_calm _ _ _ _) (calm_cons (rowI_calm _ _ _ _) (calm_cons (ebox_calm _ _ _ _) (calm_cons (ebox_calm _ _ _ _) (calm_cons (rowR_calm _ _ _) (calm_append (rowsI_calm _ _) hT)))))))
end
end Go.Proofs.Ytnpbdabboecpaaa
