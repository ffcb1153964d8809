/- A row of maps from ints to ints, each owned, or nil. -/
import Derived.Test.YtnpbdabboecpaaaMr
import Derived.Test.YtnpbdabboecpaaaMi
namespace Go.Proofs.Ytnpbdabboecpaaa
open Go.RowKit Go.Maps

/-- Anything, at no block. -/
def enone : Ent := ⟨none, fun _ => True⟩
theorem enone_ok (B : Nat) (w : World) : enone.ok B w := ⟨(fun b e => by cases e), trivial⟩
section
variable {P : Program} {B : Nat} {w0 w : World} {L : List Ent}
theorem Mem.addNone (h : Mem B w0 w L) : Mem B w0 w (enone :: L) := h.cons _ (enone_ok _ _) (fun _ _ b e => by cases e)
/-- What is at the front comes to stand at a place. -/
theorem Mem.fill {x : Ent} (h : Mem B w0 w (x :: L)) (k : Nat) (hk : k < L.length) : Mem B w0 w (L.set k x) := by
  have e : L.set k x = L.take k ++ x :: L.drop (k + 1) := by
    rw [List.set_eq_take_append_cons_drop, if_pos hk]
  rw [e]
  refine (h.drop (L' := x :: (L.take k ++ L.drop (k + 1))) (.cons_cons _ ?_)).perm List.perm_middle
  conv => rhs; rw [← List.take_append_drop k L]
  refine List.Sublist.append_left ?_ _
  rw [List.drop_eq_getElem_cons hk]
  exact List.sublist_cons_self _ _
theorem Mem.forget (h : Mem B w0 w L) (k : Nat) (hk : k < L.length) : Mem B w0 w (L.set k enone) := h.addNone.fill k hk
/-- m[y] = z, and what lies elsewhere stays. -/
theorem Mem.run_putGk {κ : Type} {M : MapT P κ} [DecidableEq κ] (h : Mem B w0 w L) (k : Nat) {b n : Nat} {f : κ → Option Value} (hk : L[k]? = some (gmap M b n f)) (hn : n ≤ 100000) (y : κ) (z : Value) (hy : M.ok y) :
    ∃ w', (Instr.mapUpdate M.t (.map (some b)) (M.enc y) z).run P w = .ok () w' ∧ Mem B w0 w' (L.set k (gmap M b (n + 1) (fun u => if u = y then some z else f u))) ∧ w.heap.size ≤ w'.heap.size ∧
      (∀ j, j < w.heap.size → j ≠ b → w'.heap[j]? = w.heap[j]?) := by
  obtain ⟨hB, _, D, h1, h2, h3⟩ := gmap_own (h.get k hk)
  obtain ⟨w', hrun, hown, hg⟩ := h1.update (d := .held z) (ps := []) M.keyed M.under (by unfold maxLen; omega) (M.key y hy) (show rawE z = some (.held z, []) from rfl)
  refine ⟨w', hrun, h.turn k hk hg (gmap_ok hB hown ?_ ?_) (fun b' e => .inl e), hg.size, fun j hj hne => hg.block j hj (fun e => hne (by cases e; rfl))⟩
  · obtain ⟨es, rfl⟩ := h2; exact ⟨_, rfl⟩
  · intro u hu zd
    by_cases e : u = y
    · subst e
      rw [if_pos rfl]
      exact atKey_put_same h2 (M.keyed.key (M.key u hu)) _ _
    · rw [if_neg e, atKey_put_other (by intro e2; first | exact e (M.inj _ _ hu hy e2) | exact e (M.inj _ _ hy hu e2).symm)]
      exact h3 u hu zd
theorem Mem.wp_putGk {κ : Type} {M : MapT P κ} [DecidableEq κ] {ops : Array Oper} {rest : List Oper} {o : Oper} {a : Act} {Q : Exit → Act → World → Prop} (hgd : o.guard = none) (m x v : Operand) (hop : o.op = Op.mapUpdate M.t m x v)
    (h : Mem B w0 w L) (k : Nat) {b n : Nat} {f : κ → Option Value} (hk : L[k]? = some (gmap M b n f)) (hn : n ≤ 100000) (hm : a.eval m = .map (some b)) (y : κ) (z : Value) (hx : a.eval x = M.enc y) (hv : a.eval v = z) (hy : M.ok y)
    (hK : ∀ w', Mem B w0 w' (L.set k (gmap M b (n + 1) (fun u => if u = y then some z else f u))) → w.heap.size ≤ w'.heap.size → (∀ j, j < w.heap.size → j ≠ b → w'.heap[j]? = w.heap[j]?) → wpList P ops Q rest (a.put o.dst undef) w') : wpList P ops Q (o :: rest) a w := by
  obtain ⟨hB, _, D, h1, h2, h3⟩ := gmap_own (h.get k hk)
  refine wpList_mapUpdate_own w hgd m x v _ hop _ _ M.keyed M.under _ b n D hm h1 (by unfold maxLen; omega) _ _ _ hx hv (M.key y hy) (.held z) [] rfl ?_
  intro w' hown hg
  refine hK w' (h.turn k hk hg (gmap_ok hB hown ?_ ?_) (fun b' e => .inl e)) hg.size (fun j hj hne => hg.block j hj (fun e => hne (by cases e; rfl)))
  · obtain ⟨es, rfl⟩ := h2; exact ⟨_, rfl⟩
  · intro u hu zd
    by_cases e : u = y
    · subst e
      rw [if_pos rfl]
      exact atKey_put_same h2 (M.keyed.key (M.key u hu)) _ _
    · rw [if_neg e, atKey_put_other (by intro e2; first | exact e (M.inj _ _ hu hy e2) | exact e (M.inj _ _ hy hu e2).symm)]
      exact h3 u hu zd
end

structure MapR where
  b : Nat
  n : Nat
  f : Int → Option Value
def mval : Option MapR → Value
  | none => .map none
  | some m => .map (some m.b)
def ment : Option MapR → Ent
  | none => enone
  | some m => gmap mapII m.b m.n m.f
def rowM (v : Value) (vs : List Value) : Ent := erow 67 1 v vs.length vs
def mapsE (ms : List (Option MapR)) : List Ent := ms.map ment
theorem mapsE_len (ms : List (Option MapR)) : (mapsE ms).length = ms.length := by simp [mapsE]
theorem mapsE_get {ms : List (Option MapR)} {i : Nat} {r : Option MapR} (h : ms[i]? = some r) : (mapsE ms)[i]? = some (ment r) := by simp [mapsE, h]
theorem mapsE_set (ms : List (Option MapR)) (i : Nat) (r : Option MapR) : (mapsE ms).set i (ment r) = mapsE (ms.set i r) := by simp [mapsE, List.map_set]
theorem elemMaps : Elem Try.prog 64 67 1 8 (.map none) := ⟨by kernel_rfl, info_parts (by kernel_rfl), rfl, by decide⟩
section
variable {F : Fence} {n : Nat} {P : Program} {B : Nat} {w0 w : World} {L : List Ent}
theorem Mem.nones (h : Mem B w0 w L) : ∀ m : Nat, Mem B w0 w (mapsE (List.replicate m none) ++ L)
  | 0 => h
  | m + 1 => by
    have h2 := (Mem.nones h m).addNone
    exact h2.cast (by simp [mapsE, List.replicate_succ, ment])
theorem Mem.make_maps (h : Mem B w0 w L) {w' : World} {v : Value} {m : Nat} (hown : w'.ownsRow w.heap.size 67 1 v m (madeCells #[.map none] (m * 1)).toList) (hg : w.grownBy w' none) : Mem B w0 w' (rowM v (List.replicate m (.map none)) :: L) := by
  rw [Nat.mul_one, toList_madeCells_one] at hown
  exact (h.callRow (grown_below hg) hown).cast (by simp [rowM])
theorem Mem.in_makeM (T : Elem P 64 67 1 8 (.map none)) {ops : Array Oper} {rest : List Oper} {o : Oper} {a : Act} {Q : Exit → Act → World → Prop} (hgd : o.guard = none) (l c : Operand) (hop : o.op = Op.makeSlice 64 l c)
    (h : Mem B w0 w L) (m : Nat) (hl : a.eval l = .int .i64 (m : Int)) (hc : a.eval c = .int .i64 (m : Int)) (hm : m ≤ 1000)
    (hK : ∀ w', Mem B w0 w' (rowM (.slice (some ⟨w.heap.size, 0, none⟩) m m) (List.replicate m (.map none)) :: L) → Below w.heap.size w w' → wpListIn F n P ops Q rest (a.put o.dst (.slice (some ⟨w.heap.size, 0, none⟩) m m)) w') :
    wpListIn F n P ops Q (o :: rest) a w := by
  obtain ⟨i, hi, hz, hs, hb⟩ := T.info
  refine wpListIn_plain hgd fun K hK' => ?_
  obtain ⟨w', hrun, r1, r2⟩ := run_make_full (P := P) w w.heap.size 64 67 i _ 1 T.under hi hz hs .i64 .i64 m (by rw [hb]; omega) (by simp [maxLen]; omega) (Nat.le_refl _)
  unfold Oper.wpIn
  refine ⟨?_, ?_⟩
  · simp [Oper.about, hop]
  · rw [Oper.semAt_plain F _ _ (by rw [hop]; intro c hc'; cases hc')]
    simp [execOp, hop, hl, hc, hrun, Result.andThen]
    exact hK' _ _ (hK w' (h.make_maps r1 r2) (grown_below r2))
/-- The cell of a row of maps. -/
theorem Mem.mapCell (h : Mem B w0 w L) (k : Nat) {b m cap : Nat} {vs : List Value} (hk : L[k]? = some (rowM (.slice (some ⟨b, 0, none⟩) m cap) vs)) {j : Nat} {x : Value} (hx : vs[j]? = some x) :
    w.cell? ⟨b, j, none⟩ = some x ∧ w.frozen? ⟨b, j, none⟩ = false ∧ b < w.heap.size := by
  have hr : w.ownsRow B 67 1 (.slice (some ⟨b, 0, none⟩) m cap) vs.length vs := h.row k hk
  have hj : j < vs.length := (List.getElem?_eq_some_iff.1 hx).1
  rcases hr.2 with ⟨h1, _⟩ | ⟨g, cap', cur, hv, hB, hg, _⟩
  · cases h1
  · cases hv
    refine ⟨?_, hr.frozenAt j, (Array.getElem?_eq_some_iff.1 hg).1⟩
    rw [hr.cellAt j (by omega)]
    exact hx
theorem Mem.setM (h : Mem B w0 w L) (k : Nat) {b m cap : Nat} {vs : List Value} (hk : L[k]? = some (rowM (.slice (some ⟨b, 0, none⟩) m cap) vs)) (hm : vs.length = m) (j : Nat) (x : Value) :
    Mem B w0 (w.setCell ⟨b, j, none⟩ x) (L.set k (rowM (.slice (some ⟨b, 0, none⟩) m cap) (vs.set j x))) := by
  subst hm
  exact (h.setRow k hk j x).cast (by simp [rowM])
end
/-- How many a map has: none, just when nothing lies at any key. -/
theorem gmap_len' {B : Nat} {w : World} {b n : Nat} {f : Int → Option Value} (h : (gmap mapII b n f).ok B w) (ty : TypeId) : ∃ c : Nat, (c = 0 ↔ ∀ x, i64ok x → f x = none) ∧ ∀ p, (Builtin.len_ #[67] ty #[.map (some b)]).run Try.prog (w.drewN p) = .ok (.int .i64 c) (w.drewN p) := by
  obtain ⟨_, _, D, h1, _, h3⟩ := gmap_own h
  refine ⟨Maps.size D, ?_, fun p => (show (w.drewN p).ownsMap _ _ _ _ _ _ from h1).len mapII.under ty⟩
  obtain ⟨es, clock, hb, F, _, rfl⟩ := h1
  rw [Maps.size_eq, length_sorted, List.length_map, Array.length_toList]
  constructor
  · intro h0 x hx
    have h4 := h3 x hx .nil
    have he : es.toList = [] := by rw [← List.length_eq_zero_iff, Array.length_toList]; exact h0
    rw [he] at h4
    cases hf : f x with
    | none => rfl
    | some v => rw [hf] at h4; cases h4
  · intro hn
    cases hes : es.toList with
    | nil => rw [← Array.length_toList, hes]; rfl
    | cons e0 l =>
      exfalso
      have hm : e0 ∈ es.toList := by rw [hes]; exact List.mem_cons_self
      obtain ⟨y, hy⟩ := F.reads e0 hm
      have hk := WideElems.rd_key hy
      obtain ⟨x, hx, hkey, hlit⟩ := mapII_inv _ _ hk
      rcases Maps.fit_look false mapII.keyed mapII.under (mapII.zeroOk w) hb F (mapII.key x hx) with ⟨_, hno, _⟩ | ⟨e1, y1, _, _, _, hR, hat, _⟩
      · exact hno e0 hm hkey
      · have h4 := h3 x hx .nil
        rw [hat .nil, hn x hx] at h4
        unfold rawE at hR
        cases hR
        cases h4
end Go.Proofs.Ytnpbdabboecpaaa
