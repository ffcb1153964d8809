/- Graphs as data, and how slices of values, of objects and of ints read in a world. Plain facts, over any program. -/
import Derived.Test.YtnpbdabboecpaaaMem
import Derived.RangeFuncOwn
namespace Go.Proofs.Ytnpbdabboecpaaa
open Go.RowKit

/-- A value: a number, or a reference. -/
structure V where
  ref : Bool
  n : Int
deriving DecidableEq, Inhabited
/-- A graph. -/
structure G where
  objs : List (List V)
  roots : List V

def i64ok (n : Int) : Prop := -9223372036854775808 ≤ n ∧ n ≤ 9223372036854775807
def cellsV (v : V) : List Value := [.bool v.ref, .int .i64 v.n]

/-- A slice of values. -/
def IsVals (w : World) (v : Value) (l : List V) : Prop :=
  ∃ a cap, v = .slice a l.length cap ∧ l.length ≤ 9223372036854775807 ∧ ∀ k x, l[k]? = some x → ∃ b off, a = some ⟨b, off, none⟩ ∧ b < w.heap.size ∧
    w.cell? ⟨b, off + k * 2, none⟩ = some (.bool x.ref) ∧ w.cell? ⟨b, off + k * 2 + 1, none⟩ = some (.int .i64 x.n) ∧ i64ok x.n
/-- A slice of ints. -/
def IsInts (w : World) (v : Value) (l : List Int) : Prop :=
  ∃ a cap, v = .slice a l.length cap ∧ l.length ≤ 9223372036854775807 ∧ ∀ k x, l[k]? = some x → ∃ b off, a = some ⟨b, off, none⟩ ∧ b < w.heap.size ∧
    w.cell? ⟨b, off + k, none⟩ = some (.int .i64 x) ∧ i64ok x
/-- A slice of objects. -/
def IsObjs (w : World) (v : Value) (l : List (List V)) : Prop :=
  ∃ a cap, v = .slice a l.length cap ∧ l.length ≤ 9223372036854775807 ∧ ∀ k x, l[k]? = some x → ∃ b off u, a = some ⟨b, off, none⟩ ∧ b < w.heap.size ∧
    w.cell? ⟨b, off + k, none⟩ = some u ∧ IsVals w u x
def IsGraph (w : World) (v : Value) (g : G) : Prop := ∃ vo vr, v = .agg #[vo, vr] ∧ IsObjs w vo g.objs ∧ IsVals w vr g.roots

theorem IsVals.later {w w' : World} {v : Value} {l : List V} (h : IsVals w v l) (hb : Below w.heap.size w w') : IsVals w' v l := by
  obtain ⟨a, cap, rfl, hl, hc⟩ := h
  refine ⟨a, cap, rfl, hl, fun k x hx => ?_⟩
  obtain ⟨b, off, ha, h1, h2, h3, h4⟩ := hc k x hx
  exact ⟨b, off, ha, Nat.lt_of_lt_of_le h1 hb.size, (hb.cell (p := ⟨_, _, none⟩) h1).trans h2, (hb.cell (p := ⟨_, _, none⟩) h1).trans h3, h4⟩
theorem IsInts.later {w w' : World} {v : Value} {l : List Int} (h : IsInts w v l) (hb : Below w.heap.size w w') : IsInts w' v l := by
  obtain ⟨a, cap, rfl, hl, hc⟩ := h
  refine ⟨a, cap, rfl, hl, fun k x hx => ?_⟩
  obtain ⟨b, off, ha, h1, h2, h4⟩ := hc k x hx
  exact ⟨b, off, ha, Nat.lt_of_lt_of_le h1 hb.size, (hb.cell (p := ⟨_, _, none⟩) h1).trans h2, h4⟩
theorem IsObjs.later {w w' : World} {v : Value} {l : List (List V)} (h : IsObjs w v l) (hb : Below w.heap.size w w') : IsObjs w' v l := by
  obtain ⟨a, cap, rfl, hl, hc⟩ := h
  refine ⟨a, cap, rfl, hl, fun k x hx => ?_⟩
  obtain ⟨b, off, u, ha, h1, h2, h4⟩ := hc k x hx
  exact ⟨b, off, u, ha, Nat.lt_of_lt_of_le h1 hb.size, (hb.cell (p := ⟨_, _, none⟩) h1).trans h2, h4.later hb⟩
theorem IsGraph.later {w w' : World} {v : Value} {g : G} (h : IsGraph w v g) (hb : Below w.heap.size w w') : IsGraph w' v g := by
  obtain ⟨vo, vr, rfl, h1, h2⟩ := h
  exact ⟨vo, vr, rfl, h1.later hb, h2.later hb⟩

/-- One element, in a world in which what lay below is as it was. -/
theorem IsVals.at {w wr : World} {v : Value} {l : List V} (h : IsVals w v l) (hb : Below w.heap.size w wr) {k : Nat} {x : V} (hx : l[k]? = some x) :
    ∃ b off cap, v = .slice (some ⟨b, off, none⟩) l.length cap ∧ b < w.heap.size ∧ b < wr.heap.size ∧ wr.cell? ⟨b, off + k * 2, none⟩ = some (.bool x.ref) ∧ wr.cell? ⟨b, off + k * 2 + 1, none⟩ = some (.int .i64 x.n) ∧ i64ok x.n := by
  obtain ⟨a, cap, rfl, hl, hc⟩ := h
  obtain ⟨b, off, ha, h1, h2, h3, h4⟩ := hc k x hx
  exact ⟨b, off, cap, by rw [ha], h1, Nat.lt_of_lt_of_le h1 hb.size, (hb.cell (p := ⟨_, _, none⟩) h1).trans h2, (hb.cell (p := ⟨_, _, none⟩) h1).trans h3, h4⟩
theorem IsInts.at {w wr : World} {v : Value} {l : List Int} (h : IsInts w v l) (hb : Below w.heap.size w wr) {k : Nat} {x : Int} (hx : l[k]? = some x) :
    ∃ b off cap, v = .slice (some ⟨b, off, none⟩) l.length cap ∧ b < w.heap.size ∧ b < wr.heap.size ∧ wr.cell? ⟨b, off + k, none⟩ = some (.int .i64 x) ∧ i64ok x := by
  obtain ⟨a, cap, rfl, hl, hc⟩ := h
  obtain ⟨b, off, ha, h1, h2, h4⟩ := hc k x hx
  exact ⟨b, off, cap, by rw [ha], h1, Nat.lt_of_lt_of_le h1 hb.size, (hb.cell (p := ⟨_, _, none⟩) h1).trans h2, h4⟩
theorem IsObjs.at {w wr : World} {v : Value} {l : List (List V)} (h : IsObjs w v l) (hb : Below w.heap.size w wr) {k : Nat} {x : List V} (hx : l[k]? = some x) :
    ∃ b off cap u, v = .slice (some ⟨b, off, none⟩) l.length cap ∧ b < w.heap.size ∧ b < wr.heap.size ∧ wr.cell? ⟨b, off + k, none⟩ = some u ∧ IsVals w u x := by
  obtain ⟨a, cap, rfl, hl, hc⟩ := h
  obtain ⟨b, off, u, ha, h1, h2, h4⟩ := hc k x hx
  exact ⟨b, off, cap, u, by rw [ha], h1, Nat.lt_of_lt_of_le h1 hb.size, (hb.cell (p := ⟨_, _, none⟩) h1).trans h2, h4⟩
theorem IsVals.slice {w : World} {v : Value} {l : List V} (h : IsVals w v l) : ∃ a cap, v = .slice a l.length cap ∧ l.length ≤ 9223372036854775807 := by
  obtain ⟨a, cap, rfl, hl, _⟩ := h; exact ⟨a, cap, rfl, hl⟩
theorem IsInts.slice {w : World} {v : Value} {l : List Int} (h : IsInts w v l) : ∃ a cap, v = .slice a l.length cap ∧ l.length ≤ 9223372036854775807 := by
  obtain ⟨a, cap, rfl, hl, _⟩ := h; exact ⟨a, cap, rfl, hl⟩
theorem IsObjs.slice {w : World} {v : Value} {l : List (List V)} (h : IsObjs w v l) : ∃ a cap, v = .slice a l.length cap ∧ l.length ≤ 9223372036854775807 := by
  obtain ⟨a, cap, rfl, hl, _⟩ := h; exact ⟨a, cap, rfl, hl⟩

theorem length_cellsV (l : List V) : (l.flatMap cellsV).length = l.length * 2 := by
  induction l with
  | nil => rfl
  | cons x l ih => simp [List.flatMap_cons, cellsV] at *; omega
theorem getElem_cellsV (l : List V) : ∀ (k : Nat) (x : V), l[k]? = some x → (l.flatMap cellsV)[k * 2]? = some (.bool x.ref) ∧ (l.flatMap cellsV)[k * 2 + 1]? = some (.int .i64 x.n) := by
  induction l with
  | nil => intro k x h; simp at h
  | cons y l ih =>
    intro k x h
    cases k with
    | zero => simp at h; subst h; simp [List.flatMap_cons, cellsV]
    | succ k =>
      have := ih k x (by simpa using h)
      have e1 : (k + 1) * 2 = k * 2 + 2 := by omega
      rw [e1]
      simpa [List.flatMap_cons, cellsV] using this

/-- A slice of the call's own reads as its elements. -/
theorem isVals_of_own {w : World} {B : Nat} {e : TypeId} {v : Value} {l : List V} (h : w.ownsRow B e 2 v l.length (l.flatMap cellsV)) (hl : l.length ≤ 1000000) (hn : ∀ x ∈ l, i64ok x.n) : IsVals w v l := by
  rcases h.2 with ⟨rfl, h0⟩ | ⟨g, cap, cur, rfl, _, hg, _⟩
  · have : l = [] := List.eq_nil_of_length_eq_zero h0
    subst this
    exact ⟨none, 0, rfl, by simp, by simp⟩
  · refine ⟨_, cap, rfl, by omega, fun k x hx => ?_⟩
    have hk : k < l.length := (List.getElem?_eq_some_iff.1 hx).1
    have hc := getElem_cellsV l k x hx
    refine ⟨g, 0, rfl, (Array.getElem?_eq_some_iff.1 hg).1, ?_, ?_, hn x (List.mem_of_getElem? hx)⟩
    · rw [Nat.zero_add, h.cellAt _ (by omega)]; exact hc.1
    · rw [Nat.zero_add, h.cellAt _ (by omega)]; exact hc.2
theorem isInts_of_own {w : World} {B : Nat} {e : TypeId} {v : Value} {l : List Int} (h : w.ownsRow B e 1 v l.length (l.map (.int .i64))) (hl : l.length ≤ 1000000) (hn : ∀ x ∈ l, i64ok x) : IsInts w v l := by
  rcases h.2 with ⟨rfl, h0⟩ | ⟨g, cap, cur, rfl, _, hg, _⟩
  · have : l = [] := List.eq_nil_of_length_eq_zero h0
    subst this
    exact ⟨none, 0, rfl, by simp, by simp⟩
  · refine ⟨_, cap, rfl, by omega, fun k x hx => ?_⟩
    have hk : k < l.length := (List.getElem?_eq_some_iff.1 hx).1
    refine ⟨g, 0, rfl, (Array.getElem?_eq_some_iff.1 hg).1, ?_, hn x (List.mem_of_getElem? hx)⟩
    rw [Nat.zero_add, h.cellAt _ (by omega)]
    simp [hx]

/-- A slice of values, of ints, of the call's own. -/
def rowV (e : TypeId) (v : Value) (l : List V) : Ent := erow e 2 v l.length (l.flatMap cellsV)
def rowI (e : TypeId) (v : Value) (l : List Int) : Ent := erow e 1 v l.length (l.map (.int .i64))
section
variable {P : Program} {B : Nat} {w0 w : World} {L : List Ent} {t e : TypeId} {z : Value}
theorem Mem.wp_appV (T : Elem P t e 2 16 z) {ops : Array Oper} {rest : List Oper} {o : Oper} {ac : Act} {Q : Exit → Act → World → Prop} (hgd : o.guard = none) (s x : Operand)
    (ho : o.op = .call { callee := .builtin .append, args := #[s, x], argTypes := #[t, t] }) (h : Mem B w0 w L) (k : Nat) {v : Value} {l : List V} (hk : L[k]? = some (rowV e v l))
    (hs : ac.eval s = v) (c : Nat) (y : V) (e2 : TypeId) (bl : Nat) (hx : ac.eval x = .slice (some ⟨bl, 0, none⟩) 1 c) (hbl : w.heap.size = bl) (hn : l.length ≤ 1000000)
    (hh : ∀ ad n' cap w', Hid (n' = l.length + 1) → Mem B w0 w' (L.set k (rowV e (.slice ad n' cap) (l ++ [y]))) → w.heap.size < w'.heap.size →
      (∀ b, b < w.heap.size → v.ownBlock ≠ some b → w'.heap[b]? = w.heap[b]?) → ad ≠ none → wpList P ops Q rest (ac.put o.dst (.slice ad n' cap)) w') :
    wpList P ops Q (o :: rest) ac (w.alloc (.cells #[.bool y.ref, .int .i64 y.n] e2)) := by
  refine Mem.wp_app1 T hgd s x ho h k hk hs c _ e2 bl hx hbl rfl rfl (by decide) hn ?_
  intro ad cap w' h1 h2 h3 h4
  refine hh ad _ cap w' (Lib.hid rfl) (h1.cast ?_) h2 h3 h4
  simp [rowV, cellsV]
theorem Mem.wp_appI (T : Elem P t e 1 8 z) {ops : Array Oper} {rest : List Oper} {o : Oper} {ac : Act} {Q : Exit → Act → World → Prop} (hgd : o.guard = none) (s x : Operand)
    (ho : o.op = .call { callee := .builtin .append, args := #[s, x], argTypes := #[t, t] }) (h : Mem B w0 w L) (k : Nat) {v : Value} {l : List Int} (hk : L[k]? = some (rowI e v l))
    (hs : ac.eval s = v) (c : Nat) (y : Int) (e2 : TypeId) (bl : Nat) (hx : ac.eval x = .slice (some ⟨bl, 0, none⟩) 1 c) (hbl : w.heap.size = bl) (hn : l.length ≤ 1000000)
    (hh : ∀ ad n' cap w', Hid (n' = l.length + 1) → Mem B w0 w' (L.set k (rowI e (.slice ad n' cap) (l ++ [y]))) → w.heap.size < w'.heap.size →
      (∀ b, b < w.heap.size → v.ownBlock ≠ some b → w'.heap[b]? = w.heap[b]?) → ad ≠ none → wpList P ops Q rest (ac.put o.dst (.slice ad n' cap)) w') :
    wpList P ops Q (o :: rest) ac (w.alloc (.cells #[.int .i64 y] e2)) := by
  refine Mem.wp_app1 T hgd s x ho h k hk hs c _ e2 bl hx hbl rfl rfl (by decide) hn ?_
  intro ad cap w' h1 h2 h3 h4
  refine hh ad _ cap w' (Lib.hid rfl) (h1.cast ?_) h2 h3 h4
  simp [rowI]
/-- append(l, y) as an equation on the run, for a region that draws its order. -/
theorem Mem.run_appI (T : Elem P t e 1 8 z) (ty : TypeId) (h : Mem B w0 w L) (k : Nat) {v : Value} {l : List Int} (hk : L[k]? = some (rowI e v l)) (y : Int) (bl c : Nat)
    (hc : w.cell? ⟨bl, 0, none⟩ = some (.int .i64 y)) (hn : l.length ≤ 1000000) :
    ∃ ad n' cap w', (Builtin.append_ #[t, t] ty #[v, .slice (some ⟨bl, 0, none⟩) 1 c]).run P w = .ok (.slice ad n' cap) w' ∧ Hid (n' = l.length + 1) ∧ Mem B w0 w' (L.set k (rowI e (.slice ad n' cap) (l ++ [y]))) ∧
      w.heap.size ≤ w'.heap.size ∧ (∀ b, b < w.heap.size → v.ownBlock ≠ some b → w'.heap[b]? = w.heap[b]?) := by
  obtain ⟨v', w', h1, h2, h3, h4, _, ad, cap, rfl⟩ := h.run_append T ty k hk ⟨bl, 0, none⟩ 1 c [.int .i64 y] rfl (by
    intro j u hj
    cases j with
    | zero => simp at hj; subst hj; simpa [Addr.add] using hc
    | succ j => simp at hj) (by simp [Value.oneCell']) (by simp only [maxLen]; omega) (by omega)
  exact ⟨ad, _, cap, w', h1, Lib.hid rfl, h2.cast (by simp [rowI]), h3, h4⟩
theorem Mem.keeps {w' : World} (h : Mem B w0 w L) (k : Nat) {sz n : Nat} {v : Value} {xs : List Value} (hk : L[k]? = some (erow e sz v n xs)) (_hs : w.heap.size ≤ w'.heap.size)
    (hb : ∀ b, b < w.heap.size → v.ownBlock ≠ some b → w'.heap[b]? = w.heap[b]?) : ∀ (b : Nat) (o : Obj), w.heap[b]? = some o → o.isCells = false → w'.heap[b]? = some o := by
  intro b o ho hc
  refine (hb b (Array.getElem?_eq_some_iff.1 ho).1 ?_).trans ho
  intro e'
  rcases (h.row k hk).2 with ⟨rfl, _⟩ | ⟨g, cap, cur, rfl, _, hg, _⟩
  · simp [Value.ownBlock] at e'
  · simp [Value.ownBlock] at e'; subst e'; rw [ho] at hg; cases hg; cases hc
theorem Mem.nilV (h : Mem B w0 w L) (e : TypeId) : Mem B w0 w (rowV e (.slice none 0 0) [] :: L) := h.nil e 2
theorem Mem.nilI (h : Mem B w0 w L) (e : TypeId) : Mem B w0 w (rowI e (.slice none 0 0) [] :: L) := h.nil e 1
theorem Mem.ownV (h : Mem B w0 w L) (k : Nat) {v : Value} {l : List V} (hk : L[k]? = some (rowV e v l)) : w.ownsRow B e 2 v l.length (l.flatMap cellsV) := h.row k hk
theorem Mem.ownI (h : Mem B w0 w L) (k : Nat) {v : Value} {l : List Int} (hk : L[k]? = some (rowI e v l)) : w.ownsRow B e 1 v l.length (l.map (.int .i64)) := h.row k hk
end

/-! ### What may be -/
def badC (v : V) (n : Int) : Int :=
  if v.ref then (if v.n < 0 ∨ n ≤ v.n then 2 else 0) else (if v.n < -4611686018427387904 ∨ 4611686018427387903 < v.n then 3 else 0)
def allV (g : G) : List V := g.roots ++ g.objs.flatten
structure Good (g : G) : Prop where
  objs : g.objs.length ≤ 24
  roots : g.roots.length ≤ 8
  fields : ∀ o ∈ g.objs, o.length ≤ 4
  vals : ∀ v ∈ allV g, badC v g.objs.length = 0

theorem take_succ_some {α : Type} (l : List α) (k : Nat) (x : α) (h : l[k]? = some x) : l.take (k + 1) = l.take k ++ [x] := by
  rw [List.take_add_one, h]; rfl
theorem get_some {α : Type} (l : List α) (k : Nat) (h : k < l.length) : ∃ x, l[k]? = some x := ⟨_, List.getElem?_eq_getElem h⟩
end Go.Proofs.Ytnpbdabboecpaaa
