/- Slices of structs of one-cell fields: as they come in, as the call's own. -/
import Derived.Test.YtelhjcifiahahaaG0
import Derived.Test.YtelhjcifiahahaaRows
import Derived.Deep.Slices
import Derived.Deep.Fields
import Derived.ChangeSame
import Derived.SizedLaws
import Derived.OpenShut
namespace Go.Proofs.Ytelhjcifiahahaa
open Go.RowKit

/-- A slice of elements, the cells of each told by enc. -/
def IsTup {α : Type} (sz : Nat) (enc : α → List Value) (w : World) (v : Value) (l : List α) : Prop :=
  ∃ a cap, v = .slice a l.length cap ∧ l.length ≤ 9223372036854775807 ∧ ∀ k x, l[k]? = some x → ∃ b off, a = some ⟨b, off, none⟩ ∧ b < w.heap.size ∧
    ∀ j u, (enc x)[j]? = some u → w.cell? ⟨b, off + k * sz + j, none⟩ = some u
section
variable {α : Type} {sz : Nat} {enc : α → List Value} {w wr : World} {v : Value} {l : List α}
theorem IsTup.later (h : IsTup sz enc w v l) (hb : Below w.heap.size w wr) : IsTup sz enc wr v l := by
  obtain ⟨a, cap, rfl, hl, hc⟩ := h
  refine ⟨a, cap, rfl, hl, fun k x hx => ?_⟩
  obtain ⟨b, off, ha, h1, h2⟩ := hc k x hx
  exact ⟨b, off, ha, Nat.lt_of_lt_of_le h1 hb.size, fun j u hu => (hb.cell (p := ⟨_, _, none⟩) h1).trans (h2 j u hu)⟩
theorem IsTup.slice (h : IsTup sz enc w v l) : ∃ a cap, v = .slice a l.length cap ∧ l.length ≤ 9223372036854775807 := by
  obtain ⟨a, cap, rfl, hl, _⟩ := h; exact ⟨a, cap, rfl, hl⟩
/-- One element, in a world in which what lay below is as it was. -/
theorem IsTup.at (h : IsTup sz enc w v l) (hb : Below w.heap.size w wr) {k : Nat} {x : α} (hx : l[k]? = some x) :
    ∃ b off cap, v = .slice (some ⟨b, off, none⟩) l.length cap ∧ b < w.heap.size ∧ b < wr.heap.size ∧ ∀ j u, (enc x)[j]? = some u → wr.cell? ⟨b, off + k * sz + j, none⟩ = some u := by
  obtain ⟨a, cap, rfl, hl, hc⟩ := h
  obtain ⟨b, off, ha, h1, h2⟩ := hc k x hx
  exact ⟨b, off, cap, by rw [ha], h1, Nat.lt_of_lt_of_le h1 hb.size, fun j u hu => (hb.cell (p := ⟨_, _, none⟩) h1).trans (h2 j u hu)⟩
theorem length_tup (hz : ∀ x, (enc x).length = sz) : ∀ l : List α, (l.flatMap enc).length = l.length * sz
  | [] => by simp
  | x :: l => by rw [List.flatMap_cons, List.length_append, hz, length_tup hz l, List.length_cons, Nat.add_mul]; omega
theorem getElem_tup (hz : ∀ x, (enc x).length = sz) : ∀ (l : List α) (k : Nat) (x : α), l[k]? = some x → ∀ j u, (enc x)[j]? = some u → (l.flatMap enc)[k * sz + j]? = some u
  | [], k, x, h => by simp at h
  | y :: l, 0, x, h => by
    intro j u hu
    simp at h; subst h
    rw [List.flatMap_cons, Nat.zero_mul, Nat.zero_add, List.getElem?_append_left (List.getElem?_eq_some_iff.1 hu).1]; exact hu
  | y :: l, k + 1, x, h => by
    intro j u hu
    have := getElem_tup hz l k x (by simpa using h) j u hu
    rw [List.flatMap_cons, List.getElem?_append_right (by rw [hz, Nat.add_mul]; omega), hz]
    rw [show (k + 1) * sz + j - sz = k * sz + j by rw [Nat.add_mul]; omega]
    exact this
theorem isTup_of_own {B : Nat} {e : TypeId} (hz : ∀ x, (enc x).length = sz) (h : w.ownsRow B e sz v l.length (l.flatMap enc)) (hl : l.length ≤ 1000000) : IsTup sz enc w v l := by
  rcases h.2 with ⟨rfl, h0⟩ | ⟨g, cap, cur, rfl, _, hg, _⟩
  · have : l = [] := List.eq_nil_of_length_eq_zero h0
    subst this
    exact ⟨none, 0, rfl, by simp, by simp⟩
  · refine ⟨_, cap, rfl, by omega, fun k x hx => ?_⟩
    have hk : k < l.length := (List.getElem?_eq_some_iff.1 hx).1
    refine ⟨g, 0, rfl, (Array.getElem?_eq_some_iff.1 hg).1, fun j u hu => ?_⟩
    have hj : j < sz := by rw [← hz x]; exact (List.getElem?_eq_some_iff.1 hu).1
    have hlt : k * sz + j < l.length * sz := by
      have := Nat.mul_le_mul_right sz (show k + 1 ≤ l.length by omega)
      rw [Nat.add_mul] at this; omega
    rw [Nat.zero_add, h.cellAt _ hlt]
    exact getElem_tup hz l k x hx j u hu
end
/-- A slice of such elements of the call's own. -/
def rowT {α : Type} (e : TypeId) (sz : Nat) (enc : α → List Value) (v : Value) (l : List α) : Ent := erow e sz v l.length (l.flatMap enc)
section
variable {P : Program} {B : Nat} {w0 w : World} {L : List Ent} {t e : TypeId} {z : Value} {α : Type} {sz bytes : Nat} {enc : α → List Value}
theorem Mem.nilT (h : Mem B w0 w L) (e : TypeId) (sz : Nat) (enc : α → List Value) : Mem B w0 w (rowT e sz enc (.slice none 0 0) [] :: L) := h.nil e sz
theorem Mem.ownT (h : Mem B w0 w L) (k : Nat) {v : Value} {l : List α} (hk : L[k]? = some (rowT e sz enc v l)) : w.ownsRow B e sz v l.length (l.flatMap enc) := h.row k hk
theorem Mem.isTup (h : Mem B w0 w L) (k : Nat) {v : Value} {l : List α} (hk : L[k]? = some (rowT e sz enc v l)) (hz : ∀ x, (enc x).length = sz) (hl : l.length ≤ 1000000) : IsTup sz enc w v l := isTup_of_own hz (h.ownT k hk) hl
/-- append(l, y). -/
theorem Mem.wp_appT (T : Elem P t e sz bytes z) {ops : Array Oper} {rest : List Oper} {o : Oper} {ac : Act} {Q : Exit → Act → World → Prop} (hgd : o.guard = none) (s x : Operand)
    (ho : o.op = .call { callee := .builtin .append, args := #[s, x], argTypes := #[t, t] }) (h : Mem B w0 w L) (k : Nat) {v : Value} {l : List α} (hk : L[k]? = some (rowT e sz enc v l))
    (hs : ac.eval s = v) (c : Nat) (y : α) (news : Array Value) (hy : enc y = news.toList) (e2 : TypeId) (bl : Nat) (hx : ac.eval x = .slice (some ⟨bl, 0, none⟩) 1 c) (hbl : w.heap.size = bl) (hsz : news.size = sz)
    (h1 : news.toList.all (·.oneCell') = true) (hb : bytes ≤ 1000) (hn : l.length ≤ 1000000)
    (hh : ∀ ad n' cap w', Hid (n' = l.length + 1) → Mem B w0 w' (L.set k (rowT e sz enc (.slice ad n' cap) (l ++ [y]))) → w.heap.size < w'.heap.size →
      (∀ b, b < w.heap.size → v.ownBlock ≠ some b → w'.heap[b]? = w.heap[b]?) → ad ≠ none → wpList P ops Q rest (ac.put o.dst (.slice ad n' cap)) w') :
    wpList P ops Q (o :: rest) ac (w.alloc (.cells news e2)) := by
  refine Mem.wp_app1 T hgd s x ho h k hk hs c news e2 bl hx hbl hsz h1 hb hn ?_
  intro ad cap w' h1 h2 h3 h4
  refine hh ad _ cap w' (Lib.hid rfl) (h1.cast ?_) h2 h3 h4
  simp [rowT, hy]
/-- A cell of one of the elements. -/
theorem Mem.tupAt (h : Mem B w0 w L) (k : Nat) {g m cap : Nat} {l : List α} (hk : L[k]? = some (rowT e sz enc (.slice (some ⟨g, 0, none⟩) m cap) l)) (hz : ∀ x, (enc x).length = sz) {i : Nat} {x : α} (hx : l[i]? = some x) :
    ∀ j u, (enc x)[j]? = some u → w.cell? ⟨g, i * sz + j, none⟩ = some u ∧ w.frozen? ⟨g, i * sz + j, none⟩ = false := by
  have hr := h.row k hk
  intro j u hu
  have hil : i < l.length := (List.getElem?_eq_some_iff.1 hx).1
  have hj : j < sz := by rw [← hz x]; exact (List.getElem?_eq_some_iff.1 hu).1
  have hlt : i * sz + j < l.length * sz := by
    have := Nat.mul_le_mul_right sz (show i + 1 ≤ l.length by omega)
    rw [Nat.add_mul] at this; omega
  rcases hr.2 with ⟨h', _⟩ | ⟨g', cap', cur, h', _, hg, _, _, _, htake⟩
  · cases h'
  · have hr' := hr
    cases h'
    refine ⟨?_, by simp [World.frozen?, hg]⟩
    have hc : w.cell? ⟨g, i * sz + j, none⟩ = cur.toList[i * sz + j]? := by simp [World.cell?, hg]
    rw [hc]
    have h2 : (cur.toList.take (l.length * sz))[i * sz + j]? = cur.toList[i * sz + j]? := by rw [List.getElem?_take, if_pos hlt]
    rw [← h2, htake]
    exact getElem_tup hz l i x hx j u hu
/-- A store into a cell of one of the elements. -/
theorem Mem.setT (h : Mem B w0 w L) (k : Nat) {g n cap : Nat} {l l' : List α} (hk : L[k]? = some (rowT e sz enc (.slice (some ⟨g, 0, none⟩) n cap) l)) (hn : l.length = n) (j : Nat) (u : Value) (hl : (l.flatMap enc).set j u = l'.flatMap enc) (hll : l'.length = l.length) :
    Mem B w0 (w.setCell ⟨g, j, none⟩ u) (L.set k (rowT e sz enc (.slice (some ⟨g, 0, none⟩) n cap) l')) := by
  subst hn
  refine (h.setRow k (n := l.length) hk j u).cast ?_
  unfold rowT
  rw [hl, hll]
end
section
open Go.ChangeShapes Go.WideShapes Go.Deep
variable {H : Type} {enc : TypeId × Value → H} {P : Program} {w : World}
theorem open_slice_fields {base : Nat} {spare : Nat → Bool} {held : Bool} {t e : TypeId} {fs : Array Field} {fuel : Nat} {cs : List Value} {x : DataW H × List MemPlace} (ht : P.underlying t = some (.slice e)) (he : P.underlying e = some (.struct fs))
    (hone : oneCellFields P fs = true) (hC : P.cellsOf e = fs.size) (h : DataW.trod enc P w base spare held fuel t cs = some x) :
    (cs = [.slice none 0 0] ∧ x = (.nil, [])) ∨
    ∃ (a : Addr) (len cap m : Nat) (D : Nat → DataW H), cs = [.slice (some a) len cap] ∧ len ≤ cap ∧ cap ≤ maxLen ∧ m = (if spare a.block then cap else len) ∧
      x.1 = .slice ((List.range len).map D) ((List.range (m - len)).map fun j => D (len + j)) ∧
      ∀ i, i < m → ∀ (j : Nat) (f : Field), fs[j]? = some f → ∃ (v : Value) (y : DataW H × List MemPlace) (n : Nat), w.cell? (a.add (i * fs.size + j)) = some v ∧ DataW.trod enc P w base spare held n f.type [v] = some y := by
  rcases open_slice ht h with h0 | ⟨a, len, cap, m, n, D, Pl, hcs, hb, hl, hm, hmm, hx, hi⟩
  · exact .inl h0
  · refine .inr ⟨a, len, cap, m, D, hcs, hl, hm, hmm, by rw [hx], fun i him => ?_⟩
    obtain ⟨cs', hc, ht'⟩ := hi i him
    rw [hC] at hc
    obtain ⟨ys, n', hn', hy, hlen, hyl, hf⟩ := DataW.trod_struct he ht'
    obtain ⟨_, hcl, hat⟩ := World.cells?_some hc
    intro j f hj
    obtain ⟨ho, hk⟩ := hone_of hone j f hj
    have hjl : j < fs.size := (Array.getElem?_eq_some_iff.1 hj).1
    have hcell := hat j hjl
    have hv : cs'[j]? = some (cs'[j]'(by omega)) := List.getElem?_eq_getElem (by omega)
    have h1 := hf j f hj
    rw [ho, hk] at h1
    have hone' : (cs'.drop j).take 1 = [cs'[j]'(by omega)] := by
      rw [List.drop_eq_getElem_cons (by omega)]
      rfl
    rw [hone'] at h1
    have hys : ys[j]? = some (ys[j]'(by omega)) := List.getElem?_eq_getElem (by omega)
    refine ⟨_, _, _, ?_, h1.trans hys⟩
    rw [← Go.Deep.add_add, hcell, hv]
theorem addr_plain' {w : World} {a : Addr} {v : Value} (h : w.cell? (a.add 0) = some v) : ∃ b off, a = ⟨b, off, none⟩ ∧ b < w.heap.size := by
  obtain ⟨b, off, s⟩ := a
  simp only [Addr.add, if_true] at h
  unfold World.cell? at h
  split at h
  · rename_i c _ _ hc
    have hlt := (Array.getElem?_eq_some_iff.1 hc).1
    cases s with
    | none => exact ⟨b, off, rfl, hlt⟩
    | some s => simp at h
  · cases h
/-- A slice of structs of ints that came in: each element's ints. -/
theorem open_intTup {t e : TypeId} {fs : Array Field} {fuel : Nat} {cs : List Value} {x : DataW H × List MemPlace} (ht : P.underlying t = some (.slice e)) (he : P.underlying e = some (.struct fs))
    (hone : oneCellFields P fs = true) (hC : P.cellsOf e = fs.size) (h0 : 0 < fs.size) (hint : ∀ (j : Nat) (f : Field), fs[j]? = some f → P.underlying f.type = some (.int .i64)) (h : DataW.trod enc P w 0 (fun _ => true) true fuel t cs = some x) :
    ∃ (v : Value) (l : List (List Int)), cs = [v] ∧ (∀ y ∈ l, y.length = fs.size ∧ ∀ z ∈ y, i64ok z) ∧ IsTup fs.size (fun y : List Int => y.map (.int .i64)) w v l ∧
      ((x.1 = .nil ∧ l = []) ∨ ∃ elems spare, x.1 = .slice elems spare ∧ elems.length = l.length) := by
  rcases open_slice_fields ht he hone hC h with ⟨rfl, rfl⟩ | ⟨a, len, cap, m, D, rfl, hlc, hcm, hmm, hx1, hx⟩
  · exact ⟨_, [], rfl, by simp, ⟨none, 0, rfl, by simp, by simp⟩, .inl ⟨rfl, rfl⟩⟩
  · have hm : len ≤ 9223372036854775807 := by simp [maxLen] at hcm; omega
    have hlm : len ≤ m := by rw [hmm]; split <;> omega
    have hf : ∀ i, i < len → ∃ f : Nat → Int, ∀ j, j < fs.size → w.cell? (a.add (i * fs.size + j)) = some (.int .i64 (f j)) ∧ i64ok (f j) := by
      intro i hi
      refine choose_lt (p := fun j (c : Int) => w.cell? (a.add (i * fs.size + j)) = some (.int .i64 c) ∧ i64ok c) ?_
      intro j hj
      obtain ⟨v, y, n, hc, ht2⟩ := hx i (by omega) j _ (Array.getElem?_eq_getElem hj)
      obtain ⟨c, e1, _, wc⟩ := DataW.trod_int (hint j _ (Array.getElem?_eq_getElem hj)) ht2
      simp at e1
      subst e1
      exact ⟨c, hc, bounds_i64 wc⟩
    obtain ⟨f, hf⟩ := choose_lt hf
    refine ⟨_, (List.range len).map fun i => (List.range fs.size).map (f i), rfl, ?_, ⟨some a, cap, by simp, by simpa using hm, ?_⟩, .inr ⟨_, _, hx1, by simp⟩⟩
    · intro y hy
      obtain ⟨i, hi, rfl⟩ := List.mem_map.1 hy
      rw [List.mem_range] at hi
      refine ⟨by simp, fun z hz => ?_⟩
      obtain ⟨j, hj, rfl⟩ := List.mem_map.1 hz
      rw [List.mem_range] at hj
      exact (hf i hi j hj).2
    · intro k y hy
      have hk : k < len := by have := (List.getElem?_eq_some_iff.1 hy).1; simpa using this
      have hyf : y = (List.range fs.size).map (f k) := by simp [hk] at hy; exact hy.symm
      subst hyf
      obtain ⟨b, off, rfl, hb⟩ := addr_plain' (by have := (hf 0 (by omega) 0 h0).1; simpa using this)
      refine ⟨b, off, rfl, hb, fun j u hu => ?_⟩
      have hj : j < fs.size := by have := (List.getElem?_eq_some_iff.1 hu).1; simpa using this
      simp [hj] at hu
      subst hu
      have := (hf k hk j hj).1
      rw [add_plain] at this
      rw [Nat.add_assoc]; exact this
/-- The elements in another guise. -/
theorem IsTup.map {α β : Type} {sz : Nat} {enc : α → List Value} {enc' : β → List Value} {v : Value} {l : List α} (h : IsTup sz enc w v l) (f : α → β) (hf : ∀ x ∈ l, enc' (f x) = enc x) : IsTup sz enc' w v (l.map f) := by
  obtain ⟨a, cap, rfl, hl, hc⟩ := h
  refine ⟨a, cap, by simp, by simpa using hl, fun k y hy => ?_⟩
  rw [List.getElem?_map] at hy
  cases hx : l[k]? with
  | none => rw [hx] at hy; cases hy
  | some x =>
    rw [hx] at hy
    cases hy
    obtain ⟨b, off, ha, h1, h2⟩ := hc k x hx
    exact ⟨b, off, ha, h1, fun j u hu => h2 j u (by rw [← hf x (List.mem_of_getElem? hx)]; exact hu)⟩
end
end Go.Proofs.Ytelhjcifiahahaa
