/- Rows of words in memory: what lies anywhere (IsW0), and what the call owns (rowW). -/
import Derived.Test.YtigdpdndnghldaaMi
namespace Go.Proofs.Ytigdpdndnghldaa
open Go.RowKit
def w64 (n : Int) : Prop := 0 ≤ n ∧ n < 18446744073709551616
def IsW0 (w : World) (v : Value) (l : List Int) : Prop :=
  ∃ a cap, v = .slice a l.length cap ∧ l.length ≤ 9223372036854775807 ∧ ∀ k x, l[k]? = some x → ∃ b off, a = some ⟨b, off, none⟩ ∧ b < w.heap.size ∧
    w.cell? ⟨b, off + k, none⟩ = some (.int .u64 x) ∧ w64 x
theorem IsW0.later {w w' : World} {v : Value} {l : List Int} (h : IsW0 w v l) (hb : Below w.heap.size w w') : IsW0 w' v l := by
  obtain ⟨a, cap, rfl, hl, hc⟩ := h
  refine ⟨a, cap, rfl, hl, fun k x hx => ?_⟩
  obtain ⟨b, off, ha, h1, h2, h4⟩ := hc k x hx
  exact ⟨b, off, ha, Nat.lt_of_lt_of_le h1 hb.size, (hb.cell (p := ⟨_, _, none⟩) h1).trans h2, h4⟩
theorem IsW0.at {w wr : World} {v : Value} {l : List Int} (h : IsW0 w v l) (hb : Below w.heap.size w wr) {k : Nat} {x : Int} (hx : l[k]? = some x) :
    ∃ b off cap, v = .slice (some ⟨b, off, none⟩) l.length cap ∧ b < w.heap.size ∧ b < wr.heap.size ∧ wr.cell? ⟨b, off + k, none⟩ = some (.int .u64 x) ∧ w64 x := by
  obtain ⟨a, cap, rfl, hl, hc⟩ := h
  obtain ⟨b, off, ha, h1, h2, h4⟩ := hc k x hx
  exact ⟨b, off, cap, by rw [ha], h1, Nat.lt_of_lt_of_le h1 hb.size, (hb.cell (p := ⟨_, _, none⟩) h1).trans h2, h4⟩
theorem IsW0.slice {w : World} {v : Value} {l : List Int} (h : IsW0 w v l) : ∃ a cap, v = .slice a l.length cap ∧ l.length ≤ 9223372036854775807 := by
  obtain ⟨a, cap, rfl, hl, _⟩ := h; exact ⟨a, cap, rfl, hl⟩
theorem isW0_of_own {w : World} {B : Nat} {e : TypeId} {v : Value} {l : List Int} (h : w.ownsRow B e 1 v l.length (l.map (.int .u64))) (hl : l.length ≤ 1000000) (hn : ∀ x ∈ l, w64 x) : IsW0 w v l := by
  rcases h.2 with ⟨rfl, h0⟩ | ⟨g, cap, cur, rfl, _, hg, _⟩
  · have : l = [] := List.eq_nil_of_length_eq_zero h0
    subst this
    exact ⟨none, 0, rfl, by simp, by simp⟩
  · refine ⟨_, cap, rfl, by omega, fun k x hx => ?_⟩
    have hk : k < l.length := (List.getElem?_eq_some_iff.1 hx).1
    refine ⟨g, 0, rfl, (Array.getElem?_eq_some_iff.1 hg).1, ?_, hn x (List.mem_of_getElem? hx)⟩
    rw [Nat.zero_add, h.cellAt _ (by omega)]
    simp [hx]

/-- .. and there is room for what lies there. -/
def IsW (w : World) (v : Value) (l : List Int) : Prop := (∃ a c, v = .slice a l.length c ∧ l.length ≤ c) ∧ IsW0 w v l
theorem IsW.later {w w' : World} {v : Value} {l : List Int} (h : IsW w v l) (hb : Below w.heap.size w w') : IsW w' v l := ⟨h.1, h.2.later hb⟩
theorem IsW.at {w wr : World} {v : Value} {l : List Int} (h : IsW w v l) (hb : Below w.heap.size w wr) {k : Nat} {x : Int} (hx : l[k]? = some x) :
    ∃ b off cap, v = .slice (some ⟨b, off, none⟩) l.length cap ∧ b < w.heap.size ∧ b < wr.heap.size ∧ wr.cell? ⟨b, off + k, none⟩ = some (.int .u64 x) ∧ w64 x := h.2.at hb hx
theorem IsW.slice {w : World} {v : Value} {l : List Int} (h : IsW w v l) : ∃ a cap, v = .slice a l.length cap ∧ l.length ≤ 9223372036854775807 := h.2.slice
theorem IsW.cap {w : World} {a : Option Addr} {n c : Nat} {l : List Int} (h : IsW w (.slice a n c) l) : l.length ≤ c := by
  obtain ⟨⟨a', c', h1, h2⟩, _⟩ := h
  cases h1; exact h2
theorem isW_of_own {w : World} {B : Nat} {e : TypeId} {v : Value} {l : List Int} (h : w.ownsRow B e 1 v l.length (l.map (.int .u64))) (hl : l.length ≤ 1000000) (hn : ∀ x ∈ l, w64 x) : IsW w v l := by
  refine ⟨?_, isW0_of_own h hl hn⟩
  rcases h.2 with ⟨rfl, h0⟩ | ⟨g, cap, cur, rfl, _, _, hc, _⟩
  · exact ⟨none, 0, by rw [h0], by omega⟩
  · exact ⟨_, cap, rfl, hc⟩
/-- A part of it. -/
theorem IsW.part {w : World} {v : Value} {l : List Int} (h : IsW w v l) {b off n c : Nat} (hv : v = .slice (some ⟨b, off, none⟩) n c) (k : Nat) (fs : List Int) (hf : ∀ j x, fs[j]? = some x → l[k + j]? = some x) (hk : k + fs.length ≤ l.length) :
    IsW w (.slice (some ⟨b, off + k, none⟩) fs.length (c - k)) fs := by
  subst hv
  have hc := h.cap
  obtain ⟨a, cap, hv, hl⟩ := h.slice
  cases hv
  refine ⟨⟨_, _, rfl, by omega⟩, _, _, rfl, by omega, fun j x hx => ?_⟩
  obtain ⟨b', off', cap', hv, h1, _, h2, h3⟩ := h.at (Below.refl _ _) (hf j x hx)
  cases hv
  exact ⟨b, off + k, rfl, h1, by rw [← h2]; congr 2; omega, h3⟩
section
variable {P : Program} {B : Nat} {w0 w : World} {L : List Ent} {t e : TypeId} {z : Value}
def rowW (e : TypeId) (v : Value) (l : List Int) : Ent := erow e 1 v l.length (l.map (.int .u64))
theorem Mem.wp_appW (T : Elem P t e 1 8 z) {ops : Array Oper} {rest : List Oper} {o : Oper} {ac : Act} {Q : Exit → Act → World → Prop} (hgd : o.guard = none) (s x : Operand)
    (ho : o.op = .call { callee := .builtin .append, args := #[s, x], argTypes := #[t, t] }) (h : Mem B w0 w L) (k : Nat) {v : Value} {l : List Int} (hk : L[k]? = some (rowW e v l))
    (hs : ac.eval s = v) (c : Nat) (y : Int) (e2 : TypeId) (bl : Nat) (hx : ac.eval x = .slice (some ⟨bl, 0, none⟩) 1 c) (hbl : w.heap.size = bl) (hn : l.length ≤ 1000000)
    (hh : ∀ ad n' cap w', Hid (n' = l.length + 1) → Mem B w0 w' (L.set k (rowW e (.slice ad n' cap) (l ++ [y]))) → w.heap.size < w'.heap.size →
      (∀ b, b < w.heap.size → v.ownBlock ≠ some b → w'.heap[b]? = w.heap[b]?) → ad ≠ none → wpList P ops Q rest (ac.put o.dst (.slice ad n' cap)) w') :
    wpList P ops Q (o :: rest) ac (w.alloc (.cells #[.int .u64 y] e2)) := by
  refine Mem.wp_app1 T hgd s x ho h k hk hs c _ e2 bl hx hbl rfl rfl (by decide) hn ?_
  intro ad cap w' h1 h2 h3 h4
  refine hh ad _ cap w' (Lib.hid rfl) (h1.cast ?_) h2 h3 h4
  simp [rowW]
theorem Mem.run_appW (T : Elem P t e 1 8 z) (ty : TypeId) (h : Mem B w0 w L) (k : Nat) {v : Value} {l : List Int} (hk : L[k]? = some (rowW e v l)) (y : Int) (bl c : Nat)
    (hc : w.cell? ⟨bl, 0, none⟩ = some (.int .u64 y)) (hn : l.length ≤ 1000000) :
    ∃ ad n' cap w', (Builtin.append_ #[t, t] ty #[v, .slice (some ⟨bl, 0, none⟩) 1 c]).run P w = .ok (.slice ad n' cap) w' ∧ Hid (n' = l.length + 1) ∧ Mem B w0 w' (L.set k (rowW e (.slice ad n' cap) (l ++ [y]))) ∧
      w.heap.size ≤ w'.heap.size ∧ (∀ b, b < w.heap.size → v.ownBlock ≠ some b → w'.heap[b]? = w.heap[b]?) := by
  obtain ⟨v', w', h1, h2, h3, h4, _, ad, cap, rfl⟩ := h.run_append T ty k hk ⟨bl, 0, none⟩ 1 c [.int .u64 y] rfl (by
    intro j u hj
    cases j with
    | zero => simp at hj; subst hj; simpa [Addr.add] using hc
    | succ j => simp at hj) (by simp [Value.oneCell']) (by simp only [maxLen]; omega) (by omega)
  exact ⟨ad, _, cap, w', h1, Lib.hid rfl, h2.cast (by simp [rowW]), h3, h4⟩
theorem Mem.nilW (h : Mem B w0 w L) (e : TypeId) : Mem B w0 w (rowW e (.slice none 0 0) [] :: L) := h.nil e 1
theorem Mem.ownW (h : Mem B w0 w L) (k : Nat) {v : Value} {l : List Int} (hk : L[k]? = some (rowW e v l)) : w.ownsRow B e 1 v l.length (l.map (.int .u64)) := h.row k hk
theorem Mem.run_appWs (T : Elem P t e 1 8 z) (ty : TypeId) (h : Mem B w0 w L) (k : Nat) {v u : Value} {l m : List Int} (hk : L[k]? = some (rowW e v l)) (hu : IsW w u m) (hl : l.length + m.length ≤ 1000000) :
    ∃ v' w', (Builtin.append_ #[t, t] ty #[v, u]).run P w = .ok v' w' ∧ Mem B w0 w' (L.set k (rowW e v' (l ++ m))) ∧ w.heap.size ≤ w'.heap.size ∧
      (∀ b, b < w.heap.size → v.ownBlock ≠ some b → w'.heap[b]? = w.heap[b]?) ∧ ∃ ad cap, v' = .slice ad (l.length + m.length) cap := by
  obtain ⟨a, c, rfl, hm⟩ := hu.slice
  have hrow := h.row k hk
  by_cases h0 : m = []
  · subst h0
    cases a with
    | none =>
      obtain ⟨i, hi, hz, hsz, hby⟩ := T.info
      refine ⟨v, w, ?_, ?_, Nat.le_refl _, fun _ _ _ => rfl, ?_⟩
      · rcases hrow.2 with ⟨rfl, _⟩ | ⟨g, cap, cur, rfl, _, _, hnc, _⟩
        · simp [Builtin.append_, run_underlying T.under, sizeOf, typeInfo, hi, Builtin.lenOf, Builtin.firstCells]
        · simp [Builtin.append_, run_underlying T.under, sizeOf, typeInfo, hi, Builtin.lenOf, Builtin.firstCells, hnc, storeCells]
      · have hkl : k < L.length := by
          rcases Nat.lt_or_ge k L.length with h' | h'
          · exact h'
          · simp [List.getElem?_eq_none h'] at hk
        have hxe : L[k] = rowW e v l := by simpa [List.getElem?_eq_getElem hkl] using hk
        refine h.cast ?_
        rw [List.append_nil, ← hxe, List.set_getElem_self]
      · rcases hrow.2 with ⟨rfl, hn⟩ | ⟨g, cap, cur, rfl, _⟩
        · exact ⟨none, 0, by rw [hn]; rfl⟩
        · exact ⟨_, cap, rfl⟩
    | some a =>
      obtain ⟨v', w', h1, h2, h3, h4, _, ad, cap, rfl⟩ := h.run_append T ty k hk a 0 c [] rfl (by intro j u hj; cases hj) (by simp) (by simp only [maxLen]; simp at hl; omega) (by simp at hl; omega)
      exact ⟨_, w', h1, h2.cast (by simp [rowW]), h3, h4, ad, cap, rfl⟩
  · obtain ⟨x, hx⟩ := get_some m 0 (by cases m with | nil => exact absurd rfl h0 | cons => simp)
    obtain ⟨b, off, cap2, hv, _⟩ := hu.at (Below.refl _ _) hx
    cases hv
    obtain ⟨v', w', h1, h2, h3, h4, _, ad, cap, rfl⟩ := h.run_append T ty k hk ⟨b, off, none⟩ m.length c (m.map (.int .u64)) (by simp) (by
      intro j u hj
      rw [List.getElem?_map] at hj
      cases hy : m[j]? with
      | none => rw [hy] at hj; cases hj
      | some y =>
        rw [hy] at hj
        obtain ⟨b', off', cap3, hv, _, _, hc, _⟩ := hu.at (Below.refl _ _) hy
        cases hv
        cases hj
        by_cases hj0 : j = 0
        · subst hj0; simpa [Addr.add] using hc
        · simpa [Addr.add, hj0] using hc) (by intro u hu; obtain ⟨y, _, rfl⟩ := List.mem_map.1 hu; rfl) (by simp only [maxLen]; omega) (by omega)
    exact ⟨_, w', h1, h2.cast (by simp [rowW]), h3, h4, ad, cap, rfl⟩
/-- .. as a step of a region that draws its order. -/
theorem Mem.step_appWs (T : Elem P t e 1 8 z) {ops : Array Oper} {o : Oper} {ac : Act} {K : Act → World → Prop} {Q : Exit → Act → World → Prop} {E : Prop} (hgd : o.guard = none) (s x : Operand)
    (ho : o.op = .call { callee := .builtin .append, args := #[s, x], argTypes := #[t, t] }) (h : Mem B w0 w L) (k : Nat) {v u : Value} {l m : List Int} (hk : L[k]? = some (rowW e v l))
    (hs : ac.eval s = v) (hx : ac.eval x = u) (hu : IsW w u m) (hl : l.length + m.length ≤ 1000000)
    (hh : ∀ v' w', Mem B w0 w' (L.set k (rowW e v' (l ++ m))) → w.heap.size ≤ w'.heap.size → (∀ b, b < w.heap.size → v.ownBlock ≠ some b → w'.heap[b]? = w.heap[b]?) → K (ac.put o.dst v') w') :
    if Region.wanted o (yielded ops ac.tmps) = true then Oper.wp P o ac w K Q else E := by
  obtain ⟨v', w', hr, h2, h3, h4, _⟩ := h.run_appWs T o.type k hk hu hl
  exact step_append_eq' hgd s x t ho hs hx hr (hh v' w' h2 h3 h4)
theorem Mem.wp_appWs (T : Elem P t e 1 8 z) {ops : Array Oper} {rest : List Oper} {o : Oper} {ac : Act} {Q : Exit → Act → World → Prop} (hgd : o.guard = none) (s x : Operand)
    (ho : o.op = .call { callee := .builtin .append, args := #[s, x], argTypes := #[t, t] }) (h : Mem B w0 w L) (k : Nat) {v u : Value} {l m : List Int} (hk : L[k]? = some (rowW e v l))
    (hs : ac.eval s = v) (hx : ac.eval x = u) (hu : IsW w u m) (hl : l.length + m.length ≤ 1000000)
    (hh : ∀ v' w', Mem B w0 w' (L.set k (rowW e v' (l ++ m))) → w.heap.size ≤ w'.heap.size → (∀ b, b < w.heap.size → v.ownBlock ≠ some b → w'.heap[b]? = w.heap[b]?) → wpList P ops Q rest (ac.put o.dst v') w') :
    wpList P ops Q (o :: rest) ac w := by
  refine wpList_plain hgd fun K hK => ?_
  obtain ⟨v', w', hr, h2, h3, h4, _⟩ := h.run_appWs T o.type k hk hu hl
  unfold Oper.wp execOp
  simp only [ho, resolve, invoke, builtin, Sem.run_bind, Sem.run_pure, Result.andThen_ok, List.map_toArray, List.map_cons, List.map_nil, hs, hx, hr]
  exact hK _ _ (hh v' w' h2 h3 h4)
end
end Go.Proofs.Ytigdpdndnghldaa
