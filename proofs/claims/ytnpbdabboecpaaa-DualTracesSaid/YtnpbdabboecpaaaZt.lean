/- append(l, m...): a list of ints that lies anywhere (nil, too) behind a list of the call's own. -/
import Derived.Test.YtnpbdabboecpaaaMi
namespace Go.Proofs.Ytnpbdabboecpaaa
open Go.RowKit
section
variable {P : Program} {B : Nat} {w0 w : World} {L : List Ent} {t e : TypeId} {z : Value}
theorem Mem.run_appIs (T : Elem P t e 1 8 z) (ty : TypeId) (h : Mem B w0 w L) (k : Nat) {v u : Value} {l m : List Int} (hk : L[k]? = some (rowI e v l)) (hu : IsInts w u m) (hl : l.length + m.length ≤ 1000000) :
    ∃ v' w', (Builtin.append_ #[t, t] ty #[v, u]).run P w = .ok v' w' ∧ Mem B w0 w' (L.set k (rowI e v' (l ++ m))) ∧ w.heap.size ≤ w'.heap.size ∧
      (∀ b, b < w.heap.size → v.ownBlock ≠ some b → w'.heap[b]? = w.heap[b]?) ∧ ∃ ad cap, v' = .slice ad (l.length + m.length) cap := by
  obtain ⟨a, c, rfl, hm⟩ := hu.slice
  have hrow := h.row k hk
  by_cases h0 : m = []
  · subst h0
    cases a with
    | none =>
      obtain ⟨i, hi, hz, hsz, hby⟩ := T.info
      refine ⟨v, w, ?_, ?_, Nat.le_refl _, fun _ _ _ => rfl, ?_⟩
      · rcases hrow.2 with ⟨rfl, _⟩ | ⟨g, cap, cur, rfl, _, _, hnc, _⟩
        · simp [Builtin.append_, run_underlying T.under, sizeOf, typeInfo, hi, Builtin.lenOf, Builtin.firstCells]
        · simp [Builtin.append_, run_underlying T.under, sizeOf, typeInfo, hi, Builtin.lenOf, Builtin.firstCells, hnc, storeCells]
      · have hkl : k < L.length := by
          rcases Nat.lt_or_ge k L.length with h' | h'
          · exact h'
          · simp [List.getElem?_eq_none h'] at hk
        have hxe : L[k] = rowI e v l := by simpa [List.getElem?_eq_getElem hkl] using hk
        refine h.cast ?_
        rw [List.append_nil, ← hxe, List.set_getElem_self]
      · rcases hrow.2 with ⟨rfl, hn⟩ | ⟨g, cap, cur, rfl, _⟩
        · exact ⟨none, 0, by rw [hn]; rfl⟩
        · exact ⟨_, cap, rfl⟩
    | some a =>
      obtain ⟨v', w', h1, h2, h3, h4, _, ad, cap, rfl⟩ := h.run_append T ty k hk a 0 c [] rfl (by intro j u hj; cases hj) (by simp) (by simp only [maxLen]; simp at hl; omega) (by simp at hl; omega)
      exact ⟨_, w', h1, h2.cast (by simp [rowI]), h3, h4, ad, cap, rfl⟩
  · obtain ⟨x, hx⟩ := get_some m 0 (by cases m with | nil => exact absurd rfl h0 | cons => simp)
    obtain ⟨b, off, cap2, hv, _⟩ := hu.at (Below.refl _ _) hx
    cases hv
    obtain ⟨v', w', h1, h2, h3, h4, _, ad, cap, rfl⟩ := h.run_append T ty k hk ⟨b, off, none⟩ m.length c (m.map (.int .i64)) (by simp) (by
      intro j u hj
      rw [List.getElem?_map] at hj
      cases hy : m[j]? with
      | none => rw [hy] at hj; cases hj
      | some y =>
        rw [hy] at hj
        obtain ⟨b', off', cap3, hv, _, _, hc, _⟩ := hu.at (Below.refl _ _) hy
        cases hv
        cases hj
        by_cases hj0 : j = 0
        · subst hj0; simpa [Addr.add] using hc
        · simpa [Addr.add, hj0] using hc) (by intro u hu; obtain ⟨y, _, rfl⟩ := List.mem_map.1 hu; rfl) (by simp only [maxLen]; omega) (by omega)
    exact ⟨_, w', h1, h2.cast (by simp [rowI]), h3, h4, ad, cap, rfl⟩
/-- .. as a step of a region that draws its order. -/
theorem Mem.step_appIs (T : Elem P t e 1 8 z) {ops : Array Oper} {o : Oper} {ac : Act} {K : Act → World → Prop} {Q : Exit → Act → World → Prop} {E : Prop} (hgd : o.guard = none) (s x : Operand)
    (ho : o.op = .call { callee := .builtin .append, args := #[s, x], argTypes := #[t, t] }) (h : Mem B w0 w L) (k : Nat) {v u : Value} {l m : List Int} (hk : L[k]? = some (rowI e v l))
    (hs : ac.eval s = v) (hx : ac.eval x = u) (hu : IsInts w u m) (hl : l.length + m.length ≤ 1000000)
    (hh : ∀ v' w', Mem B w0 w' (L.set k (rowI e v' (l ++ m))) → w.heap.size ≤ w'.heap.size → (∀ b, b < w.heap.size → v.ownBlock ≠ some b → w'.heap[b]? = w.heap[b]?) → K (ac.put o.dst v') w') :
    if Region.wanted o (yielded ops ac.tmps) = true then Oper.wp P o ac w K Q else E := by
  obtain ⟨v', w', hr, h2, h3, h4, _⟩ := h.run_appIs T o.type k hk hu hl
  exact step_append_eq' hgd s x t ho hs hx hr (hh v' w' h2 h3 h4)
theorem Mem.wp_appIs (T : Elem P t e 1 8 z) {ops : Array Oper} {rest : List Oper} {o : Oper} {ac : Act} {Q : Exit → Act → World → Prop} (hgd : o.guard = none) (s x : Operand)
    (ho : o.op = .call { callee := .builtin .append, args := #[s, x], argTypes := #[t, t] }) (h : Mem B w0 w L) (k : Nat) {v u : Value} {l m : List Int} (hk : L[k]? = some (rowI e v l))
    (hs : ac.eval s = v) (hx : ac.eval x = u) (hu : IsInts w u m) (hl : l.length + m.length ≤ 1000000)
    (hh : ∀ v' w', Mem B w0 w' (L.set k (rowI e v' (l ++ m))) → w.heap.size ≤ w'.heap.size → (∀ b, b < w.heap.size → v.ownBlock ≠ some b → w'.heap[b]? = w.heap[b]?) → wpList P ops Q rest (ac.put o.dst v') w') :
    wpList P ops Q (o :: rest) ac w := by
  refine wpList_plain hgd fun K hK => ?_
  obtain ⟨v', w', hr, h2, h3, h4, _⟩ := h.run_appIs T o.type k hk hu hl
  unfold Oper.wp execOp
  simp only [ho, resolve, invoke, builtin, Sem.run_bind, Sem.run_pure, Result.andThen_ok, List.map_toArray, List.map_cons, List.map_nil, hs, hx, hr]
  exact hK _ _ (hh v' w' h2 h3 h4)
end
end Go.Proofs.Ytnpbdabboecpaaa
