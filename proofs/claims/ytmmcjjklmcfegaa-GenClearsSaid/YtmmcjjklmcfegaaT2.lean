/- append of a whole list of structs, and of one, to a list of the call's own: as an equation, in a walk, in a region. Plain. -/
import Derived.Test.YtmmcjjklmcfegaaBase1
namespace Go.Proofs.Ytmmcjjklmcfegaa
open Go.RowKit

section
variable {P : Program} {B : Nat} {w0 w : World} {L : List Ent} {t e : TypeId} {z : Value} {α : Type} {sz bytes : Nat} {enc : α → List Value}
/-- append(l, m...): a list that lies anywhere (nil, too) behind a list of the call's own. -/
theorem Mem.run_appTl (T : Elem P t e sz bytes z) (hz : ∀ x, (enc x).length = sz) (h1 : ∀ x, ∀ v ∈ enc x, v.oneCell' = true) (ty : TypeId) (h : Mem B w0 w L) (k : Nat) {v u : Value} {l m : List α} (hk : L[k]? = some (rowT e sz enc v l)) (hu : IsTup sz enc w u m) (hl : l.length + m.length ≤ 1000000) (hb : bytes ≤ 1000) :
    ∃ v' w', (Builtin.append_ #[t, t] ty #[v, u]).run P w = .ok v' w' ∧ Mem B w0 w' (L.set k (rowT e sz enc v' (l ++ m))) ∧ w.heap.size ≤ w'.heap.size ∧
      (∀ b, b < w.heap.size → v.ownBlock ≠ some b → w'.heap[b]? = w.heap[b]?) ∧ ∃ ad cap, v' = .slice ad (l.length + m.length) cap := by
  obtain ⟨a, c, rfl, hm⟩ := hu.slice
  have hrow := h.row k hk
  by_cases h0 : m = []
  · subst h0
    cases a with
    | none =>
      obtain ⟨i, hi, hz, hsz, hby⟩ := T.info
      refine ⟨v, w, ?_, ?_, Nat.le_refl _, fun _ _ _ => rfl, ?_⟩
      · rcases hrow.2 with ⟨rfl, _⟩ | ⟨g, cap, cur, rfl, _, _, hnc, _⟩
        · simp [Builtin.append_, run_underlying T.under, sizeOf, typeInfo, hi, Builtin.lenOf, Builtin.firstCells]
        · simp [Builtin.append_, run_underlying T.under, sizeOf, typeInfo, hi, Builtin.lenOf, Builtin.firstCells, hnc, storeCells]
      · have hkl : k < L.length := (List.getElem?_eq_some_iff.1 hk).1
        have hxe : L[k] = rowT e sz enc v l := by simpa [List.getElem?_eq_getElem hkl] using hk
        refine h.cast ?_
        rw [List.append_nil, ← hxe, List.set_getElem_self]
      · rcases hrow.2 with ⟨rfl, hn⟩ | ⟨g, cap, cur, rfl, _⟩
        · exact ⟨none, 0, by rw [hn]; rfl⟩
        · exact ⟨_, cap, rfl⟩
    | some a =>
      obtain ⟨v', w', h1, h2, h3, h4, _, ad, cap, rfl⟩ := h.run_append T ty k hk a 0 c [] (by simp) (by intro j u hj; cases hj) (by simp) (by simp only [maxLen]; simp at hl; omega) (by have := Nat.mul_le_mul (show l.length + 0 ≤ 1000000 by simpa using hl) hb; omega)
      exact ⟨_, w', h1, h2.cast (by simp [rowT]), h3, h4, ad, cap, rfl⟩
  · obtain ⟨x, hx⟩ := get_some m 0 (by cases m with | nil => exact absurd rfl h0 | cons => simp)
    obtain ⟨b, off, cap2, hv, _⟩ := hu.at (Below.refl _ _) hx
    cases hv
    obtain ⟨v', w', h1, h2, h3, h4, _, ad, cap, rfl⟩ := h.run_append T ty k hk ⟨b, off, none⟩ m.length c (m.flatMap enc) (length_tup hz m) (by
      intro j u hj
      have hs : 0 < sz := T.pos
      have hjl := (List.getElem?_eq_some_iff.1 hj).1
      rw [length_tup hz] at hjl
      have hq : j / sz < m.length := Nat.div_lt_of_lt_mul (by rw [Nat.mul_comm]; exact hjl)
      obtain ⟨y, hy⟩ := get_some m (j / sz) hq
      obtain ⟨b', off', cap3, hv, _, _, hc⟩ := hu.at (Below.refl _ _) hy
      cases hv
      obtain ⟨u2, hu2⟩ := get_some (enc y) (j % sz) (by rw [hz]; exact Nat.mod_lt _ hs)
      have h5 := getElem_tup hz m (j / sz) y hy (j % sz) u2 hu2
      have h6 : j / sz * sz + j % sz = j := by rw [Nat.mul_comm]; exact Nat.div_add_mod j sz
      rw [h6, hj] at h5
      cases h5
      have h7 := hc (j % sz) u hu2
      rw [Nat.add_assoc, h6] at h7
      rw [Addr.add_lit]; exact h7) (by intro u hu; obtain ⟨y, _, h8⟩ := List.mem_flatMap.1 hu; exact h1 y u h8) (by simp only [maxLen]; omega) (by have := Nat.mul_le_mul hl hb; omega)
    exact ⟨_, w', h1, h2.cast (by simp [rowT]), h3, h4, ad, cap, rfl⟩
/-- append(l, m...) in a walk. -/
theorem Mem.wp_appTl (T : Elem P t e sz bytes z) (hz : ∀ x, (enc x).length = sz) (h1 : ∀ x, ∀ v ∈ enc x, v.oneCell' = true) {ops : Array Oper} {rest : List Oper} {o : Oper} {ac : Act} {Q : Exit → Act → World → Prop} (hgd : o.guard = none) (s x : Operand)
    (ho : o.op = .call { callee := .builtin .append, args := #[s, x], argTypes := #[t, t] }) (h : Mem B w0 w L) (k : Nat) {v u : Value} {l m : List α} (hk : L[k]? = some (rowT e sz enc v l))
    (hs : ac.eval s = v) (hx : ac.eval x = u) (hu : IsTup sz enc w u m) (hl : l.length + m.length ≤ 1000000) (hb : bytes ≤ 1000)
    (hh : ∀ v' w', Mem B w0 w' (L.set k (rowT e sz enc v' (l ++ m))) → w.heap.size ≤ w'.heap.size → (∀ b, b < w.heap.size → v.ownBlock ≠ some b → w'.heap[b]? = w.heap[b]?) → wpList P ops Q rest (ac.put o.dst v') w') :
    wpList P ops Q (o :: rest) ac w := by
  refine wpList_plain hgd fun K hK => ?_
  obtain ⟨v', w', hr, h2, h3, h4, _⟩ := h.run_appTl T hz h1 o.type k hk hu hl hb
  unfold Oper.wp execOp
  simp only [ho, resolve, invoke, builtin, Sem.run_bind, Sem.run_pure, Result.andThen_ok, List.map_toArray, List.map_cons, List.map_nil, hs, hx, hr]
  exact hK _ _ (hh v' w' h2 h3 h4)
/-- append(l, m...) in a region that draws its order. -/
theorem Mem.step_appTl {K : Act → World → Prop} {E : Prop} (T : Elem P t e sz bytes z) (hz : ∀ x, (enc x).length = sz) (h1 : ∀ x, ∀ v ∈ enc x, v.oneCell' = true) {ops : Array Oper} {o : Oper} {ac : Act} {Q : Exit → Act → World → Prop} (hgd : o.guard = none) (s x : Operand)
    (ho : o.op = .call { callee := .builtin .append, args := #[s, x], argTypes := #[t, t] }) (h : Mem B w0 w L) (k : Nat) {v u : Value} {l m : List α} (hk : L[k]? = some (rowT e sz enc v l))
    (hs : ac.eval s = v) (hx : ac.eval x = u) (hu : IsTup sz enc w u m) (hl : l.length + m.length ≤ 1000000) (hb : bytes ≤ 1000)
    (hh : ∀ v' w', Mem B w0 w' (L.set k (rowT e sz enc v' (l ++ m))) → w.heap.size ≤ w'.heap.size → (∀ b, b < w.heap.size → v.ownBlock ≠ some b → w'.heap[b]? = w.heap[b]?) → K (ac.put o.dst v') w') :
    if Region.wanted o (yielded ops ac.tmps) = true then Oper.wp P o ac w K Q else E := by
  obtain ⟨v', w', hr, h2, h3, h4, _⟩ := h.run_appTl T hz h1 o.type k hk hu hl hb
  exact step_append_eq' hgd s x t ho hs hx hr (hh v' w' h2 h3 h4)
/-- One element in a block of its own, as a list of one. -/
theorem isTup_one (x : α) (c : Array Value) (hc : c.toList = enc x) (ty : TypeId) : IsTup sz enc (w.alloc (.cells c ty)) (.slice (some ⟨w.heap.size, 0, none⟩) 1 1) [x] := by
  refine ⟨_, 1, rfl, by simp, fun k y hy => ?_⟩
  match k, hy with
  | 0, hy =>
    cases hy
    refine ⟨w.heap.size, 0, rfl, by simp, fun j u hu => ?_⟩
    simp only [Nat.zero_mul, Nat.zero_add]
    rw [World.cell?_alloc_new]
    rw [← hc] at hu
    simpa using hu
  | k + 1, hy => simp at hy
end
end Go.Proofs.Ytmmcjjklmcfegaa
