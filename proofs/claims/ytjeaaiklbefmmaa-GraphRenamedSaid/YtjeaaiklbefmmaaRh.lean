/- append as a step of a drawing region among allocations: to an empty slice; of one element to a slice that the call made. -/
import Derived.Test.YtjeaaiklbefmmaaRp
import Derived.Test.YtjeaaiklbefmmaaTt
namespace Go.Proofs.Ytjeaaiklbefmmaa
open Go.RowKit Go.Shelf

section
variable {P : Program} {t e : TypeId} {bytes : Nat} {z : Value}
theorem step_app_fresh (T : Elem P t e 1 bytes z) (hb : bytes ≤ 1000) {ops : Array Oper} {o : Oper} {a : Act} {W : World} {K : Act → World → Prop} {Q : Exit → Act → World → Prop} {E : Prop} (hgd : o.guard = none) (s x : Operand)
    (ho : o.op = .call { callee := .builtin .append, args := #[s, x], argTypes := #[t, t] }) (b46 : Addr) (hs : a.eval s = .slice (some b46) 0 0) (ad : Addr) (m c : Nat) (hx : a.eval x = .slice (some ad) m c)
    (us : List Value) (hl : us.length = m) (hm0 : 0 < m) (hm : m ≤ 1000) (hsrc : ∀ (j : Nat) (u : Value), us[j]? = some u → W.cell? (ad.add j) = some u)
    (hK : ∀ (cap : Nat) (rest : List Value), (us ++ rest).length = cap → cap ≤ maxLen → K (a.put o.dst (.slice (some ⟨W.heap.size, 0, none⟩) m cap)) (W.drew.alloc (.cells (us ++ rest).toArray e))) :
    if Region.wanted o (yielded ops a.tmps) = true then Oper.wp P o a W K Q else E := by
  obtain ⟨i, hi, hz, hsz, hby⟩ := T.info
  have hr := run_append_grow (P := P) W t o.type e i z T.under hi hz b46 0 0 [] (by simp) (by simp) ad m c us (by simp [hl, hsz]) hsrc (by omega) (by omega) (growslice_fits (by omega) (by
    rw [hby]; have := Nat.mul_le_mul (show 0 + m ≤ 1000 by omega) hb; omega))
  rw [Nat.zero_add] at hr
  have hge := grownCap_ge W m 0 e
  have hle := grownCap_le_maxLen W m 0 e (by simp only [maxLen]; omega)
  generalize grownCap W m 0 e = cap at hr hge hle
  have hz1 : z.cells.size = 1 := T.cells
  have harr : (([] : List Value).toArray ++ us.toArray ++ Builtin.zeroCells z.cells (cap - m)) = (us ++ (Builtin.zeroCells z.cells (cap - m)).toList).toArray := by
    apply Array.ext'
    simp
  rw [harr] at hr
  refine step_append_eq hgd s x t ho hs hx hr (hK cap _ ?_ hle)
  rw [List.length_append, hl, Array.length_toList, size_zeroCells, hz1]
  omega

theorem keep_cell {W W' : World} {g : Nat} (h : ∀ b, b < W.heap.size → b ≠ g → W'.heap[b]? = W.heap[b]?) {b j : Nat} (h1 : b < W.heap.size) (h2 : b ≠ g) : W'.cell? ⟨b, j, none⟩ = W.cell? ⟨b, j, none⟩ := by
  simp only [World.cell?, h b h1 h2]
theorem step_app_one (T : Elem P t e 1 bytes z) (hb : bytes ≤ 1000) {ops : Array Oper} {o : Oper} {a : Act} {W : World} {K : Act → World → Prop} {Q : Exit → Act → World → Prop} {E : Prop} (hgd : o.guard = none) (s x : Operand)
    (ho : o.op = .call { callee := .builtin .append, args := #[s, x], argTypes := #[t, t] }) (N g m cap : Nat) (us rest : List Value) (hN : N ≤ g) (hs : a.eval s = .slice (some ⟨g, 0, none⟩) m cap) (hlen : us.length = m)
    (hcap : (us ++ rest).length = cap) (hm : m ≤ 1000) (hcm : cap ≤ maxLen) (hg : W.heap[g]? = some (.cells (us ++ rest).toArray e (0, 0))) (b53 c : Nat) (u : Value) (hx : a.eval x = .slice (some ⟨b53, 0, none⟩) 1 c) (y : Operand) (_hy : a.eval y = u) (hc : W.cell? ⟨b53, 0, none⟩ = some u) (hu : u.oneCell' = true)
    (hK : ∀ (g' cap' : Nat) (W' : World), N ≤ g' → g' < W'.heap.size → Below N W W' → W.heap.size ≤ W'.heap.size → (∀ b, b < W.heap.size → b ≠ g → W'.heap[b]? = W.heap[b]?) →
      (∀ (j : Nat) (v : Value), (us ++ [u])[j]? = some v → W'.cell? ⟨g', j, none⟩ = some v) → (g' = g ∨ W.heap.size ≤ g') → K (a.put o.dst (.slice (some ⟨g', 0, none⟩) (m + 1) cap')) W') :
    if Region.wanted o (yielded ops a.tmps) = true then Oper.wp P o a W K Q else E := by
  have hgl : g < W.heap.size := (Array.getElem?_eq_some_iff.1 hg).1
  have hM : Mem g W W [erow e 1 (.slice (some ⟨g, 0, none⟩) m cap) m us] := by
    refine ⟨Below.refl _ _, Nat.le_of_lt hgl, ?_, by simp⟩
    intro y hy
    simp at hy
    subst hy
    refine row_ok.2 ⟨by omega, .inr ⟨g, cap, _, rfl, Nat.le_refl _, hg, ?_, hcm, by simp at hcap ⊢; omega, ?_⟩⟩
    · simp at hcap; omega
    · rw [Nat.mul_one, ← hlen]; simp
  obtain ⟨v', W', hr, hM2, hsz, hkp, hnil, ad, cap', rfl⟩ := hM.run_append T o.type 0 rfl ⟨b53, 0, none⟩ 1 c [u] (by simp) (by
    intro j y hj
    cases j with
    | zero => simp at hj; subst hj; simpa [Addr.add] using hc
    | succ j => simp at hj) (by intro y hy; simp at hy; subst hy; exact hu) (by simp only [maxLen]; omega) (by
      have := Nat.mul_le_mul (show m + 1 ≤ 1001 by omega) hb; omega)
  have hrow := hM2.row 0 rfl
  rcases hrow.2 with ⟨h0, h1⟩ | ⟨g', cap2, cur, hv, hgg, hg2, _⟩
  · omega
  · cases hv
    refine step_append_eq hgd s x t ho hs hx hr (hK g' cap' W' (by omega) (Array.getElem?_eq_some_iff.1 hg2).1 (hM2.below.mono hN) hsz ?_ ?_ ?_)
    · intro b h1 h2
      exact hkp b h1 (by simp [Value.ownBlock]; omega)
    · intro j y hj
      have hjl := (List.getElem?_eq_some_iff.1 hj).1
      rw [hrow.cellAt j (by simp at hjl; omega)]
      exact hj
    · obtain ⟨i, hi, hz, hsz1, hby⟩ := T.info
      have hnews : ∀ (j : Nat) (y : Value), [u][j]? = some y → W.cell? ((⟨b53, 0, none⟩ : Addr).add j) = some y := by
        intro j y hj
        cases j with
        | zero => simp at hj; subst hj; simpa [Addr.add] using hc
        | succ j => simp at hj
      by_cases hroom : m + 1 ≤ cap
      · have hr3 := run_append_room (P := P) W t o.type e i T.under hi g m cap _ hg ⟨b53, 0, none⟩ 1 c [u] (by simp [hsz1]) hnews (by intro y hy; simp at hy; subst hy; exact hu) hroom (by rw [hsz1]; simp at hcap ⊢; omega)
        rw [hr] at hr3
        cases hr3
        exact .inl rfl
      · have hr3 := run_append_grow (P := P) W t o.type e i z T.under hi hz ⟨g, 0, none⟩ m cap us (by simp [hsz1, hlen]) (by
          intro j y hj
          have hjl := (List.getElem?_eq_some_iff.1 hj).1
          have h1 : W.cell? ⟨g, j, none⟩ = some y := by
            simp only [World.cell?, hg]
            simp [List.getElem?_append_left hjl, hj]
          rcases Nat.eq_zero_or_pos j with rfl | hj0
          · simpa [Addr.add] using h1
          · have hj1 : ¬ j = 0 := by omega
            simpa [Addr.add, hj1] using h1) ⟨b53, 0, none⟩ 1 c [u] (by simp [hsz1]) hnews (by omega) (by omega) (growslice_fits (by omega) (by rw [hby]; have := Nat.mul_le_mul (show m + 1 ≤ 1001 by omega) hb; omega))
        rw [hr] at hr3
        cases hr3
        exact .inr (Nat.le_refl _)
end

/-- The cells of a slice of objects that came in. -/
theorem IsObjs.cells {w : World} {a : Option Addr} {n c : Nat} {l : List (List V)} (h : IsObjs w (.slice a n c) l) (hn : l.length = n) (h0 : 0 < n) :
    ∃ (b off : Nat) (us : List Value), a = some ⟨b, off, none⟩ ∧ us.length = n ∧ b < w.heap.size ∧ (∀ (j : Nat) (u : Value), us[j]? = some u → w.cell? ⟨b, off + j, none⟩ = some u) ∧
      ∀ (j : Nat) (x : List V), l[j]? = some x → ∃ u, us[j]? = some u ∧ IsVals w u x := by
  obtain ⟨x0, hx0⟩ := get_some l 0 (by omega)
  obtain ⟨b, off, cap, u0, hv, hb, _, _, _⟩ := h.at (Below.refl _ _) hx0
  cases hv
  have key : ∀ (j : Nat) (x : List V), l[j]? = some x → ∃ u, w.cell? ⟨b, off + j, none⟩ = some u ∧ IsVals w u x := by
    intro j x hx
    obtain ⟨b2, off2, cap2, u, hv, _, _, h1, h2⟩ := h.at (Below.refl _ _) hx
    cases hv
    exact ⟨u, h1, h2⟩
  refine ⟨b, off, (List.range l.length).map (fun j => (w.cell? ⟨b, off + j, none⟩).getD undef), rfl, by simp, hb, ?_, ?_⟩
  · intro j u hj
    have hjl := (List.getElem?_eq_some_iff.1 hj).1
    simp at hjl
    obtain ⟨x, hx⟩ := get_some l j (by omega)
    obtain ⟨u', h1, _⟩ := key j x hx
    rw [List.getElem?_map, List.getElem?_range (by omega), Option.map_some, h1] at hj
    simp at hj
    rw [h1, hj]
  · intro j x hx
    obtain ⟨u', h1, h2⟩ := key j x hx
    have hjl := (List.getElem?_eq_some_iff.1 hx).1
    exact ⟨u', by rw [List.getElem?_map, List.getElem?_range hjl, Option.map_some, h1]; rfl, h2⟩
theorem heap_at (w : World) (c : Array Value) (t : TypeId) {b : Nat} (h : w.heap.size = b) : (w.alloc (.cells c t)).heap[b]? = some (.cells c t (0, 0)) := by subst h; exact heap_alloc_new w _
theorem cell_at (w : World) (c : Array Value) (t : TypeId) {b j : Nat} {v : Value} (h : w.heap.size = b) (hv : c[j]? = some v) : (w.alloc (.cells c t)).cell? ⟨b, j, none⟩ = some v := by
  subst h; rw [World.cell?_alloc_new]; simpa using hv
theorem heap_drew (w : World) {b : Nat} : w.drew.heap[b]? = w.heap[b]? := rfl
theorem cell_drew (w : World) {b j : Nat} : w.drew.cell? ⟨b, j, none⟩ = w.cell? ⟨b, j, none⟩ := rfl
theorem set2_heap {w : World} {b : Nat} {x y v0 v1 : Value} {t : TypeId} (h : w.heap[b]? = some (.cells #[x, y] t (0, 0))) : ((w.setCell ⟨b, 0, none⟩ v0).setCell ⟨b, 1, none⟩ v1).heap[b]? = some (.cells #[v0, v1] t (0, 0)) := by
  have h1 := heap_setCell_same w b 0 _ t v0 h
  have h2 := heap_setCell_same _ b 1 _ t v1 h1
  simpa using h2
theorem set2_cell {w : World} {b b9 j : Nat} {v0 v1 : Value} (h : b ≠ b9) : ((w.setCell ⟨b9, 0, none⟩ v0).setCell ⟨b9, 1, none⟩ v1).cell? ⟨b, j, none⟩ = w.cell? ⟨b, j, none⟩ := by
  simp only [World.cell?]
  rw [heap_setCell_other _ _ _ _ (by simpa using h), heap_setCell_other _ _ _ _ (by simpa using h)]
theorem heap_old (w : World) (o : Obj) {b : Nat} (h : b < w.heap.size) : (w.alloc o).heap[b]? = w.heap[b]? := heap_alloc_old w o h
theorem cell_old (w : World) (o : Obj) {b j : Nat} (h : b < w.heap.size) : (w.alloc o).cell? ⟨b, j, none⟩ = w.cell? ⟨b, j, none⟩ := by simp only [World.cell?, heap_alloc_old w o h]
theorem have_ {p q : Prop} (h : p) (k : p → q) : q := k h
theorem box_facts {w : World} {b : Nat} {x y : Value} {t : TypeId} (h : w.heap[b]? = some (.cells #[x, y] t (0, 0))) : w.cell? ⟨b, 0, none⟩ = some x ∧ w.cell? ⟨b, 1, none⟩ = some y ∧ w.frozen? ⟨b, 0, none⟩ = false ∧ w.frozen? ⟨b, 1, none⟩ = false := by
  simp [World.cell?, World.frozen?, h]

/-- What the graph with an object more leaves: its box, the row of its objects, the one field of the last. -/
def MoreR (us : List Value) (n : Nat) (vr : Value) (T9 T51 : TypeId) (w4 : World) (s9 : Value) (wx : World) : Prop :=
  ∃ (b9 b51 bO capO : Nat), s9 = .pointer (some ⟨b9, 0, none⟩) ∧ (∀ (j : Nat) (u : Value), (us ++ [.slice (some ⟨b51, 0, none⟩) 1 1])[j]? = some u → wx.cell? ⟨bO, j, none⟩ = some u) ∧
    Below w4.heap.size w4 wx ∧ w4.heap.size ≤ b9 ∧ b9 < wx.heap.size ∧ wx.heap[b9]? = some (.cells #[.slice (some ⟨bO, 0, none⟩) (n + 1) capO, vr] T9 (0, 0)) ∧
    wx.heap[b51]? = some (.cells #[.bool true, .int .i64 0] T51 (0, 0)) ∧ bO < wx.heap.size
theorem leafA {us : List Value} {n : Nat} {vr x y : Value} {T9 T51 : TypeId} {w4 W' : World} {g' cap' b9 b51 : Nat} (hBW : Below w4.heap.size w4 W') (h2 : g' < W'.heap.size)
    (h6 : ∀ (j : Nat) (v : Value), (us ++ [.slice (some ⟨b51, 0, none⟩) 1 1])[j]? = some v → W'.cell? ⟨g', j, none⟩ = some v) (h9 : W'.heap[b9]? = some (.cells #[x, y] T9 (0, 0)))
    (h51 : W'.heap[b51]? = some (.cells #[.bool true, .int .i64 0] T51 (0, 0))) (hN : w4.heap.size ≤ b9) (hne : g' ≠ b9) (hne2 : b51 ≠ b9) :
    MoreR us n vr T9 T51 w4 (.pointer (some ⟨b9, 0, none⟩)) ((W'.setCell ⟨b9, 0, none⟩ (.slice (some ⟨g', 0, none⟩) (n + 1) cap')).setCell ⟨b9, 1, none⟩ vr) := by
  have hlt := (Array.getElem?_eq_some_iff.1 h9).1
  refine ⟨b9, b51, g', cap', rfl, fun j u hj => (set2_cell hne).trans (h6 j u hj), (hBW.setCell hN _).setCell hN _, hN, by simpa using hlt, set2_heap h9, ?_, by simpa using h2⟩
  rw [heap_setCell_other _ _ _ _ (by simpa using hne2), heap_setCell_other _ _ _ _ (by simpa using hne2)]
  exact h51
theorem leafB {us : List Value} {n : Nat} {vr : Value} {T9 T51 : TypeId} {w4 W' : World} {g' cap' b51 : Nat} (hBW : Below w4.heap.size w4 W') (h2 : g' < W'.heap.size)
    (h6 : ∀ (j : Nat) (v : Value), (us ++ [.slice (some ⟨b51, 0, none⟩) 1 1])[j]? = some v → W'.cell? ⟨g', j, none⟩ = some v)
    (h51 : W'.heap[b51]? = some (.cells #[.bool true, .int .i64 0] T51 (0, 0))) :
    MoreR us n vr T9 T51 w4 (.pointer (some ⟨W'.heap.size, 0, none⟩)) (W'.alloc (.cells #[.slice (some ⟨g', 0, none⟩) (n + 1) cap', vr] T9)) := by
  refine ⟨W'.heap.size, b51, g', cap', rfl, fun j u hj => (cell_old _ _ h2).trans (h6 j u hj), hBW.alloc hBW.size _, hBW.size, by simp, heap_at _ _ _ rfl, ?_, by simp; omega⟩
  exact (heap_old _ _ (Array.getElem?_eq_some_iff.1 h51).1).trans h51
end Go.Proofs.Ytjeaaiklbefmmaa
