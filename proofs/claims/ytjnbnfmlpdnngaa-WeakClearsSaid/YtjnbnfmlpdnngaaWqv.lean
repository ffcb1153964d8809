/- slices.Clone of values, walked; values of the call's own, read and written. -/
import Derived.Test.YtjnbnfmlpdnngaaWd
import Derived.Lib.SliceRun
namespace Go.Proofs.Ytjnbnfmlpdnngaa
open Go.RowKit Go.Shelf

/-- The row that []api.Value{} makes. -/
theorem Mem.fresh0V {B : Nat} {w0 w : World} {L : List Ent} (h : Mem B w0 w L) (e : TypeId) : Mem B w0 (w.alloc (.cells #[] e)) (rowV e (.slice (some ⟨w.heap.size, 0, none⟩) 0 0) [] :: L) := by
  refine (h.alloc_ _).cons _ ⟨?_, ?_⟩ ?_
  · intro b e; cases e; exact ⟨h.base, by simp⟩
  · exact ⟨rfl, .inr ⟨w.heap.size, 0, #[], rfl, heap_alloc_new w _, Nat.le_refl _, Nat.zero_le _, rfl, rfl⟩⟩
  · intro y hy b e e'
    cases e
    exact absurd (h.lt hy _ e').2 (Nat.lt_irrefl _)
theorem news_of {w : World} {b off : Nat} {l : List V} (h : ∀ k x, l[k]? = some x → w.cell? ⟨b, off + k * 2, none⟩ = some (.bool x.ref) ∧ w.cell? ⟨b, off + k * 2 + 1, none⟩ = some (.int .i64 x.n)) :
    ∀ j u, (l.flatMap cellsV)[j]? = some u → w.cell? ((⟨b, off, none⟩ : Addr).add j) = some u := by
  intro j u hu
  have e : (⟨b, off, none⟩ : Addr).add j = ⟨b, off + j, none⟩ := by unfold Addr.add; split <;> simp_all
  rw [e]
  have hj : j < l.length * 2 := by rw [← length_cellsV]; exact (List.getElem?_eq_some_iff.1 hu).1
  obtain ⟨x, hx⟩ := get_some l (j / 2) (by omega)
  obtain ⟨h1, h2⟩ := getElem_cellsV l (j / 2) x hx
  obtain ⟨c1, c2⟩ := h (j / 2) x hx
  rcases Nat.mod_two_eq_zero_or_one j with h0 | h0
  · rw [show j / 2 * 2 = j by omega] at h1 c1
    rw [h1] at hu; cases hu; rw [c1]
  · rw [show j / 2 * 2 + 1 = j by omega] at h2
    rw [show off + j / 2 * 2 + 1 = off + j by omega] at c2
    rw [h2] at hu; cases hu; rw [c2]
theorem one_cells (l : List V) : ∀ u ∈ l.flatMap cellsV, u.oneCell' = true := by
  intro u hu
  obtain ⟨x, _, h⟩ := List.mem_flatMap.1 hu
  rcases List.mem_cons.1 h with rfl | h
  · rfl
  · rw [List.mem_singleton.1 h]; rfl
set_option maxRecDepth 100000 in
set_option maxHeartbeats 1000000 in
theorem cloneV_any (w : World) (v : Value) (l : List V) (hl : IsVals w v l) (hn : l.length ≤ 1000) :
    Calls Try.prog 46 #[v] w fun e w' => ∃ v', e = .returned v' ∧ Mem w.heap.size w w' [rowV 84 v' l] := by
  have Hl := Lib.hid hl
  have hq : ∀ (w : World) (a : Option Addr) (n c n' c' : Nat), (binOp .eql 23 (.slice a n c) (.slice none n' c')).run Try.prog w = .ok (.bool a.isNone) w := fun w a n c n' c' => Lib.run_eql_slice_nil w _ _ a n c n' c' Try.underlying23
  obtain ⟨a, cap, rfl, hm, hc⟩ := hl
  cases a with
  | none =>
    obtain rfl : l = [] := by
      cases l with
      | nil => rfl
      | cons x l =>
        obtain ⟨b, off, h, _⟩ := hc 0 x rfl
        cases h
    have hM := Lib.hid ((Mem.start w).nilV 84)
    clear hc Hl
    go_enter Try.func46, Try.ntmps46
    go_wp2
    go_ret
    exact ⟨_, rfl, hM.out⟩
  | some a =>
    have hM0 := (Mem.start w).fresh0V 84
    have hnews : ∀ j u, (l.flatMap cellsV)[j]? = some u → (w.alloc (.cells #[] 84)).cell? (a.add j) = some u := by
      intro j u hu
      have hj : j < l.length * 2 := by rw [← length_cellsV]; exact (List.getElem?_eq_some_iff.1 hu).1
      obtain ⟨x, hx⟩ := get_some l (j / 2) (by omega)
      obtain ⟨b, off, h, hb, _⟩ := hc (j / 2) x hx
      cases h
      refine news_of (fun k y hy => ?_) j u hu
      obtain ⟨b', off', cap', h', _, _, c1, c2, _⟩ := (Hl.out.later ((Below.refl _ w).alloc (Nat.le_refl _) (.cells #[] 84))).at (Below.refl _ _) hy
      cases h'
      exact ⟨c1, c2⟩
    have HM0 := Lib.hid hM0
    have Hnews := Lib.hid hnews
    clear hc hM0 hnews Hl
    go_enter Try.func46, Try.ntmps46
    go_wp2_with (at_builtin; refine Mem.wp_append elemVals rfl (.tmp 5) (.tmp 6) rfl HM0.out 0 rfl rfl a l.length cap (l.flatMap cellsV) rfl (length_cellsV l) Hnews.out (one_cells l) (by simp [maxLen]; omega) (by simp; omega) ?_; intro ad cp w3 hM3 hs3 hk3 ha3)
    go_ret
    exact ⟨_, rfl, hM3.cast (by simp [rowV])⟩
theorem flat_set : ∀ (l : List V) (r : Nat) (v : V), r < l.length → ((l.flatMap cellsV).set (r * 2) (.bool v.ref)).set (r * 2 + 1) (.int .i64 v.n) = (l.set r v).flatMap cellsV
  | [], r, v, h => by simp at h
  | x :: l, 0, v, _ => by simp [cellsV]
  | x :: l, r + 1, v, h => by
    have ih := flat_set l r v (by simpa using h)
    rw [List.flatMap_cons, List.set_cons_succ, List.flatMap_cons]
    have h2 : (cellsV x).length = 2 := rfl
    rw [List.set_append_right _ _ (by rw [h2]; omega), List.set_append_right _ _ (by rw [h2]; omega), h2, show (r + 1) * 2 - 2 = r * 2 by omega, show (r + 1) * 2 + 1 - 2 = r * 2 + 1 by omega, ih]
section
variable {B : Nat} {w0 w : World} {L : List Ent}
/-- A value in a row of the call's own. -/
theorem Mem.valAt (h : Mem B w0 w L) (k : Nat) {e : TypeId} {v : Value} {l : List V} (hk : L[k]? = some (rowV e v l)) {j : Nat} {x : V} (hx : l[j]? = some x) :
    ∃ g cap, v = .slice (some ⟨g, 0, none⟩) l.length cap ∧ w.cell? ⟨g, j * 2, none⟩ = some (.bool x.ref) ∧ w.cell? ⟨g, j * 2 + 1, none⟩ = some (.int .i64 x.n) ∧ (∀ i, w.frozen? ⟨g, i, none⟩ = false) ∧ g < w.heap.size := by
  have hr := h.ownV k hk
  have hlt : j < l.length := (List.getElem?_eq_some_iff.1 hx).1
  obtain ⟨h1, h2⟩ := getElem_cellsV l j x hx
  rcases hr.2 with ⟨_, h0⟩ | ⟨g, cap, cur, rfl, hB, hg, _⟩
  · omega
  · refine ⟨g, cap, rfl, ?_, ?_, fun i => hr.frozenAt i, (Array.getElem?_eq_some_iff.1 hg).1⟩
    · rw [hr.cellAt _ (by omega)]; exact h1
    · rw [hr.cellAt _ (by omega)]; exact h2
theorem Mem.setVal (h : Mem B w0 w L) (k : Nat) {e : TypeId} {g m cap : Nat} {l : List V} (hk : L[k]? = some (rowV e (.slice (some ⟨g, 0, none⟩) m cap) l)) (hm : l.length = m) {j : Nat} (hj : j < l.length) (v : V) :
    Mem B w0 ((w.setCell ⟨g, j * 2, none⟩ (.bool v.ref)).setCell ⟨g, j * 2 + 1, none⟩ (.int .i64 v.n)) (L.set k (rowV e (.slice (some ⟨g, 0, none⟩) m cap) (l.set j v))) := by
  subst hm
  have h1 := h.setRow (n := l.length) k hk (j * 2) (.bool v.ref)
  have hkl : k < L.length := (List.getElem?_eq_some_iff.1 hk).1
  have h2 := h1.setRow (n := l.length) k (by rw [List.getElem?_set_self hkl]) (j * 2 + 1) (.int .i64 v.n)
  refine h2.cast ?_
  rw [List.set_set]
  congr 1
  unfold rowV
  rw [flat_set l j v hj, List.length_set]
end
end Go.Proofs.Ytjnbnfmlpdnngaa
