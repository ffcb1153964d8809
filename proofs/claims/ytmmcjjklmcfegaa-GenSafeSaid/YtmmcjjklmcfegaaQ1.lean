/- slices.Clone of values, heap.First, heap.Of, walked. -/
import Derived.Test.YtmmcjjklmcfegaaQ0
import Derived.Test.YtmmcjjklmcfegaaCw
import Derived.Lib.SliceRun
namespace Go.Proofs.Ytmmcjjklmcfegaa
open Go.RowKit Go.Shelf

/-- The row that []api.Value{} makes. -/
theorem Mem.fresh0V {B : Nat} {w0 w : World} {L : List Ent} (h : Mem B w0 w L) (e : TypeId) : Mem B w0 (w.alloc (.cells #[] e)) (rowV e (.slice (some ⟨w.heap.size, 0, none⟩) 0 0) [] :: L) := by
  refine (h.alloc_ _).cons _ ⟨?_, ?_⟩ ?_
  · intro b e; cases e; exact ⟨h.base, by simp⟩
  · exact ⟨rfl, .inr ⟨w.heap.size, 0, #[], rfl, heap_alloc_new w _, Nat.le_refl _, Nat.zero_le _, rfl, rfl⟩⟩
  · intro y hy b e e'
    cases e
    exact absurd (h.lt hy _ e').2 (Nat.lt_irrefl _)
theorem news_of {w : World} {b off : Nat} {l : List V} (h : ∀ k x, l[k]? = some x → w.cell? ⟨b, off + k * 2, none⟩ = some (.bool x.ref) ∧ w.cell? ⟨b, off + k * 2 + 1, none⟩ = some (.int .i64 x.n)) :
    ∀ j u, (l.flatMap cellsV)[j]? = some u → w.cell? ((⟨b, off, none⟩ : Addr).add j) = some u := by
  intro j u hu
  have e : (⟨b, off, none⟩ : Addr).add j = ⟨b, off + j, none⟩ := by unfold Addr.add; split <;> simp_all
  rw [e]
  have hj : j < l.length * 2 := by rw [← length_cellsV]; exact (List.getElem?_eq_some_iff.1 hu).1
  obtain ⟨x, hx⟩ := get_some l (j / 2) (by omega)
  obtain ⟨h1, h2⟩ := getElem_cellsV l (j / 2) x hx
  obtain ⟨c1, c2⟩ := h (j / 2) x hx
  rcases Nat.mod_two_eq_zero_or_one j with h0 | h0
  · rw [show j / 2 * 2 = j by omega] at h1 c1
    rw [h1] at hu; cases hu; rw [c1]
  · rw [show j / 2 * 2 + 1 = j by omega] at h2
    rw [show off + j / 2 * 2 + 1 = off + j by omega] at c2
    rw [h2] at hu; cases hu; rw [c2]
theorem one_cells (l : List V) : ∀ u ∈ l.flatMap cellsV, u.oneCell' = true := by
  intro u hu
  obtain ⟨x, _, h⟩ := List.mem_flatMap.1 hu
  rcases List.mem_cons.1 h with rfl | h
  · rfl
  · rw [List.mem_singleton.1 h]; rfl
set_option maxRecDepth 100000 in
set_option maxHeartbeats 1000000 in
theorem cloneV_any (w : World) (v : Value) (l : List V) (hl : IsVals w v l) (hn : l.length ≤ 1000) :
    Calls Try.prog 62 #[v] w fun e w' => ∃ v', e = .returned v' ∧ Mem w.heap.size w w' [rowV 80 v' l] := by
  have Hl := Lib.hid hl
  have hq : ∀ (w : World) (a : Option Addr) (n c n' c' : Nat), (binOp .eql 23 (.slice a n c) (.slice none n' c')).run Try.prog w = .ok (.bool a.isNone) w := fun w a n c n' c' => Lib.run_eql_slice_nil w _ _ a n c n' c' Try.underlying23
  obtain ⟨a, cap, rfl, hm, hc⟩ := hl
  cases a with
  | none =>
    obtain rfl : l = [] := by
      cases l with
      | nil => rfl
      | cons x l =>
        obtain ⟨b, off, h, _⟩ := hc 0 x rfl
        cases h
    have hM := Lib.hid ((Mem.start w).nilV 80)
    clear hc Hl
    go_enter Try.func62, Try.ntmps62
    go_wp2
    go_ret
    exact ⟨_, rfl, hM.out⟩
  | some a =>
    have hM0 := (Mem.start w).fresh0V 80
    have hnews : ∀ j u, (l.flatMap cellsV)[j]? = some u → (w.alloc (.cells #[] 80)).cell? (a.add j) = some u := by
      intro j u hu
      have hj : j < l.length * 2 := by rw [← length_cellsV]; exact (List.getElem?_eq_some_iff.1 hu).1
      obtain ⟨x, hx⟩ := get_some l (j / 2) (by omega)
      obtain ⟨b, off, h, hb, _⟩ := hc (j / 2) x hx
      cases h
      refine news_of (fun k y hy => ?_) j u hu
      obtain ⟨b', off', cap', h', _, _, c1, c2, _⟩ := (Hl.out.later ((Below.refl _ w).alloc (Nat.le_refl _) (.cells #[] 80))).at (Below.refl _ _) hy
      cases h'
      exact ⟨c1, c2⟩
    have HM0 := Lib.hid hM0
    have Hnews := Lib.hid hnews
    clear hc hM0 hnews Hl
    go_enter Try.func62, Try.ntmps62
    go_wp2_with (at_builtin; refine Mem.wp_append elemVals rfl (.tmp 5) (.tmp 6) rfl HM0.out 0 rfl rfl a l.length cap (l.flatMap cellsV) rfl (length_cellsV l) Hnews.out (one_cells l) (by simp [maxLen]; omega) (by simp; omega) ?_; intro ad cp w3 hM3 hs3 hk3 ha3)
    go_ret
    exact ⟨_, rfl, hM3.cast (by simp [rowV])⟩

/-- The registers of some roots. -/
def firstR (l : List V) : List V := l ++ List.replicate (8 - l.length) ⟨false, 0⟩
theorem firstR_len {l : List V} (h : l.length ≤ 8) : (firstR l).length = 8 := by simp [firstR]; omega
def regsV (l : List V) : Value := .agg (l.flatMap cellsV).toArray
theorem drop_zeros {n m : Nat} (h : n ≤ m) : List.drop (n * 2) ((zerosV m).flatMap cellsV) = (List.replicate (m - n) (⟨false, 0⟩ : V)).flatMap cellsV := by
  have h1 : zerosV m = List.replicate n ⟨false, 0⟩ ++ List.replicate (m - n) ⟨false, 0⟩ := by rw [List.replicate_append_replicate]; unfold zerosV; congr 1; omega
  rw [h1, List.flatMap_append, List.drop_append_of_le_length (by rw [length_cellsV]; simp), List.drop_of_length_le (by rw [length_cellsV]; simp), List.nil_append]
/-- All cells of a box anew. -/
theorem Mem.setAll {B : Nat} {w0 w : World} {L : List Ent} (h : Mem B w0 w L) (k : Nat) {b : Nat} {c c' : Array Value} {t : TypeId} (hk : L[k]? = some (ebox b c t)) {l : List Value} (hl : l.toArray = c') : Mem B w0 (w.setRow b l.toArray) (L.set k (ebox b c' t)) := by
  have hb := h.box k hk
  refine h.turn k hk ⟨rfl, rfl, rfl, by simp [World.setRow], fun i _ hi => setRow_other _ _ _ _ (fun e => hi (by rw [e]; rfl))⟩ ⟨?_, ?_⟩ (fun b' e => .inl e)
  · intro b' e; cases e; exact ⟨hb.1, by simpa [World.setRow] using hb.2.1⟩
  · show (w.setRow b l.toArray).heap[b]? = _
    rw [← hl]
    exact setRow_heap _ _ _ _ _ _ hb.2.2
theorem eight {α : Type} {l : List α} (h : l.length = 8) : ∃ a b c d e f g i, l = [a, b, c, d, e, f, g, i] := by
  match l, h with
  | [a, b, c, d, e, f, g, i], _ => exact ⟨a, b, c, d, e, f, g, i, rfl⟩
set_option maxRecDepth 100000 in
set_option maxHeartbeats 1000000 in
theorem first_any (g : G) (v : Value) (w : World) (hg : IsGraph w v g) (h8 : g.roots.length ≤ 8) :
    Calls Try.prog 38 #[v] w fun e w' => e = .returned (regsV (firstR g.roots)) ∧ Below w.heap.size w w' := by
  obtain ⟨vo, vr, rfl, ho, hr⟩ := hg
  obtain ⟨ao, co, rfl, hlo⟩ := ho.slice
  have Hr := Lib.hid hr
  obtain ⟨ar, cr, rfl, hlr, hc⟩ := hr
  have hM0 := (((Mem.start w).alloc #[.slice ao g.objs.length co, .slice ar g.roots.length cr] 25).alloc #[.bool false, .int .i64 0, .bool false, .int .i64 0, .bool false, .int .i64 0, .bool false, .int .i64 0, .bool false, .int .i64 0, .bool false, .int .i64 0, .bool false, .int .i64 0, .bool false, .int .i64 0] 82).alloc #[.bool false, .int .i64 0, .bool false, .int .i64 0, .bool false, .int .i64 0, .bool false, .int .i64 0, .bool false, .int .i64 0, .bool false, .int .i64 0, .bool false, .int .i64 0, .bool false, .int .i64 0] 82
  simp only [World.size_alloc] at hM0
  have hM1 : Mem w.heap.size w _ [ebox (w.heap.size + 1 + 1) #[.bool false, .int .i64 0, .bool false, .int .i64 0, .bool false, .int .i64 0, .bool false, .int .i64 0, .bool false, .int .i64 0, .bool false, .int .i64 0, .bool false, .int .i64 0, .bool false, .int .i64 0] 82, ebox (w.heap.size + 1) #[.bool false, .int .i64 0, .bool false, .int .i64 0, .bool false, .int .i64 0, .bool false, .int .i64 0, .bool false, .int .i64 0, .bool false, .int .i64 0, .bool false, .int .i64 0, .bool false, .int .i64 0] 82, ebox w.heap.size #[.slice ao g.objs.length co, .slice ar g.roots.length cr] 25] := hM0
  obtain ⟨W, hW⟩ : ∃ W, (((w.alloc (.cells #[.slice ao g.objs.length co, .slice ar g.roots.length cr] 25)).alloc (.cells #[.bool false, .int .i64 0, .bool false, .int .i64 0, .bool false, .int .i64 0, .bool false, .int .i64 0, .bool false, .int .i64 0, .bool false, .int .i64 0, .bool false, .int .i64 0, .bool false, .int .i64 0] 82)).alloc (.cells #[.bool false, .int .i64 0, .bool false, .int .i64 0, .bool false, .int .i64 0, .bool false, .int .i64 0, .bool false, .int .i64 0, .bool false, .int .i64 0, .bool false, .int .i64 0, .bool false, .int .i64 0] 82)) = W := ⟨_, rfl⟩
  have HW := Lib.hid hW
  rw [hW] at hM1
  have g1 := hM1.cell 2 rfl 1
  have gb := (hM1.box 2 rfl).2.1
  have rb := (hM1.box 0 rfl).2.1
  have hh := (hM1.box 0 rfl).2.2
  have HM1 := Lib.hid hM1
  clear hM0 hM1 hW
  obtain ⟨cs, hcs⟩ : ∃ cs, (firstR g.roots).flatMap cellsV = cs := ⟨_, rfl⟩
  obtain ⟨v0, v1, v2, v3, v4, v5, v6, v7, hv8⟩ := eight (firstR_len h8)
  have hcopy : ∃ W1, (∀ ty, (Builtin.copy_ #[23, 23] ty #[.slice (some ⟨w.heap.size + 1 + 1, 0, none⟩) 8 8, .slice ar g.roots.length cr]).run Try.prog W.drew = .ok (goInt g.roots.length) W1) ∧ Mem w.heap.size w W1 [ebox (w.heap.size + 1 + 1) #[.bool v0.ref, .int .i64 v0.n, .bool v1.ref, .int .i64 v1.n, .bool v2.ref, .int .i64 v2.n, .bool v3.ref, .int .i64 v3.n, .bool v4.ref, .int .i64 v4.n, .bool v5.ref, .int .i64 v5.n, .bool v6.ref, .int .i64 v6.n, .bool v7.ref, .int .i64 v7.n] 82, ebox (w.heap.size + 1) #[.bool false, .int .i64 0, .bool false, .int .i64 0, .bool false, .int .i64 0, .bool false, .int .i64 0, .bool false, .int .i64 0, .bool false, .int .i64 0, .bool false, .int .i64 0, .bool false, .int .i64 0] 82, ebox w.heap.size #[.slice ao g.objs.length co, .slice ar g.roots.length cr] 25] := by
    have hcells : (firstR g.roots).flatMap cellsV = [.bool v0.ref, .int .i64 v0.n, .bool v1.ref, .int .i64 v1.n, .bool v2.ref, .int .i64 v2.n, .bool v3.ref, .int .i64 v3.n, .bool v4.ref, .int .i64 v4.n, .bool v5.ref, .int .i64 v5.n, .bool v6.ref, .int .i64 v6.n, .bool v7.ref, .int .i64 v7.n] := by rw [hv8]; rfl
    obtain ⟨i, hi, hz, hs, hb⟩ := (show Elem Try.prog 23 80 2 16 (.agg #[.bool false, .int .i64 0]) from elemVals).info
    by_cases h0 : g.roots = []
    · refine ⟨W.drew, fun ty => ?_, HM1.out.drew.cast ?_⟩
      · rw [h0]
        exact run_copy_zero ty _ _ _ i elemVals.under hi _ 8 8 ar cr W.drew
      · have hz8 : firstR g.roots = zerosV 8 := by rw [h0]; rfl
        rw [hz8] at hv8
        have h1 : zerosV 8 = [⟨false, 0⟩, ⟨false, 0⟩, ⟨false, 0⟩, ⟨false, 0⟩, ⟨false, 0⟩, ⟨false, 0⟩, ⟨false, 0⟩, ⟨false, 0⟩] := rfl
        rw [h1] at hv8
        cases hv8
        rfl
    · obtain ⟨x, hx⟩ := get_some g.roots 0 (List.length_pos_iff.2 h0)
      obtain ⟨ba, oa, rfl, hba, _⟩ := hc 0 x hx
      have hfl : (g.roots.flatMap cellsV).length = g.roots.length * 2 := length_cellsV _
      have hsp : splice #[.bool false, .int .i64 0, .bool false, .int .i64 0, .bool false, .int .i64 0, .bool false, .int .i64 0, .bool false, .int .i64 0, .bool false, .int .i64 0, .bool false, .int .i64 0, .bool false, .int .i64 0].toList 0 (g.roots.flatMap cellsV) = (firstR g.roots).flatMap cellsV := by
        unfold splice firstR
        rw [List.flatMap_append, hfl]
        simp only [List.take_zero, List.nil_append, Nat.zero_add]
        congr 1
        exact drop_zeros h8
      have hhd : W.drew.heap[w.heap.size + 1 + 1]? = some (.cells #[.bool false, .int .i64 0, .bool false, .int .i64 0, .bool false, .int .i64 0, .bool false, .int .i64 0, .bool false, .int .i64 0, .bool false, .int .i64 0, .bool false, .int .i64 0, .bool false, .int .i64 0].toList.toArray 82 (0, 0)) := (HM1.out.drew.box 0 rfl).2.2
      refine ⟨W.drew.setRow (w.heap.size + 1 + 1) (splice #[.bool false, .int .i64 0, .bool false, .int .i64 0, .bool false, .int .i64 0, .bool false, .int .i64 0, .bool false, .int .i64 0, .bool false, .int .i64 0, .bool false, .int .i64 0, .bool false, .int .i64 0].toList 0 (g.roots.flatMap cellsV)).toArray, fun ty => ?_, ?_⟩
      · refine run_copy_wide (w := W.drew) ty _ _ _ i elemVals.under hi (w.heap.size + 1 + 1) 0 8 8 ⟨ba, oa, none⟩ g.roots.length cr g.roots.length #[.bool false, .int .i64 0, .bool false, .int .i64 0, .bool false, .int .i64 0, .bool false, .int .i64 0, .bool false, .int .i64 0, .bool false, .int .i64 0, .bool false, .int .i64 0, .bool false, .int .i64 0].toList 82 (g.roots.flatMap cellsV) hhd ?_ (by rw [hs]; exact hfl) ?_ (by rw [hfl]; simp; omega) (one_cells _)
        · exact (Nat.min_eq_left h8).symm
        · refine news_of (fun k y hy => ?_)
          obtain ⟨b', off', cap', h', _, _, c1, c2, _⟩ := Hr.out.at HM1.out.drew.below hy
          cases h'
          exact ⟨c1, c2⟩
      · rw [hsp, hcells]
        exact HM1.out.drew.setAll 0 rfl rfl
  obtain ⟨W1, hrun, hM2⟩ := hcopy
  have hrun2 : ∀ ty, (Builtin.copy_ #[23, 23] ty #[.slice (some ⟨w.heap.size + 1 + 1, 0, none⟩) 8 8, .slice ar g.roots.length cr]).run Try.prog W.drew = .ok (goInt g.roots.length) W1 := hrun
  have k0 := hM2.cell 0 rfl 0
  have k1 := hM2.cell 0 rfl 1
  have k2 := hM2.cell 0 rfl 2
  have k3 := hM2.cell 0 rfl 3
  have k4 := hM2.cell 0 rfl 4
  have k5 := hM2.cell 0 rfl 5
  have k6 := hM2.cell 0 rfl 6
  have k7 := hM2.cell 0 rfl 7
  have k8 := hM2.cell 0 rfl 8
  have k9 := hM2.cell 0 rfl 9
  have k10 := hM2.cell 0 rfl 10
  have k11 := hM2.cell 0 rfl 11
  have k12 := hM2.cell 0 rfl 12
  have k13 := hM2.cell 0 rfl 13
  have k14 := hM2.cell 0 rfl 14
  have k15 := hM2.cell 0 rfl 15
  have r0 := hM2.cell 1 rfl 0
  have f0 := hM2.free 1 rfl 0
  have r1 := hM2.cell 1 rfl 1
  have f1 := hM2.free 1 rfl 1
  have r2 := hM2.cell 1 rfl 2
  have f2 := hM2.free 1 rfl 2
  have r3 := hM2.cell 1 rfl 3
  have f3 := hM2.free 1 rfl 3
  have r4 := hM2.cell 1 rfl 4
  have f4 := hM2.free 1 rfl 4
  have r5 := hM2.cell 1 rfl 5
  have f5 := hM2.free 1 rfl 5
  have r6 := hM2.cell 1 rfl 6
  have f6 := hM2.free 1 rfl 6
  have r7 := hM2.cell 1 rfl 7
  have f7 := hM2.free 1 rfl 7
  have r8 := hM2.cell 1 rfl 8
  have f8 := hM2.free 1 rfl 8
  have r9 := hM2.cell 1 rfl 9
  have f9 := hM2.free 1 rfl 9
  have r10 := hM2.cell 1 rfl 10
  have f10 := hM2.free 1 rfl 10
  have r11 := hM2.cell 1 rfl 11
  have f11 := hM2.free 1 rfl 11
  have r12 := hM2.cell 1 rfl 12
  have f12 := hM2.free 1 rfl 12
  have r13 := hM2.cell 1 rfl 13
  have f13 := hM2.free 1 rfl 13
  have r14 := hM2.cell 1 rfl 14
  have f14 := hM2.free 1 rfl 14
  have r15 := hM2.cell 1 rfl 15
  have f15 := hM2.free 1 rfl 15
  have b0 := (hM2.box 0 rfl).2.1
  have b1 := (hM2.box 1 rfl).2.1
  have HM2 := Lib.hid hM2
  clear hM2 hrun hcs
  go_enter Try.func38, Try.ntmps38
  go_wp2_with fail
  rw [HW.out]
  go_still_tail 3, (by kernel_rfl)
  go_wp2_with (at_builtin; refine wpList_copy_wide rfl (.tmp 4) (.tmp 6) _ _ rfl rfl rfl hrun2 ?_)
  have hM8 := ((((((((((((((((HM2.out.setBox 1 rfl 0 (.bool v0.ref)).setBox 1 rfl 1 (.int .i64 v0.n)).setBox 1 rfl 2 (.bool v1.ref)).setBox 1 rfl 3 (.int .i64 v1.n)).setBox 1 rfl 4 (.bool v2.ref)).setBox 1 rfl 5 (.int .i64 v2.n)).setBox 1 rfl 6 (.bool v3.ref)).setBox 1 rfl 7 (.int .i64 v3.n)).setBox 1 rfl 8 (.bool v4.ref)).setBox 1 rfl 9 (.int .i64 v4.n)).setBox 1 rfl 10 (.bool v5.ref)).setBox 1 rfl 11 (.int .i64 v5.n)).setBox 1 rfl 12 (.bool v6.ref)).setBox 1 rfl 13 (.int .i64 v6.n)).setBox 1 rfl 14 (.bool v7.ref)).setBox 1 rfl 15 (.int .i64 v7.n))
  have hM9 := hM8.cast (L' := [ebox (w.heap.size + 1 + 1) #[.bool v0.ref, .int .i64 v0.n, .bool v1.ref, .int .i64 v1.n, .bool v2.ref, .int .i64 v2.n, .bool v3.ref, .int .i64 v3.n, .bool v4.ref, .int .i64 v4.n, .bool v5.ref, .int .i64 v5.n, .bool v6.ref, .int .i64 v6.n, .bool v7.ref, .int .i64 v7.n] 82, ebox (w.heap.size + 1) #[.bool v0.ref, .int .i64 v0.n, .bool v1.ref, .int .i64 v1.n, .bool v2.ref, .int .i64 v2.n, .bool v3.ref, .int .i64 v3.n, .bool v4.ref, .int .i64 v4.n, .bool v5.ref, .int .i64 v5.n, .bool v6.ref, .int .i64 v6.n, .bool v7.ref, .int .i64 v7.n] 82, ebox w.heap.size #[.slice ao g.objs.length co, .slice ar g.roots.length cr] 25]) (by simp)
  obtain ⟨W9, hW9⟩ : ∃ W9, W9 = ((((((((((((((((W1.setCell ⟨w.heap.size + 1, 0, none⟩ (.bool v0.ref)).setCell ⟨w.heap.size + 1, 1, none⟩ (.int .i64 v0.n)).setCell ⟨w.heap.size + 1, 2, none⟩ (.bool v1.ref)).setCell ⟨w.heap.size + 1, 3, none⟩ (.int .i64 v1.n)).setCell ⟨w.heap.size + 1, 4, none⟩ (.bool v2.ref)).setCell ⟨w.heap.size + 1, 5, none⟩ (.int .i64 v2.n)).setCell ⟨w.heap.size + 1, 6, none⟩ (.bool v3.ref)).setCell ⟨w.heap.size + 1, 7, none⟩ (.int .i64 v3.n)).setCell ⟨w.heap.size + 1, 8, none⟩ (.bool v4.ref)).setCell ⟨w.heap.size + 1, 9, none⟩ (.int .i64 v4.n)).setCell ⟨w.heap.size + 1, 10, none⟩ (.bool v5.ref)).setCell ⟨w.heap.size + 1, 11, none⟩ (.int .i64 v5.n)).setCell ⟨w.heap.size + 1, 12, none⟩ (.bool v6.ref)).setCell ⟨w.heap.size + 1, 13, none⟩ (.int .i64 v6.n)).setCell ⟨w.heap.size + 1, 14, none⟩ (.bool v7.ref)).setCell ⟨w.heap.size + 1, 15, none⟩ (.int .i64 v7.n)) := ⟨_, rfl⟩
  rw [← hW9] at hM9 ⊢
  have c0 := hM9.cell 1 rfl 0
  have c1 := hM9.cell 1 rfl 1
  have c2 := hM9.cell 1 rfl 2
  have c3 := hM9.cell 1 rfl 3
  have c4 := hM9.cell 1 rfl 4
  have c5 := hM9.cell 1 rfl 5
  have c6 := hM9.cell 1 rfl 6
  have c7 := hM9.cell 1 rfl 7
  have c8 := hM9.cell 1 rfl 8
  have c9 := hM9.cell 1 rfl 9
  have c10 := hM9.cell 1 rfl 10
  have c11 := hM9.cell 1 rfl 11
  have c12 := hM9.cell 1 rfl 12
  have c13 := hM9.cell 1 rfl 13
  have c14 := hM9.cell 1 rfl 14
  have c15 := hM9.cell 1 rfl 15
  have HM9 := Lib.hid hM9.below
  clear hM8 hM9 hW9 HM2 k0 r0 f0 k1 r1 f1 k2 r2 f2 k3 r3 f3 k4 r4 f4 k5 r5 f5 k6 r6 f6 k7 r7 f7 k8 r8 f8 k9 r9 f9 k10 r10 f10 k11 r11 f11 k12 r12 f12 k13 r13 f13 k14 r14 f14 k15 r15 f15
  refine bodyPost_ret (v := regsV (firstR g.roots)) (by rw [hv8]; simp [results, Try.results38, go_sem, regsV, cellsV, c0, c1, c2, c3, c4, c5, c6, c7, c8, c9, c10, c11, c12, c13, c14, c15]) rfl ⟨rfl, HM9.out⟩
end Go.Proofs.Ytmmcjjklmcfegaa
