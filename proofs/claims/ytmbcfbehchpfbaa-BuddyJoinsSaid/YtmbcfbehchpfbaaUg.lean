/- slices.Insert of one block, walked. -/
import Derived.Test.YtmbcfbehchpfbaaUf
import Derived.Lib.Overlaps
namespace Go.Proofs.Ytmbcfbehchpfbaa
open Go.RowKit

theorem no_overlap (w : World) (vb g off lb cb m vc tA kA : Nat) (tB : TypeId) (cs : Array Value) (cur : List Value) (hv : w.heap[vb]? = some (.cells cs tA (0, 0))) (hk : cs.size = kA) (hg : w.heap[g]? = some (.cells cur.toArray tB (0, 0))) (hne : vb ≠ g) (h0 : cur.length ≠ 0) :
    (callFunc 71 #[.slice (some ⟨vb, 0, none⟩) m vc, .slice (some ⟨g, off, none⟩) lb cb]).run Try.prog w = .ok (.value (.bool false)) w := by
  have hsz : ∀ w, (Go.sizeOf 34).run Try.prog w = .ok 2 w := fun w => by kernel_rfl
  rw [run_callFunc_extern Try.func71 (by kernel_rfl) (by kernel_rfl) (by kernel_rfl) (e := Extern.SlicesOverlaps.overlaps #[25, 25] #[4]) (by kernel_rfl),
    Lib.run_overlaps_apart w 25 4 34 elemBlocks.under 2 hsz ⟨vb, 0, none⟩ ⟨g, off, none⟩ m vc lb cb hne tA tB kA cur.length (by simp [World.shape?, hv, hk]) (by simp [World.shape?, hg]) h0 (by simp [World.frozen?, hv]) (by simp [World.frozen?, hv])]
  rfl
def InsSays (B : Nat) (w0 w : World) (L : List Ent) (k : Nat) (l : List (Nat × Nat)) (i : Nat) (x : Nat × Nat) (e : Ending) (w' : World) : Prop :=
  ∃ a n c, e = .returned (.slice a n c) ∧ Mem B w0 w' (L.set k (rowB (.slice a n c) (l.insertIdx i x))) ∧ w.heap.size ≤ w'.heap.size
set_option maxRecDepth 100000 in
set_option maxHeartbeats 1000000 in
theorem insert_end (B : Nat) (w0 w : World) (L : List Ent) (k vb vc : Nat) (tA : TypeId) (v : Value) (l : List (Nat × Nat)) (x : Nat × Nat) (hM : Mem B w0 w L) (hk : L[k]? = some (rowB v l)) (hl : l.length ≤ 1000)
    (hv : w.heap[vb]? = some (.cells (encB x).toArray tA (0, 0))) :
    Calls Try.prog 54 #[v, .int .i64 (l.length : Int), .slice (some ⟨vb, 0, none⟩) 1 vc] w (InsSays B w0 w L k l l.length x) := by
  obtain ⟨a, m, c, rfl⟩ := own_slice (hM.row k hk)
  obtain ⟨n, hn⟩ : ∃ n, l.length = n := ⟨_, rfl⟩
  have hm : m = n ∧ n ≤ c := by
    rcases (hM.row k hk).2 with ⟨h1, h2⟩ | ⟨g, cap, cur, h1, _, _, h2, _⟩
    · cases h1; omega
    · cases h1; omega
  obtain ⟨rfl, hc⟩ := hm
  have hk' := hk
  unfold rowB rowT at hk'
  rw [hn] at hk' hl ⊢
  have hvc : ∀ j u, (encB x)[j]? = some u → w.cell? ((⟨vb, 0, none⟩ : Addr).add j) = some u := by
    intro j u hu
    rw [Addr.add_lit, Nat.zero_add]
    simpa [World.cell?, hv] using hu
  obtain ⟨v', w', hr, h2, h3, h4, h5, ad, cap, rfl⟩ := hM.run_append elemBlocks 25 k hk' ⟨vb, 0, none⟩ 1 vc (encB x) rfl hvc (encB_one x) (by simp only [maxLen]; omega) (by omega)
  have hty : ∀ ty, (Builtin.append_ #[25, 25] ty #[.slice a m c, .slice (some ⟨vb, 0, none⟩) 1 vc]).run Try.prog w = .ok (.slice ad (m + 1) cap) w' := fun _ => hr
  have hi : l.insertIdx l.length x = l ++ [x] := by simp
  rw [hn] at hi
  have HR := Lib.hid hty
  have hM2 : Mem B w0 w' (L.set k (rowB (.slice ad (m + 1) cap) (l.insertIdx m x))) := h2.cast (by unfold rowB rowT; rw [hi]; simp [hn])
  have HM2 := Lib.hid hM2
  have hq0 : (0 : Int) ≤ (m : Int) := by omega
  have hq1 : m ≤ m := Nat.le_refl _
  clear hk hk' hv hvc hr hty h2 h4 h5 hM2 hi hM hn
  go_enter Try.func54, Try.ntmps54
  go_wp2_with (at_builtin; refine wpList_append_run rfl (.tmp 23) (.tmp 24) _ _ rfl rfl rfl (fun ty => HR.out ty) ?_)
  all_goals
    go_ret
    exact ⟨_, _, _, rfl, HM2.out, h3⟩
set_option maxRecDepth 100000 in
set_option maxHeartbeats 1000000 in
theorem insert_room (B : Nat) (w0 w : World) (L : List Ent) (k vb vc g n cap i : Nat) (tA : TypeId) (l : List (Nat × Nat)) (x : Nat × Nat) (hM : Mem B w0 w L) (hk : L[k]? = some (rowB (.slice (some ⟨g, 0, none⟩) n cap) l)) (hn : l.length = n) (hl : n ≤ 1000)
    (hi : i < n) (hroom : n + 1 ≤ cap) (hv : w.heap[vb]? = some (.cells (encB x).toArray tA (0, 0))) (hvg : vb ≠ g) :
    Calls Try.prog 54 #[.slice (some ⟨g, 0, none⟩) n cap, .int .i64 (i : Int), .slice (some ⟨vb, 0, none⟩) 1 vc] w (InsSays B w0 w L k l i x) := by
  have hkl : k < L.length := (List.getElem?_eq_some_iff.1 hk).1
  unfold rowB rowT at hk
  rw [hn] at hk
  obtain ⟨cur, hcl, hct, hnc, hcm, hW⟩ := hM.wide k hk
  have hkW : (L.set k (erow 34 2 (.slice (some ⟨g, 0, none⟩) cap cap) cap cur))[k]? = some (erow 34 2 (.slice (some ⟨g, 0, none⟩) cap cap) cap cur) := by simp [hkl]
  have hWd := hW.drew
  obtain ⟨ti, hti, htz, hts, _⟩ := elemBlocks.info
  obtain ⟨D, hD⟩ : ∃ D, (l.drop i).flatMap encB = D := ⟨_, rfl⟩
  have hDl : D.length = (n - i) * 2 := by rw [← hD, length_tup encB_len, List.length_drop, hn]
  have hDc : ∀ j u, D[j]? = some u → cur[i * 2 + j]? = some u := by
    intro j u hu
    rw [← hD, ← drop_tup encB_len, List.getElem?_drop, ← hct, List.getElem?_take] at hu
    split at hu
    · exact hu
    · cases hu
  have h1 := one_tup encB_one (l.drop i)
  rw [hD] at h1
  have hfit : (i + 1) * 2 + D.length ≤ cur.length := by rw [hDl, hcl]; omega
  have hcp1 : ∀ ty dc sc, (Builtin.copy_ #[25, 25] ty #[.slice (some ⟨g, (i + 1) * 2, none⟩) (n + 1 - (i + 1)) dc, .slice (some ⟨g, i * 2, none⟩) (n + 1 - i) sc]).run Try.prog w.drew = .ok (goInt ((n - i : Nat) : Int)) (w.drew.setRow g (splice cur ((i + 1) * 2) D).toArray) := fun ty dc sc =>
    run_copy_wide (P := Try.prog) (w := w.drew) ty _ _ 34 ti elemBlocks.under hti g ((i + 1) * 2) (n + 1 - (i + 1)) dc ⟨g, i * 2, none⟩ (n + 1 - i) sc (n - i) cur 34 D (hWd.heapW k hkW).1 (by simp only [Nat.min_def]; split <;> omega) (by rw [hts]; exact hDl)
      (fun j u hj => by rw [Addr.add_lit, hWd.cellW k hkW]; exact hDc j u hj) hfit h1
  have hW1 := hWd.setWide k hkW (splice cur ((i + 1) * 2) D) (splice_len _ _ _ hfit)
  have hov : ∀ lb cb, (callFunc 71 #[.slice (some ⟨vb, 0, none⟩) 1 vc, .slice (some ⟨g, (i + 1) * 2, none⟩) lb cb]).run Try.prog w = .ok (.value (.bool false)) w := fun lb cb =>
    no_overlap w vb g _ lb cb 1 vc tA 2 34 (encB x).toArray cur hv rfl (hW.heapW k hkW).1 hvg (by rw [hcl]; omega)
  obtain ⟨W1, hW1e⟩ : ∃ W1, w.drew.setRow g (splice cur ((i + 1) * 2) D).toArray = W1 := ⟨_, rfl⟩
  have hsz1 : W1.heap.size = w.heap.size := by rw [← hW1e]; simp [World.setRow]
  have hv1 : W1.heap[vb]? = some (.cells (encB x).toArray tA (0, 0)) := by rw [← hW1e, setRow_other _ _ _ _ hvg]; exact hv
  rw [hW1e] at hcp1 hW1
  rw [List.set_set] at hW1
  have hkW1 : (L.set k (erow 34 2 (.slice (some ⟨g, 0, none⟩) cap cap) cap (splice cur ((i + 1) * 2) D)))[k]? = some (erow 34 2 (.slice (some ⟨g, 0, none⟩) cap cap) cap (splice cur ((i + 1) * 2) D)) := by simp [hkl]
  have hcl2 : (splice cur ((i + 1) * 2) D).length = cur.length := splice_len _ _ _ hfit
  have hfit2 : i * 2 + (encB x).length ≤ (splice cur ((i + 1) * 2) D).length := by rw [hcl2, hcl, encB_len]; omega
  have hcp2 : ∀ ty dc, (Builtin.copy_ #[25, 25] ty #[.slice (some ⟨g, i * 2, none⟩) (n + 1 - i) dc, .slice (some ⟨vb, 0, none⟩) 1 vc]).run Try.prog W1 = .ok (goInt 1) (W1.setRow g (splice (splice cur ((i + 1) * 2) D) (i * 2) (encB x)).toArray) := fun ty dc =>
    run_copy_wide (P := Try.prog) (w := W1) ty _ _ 34 ti elemBlocks.under hti g (i * 2) (n + 1 - i) dc ⟨vb, 0, none⟩ 1 vc 1 _ 34 (encB x) (hW1.heapW k hkW1).1 (by simp only [Nat.min_def]; split <;> omega) (by rw [hts]; rfl)
      (fun j u hj => by rw [Addr.add_lit, Nat.zero_add]; simpa [World.cell?, hv1] using hj) hfit2 (encB_one x)
  have hW2 := hW1.setWide k hkW1 (splice (splice cur ((i + 1) * 2) D) (i * 2) (encB x)) (splice_len _ _ _ hfit2)
  rw [List.set_set] at hW2
  have hW3 := hW2.narrow k (n := n + 1) (xs := (l.insertIdx i x).flatMap encB) (by simp [hkl]; rfl) (by omega) (by
    rw [splice_up cur (encB x) D (i * 2) ((i + 1) * 2) ((n + 1) * 2) (by rw [encB_len]; omega) (by rw [hDl]; omega) (by rw [hcl]; omega), ← insert_tup l i x (by omega), hD, ← take_tup encB_len, ← hct, List.take_take, Nat.min_eq_left (by omega)])
  rw [List.set_set] at hW3
  have hel : (l.insertIdx i x).length = n + 1 := by rw [List.length_insertIdx, if_pos (by omega), hn]
  have hsz2 : w.heap.size ≤ (W1.setRow g (splice (splice cur ((i + 1) * 2) D) (i * 2) (encB x)).toArray).heap.size := by simp [World.setRow, hsz1]
  obtain ⟨W2, hW2e⟩ : ∃ W2, W1.setRow g (splice (splice cur ((i + 1) * 2) D) (i * 2) (encB x)).toArray = W2 := ⟨_, rfl⟩
  rw [hW2e] at hcp2 hW3 hsz2
  have HM2 : Hid (Mem B w0 W2 (L.set k (rowB (.slice (some ⟨g, 0, none⟩) (n + 1) cap) (l.insertIdx i x)))) := Lib.hid (hW3.cast (by unfold rowB rowT; rw [hel]))
  have H1 := Lib.hid hcp1
  have H2 := Lib.hid hcp2
  have hov2 := hov
  have hcm2 : cap ≤ 9223372036854775807 := by simp only [maxLen] at hcm; omega
  clear hcp1 hcp2 hW3 hW2 hW1 hW hWd hkW hkW1 hW1e hW2e hsz1 hv hv1 hel hcl2 hcl hct hD hDl hDc hfit hfit2 h1 hM hk hn hti htz hts hcm
  have q1 : i ≤ n := by omega
  have q2 : i ≤ cap := by omega
  have q3 : ¬ cap = i := by omega
  have q4 : ¬ cap = i + 1 := by omega
  have q5 : ((i : Int) == (n : Int)) = false := beq_eq_false_iff_ne.2 (by omega)
  have q6 : (0 : Int) ≤ (i : Int) + 1 := by omega
  have q7 : (i : Int) + 1 ≤ (n : Int) + 1 := by omega
  have q8 : ((i : Int) + 1).toNat = i + 1 := by omega
  have q9 : (i : Int) ≤ (n : Int) + 1 := by omega
  have q10 : (n : Int) + 1 ≤ (cap : Int) := by omega
  have q11 : IntKind.i64.wrap ((i : Int) + 1) = (i : Int) + 1 := by rw [IntKind.wrap_i64]; omega
  go_enter Try.func54, Try.ntmps54
  go_wp2_with (simp only [hov])
  go_region_law (refine step_copy_wide rfl (.tmp 73) (.tmp 76) 25 25 rfl (v := .slice (some ⟨g, (i + 1) * 2, none⟩) (n + 1 - (i + 1)) (cap - (i + 1))) (u := .slice (some ⟨g, i * 2, none⟩) (n + 1 - i) (cap - i)) (by simp [Act.eval, Act.put]) (by simp [Act.eval, Act.put]) (fun ty => H1.out ty _ _) ?_)
  go_wp2_with (refine wpList_copy_wide rfl (.tmp 80) (.tmp 81) 25 25 rfl rfl rfl (fun ty => H2.out ty _) ?_)
  go_ret
  exact ⟨_, _, _, rfl, HM2.out, hsz2⟩
set_option maxRecDepth 100000 in
set_option maxHeartbeats 400000 in
theorem insert_grow (B : Nat) (w0 w : World) (L : List Ent) (k vb vc g n i : Nat) (tA : TypeId) (l : List (Nat × Nat)) (x : Nat × Nat) (hM : Mem B w0 w L) (hk : L[k]? = some (rowB (.slice (some ⟨g, 0, none⟩) n n) l)) (hn : l.length = n) (hl : n ≤ 255)
    (hi : i < n) (hv : w.heap[vb]? = some (.cells (encB x).toArray tA (0, 0))) :
    Calls Try.prog 54 #[.slice (some ⟨g, 0, none⟩) n n, .int .i64 (i : Int), .slice (some ⟨vb, 0, none⟩) 1 vc] w (InsSays B w0 w L k l i x) := by
  have hkl : k < L.length := (List.getElem?_eq_some_iff.1 hk).1
  unfold rowB rowT at hk
  rw [hn] at hk
  have hgB := (hM.row k hk).lt g rfl
  obtain ⟨cur, hcl, hct, hnc, hcm, hW⟩ := hM.wide k hk
  have hkW : (L.set k (erow 34 2 (.slice (some ⟨g, 0, none⟩) n n) n cur))[k]? = some (erow 34 2 (.slice (some ⟨g, 0, none⟩) n n) n cur) := by simp [hkl]
  obtain ⟨ti, hti, htz, hts, htb⟩ := elemBlocks.info
  have hcur : cur = l.flatMap encB := by rw [← hct]; exact (List.take_of_length_le (by rw [hcl]; exact Nat.le_refl _)).symm
  obtain ⟨D, hD⟩ : ∃ D, (l.drop i).flatMap encB = D := ⟨_, rfl⟩
  have hDl : D.length = (n - i) * 2 := by rw [← hD, length_tup encB_len, List.length_drop, hn]
  have hDc : ∀ j u, D[j]? = some u → cur[i * 2 + j]? = some u := by
    intro j u hu
    rw [← hD, ← drop_tup encB_len, List.getElem?_drop] at hu
    rw [hcur]; exact hu
  have h1 := one_tup encB_one (l.drop i)
  rw [hD] at h1
  -- the new row
  have hg0 := (hW.heapW k hkW).1
  have hold : (Builtin.firstCells ti.size i (.slice (some ⟨g, 0, none⟩) i n)).run Try.prog w.drew = .ok ((l.take i).flatMap encB).toArray w.drew := by
    have := run_firstCells_some (P := Try.prog) (w := w.drew) ti.size i ⟨g, 0, none⟩ i n ((l.take i).flatMap encB) (by rw [hts, length_tup encB_len, List.length_take]; congr 1; omega) (fun j v hj => by
      rw [Addr.add_lit, Nat.zero_add]
      have e : w.drew.cell? ⟨g, j, none⟩ = cur[j]? := hW.drew.cellW k hkW j
      rw [e, hcur]
      rw [← take_tup encB_len, List.getElem?_take] at hj
      split at hj
      · exact hj
      · cases hj)
    simpa using this
  obtain ⟨kk, hkk⟩ : ∃ kk, n + 1 - i = kk := ⟨_, rfl⟩
  have hik : i + kk = n + 1 := by omega
  have happ := fun ty (kq : IntKind) => Lib.run_append_grow_zeros (P := Try.prog) w 25 3 ty 34 ti (.agg #[.int .i64 0, .int .i64 0]) kq .i64 elemBlocks.under Try.underlying3 hti htz (some ⟨g, 0, none⟩) i n ((l.take i).flatMap encB) hold kk (by omega) (by rw [hts]; omega) (by omega) (by omega) (by rw [htb]; omega) (by
      rw [hik, htb]
      unfold Builtin.nextslicecap
      split
      · omega
      · rw [if_pos (by omega)]; omega)
  rw [hik] at happ
  obtain ⟨c2, hc2⟩ : ∃ c2, grownCap w (n + 1) n 34 = c2 := ⟨_, rfl⟩
  have hc2a : n + 1 ≤ c2 := by rw [← hc2]; exact grownCap_ge _ _ _ _
  have hc2b : c2 ≤ maxLen := by rw [← hc2]; exact grownCap_le_maxLen _ _ _ _ (by simp only [maxLen]; omega)
  rw [hc2] at happ
  obtain ⟨C, hC⟩ : ∃ C : List Value, (((l.take i).flatMap encB).toArray ++ Builtin.zeroCells (Value.agg #[.int .i64 0, .int .i64 0]).cells kk ++ Builtin.zeroCells (Value.agg #[.int .i64 0, .int .i64 0]).cells (c2 - (n + 1))) = C.toArray := ⟨(((l.take i).flatMap encB).toArray ++ Builtin.zeroCells (Value.agg #[.int .i64 0, .int .i64 0]).cells kk ++ Builtin.zeroCells (Value.agg #[.int .i64 0, .int .i64 0]).cells (c2 - (n + 1))).toList, by simp⟩
  have hzc : (Value.agg #[.int .i64 0, .int .i64 0]).cells.size = 2 := by kernel_rfl
  have hCl : C.length = c2 * 2 := by
    have := congrArg Array.size hC
    rw [Array.size_append, Array.size_append, size_zeroCells, size_zeroCells, hzc] at this
    simp only [List.size_toArray] at this
    rw [length_tup encB_len, List.length_take] at this
    omega
  have hCt : C.take (i * 2) = (l.take i).flatMap encB := by
    have e : C = (l.take i).flatMap encB ++ ((Builtin.zeroCells (Value.agg #[.int .i64 0, .int .i64 0]).cells kk).toList ++ (Builtin.zeroCells (Value.agg #[.int .i64 0, .int .i64 0]).cells (c2 - (n + 1))).toList) := by
      have := congrArg Array.toList hC
      simpa using this.symm
    rw [e, List.take_append_of_le_length (by rw [length_tup encB_len, List.length_take]; omega), List.take_of_length_le (by rw [length_tup encB_len, List.length_take]; omega)]
  rw [hC] at happ
  have hMd := hW.drew
  obtain ⟨g2, hg2⟩ : ∃ g2, w.heap.size = g2 := ⟨_, rfl⟩
  have hgg : g ≠ g2 := by omega
  have hW1 : Mem B w0 (w.drew.alloc (.cells C.toArray 34)) (L.set k (erow 34 2 (.slice (some ⟨g2, 0, none⟩) c2 c2) c2 C)) := by
    have := hMd.turn k hkW (x' := erow 34 2 (.slice (some ⟨g2, 0, none⟩) c2 c2) c2 C) (World.grownBy_alloc w.drew (.cells C.toArray 34) _) (row_ok.2 ⟨hCl, .inr ⟨g2, c2, C.toArray, rfl, by have := hW.base; omega, ?_, Nat.le_refl _, hc2b, by simpa using hCl, ?_⟩⟩) (fun b hb => .inr (by cases hb; show w.heap.size ≤ g2; omega))
    · rw [List.set_set] at this; exact this
    · rw [← hg2]; exact heap_alloc_new w.drew _
    · exact List.take_of_length_le (by rw [hCl]; exact Nat.le_refl _)
  rw [hg2] at happ
  have hkW1 : (L.set k (erow 34 2 (.slice (some ⟨g2, 0, none⟩) c2 c2) c2 C))[k]? = some (erow 34 2 (.slice (some ⟨g2, 0, none⟩) c2 c2) c2 C) := by simp [hkl]
  have hvs : vb < w.heap.size := (Array.getElem?_eq_some_iff.1 hv).1
  obtain ⟨W1, hW1e⟩ : ∃ W1, w.drew.alloc (.cells C.toArray 34) = W1 := ⟨_, rfl⟩
  have hz1 : w.heap.size ≤ W1.heap.size := by rw [← hW1e]; simp
  have hv1 : W1.heap[vb]? = some (.cells (encB x).toArray tA (0, 0)) := by rw [← hW1e, heap_alloc_old w.drew _ hvs]; exact hv
  have hg1 : W1.heap[g]? = some (.cells cur.toArray 34 (0, 0)) := by rw [← hW1e, heap_alloc_old w.drew _ hgB.2]; exact hg0
  rw [hW1e] at happ hW1
  -- the new one goes in
  have hfit : i * 2 + (encB x).length ≤ C.length := by rw [hCl, encB_len]; omega
  have hcp1 : ∀ ty dc, (Builtin.copy_ #[25, 25] ty #[.slice (some ⟨g2, i * 2, none⟩) (n + 1 - i) dc, .slice (some ⟨vb, 0, none⟩) 1 vc]).run Try.prog W1 = .ok (goInt 1) (W1.setRow g2 (splice C (i * 2) (encB x)).toArray) := fun ty dc =>
    run_copy_wide (P := Try.prog) (w := W1) ty _ _ 34 ti elemBlocks.under hti g2 (i * 2) (n + 1 - i) dc ⟨vb, 0, none⟩ 1 vc 1 _ 34 (encB x) (hW1.heapW k hkW1).1 (by simp only [Nat.min_def]; split <;> omega) (by rw [hts]; rfl)
      (fun j u hj => by rw [Addr.add_lit, Nat.zero_add]; simpa [World.cell?, hv1] using hj) hfit (encB_one x)
  have hW2 := hW1.setWide k hkW1 (splice C (i * 2) (encB x)) (splice_len _ _ _ hfit)
  rw [List.set_set] at hW2
  obtain ⟨W2, hW2e⟩ : ∃ W2, W1.setRow g2 (splice C (i * 2) (encB x)).toArray = W2 := ⟨_, rfl⟩
  have hz2 : w.heap.size ≤ W2.heap.size := by rw [← hW2e]; simpa [World.setRow] using hz1
  have hg2' : W2.heap[g]? = some (.cells cur.toArray 34 (0, 0)) := by rw [← hW2e, setRow_other _ _ _ _ hgg]; exact hg1
  rw [hW2e] at hcp1 hW2
  have hkW2 : (L.set k (erow 34 2 (.slice (some ⟨g2, 0, none⟩) c2 c2) c2 (splice C (i * 2) (encB x))))[k]? = some (erow 34 2 (.slice (some ⟨g2, 0, none⟩) c2 c2) c2 (splice C (i * 2) (encB x))) := by simp [hkl]
  have hW2d := hW2.drew
  have hsl : (splice C (i * 2) (encB x)).length = C.length := splice_len _ _ _ hfit
  have hfit2 : (i + 1) * 2 + D.length ≤ (splice C (i * 2) (encB x)).length := by rw [hsl, hCl, hDl]; omega
  have hcp2 : ∀ ty dc sc, (Builtin.copy_ #[25, 25] ty #[.slice (some ⟨g2, (i + 1) * 2, none⟩) (n + 1 - (i + 1)) dc, .slice (some ⟨g, i * 2, none⟩) (n - i) sc]).run Try.prog W2.drew = .ok (goInt ((n - i : Nat) : Int)) (W2.drew.setRow g2 (splice (splice C (i * 2) (encB x)) ((i + 1) * 2) D).toArray) := fun ty dc sc =>
    run_copy_wide (P := Try.prog) (w := W2.drew) ty _ _ 34 ti elemBlocks.under hti g2 ((i + 1) * 2) (n + 1 - (i + 1)) dc ⟨g, i * 2, none⟩ (n - i) sc (n - i) _ 34 D (hW2d.heapW k hkW2).1 (by simp only [Nat.min_def]; split <;> omega) (by rw [hts]; exact hDl)
      (fun j u hj => by
        rw [Addr.add_lit]
        have e : W2.drew.cell? ⟨g, i * 2 + j, none⟩ = cur[i * 2 + j]? := by
          show W2.cell? _ = _
          simp [World.cell?, hg2']
        rw [e]; exact hDc j u hj) hfit2 h1
  have hW3 := hW2d.setWide k hkW2 (splice (splice C (i * 2) (encB x)) ((i + 1) * 2) D) (splice_len _ _ _ hfit2)
  rw [List.set_set] at hW3
  have hW4 := hW3.narrow k (n := n + 1) (xs := (l.insertIdx i x).flatMap encB) (by simp [hkl]; rfl) (by omega) (by
    rw [splice_on C (encB x) D (i * 2) ((i + 1) * 2) ((n + 1) * 2) (by rw [encB_len]; omega) (by rw [hDl]; omega) (by rw [hCl]; omega), ← insert_tup l i x (by omega), hD, hCt])
  rw [List.set_set] at hW4
  have hel : (l.insertIdx i x).length = n + 1 := by rw [List.length_insertIdx, if_pos (by omega), hn]
  obtain ⟨W3, hW3e⟩ : ∃ W3, W2.drew.setRow g2 (splice (splice C (i * 2) (encB x)) ((i + 1) * 2) D).toArray = W3 := ⟨_, rfl⟩
  have hsz3 : w.heap.size ≤ W3.heap.size := by rw [← hW3e]; simpa [World.setRow] using hz2
  rw [hW3e] at hcp2 hW4
  have HM3 : Hid (Mem B w0 W3 (L.set k (rowB (.slice (some ⟨g2, 0, none⟩) (n + 1) c2) (l.insertIdx i x)))) := Lib.hid (hW4.cast (by unfold rowB rowT; rw [hel]))
  have HA := Lib.hid happ
  have H1 := Lib.hid hcp1
  have H2 := Lib.hid hcp2
  have Hkk := Lib.hid hkk
  have hcm2 : c2 ≤ 9223372036854775807 := by simp only [maxLen] at hc2b; omega
  have q1 : i ≤ n := by omega
  have q3 : ¬ n = i := by omega
  have q4 : ¬ c2 = i := by omega
  have q4' : ¬ c2 = i + 1 := by omega
  have q5 : ((i : Int) == (n : Int)) = false := beq_eq_false_iff_ne.2 (by omega)
  have q6 : (0 : Int) ≤ (i : Int) + 1 := by omega
  have q7 : (i : Int) + 1 ≤ (n : Int) + 1 := by omega
  have q8 : ((i : Int) + 1).toNat = i + 1 := by omega
  have q9 : i ≤ n + 1 := by omega
  have q11 : IntKind.i64.wrap ((i : Int) + 1) = (i : Int) + 1 := by rw [IntKind.wrap_i64]; omega
  have q12 : IntKind.i64.wrap ((n : Int) + 1 - (i : Int)) = (kk : Int) := by rw [IntKind.wrap_i64]; omega
  have q13 : (n : Int) + 1 - (i : Int) = (kk : Int) := by omega
  have Hq13 := Lib.hid q13
  clear happ hcp1 hcp2 hW4 hW3 hW2 hW2d hW1 hW hkW hkW1 hkW2 hW1e hW2e hW3e hz1 hz2 hv hv1 hg0 hg1 hg2' hel hsl hcl hct hD hDl hDc hfit hfit2 h1 hM hk hn hti htz hts htb hcm hc2b hC hCl hCt hzc hold hkk hc2 hMd hik hgB hcur hg2 hvs q13 hgg
  go_enter Try.func54, Try.ntmps54
  go_wp2_with (first
    | (refine wpList_append_run rfl (.tmp 34) (.tmp 39) 25 3 rfl (u := .int .i64 (kk : Int)) rfl (by first | rfl | (simp [Act.eval]; exact Hq13.out)) (fun ty => HA.out ty _) ?_)
    | (refine wpList_copy_wide rfl (.tmp 43) (.tmp 44) 25 25 rfl rfl rfl (fun ty => H1.out ty _) ?_))
  go_region_law (refine step_copy_wide rfl (.tmp 50) (.tmp 53) 25 25 rfl (v := .slice (some ⟨g2, (i + 1) * 2, none⟩) (n + 1 - (i + 1)) (c2 - (i + 1))) (u := .slice (some ⟨g, i * 2, none⟩) (n - i) (n - i)) (by simp [Act.eval, Act.put]) (by simp [Act.eval, Act.put]) (fun ty => H2.out ty _ _) ?_)
  go_wp2_with fail
  go_ret
  exact ⟨_, _, _, rfl, HM3.out, hsz3⟩
theorem insert_any (B : Nat) (w0 w : World) (L : List Ent) (k vb vc i : Nat) (y : Int) (tA : TypeId) (v : Value) (l : List (Nat × Nat)) (x : Nat × Nat) (hM : Mem B w0 w L) (hk : L[k]? = some (rowB v l)) (hl : l.length ≤ 255)
    (hi : i ≤ l.length) (hy : y = (i : Int)) (hv : w.heap[vb]? = some (.cells (encB x).toArray tA (0, 0))) (hvg : v.ownBlock ≠ some vb) :
    Calls Try.prog 54 #[v, .int .i64 y, .slice (some ⟨vb, 0, none⟩) 1 vc] w (InsSays B w0 w L k l i x) := by
  subst hy
  by_cases hil : i = l.length
  · subst hil
    exact insert_end B w0 w L k vb vc tA v l x hM hk (by omega) hv
  · rcases (hM.row k hk).2 with ⟨_, h2⟩ | ⟨g, cap, cur, rfl, _, _, h2, _⟩
    · omega
    · obtain ⟨n, hn⟩ : ∃ n, l.length = n := ⟨_, rfl⟩
      rw [hn] at hk hl hi hil h2 ⊢
      by_cases hc : cap = n
      · subst hc
        exact insert_grow B w0 w L k vb vc g cap i tA l x hM hk hn hl (by omega) hv
      · exact insert_room B w0 w L k vb vc g n cap i tA l x hM hk hn (by omega) (by omega) (by omega) hv (fun e => hvg (by rw [e]; rfl))
end Go.Proofs.Ytmbcfbehchpfbaa
