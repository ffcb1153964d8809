/- Rows of the call's own as wide as their room: copies, appends within the room, clears. -/
import Derived.Test.YtmbcfbehchpfbaaMi
import Derived.Laws.CopyOwn
import Derived.Lib.AppendZerosOnto
import Derived.Lib.SliceRun
namespace Go.Proofs.Ytmbcfbehchpfbaa
open Go.RowKit

section
variable {P : Program} {B : Nat} {w0 w : World} {L : List Ent} {t e : TypeId} {sz bytes : Nat} {z : Value}
/-- A slice of the call's own, seen with all its room. -/
theorem Mem.wide (h : Mem B w0 w L) (k : Nat) {g n cap : Nat} {xs : List Value} (hk : L[k]? = some (erow e sz (.slice (some ⟨g, 0, none⟩) n cap) n xs)) :
    ∃ cur : List Value, cur.length = cap * sz ∧ cur.take (n * sz) = xs ∧ n ≤ cap ∧ cap ≤ maxLen ∧ Mem B w0 w (L.set k (erow e sz (.slice (some ⟨g, 0, none⟩) cap cap) cap cur)) := by
  rcases (h.row k hk).2 with ⟨h0, _⟩ | ⟨g', cap', cur, hv, hB, hg, hnc, hcm, hcs, htk⟩
  · cases h0
  · cases hv
    refine ⟨cur.toList, by simpa using hcs, htk, hnc, hcm, ?_⟩
    refine h.turn k hk (x' := erow e sz (.slice (some ⟨g, 0, none⟩) cap cap) cap cur.toList) ⟨rfl, rfl, rfl, Nat.le_refl _, fun _ _ _ => rfl⟩ (row_ok.2 ⟨by simpa using hcs, .inr ⟨g, cap, cur, rfl, hB, hg, Nat.le_refl _, hcm, hcs, ?_⟩⟩) (fun b hb => .inl hb)
    exact List.take_of_length_le (by simpa using Nat.le_of_eq hcs)
/-- .. and cut again. -/
theorem Mem.narrow (h : Mem B w0 w L) (k : Nat) {g n cap : Nat} {cur xs : List Value} (hk : L[k]? = some (erow e sz (.slice (some ⟨g, 0, none⟩) cap cap) cap cur)) (hn : n ≤ cap) (hxs : cur.take (n * sz) = xs) :
    Mem B w0 w (L.set k (erow e sz (.slice (some ⟨g, 0, none⟩) n cap) n xs)) := by
  have hlen := (h.row k hk).1
  rcases (h.row k hk).2 with ⟨h0, _⟩ | ⟨g', cap', c, hv, hB, hg, hnc, hcm, hcs, htk⟩
  · cases h0
  · cases hv
    have hc : c.toList = cur := by rw [← htk]; exact (List.take_of_length_le (by simpa using Nat.le_of_eq hcs)).symm
    have hmul := Nat.mul_le_mul_right sz hn
    refine h.turn k hk (x' := erow e sz (.slice (some ⟨g, 0, none⟩) n cap) n xs) ⟨rfl, rfl, rfl, Nat.le_refl _, fun _ _ _ => rfl⟩ (row_ok.2 ⟨?_, .inr ⟨g, cap, c, rfl, hB, hg, hn, hcm, hcs, ?_⟩⟩) (fun b hb => .inl hb)
    · rw [← hxs, List.length_take, hlen]; omega
    · rw [hc]; exact hxs
/-- All its cells anew. -/
theorem Mem.setWide (h : Mem B w0 w L) (k : Nat) {g cap : Nat} {cur : List Value} (hk : L[k]? = some (erow e sz (.slice (some ⟨g, 0, none⟩) cap cap) cap cur)) (cs : List Value) (hl : cs.length = cur.length) :
    Mem B w0 (w.setRow g cs.toArray) (L.set k (erow e sz (.slice (some ⟨g, 0, none⟩) cap cap) cap cs)) := by
  have hlen := (h.row k hk).1
  rcases (h.row k hk).2 with ⟨h0, _⟩ | ⟨g', cap', c, hv, hB, hg, hnc, hcm, hcs, htk⟩
  · cases h0
  · cases hv
    refine h.turn k hk (x' := erow e sz (.slice (some ⟨g, 0, none⟩) cap cap) cap cs) ⟨rfl, rfl, rfl, by simp [World.setRow], fun b hb hne => setRow_other _ _ _ _ (fun e => hne (by rw [e]; rfl))⟩
      (row_ok.2 ⟨by rw [hl, hlen], .inr ⟨g, cap, cs.toArray, rfl, hB, setRow_heap _ _ _ _ _ _ hg, Nat.le_refl _, hcm, by simp only [List.size_toArray]; rw [hl, hlen], ?_⟩⟩) (fun b hb => .inl hb)
    exact List.take_of_length_le (by rw [hl, hlen]; exact Nat.le_refl _)
theorem Mem.heapW (h : Mem B w0 w L) (k : Nat) {g cap : Nat} {cur : List Value} (hk : L[k]? = some (erow e sz (.slice (some ⟨g, 0, none⟩) cap cap) cap cur)) : w.heap[g]? = some (.cells cur.toArray e (0, 0)) ∧ cur.length = cap * sz ∧ g < w.heap.size := by
  have hlen := (h.row k hk).1
  rcases (h.row k hk).2 with ⟨h0, _⟩ | ⟨g', cap', c, hv, hB, hg, hnc, hcm, hcs, htk⟩
  · cases h0
  · cases hv
    have hc : c.toList = cur := by rw [← htk]; exact (List.take_of_length_le (by simpa using Nat.le_of_eq hcs)).symm
    refine ⟨?_, hlen, (Array.getElem?_eq_some_iff.1 hg).1⟩
    rw [hg, ← hc]
theorem Mem.cellW (h : Mem B w0 w L) (k : Nat) {g cap : Nat} {cur : List Value} (hk : L[k]? = some (erow e sz (.slice (some ⟨g, 0, none⟩) cap cap) cap cur)) (j : Nat) : w.cell? ⟨g, j, none⟩ = cur[j]? := by
  simp [World.cell?, (h.heapW k hk).1]
theorem Mem.freeW (h : Mem B w0 w L) (k : Nat) {g cap : Nat} {cur : List Value} (hk : L[k]? = some (erow e sz (.slice (some ⟨g, 0, none⟩) cap cap) cap cur)) (j : Nat) : w.frozen? ⟨g, j, none⟩ = false := by
  simp [World.frozen?, (h.heapW k hk).1]
theorem run_copy_wide (ty dT sT elem : TypeId) (i : TypeInfo) (hu : P.underlying dT = some (.slice elem)) (hi : P.info? elem = some i) (g o dLen dCap : Nat) (a : Addr) (sLen sCap m : Nat) (cur : List Value) (t : TypeId) (cs : List Value)
    (hg : w.heap[g]? = some (.cells cur.toArray t (0, 0))) (hm : m = Nat.min sLen dLen) (hn : cs.length = m * i.size)
    (hsrc : ∀ j v, cs[j]? = some v → w.cell? (a.add j) = some v) (hfit : o + cs.length ≤ cur.length) (h1 : ∀ v ∈ cs, v.oneCell' = true) :
    (Builtin.copy_ #[dT, sT] ty #[.slice (some ⟨g, o, none⟩) dLen dCap, .slice (some a) sLen sCap]).run P w = .ok (goInt m) (w.setRow g (splice cur o cs).toArray) := by
  have hf := run_firstCells_some (P := P) w i.size m a sLen sCap cs hn hsrc
  have hst := run_storeCells_at P g o t cs 0 cur.toArray w hg (by simpa using hfit) h1
  simp only [Nat.add_zero] at hst
  rw [hm] at hf ⊢
  simp [Builtin.copy_, run_underlying hu, Builtin.lenOf, sizeOf, typeInfo, hi, hf, hst, splice]
theorem wpList_copy_wide {ops : Array Oper} {rest : List Oper} {o : Oper} {a : Act} {Q : Exit → Act → World → Prop} (hgd : o.guard = none) (d s : Operand) (dT sT : TypeId)
    (ho : o.op = .call { callee := .builtin .copy, args := #[d, s], argTypes := #[dT, sT] }) {v u v' : Value} {w' : World} (hd : a.eval d = v) (hs : a.eval s = u)
    (hr : ∀ ty, (Builtin.copy_ #[dT, sT] ty #[v, u]).run P w = .ok v' w') (h : wpList P ops Q rest (a.put o.dst v') w') : wpList P ops Q (o :: rest) a w := by
  refine wpList_plain hgd fun K hK => ?_
  unfold Oper.wp
  simp [execOp, ho, resolve, invoke, builtin, hd, hs, hr, Result.andThen]
  exact hK _ _ h
theorem step_copy_wide {ops : Array Oper} {o : Oper} {a : Act} {K : Act → World → Prop} {Q : Exit → Act → World → Prop} {E : Prop} (hgd : o.guard = none) (d s : Operand) (dT sT : TypeId)
    (ho : o.op = .call { callee := .builtin .copy, args := #[d, s], argTypes := #[dT, sT] }) {v u v' : Value} {w' : World} (hd : a.eval d = v) (hs : a.eval s = u)
    (hr : ∀ ty, (Builtin.copy_ #[dT, sT] ty #[v, u]).run P w = .ok v' w') (hh : K (a.put o.dst v') w') : if Region.wanted o (yielded ops a.tmps) = true then Oper.wp P o a w K Q else E := by
  have hw : Region.wanted o (yielded ops a.tmps) = true := by simp [Region.wanted, hgd]
  rw [if_pos hw]
  unfold Oper.wp
  simp [execOp, ho, resolve, invoke, builtin, hd, hs, hr, Result.andThen]
  exact hh
theorem wpList_append_run {ops : Array Oper} {rest : List Oper} {o : Oper} {a : Act} {Q : Exit → Act → World → Prop} (hgd : o.guard = none) (d s : Operand) (dT sT : TypeId)
    (ho : o.op = .call { callee := .builtin .append, args := #[d, s], argTypes := #[dT, sT] }) {v u v' : Value} {w' : World} (hd : a.eval d = v) (hs : a.eval s = u)
    (hr : ∀ ty, (Builtin.append_ #[dT, sT] ty #[v, u]).run P w = .ok v' w') (h : wpList P ops Q rest (a.put o.dst v') w') : wpList P ops Q (o :: rest) a w := by
  refine wpList_plain hgd fun K hK => ?_
  unfold Oper.wp
  simp [execOp, ho, resolve, invoke, builtin, hd, hs, hr, Result.andThen]
  exact hK _ _ h
theorem step_append_run {ops : Array Oper} {o : Oper} {a : Act} {K : Act → World → Prop} {Q : Exit → Act → World → Prop} {E : Prop} (hgd : o.guard = none) (d s : Operand) (dT sT : TypeId)
    (ho : o.op = .call { callee := .builtin .append, args := #[d, s], argTypes := #[dT, sT] }) {v u v' : Value} {w' : World} (hd : a.eval d = v) (hs : a.eval s = u)
    (hr : ∀ ty, (Builtin.append_ #[dT, sT] ty #[v, u]).run P w = .ok v' w') (hh : K (a.put o.dst v') w') : if Region.wanted o (yielded ops a.tmps) = true then Oper.wp P o a w K Q else E := by
  have hw : Region.wanted o (yielded ops a.tmps) = true := by simp [Region.wanted, hgd]
  rw [if_pos hw]
  unfold Oper.wp
  simp [execOp, ho, resolve, invoke, builtin, hd, hs, hr, Result.andThen]
  exact hh
theorem wpList_clear_run {ops : Array Oper} {rest : List Oper} {o : Oper} {a : Act} {Q : Exit → Act → World → Prop} (hgd : o.guard = none) (d : Operand) (dT : TypeId)
    (ho : o.op = .call { callee := .builtin .clear, args := #[d], argTypes := #[dT] }) {v v' : Value} {w' : World} (hd : a.eval d = v)
    (hr : ∀ ty, (Builtin.clear_ #[dT] ty #[v]).run P w = .ok v' w') (h : wpList P ops Q rest (a.put o.dst v') w') : wpList P ops Q (o :: rest) a w := by
  refine wpList_plain hgd fun K hK => ?_
  unfold Oper.wp
  simp [execOp, ho, resolve, invoke, builtin, hd, hr, Result.andThen]
  exact hK _ _ h
theorem run_append_wide (ty t e : TypeId) (i : TypeInfo) (ht : P.underlying t = some (.slice e)) (hi : P.info? e = some i) (g sLen sCap : Nat) (cur : List Value) (hg : w.heap[g]? = some (.cells cur.toArray e (0, 0)))
    (a : Addr) (m c : Nat) (news : List Value) (hl : news.length = m * i.size) (hnews : ∀ j u, news[j]? = some u → w.cell? (a.add j) = some u) (h1 : ∀ u ∈ news, u.oneCell' = true)
    (hroom : sLen + m ≤ sCap) (hfit : sLen * i.size + news.length ≤ cur.length) :
    (Builtin.append_ #[t, t] ty #[.slice (some ⟨g, 0, none⟩) sLen sCap, .slice (some a) m c]).run P w = .ok (.slice (some ⟨g, 0, none⟩) (sLen + m) sCap) (w.setRow g (splice cur (sLen * i.size) news).toArray) := by
  have := run_append_room (P := P) w t ty e i ht hi g sLen sCap cur.toArray hg a m c news hl hnews h1 hroom (by simpa using hfit)
  rw [this]
  simp [splice]
theorem run_clear_wide (ty t e : TypeId) (z : Value) (ht : P.underlying t = some (.slice e)) (hv : ∀ w, (zeroValue e).run P w = .ok z w) (g o n c : Nat) (cur : List Value) (hg : w.heap[g]? = some (.cells cur.toArray e (0, 0))) (hn : 0 < n)
    (zs : List Value) (hz : (Builtin.zeroCells z.cells n).toList = zs) (h1 : ∀ v ∈ zs, v.oneCell' = true) (hfit : o + zs.length ≤ cur.length) :
    (Builtin.clear_ #[t] ty #[.slice (some ⟨g, o, none⟩) n c]).run P w = .ok (.tuple #[]) (w.setRow g (splice cur o zs).toArray) := by
  have hst := run_storeCells_at P g o e zs 0 cur.toArray w hg (by simpa using hfit) h1
  simp only [Nat.add_zero] at hst
  obtain ⟨m, rfl⟩ : ∃ m, n = m + 1 := ⟨n - 1, by omega⟩
  simp [Builtin.clear_, run_underlying ht, hv, hz, hst, splice]
end
end Go.Proofs.Ytmbcfbehchpfbaa
