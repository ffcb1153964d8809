/- make of ints in a row of the call's own; an int of a row. Plain laws, over any program. -/
import Derived.Test.YtnpbdabboecpaaaG0
import Derived.Below
import Derived.OwnWalkIn
import Derived.Shelf.Abstract
namespace Go.Proofs.Ytnpbdabboecpaaa
open Go.RowKit Go.Shelf

theorem Mem.intsAt {B : Nat} {w0 w : World} {L : List Ent} (h : Mem B w0 w L) (k : Nat) {e : TypeId} {v : Value} {l : List Int} (hk : L[k]? = some (rowI e v l)) (hne : l ≠ []) :
    ∃ g cap, v = .slice (some ⟨g, 0, none⟩) l.length cap ∧ B ≤ g ∧ g < w.heap.size ∧ (∀ j x, l[j]? = some x → w.cell? ⟨g, j, none⟩ = some (.int .i64 x)) ∧ (∀ j, w.frozen? ⟨g, j, none⟩ = false) := by
  have hr := h.ownI k hk
  rcases hr.2 with ⟨_, h0⟩ | ⟨g, cap, cur, rfl, hB, hg, _⟩
  · exact (hne (List.eq_nil_of_length_eq_zero h0)).elim
  · refine ⟨g, cap, rfl, hB, (Array.getElem?_eq_some_iff.1 hg).1, fun j x hx => ?_, fun j => hr.frozenAt j⟩
    rw [hr.cellAt j (by have := (List.getElem?_eq_some_iff.1 hx).1; omega)]
    simp [hx]
theorem grown_below {w w' : World} (h : w.grownBy w' none) : Below w.heap.size w w' := (Below.refl _ w).grown h (Nat.le_refl _) (fun _ e => by cases e)

section
variable {F : Fence} {n : Nat} {P : Program} {B : Nat} {w0 w : World} {L : List Ent} {t e : TypeId}

theorem Mem.make_own (h : Mem B w0 w L) {w' : World} {v : Value} {m : Nat} (hown : w'.ownsRow w.heap.size e 1 v m (madeCells #[.int .i64 0] (m * 1)).toList) (hg : w.grownBy w' none) : Mem B w0 w' (rowI e v (List.replicate m 0) :: L) := by
  rw [Nat.mul_one, toList_madeCells_one] at hown
  exact (h.callRow (grown_below hg) hown).cast (by simp [rowI])

/-- make([]int, m). -/
theorem Mem.wp_makeI (T : Elem P t e 1 8 (.int .i64 0)) {ops : Array Oper} {rest : List Oper} {o : Oper} {a : Act} {Q : Exit → Act → World → Prop} (hgd : o.guard = none) (l c : Operand) (hop : o.op = Op.makeSlice t l c)
    (h : Mem B w0 w L) (X Y : Int) (m : Nat) (hl : a.eval l = .int .i64 X) (hc : a.eval c = .int .i64 Y) (hX : X = (m : Int)) (hY : Y = (m : Int)) (hm : m ≤ 1000)
    (hK : ∀ w', Mem B w0 w' (rowI e (.slice (some ⟨w.heap.size, 0, none⟩) m m) (List.replicate m 0) :: L) → Below w.heap.size w w' → wpList P ops Q rest (a.put o.dst (.slice (some ⟨w.heap.size, 0, none⟩) m m)) w') :
    wpList P ops Q (o :: rest) a w := by
  obtain ⟨i, hi, hz, hs, hb⟩ := T.info
  exact wpList_make_full w hgd l c t hop w.heap.size e i _ 1 T.under hi hz hs .i64 .i64 X Y m hl hc hX hY (by rw [hb]; omega) (by simp [maxLen]; omega) (Nat.le_refl _) (fun w' h1 h2 => hK w' (h.make_own h1 h2) (grown_below h2))

theorem Mem.in_makeI (T : Elem P t e 1 8 (.int .i64 0)) {ops : Array Oper} {rest : List Oper} {o : Oper} {a : Act} {Q : Exit → Act → World → Prop} (hgd : o.guard = none) (l c : Operand) (hop : o.op = Op.makeSlice t l c)
    (h : Mem B w0 w L) (X Y : Int) (m : Nat) (hl : a.eval l = .int .i64 X) (hc : a.eval c = .int .i64 Y) (hX : X = (m : Int)) (hY : Y = (m : Int)) (hm : m ≤ 1000)
    (hK : ∀ w', Mem B w0 w' (rowI e (.slice (some ⟨w.heap.size, 0, none⟩) m m) (List.replicate m 0) :: L) → Below w.heap.size w w' → wpListIn F n P ops Q rest (a.put o.dst (.slice (some ⟨w.heap.size, 0, none⟩) m m)) w') :
    wpListIn F n P ops Q (o :: rest) a w := by
  obtain ⟨i, hi, hz, hs, hb⟩ := T.info
  refine wpListIn_plain hgd fun K hK' => ?_
  obtain ⟨w', hrun, r1, r2⟩ := run_make_full (P := P) w w.heap.size t e i _ 1 T.under hi hz hs .i64 .i64 m (by rw [hb]; omega) (by simp [maxLen]; omega) (Nat.le_refl _)
  subst hX
  subst hY
  unfold Oper.wpIn
  refine ⟨?_, ?_⟩
  · simp [Oper.about, hop]
  · rw [Oper.semAt_plain F _ _ (by rw [hop]; intro c hc'; cases hc')]
    simp [execOp, hop, hl, hc, hrun, Result.andThen]
    exact hK' _ _ (hK w' (h.make_own r1 r2) (grown_below r2))
end
theorem Mem.intAt {B : Nat} {w0 w : World} {L : List Ent} (h : Mem B w0 w L) (k : Nat) {e : TypeId} {b m cap : Nat} {l : List Int} (hk : L[k]? = some (rowI e (.slice (some ⟨b, 0, none⟩) m cap) l)) {j : Nat} {x : Int} (hx : l[j]? = some x) :
    w.cell? ⟨b, j, none⟩ = some (.int .i64 x) ∧ w.frozen? ⟨b, j, none⟩ = false := by
  obtain ⟨g, cap', hv, _, _, hc, hf⟩ := h.intsAt k hk (by rintro rfl; simp at hx)
  cases hv
  exact ⟨hc j x hx, hf j⟩
theorem Mem.setI {B : Nat} {w0 w : World} {L : List Ent} (h : Mem B w0 w L) (k : Nat) {e : TypeId} {b m cap : Nat} {l : List Int} (hk : L[k]? = some (rowI e (.slice (some ⟨b, 0, none⟩) m cap) l)) (hm : l.length = m) (j : Nat) (x : Int) :
    Mem B w0 (w.setCell ⟨b, j, none⟩ (.int .i64 x)) (L.set k (rowI e (.slice (some ⟨b, 0, none⟩) m cap) (l.set j x))) := by
  subst hm
  exact (h.setRow k hk j (.int .i64 x)).cast (by simp [rowI, List.map_set])
/-- A cell of a slice of ints of the call's own. -/
theorem Ent.apart_at {L : List Ent} (h : L.Pairwise Ent.apart) {i j : Nat} (hne : i ≠ j) {x y : Ent} (hx : L[i]? = some x) (hy : L[j]? = some y) : x.apart y := by
  obtain ⟨hi, rfl⟩ := List.getElem?_eq_some_iff.1 hx
  obtain ⟨hj, rfl⟩ := List.getElem?_eq_some_iff.1 hy
  have hp := List.pairwise_iff_getElem.1 h
  rcases Nat.lt_or_ge i j with hij | hij
  · exact hp i j hi hj hij
  · exact Ent.apart_symm (hp j i hj hi (by omega))
theorem pick_ok {A A' : List Ent} (idx : List Nat) (he : A'.map some = idx.map (fun i => A[i]?)) : ∀ x ∈ A', x ∈ A := by
  intro x hx
  have h1 : some x ∈ idx.map (fun i => A[i]?) := by rw [← he]; exact List.mem_map.2 ⟨x, hx, rfl⟩
  obtain ⟨i, _, h2⟩ := List.mem_map.1 h1
  exact List.mem_of_getElem? h2
theorem pick_apart {A A' : List Ent} (h : A.Pairwise Ent.apart) (idx : List Nat) (hn : idx.Nodup) (he : A'.map some = idx.map (fun i => A[i]?)) : A'.Pairwise Ent.apart := by
  have hlen : A'.length = idx.length := by have := congrArg List.length he; simpa using this
  have key : ∀ i (hi : i < A'.length), A[idx[i]'(by omega)]? = some A'[i] := by
    intro i hi
    have h1 := congrArg (fun l => l[i]?) he
    simp only [List.getElem?_map, List.getElem?_eq_getElem hi, List.getElem?_eq_getElem (show i < idx.length by omega), Option.map_some, Option.some.injEq] at h1
    exact h1.symm
  rw [List.pairwise_iff_getElem]
  intro i j hi hj hij
  have hp := List.pairwise_iff_getElem.1 hn i j (by omega) (by omega) hij
  exact Ent.apart_at h hp (key i hi) (key j hj)
/-- What is owned, in another order; some of it let go. -/
theorem Mem.pick {B : Nat} {w0 w : World} {A A' T : List Ent} (h : Mem B w0 w (A ++ T)) (idx : List Nat) (hn : idx.Nodup) (he : A'.map some = idx.map (fun i => A[i]?)) : Mem B w0 w (A' ++ T) := by
  obtain ⟨h1, h2, h3⟩ := List.pairwise_append.1 h.apart
  have hm := pick_ok idx he
  refine ⟨h.below, h.base, ?_, List.pairwise_append.2 ⟨pick_apart h1 idx hn he, h2, fun a ha b hb => h3 a (hm a ha) b hb⟩⟩
  intro x hx
  rcases List.mem_append.1 hx with hx | hx
  · exact h.ok x (List.mem_append_left _ (hm x hx))
  · exact h.ok x (List.mem_append_right _ hx)
theorem Mem.pick0 {B : Nat} {w0 w : World} {A A' : List Ent} (h : Mem B w0 w A) (idx : List Nat) (hn : idx.Nodup) (he : A'.map some = idx.map (fun i => A[i]?)) : Mem B w0 w A' := by
  have := Mem.pick (T := []) (h.cast (List.append_nil _).symm) idx hn he
  exact this.cast (List.append_nil _)
theorem below_between {B : Nat} {w0 W W' : World} (h : Below B w0 W) (h' : Below B w0 W') (hs : W.heap.size ≤ W'.heap.size) : Below B W W' :=
  ⟨h'.os.trans h.os.symm, h'.tape.trans h.tape.symm, h'.output.trans h.output.symm, hs, fun k hk => (h'.block k hk).trans (h.block k hk).symm⟩
theorem Mem.callMem {B : Nat} {w0 w w' : World} {L L' : List Ent} (h : Mem B w0 w L) (hM : Mem w.heap.size w w' L') : Mem B w0 w' (L' ++ L) := by
  have h2 := h.call hM.below
  refine ⟨h2.below, h2.base, ?_, List.pairwise_append.2 ⟨hM.apart, h2.apart, ?_⟩⟩
  · intro x hx
    rcases List.mem_append.1 hx with hx | hx
    · have h3 := hM.ok x hx
      exact ⟨fun b hb => ⟨Nat.le_trans h.base (h3.1 b hb).1, (h3.1 b hb).2⟩, h3.2⟩
    · exact h2.ok x hx
  · intro x hx y hy b hb hb'
    have h3 := (hM.lt hx b hb).1
    have h4 := (h.lt hy b hb').2
    omega

theorem isInts_one (w : World) (x : Int) (t : TypeId) (hx : i64ok x) : IsInts (w.alloc (.cells #[.int .i64 x] t)) (.slice (some ⟨w.heap.size, 0, none⟩) 1 1) [x] := by
  refine ⟨some ⟨w.heap.size, 0, none⟩, 1, rfl, by simp, ?_⟩
  intro k y hk
  cases k with
  | zero => simp at hk; subst hk; exact ⟨w.heap.size, 0, rfl, by simp, by rw [World.cell?_alloc_new]; rfl, hx⟩
  | succ k => simp at hk

theorem step_append_eq' {P : Program} {ops : Array Oper} {o : Oper} {a : Act} {w : World} {K : Act → World → Prop} {Q : Exit → Act → World → Prop} {E : Prop}
    (hg : o.guard = none) (s x : Operand) (t : TypeId) (hop : o.op = Op.call { callee := Callee.builtin Builtin.append, args := #[s, x], argTypes := #[t, t] })
    {v y v' : Value} {w' : World} (hs : a.eval s = v) (hx : a.eval x = y) (hr : (Builtin.append_ #[t, t] o.type #[v, y]).run P w = .ok v' w') (hK : K (a.put o.dst v') w') :
    if Region.wanted o (yielded ops a.tmps) = true then Oper.wp P o a w K Q else E := by
  have hw : Region.wanted o (yielded ops a.tmps) = true := by simp [Region.wanted, hg]
  rw [if_pos hw]
  unfold Oper.wp execOp
  simp only [hop, resolve, invoke, builtin, Sem.run_bind, Sem.run_pure, Result.andThen_ok, List.map_toArray, List.map_cons, List.map_nil, hs, hx, hr]
  exact hK
/-- append(l, y) in a region: y in a new block. -/
theorem Mem.step_appI' {P : Program} {B : Nat} {w0 w : World} {L : List Ent} {t e : TypeId} {z : Value} (T : Elem P t e 1 8 z) {ops : Array Oper} {o : Oper} {ac : Act} {K : Act → World → Prop} {Q : Exit → Act → World → Prop} {E : Prop} (hgd : o.guard = none) (s x : Operand)
    (ho : o.op = .call { callee := .builtin .append, args := #[s, x], argTypes := #[t, t] }) (h : Mem B w0 w L) (k : Nat) {v : Value} {l : List Int} (hk : L[k]? = some (rowI e v l))
    (hs : ac.eval s = v) (bl c : Nat) (y : Int) (hx : ac.eval x = .slice (some ⟨bl, 0, none⟩) 1 c) (hc : w.cell? ⟨bl, 0, none⟩ = some (.int .i64 y)) (hn : l.length ≤ 1000000)
    (hh : ∀ ad n' cap w', Mem B w0 w' (L.set k (rowI e (.slice ad n' cap) (l ++ [y]))) → w.heap.size ≤ w'.heap.size →
      (∀ b, b < w.heap.size → v.ownBlock ≠ some b → w'.heap[b]? = w.heap[b]?) → K (ac.put o.dst (.slice ad n' cap)) w') :
    if Region.wanted o (yielded ops ac.tmps) = true then Oper.wp P o ac w K Q else E := by
  obtain ⟨ad, n', cap, w', hr, _, h2, h3, h4⟩ := h.run_appI T o.type k hk y bl c hc hn
  exact step_append_eq' hgd s x t ho hs hx hr (hh ad n' cap w' h2 h3 h4)
theorem own_slice {B : Nat} {w : World} {e : TypeId} {sz n : Nat} {v : Value} {xs : List Value} (h : w.ownsRow B e sz v n xs) : ∃ a m c, v = .slice a m c := by
  rcases h.2 with ⟨rfl, _⟩ | ⟨g, cap, cur, rfl, _⟩
  · exact ⟨_, _, _, rfl⟩
  · exact ⟨_, _, _, rfl⟩
end Go.Proofs.Ytnpbdabboecpaaa
