/- What graph.Found's walk leans on: make of ints; the closure's contract; ranges over targets. -/
import Derived.Test.YtdmgpiimacnapaaF0
import Derived.Test.YtdmgpiimacnapaaSt
import Derived.OwnWalkIn
namespace Go.Proofs.Ytdmgpiimacnapaa
open Go.RowKit Go.Shelf

theorem grown_below {w w' : World} (h : w.grownBy w' none) : Below w.heap.size w w' := (Below.refl _ w).grown h (Nat.le_refl _) (fun _ e => by cases e)

section
variable {F : Fence} {n : Nat} {P : Program} {B : Nat} {w0 w : World} {L : List Ent} {t e : TypeId}

theorem Mem.make_own (h : Mem B w0 w L) {w' : World} {v : Value} {m : Nat} (hown : w'.ownsRow w.heap.size e 1 v m (madeCells #[.int .i64 0] (m * 1)).toList) (hg : w.grownBy w' none) : Mem B w0 w' (rowI e v (List.replicate m 0) :: L) := by
  rw [Nat.mul_one, toList_madeCells_one] at hown
  exact (h.callRow (grown_below hg) hown).cast (by simp [rowI])

/-- make([]int, m). -/
theorem Mem.wp_makeI (T : Elem P t e 1 8 (.int .i64 0)) {ops : Array Oper} {rest : List Oper} {o : Oper} {a : Act} {Q : Exit → Act → World → Prop} (hgd : o.guard = none) (l c : Operand) (hop : o.op = Op.makeSlice t l c)
    (h : Mem B w0 w L) (X Y : Int) (m : Nat) (hl : a.eval l = .int .i64 X) (hc : a.eval c = .int .i64 Y) (hX : X = (m : Int)) (hY : Y = (m : Int)) (hm : m ≤ 1000)
    (hK : ∀ w', Mem B w0 w' (rowI e (.slice (some ⟨w.heap.size, 0, none⟩) m m) (List.replicate m 0) :: L) → Below w.heap.size w w' → wpList P ops Q rest (a.put o.dst (.slice (some ⟨w.heap.size, 0, none⟩) m m)) w') :
    wpList P ops Q (o :: rest) a w := by
  obtain ⟨i, hi, hz, hs, hb⟩ := T.info
  exact wpList_make_full w hgd l c t hop w.heap.size e i _ 1 T.under hi hz hs .i64 .i64 X Y m hl hc hX hY (by rw [hb]; omega) (by simp [maxLen]; omega) (Nat.le_refl _) (fun w' h1 h2 => hK w' (h.make_own h1 h2) (grown_below h2))

theorem Mem.in_makeI (T : Elem P t e 1 8 (.int .i64 0)) {ops : Array Oper} {rest : List Oper} {o : Oper} {a : Act} {Q : Exit → Act → World → Prop} (hgd : o.guard = none) (l c : Operand) (hop : o.op = Op.makeSlice t l c)
    (h : Mem B w0 w L) (X Y : Int) (m : Nat) (hl : a.eval l = .int .i64 X) (hc : a.eval c = .int .i64 Y) (hX : X = (m : Int)) (hY : Y = (m : Int)) (hm : m ≤ 1000)
    (hK : ∀ w', Mem B w0 w' (rowI e (.slice (some ⟨w.heap.size, 0, none⟩) m m) (List.replicate m 0) :: L) → Below w.heap.size w w' → wpListIn F n P ops Q rest (a.put o.dst (.slice (some ⟨w.heap.size, 0, none⟩) m m)) w') :
    wpListIn F n P ops Q (o :: rest) a w := by
  obtain ⟨i, hi, hz, hs, hb⟩ := T.info
  refine wpListIn_plain hgd fun K hK' => ?_
  obtain ⟨w', hrun, r1, r2⟩ := run_make_full (P := P) w w.heap.size t e i _ 1 T.under hi hz hs .i64 .i64 m (by rw [hb]; omega) (by simp [maxLen]; omega) (Nat.le_refl _)
  subst hX
  subst hY
  unfold Oper.wpIn
  refine ⟨?_, ?_⟩
  · simp [Oper.about, hop]
  · rw [Oper.semAt_plain F _ _ (by rw [hop]; intro c hc'; cases hc')]
    simp [execOp, hop, hl, hc, hrun, Result.andThen]
    exact hK' _ _ (hK w' (h.make_own r1 r2) (grown_below r2))
end

theorem below_between {B : Nat} {w0 W W' : World} (h : Below B w0 W) (h' : Below B w0 W') (hs : W.heap.size ≤ W'.heap.size) : Below B W W' :=
  ⟨h'.os.trans h.os.symm, h'.tape.trans h.tape.symm, h'.output.trans h.output.symm, hs, fun k hk => (h'.block k hk).trans (h.block k hk).symm⟩
theorem callsIn_round {P : Program} {n r : Nat} {f : FuncId} {args : Array Value} {w : World} {R : Ending → World → Prop} (h : Calls P f args w R) : CallsIn (Fence.wide.inRound r) n P f args w R := (callsIn_wide (n := n)).2 h

/-- The closure: i is taken, if it is new. -/
theorem take_any (B : Nat) (w0 w : World) (n : Nat) (s : S) (x d : Int) (hs : SInv n s) (hx : 0 ≤ x ∧ x < n) (hn : n ≤ 24) (Bd Bl : Nat) (vd vl : Value)
    (L' : List Ent) (hM : Mem B w0 w (ebox Bd #[vd] 27 :: ebox Bl #[vl] 27 :: rowI 3 vd s.2 :: rowI 3 vl s.1 :: L')) :
    Calls Try.prog 69 #[.int .i64 x, .int .i64 d, .pointer (some ⟨Bd, 0, none⟩), .pointer (some ⟨Bl, 0, none⟩)] w fun e w' => e = .returned (.tuple #[]) ∧
      ∃ vl', Mem B w0 w' (ebox Bd #[vd] 27 :: ebox Bl #[vl'] 27 :: rowI 3 vd (take1 d s x).2 :: rowI 3 vl' (take1 d s x).1 :: L') ∧ KeepsOthers w w' := by
  obtain ⟨i, rfl⟩ : ∃ i : Nat, x = (i : Int) := ⟨x.toNat, by omega⟩
  have hi : i < s.2.length := by rw [hs.len]; omega
  obtain ⟨y, hy⟩ := get_some _ _ hi
  have hg : s.2.getD i 0 = y := by rw [List.getD_eq_getElem?_getD, hy]; rfl
  have hle := hs.length_le
  by_cases h0 : y < 0
  · have e : take1 d s i = (s.1 ++ [(i : Int)], s.2.set i d) := by unfold take1; rw [if_pos (by rw [Int.toNat_natCast, hg]; exact h0)]; rfl
    rw [e]
    exact take_new B w0 w i d y Bd Bl vd vl s.2 s.1 hy h0 (by omega) L' hM
  · have e : take1 d s i = s := by unfold take1; rw [if_neg (by rw [Int.toNat_natCast, hg]; exact h0)]
    rw [e]
    refine (take_old B w0 w i d y Bd Bl vd vl s.2 s.1 hy (by omega) L' hM).mono ?_
    rintro e w1 ⟨rfl, rfl⟩
    exact ⟨rfl, vl, hM, KeepsOthers.refl _⟩

/-- graph.Targets, its world kept shut. -/
theorem targets_opaque (n : Nat) (a : Option Addr) (len cap : Nat) (w : World) :
    CallsIn Fence.wide n Try.prog 52 #[.slice a len cap] w fun e w' => ∃ Bs, e = .returned (.func (.func 73) #[] #[.pointer (some ⟨Bs, 0, none⟩)]) ∧
      Below w.heap.size w w' ∧ Bs < w'.heap.size ∧ w'.cell? ⟨Bs, 0, none⟩ = some (.slice a len cap) := by
  refine (targets_any n a len cap w).mono ?_
  rintro e w1 ⟨rfl, rfl⟩
  exact ⟨w.heap.size, rfl, (Below.refl _ w).alloc (Nat.le_refl _) _, by simp, by simp⟩

theorem init_step (n k : Nat) (h : k < n) : (List.replicate k (-1) ++ List.replicate (n - k) (0 : Int)).set k (-1) = List.replicate (k + 1) (-1) ++ List.replicate (n - (k + 1)) 0 := by
  rw [List.set_append_right _ _ (by simp)]
  obtain ⟨m, hm⟩ : ∃ m, n - k = m + 1 := ⟨n - k - 1, by omega⟩
  rw [hm, show n - (k + 1) = m by omega]
  simp only [List.length_replicate, Nat.sub_self, List.replicate_succ, List.set_cons_zero]
  rw [show List.replicate k (-1 : Int) ++ (-1 : Int) :: List.replicate m 0 = (List.replicate k (-1 : Int) ++ [-1]) ++ List.replicate m 0 by simp]
  rw [← List.replicate_succ', List.replicate_succ]
theorem init_get (n k : Nat) (h : k < n) : (List.replicate k (-1) ++ List.replicate (n - k) (0 : Int))[k]? = some 0 := by
  rw [List.getElem?_append_right (by simp)]
  rw [List.length_replicate, Nat.sub_self, List.getElem?_replicate, if_pos (by omega)]
/-- A cell of a slice of ints of the call's own. -/
theorem Mem.intAt {B : Nat} {w0 w : World} {L : List Ent} (h : Mem B w0 w L) (k : Nat) {e : TypeId} {b m cap : Nat} {l : List Int} (hk : L[k]? = some (rowI e (.slice (some ⟨b, 0, none⟩) m cap) l)) {j : Nat} {x : Int} (hx : l[j]? = some x) :
    w.cell? ⟨b, j, none⟩ = some (.int .i64 x) ∧ w.frozen? ⟨b, j, none⟩ = false := by
  obtain ⟨g, cap', hv, _, _, hc, hf⟩ := h.intsAt k hk (by rintro rfl; simp at hx)
  cases hv
  exact ⟨hc j x hx, hf j⟩
theorem Mem.setI {B : Nat} {w0 w : World} {L : List Ent} (h : Mem B w0 w L) (k : Nat) {e : TypeId} {b m cap : Nat} {l : List Int} (hk : L[k]? = some (rowI e (.slice (some ⟨b, 0, none⟩) m cap) l)) (hm : l.length = m) (j : Nat) (x : Int) :
    Mem B w0 (w.setCell ⟨b, j, none⟩ (.int .i64 x)) (L.set k (rowI e (.slice (some ⟨b, 0, none⟩) m cap) (l.set j x))) := by
  subst hm
  exact (h.setRow k hk j (.int .i64 x)).cast (by simp [rowI, List.map_set])
theorem Ent.apart_at {L : List Ent} (h : L.Pairwise Ent.apart) {i j : Nat} (hne : i ≠ j) {x y : Ent} (hx : L[i]? = some x) (hy : L[j]? = some y) : x.apart y := by
  obtain ⟨hi, rfl⟩ := List.getElem?_eq_some_iff.1 hx
  obtain ⟨hj, rfl⟩ := List.getElem?_eq_some_iff.1 hy
  have hp := List.pairwise_iff_getElem.1 h
  rcases Nat.lt_or_ge i j with hij | hij
  · exact hp i j hi hj hij
  · exact Ent.apart_symm (hp j i hj hi (by omega))
theorem pick_ok {A A' : List Ent} (idx : List Nat) (he : A'.map some = idx.map (fun i => A[i]?)) : ∀ x ∈ A', x ∈ A := by
  intro x hx
  have h1 : some x ∈ idx.map (fun i => A[i]?) := by rw [← he]; exact List.mem_map.2 ⟨x, hx, rfl⟩
  obtain ⟨i, _, h2⟩ := List.mem_map.1 h1
  exact List.mem_of_getElem? h2
theorem pick_apart {A A' : List Ent} (h : A.Pairwise Ent.apart) (idx : List Nat) (hn : idx.Nodup) (he : A'.map some = idx.map (fun i => A[i]?)) : A'.Pairwise Ent.apart := by
  have hlen : A'.length = idx.length := by have := congrArg List.length he; simpa using this
  have key : ∀ i (hi : i < A'.length), A[idx[i]'(by omega)]? = some A'[i] := by
    intro i hi
    have h1 := congrArg (fun l => l[i]?) he
    simp only [List.getElem?_map, List.getElem?_eq_getElem hi, List.getElem?_eq_getElem (show i < idx.length by omega), Option.map_some, Option.some.injEq] at h1
    exact h1.symm
  rw [List.pairwise_iff_getElem]
  intro i j hi hj hij
  have hp := List.pairwise_iff_getElem.1 hn i j (by omega) (by omega) hij
  exact Ent.apart_at h hp (key i hi) (key j hj)
/-- What is owned, in another order; some of it let go. -/
theorem Mem.pick {B : Nat} {w0 w : World} {A A' T : List Ent} (h : Mem B w0 w (A ++ T)) (idx : List Nat) (hn : idx.Nodup) (he : A'.map some = idx.map (fun i => A[i]?)) : Mem B w0 w (A' ++ T) := by
  obtain ⟨h1, h2, h3⟩ := List.pairwise_append.1 h.apart
  have hm := pick_ok idx he
  refine ⟨h.below, h.base, ?_, List.pairwise_append.2 ⟨pick_apart h1 idx hn he, h2, fun a ha b hb => h3 a (hm a ha) b hb⟩⟩
  intro x hx
  rcases List.mem_append.1 hx with hx | hx
  · exact h.ok x (List.mem_append_left _ (hm x hx))
  · exact h.ok x (List.mem_append_right _ hx)
theorem Mem.pick0 {B : Nat} {w0 w : World} {A A' : List Ent} (h : Mem B w0 w A) (idx : List Nat) (hn : idx.Nodup) (he : A'.map some = idx.map (fun i => A[i]?)) : Mem B w0 w A' := by
  have := Mem.pick (T := []) (h.cast (List.append_nil _).symm) idx hn he
  exact this.cast (List.append_nil _)
/-- A mark more. -/
theorem Mem.tailDef {B : Nat} {w0 w : World} {A T : List Ent} {x : Ent} (h : Mem B w0 w (x :: (A ++ T))) : Mem B w0 w (A ++ x :: T) := h.perm List.perm_middle
/-- What Found holds. -/
@[reducible] def fl (Bd Bl : Nat) (vd vl : Value) (s : S) (L : List Ent) : List Ent := ebox Bd #[vd] 27 :: ebox Bl #[vl] 27 :: rowI 3 vd s.2 :: rowI 3 vl s.1 :: L
theorem calm_defs {B : Nat} (Ds : List Nat) (h : ∀ D ∈ Ds, D < B) : ∀ x ∈ Ds.map edef, x.Calm B := by
  intro x hx; obtain ⟨D, hD, rfl⟩ := List.mem_map.1 hx; exact edef_calm (h D hD)
theorem calm_append {B : Nat} {A T : List Ent} (h1 : ∀ x ∈ A, x.Calm B) (h2 : ∀ x ∈ T, x.Calm B) : ∀ x ∈ A ++ T, x.Calm B := by
  intro x hx; rcases List.mem_append.1 hx with h | h
  · exact h1 x h
  · exact h2 x h
theorem visit_eq {g : G} {s : S} {k i : Nat} {ob : List V} (hx : s.1[k]? = some (i : Int)) (hob : g.objs[i]? = some ob) : visitTo s k (targets ob) = visit g s k := by
  unfold visit fieldsAt
  have e : s.1.getD k 0 = i := by rw [List.getD_eq_getElem?_getD, hx]; rfl
  rw [e, Int.toNat_natCast, List.getD_eq_getElem?_getD, hob]; rfl
theorem visitTo_len (k : Nat) : ∀ (pre : List Int) (s : S), s.1.length ≤ (visitTo s k pre).1.length := by
  intro pre
  induction pre with
  | nil => intro s; exact Nat.le_refl _
  | cons a pre ih => intro s; exact Nat.le_trans (take1_len _ s a) (ih _)
theorem Mem.defs_lt {B : Nat} {w0 W : World} {L : List Ent} {Ds : List Nat} (h : Mem B w0 W L) (hs : ∀ D ∈ Ds, edef D ∈ L) : ∀ D ∈ Ds, D < W.heap.size := fun D hD => (h.lt (hs D hD) D rfl).2
end Go.Proofs.Ytdmgpiimacnapaa
