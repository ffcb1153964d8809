/- graph.Found, walked. -/
import Derived.Test.YtnpbdabboecpaaaMi
import Derived.Test.YtnpbdabboecpaaaGd
import Derived.Test.YtnpbdabboecpaaaIt
import Derived.BigRegion
import Derived.RegionTactic
import Derived.ChangeAlike
import Derived.Deep.QuietTactic
import Derived.BigQuiet
import Derived.Deep.RegionLaw
namespace Go.Proofs.Ytnpbdabboecpaaa
open Go.RowKit Go.Shelf

/-- The mark of a range over a function. -/
def mark (D : Nat) : Deferred := { target := .collected D, args := #[] }
/-- A frame with some slots turned. -/
def setAll (t : Array Value) (slots : List Nat) (u : Nat → Value) : Array Value := slots.foldl (fun t s => t.setIfInBounds s (u s)) t

theorem roundsIn_mono {F : Fence} {n : Nat} {P : Program} {c : Code} {Q : Exit → Act → World → Prop} : ∀ (m : Nat) (a : Act) (w : World), Code.roundsIn F n P c Q m a w → Code.roundsIn F n P c Q (m + 1) a w
  | 0, _, _, h => h.elim
  | m + 1, a, w, h => by
    refine wpIn_mono (show c.wpIn F n P (Exit.then (Code.roundsIn F n P c Q m) Q) a w from h) ?_
    intro e a' w' hq
    cases e with
    | normal => exact roundsIn_mono m a' w' hq
    | _ => exact hq
theorem roundsIn_le {F : Fence} {n : Nat} {P : Program} {c : Code} {Q : Exit → Act → World → Prop} {m k : Nat} (h : m ≤ k) {a : Act} {w : World} (hr : Code.roundsIn F n P c Q m a w) : Code.roundsIn F n P c Q k a w := by
  induction h with
  | refl => exact hr
  | step _ ih => exact roundsIn_mono _ _ _ ih

theorem set_getD (t : Array Value) (i : Nat) : t.setIfInBounds i (t.getD i undef) = t := by
  apply Array.ext_getElem?
  intro j
  rw [Array.getElem?_setIfInBounds]
  split
  · rename_i h; subst h
    split
    · rename_i h; simp [h]
    · rename_i h; simp at h; simp [h]
  · rfl
theorem setAll_self (slots : List Nat) (t0 : Array Value) : setAll t0 slots (fun s => t0.getD s undef) = t0 := by
  induction slots with
  | nil => rfl
  | cons s slots ih =>
    show setAll (t0.setIfInBounds s (t0.getD s undef)) slots _ = t0
    rw [set_getD]; exact ih
/-- A loop whose rounds range over functions: each lays a mark. -/
theorem loop_marks {F : Fence} {n : Nat} {P : Program} {Q : Exit → Act → World → Prop} {c : Code} {t : Array Value} {w : World} (slots : List Nat) (I : Nat → (Nat → Value) → List Nat → World → Prop)
    {Ds0 : List Nat} {ds0 : List Deferred} (hds : ds0 = Ds0.map mark) (m0 : Nat) (h0 : I m0 (fun s => t.getD s undef) Ds0 w)
    (round : ∀ m u Ds W, I m u Ds W → c.wpIn F n P (Exit.then (fun a' W' => ∃ m' Ds', m' < m ∧ setAll t slots (fun s => a'.tmps.getD s undef) = a'.tmps ∧ a'.defers = Ds'.map mark ∧ I m' (fun s => a'.tmps.getD s undef) Ds' W') Q) ⟨setAll t slots u, Ds.map mark⟩ W) :
    (Code.loop c).wpIn F n P Q ⟨t, ds0⟩ w := by
  have key : ∀ m u Ds W, I m u Ds W → Code.roundsIn F n P c Q (m + 1) ⟨setAll t slots u, Ds.map mark⟩ W := by
    intro m
    induction m using Nat.strongRecOn with
    | _ m ih =>
      intro u Ds W hi
      show c.wpIn F n P (Exit.then (Code.roundsIn F n P c Q m) Q) _ W
      refine wpIn_mono (round m u Ds W hi) ?_
      intro e a' w' hq
      cases e with
      | normal =>
        obtain ⟨m', Ds', hlt, he, hd, hi'⟩ := hq
        obtain ⟨ts, dfs⟩ := a'
        simp only at he hd
        subst hd
        have := roundsIn_le (Nat.succ_le_of_lt hlt) (ih m' hlt _ Ds' w' hi')
        rw [he] at this
        exact this
      | _ => exact hq
  refine wpIn_loop_rounds (m0 + 1) ?_
  have := key m0 _ Ds0 w h0
  rw [setAll_self] at this
  rw [hds]; exact this

/-- append whose run is known, as one step of a region that draws. -/
theorem step_append_eq {P : Program} {ops : Array Oper} {o : Oper} {a : Act} {w : World} {K : Act → World → Prop} {Q : Exit → Act → World → Prop} {E : Prop}
    (hg : o.guard = none) (s x : Operand) (t : TypeId) (hop : o.op = Op.call { callee := Callee.builtin Builtin.append, args := #[s, x], argTypes := #[t, t] })
    {v y v' : Value} {w' : World} (hs : a.eval s = v) (hx : a.eval x = y) (hr : (Builtin.append_ #[t, t] o.type #[v, y]).run P w = .ok v' w') (hK : K (a.put o.dst v') w') :
    if Region.wanted o (yielded ops a.tmps) = true then Oper.wp P o a w K Q else E := by
  have hw : Region.wanted o (yielded ops a.tmps) = true := by simp [Region.wanted, hg]
  rw [if_pos hw]
  unfold Oper.wp execOp
  simp only [hop, resolve, invoke, builtin, Sem.run_bind, Sem.run_pure, Result.andThen_ok, List.map_toArray, List.map_cons, List.map_nil, hs, hx, hr]
  exact hK

theorem getD_of_get {l : List Int} {i : Nat} {d : Int} (h : l[i]? = some d) : i < l.length := (List.getElem?_eq_some_iff.1 h).1

/-- A slice of ints of the call's own that is not empty: its shape, a cell of it. -/
theorem Mem.intsSlice {B : Nat} {w0 w : World} {L : List Ent} (h : Mem B w0 w L) (k : Nat) {e : TypeId} {v : Value} {l : List Int} (hk : L[k]? = some (rowI e v l)) :
    ∃ a cap, v = .slice a l.length cap := by
  have hr := h.ownI k hk
  rcases hr.2 with ⟨h1, h0⟩ | ⟨g, cap, cur, rfl, hB, hg, _⟩
  · exact ⟨none, 0, by rw [h1, h0]⟩
  · exact ⟨_, _, rfl⟩

set_option maxHeartbeats 1000000 in
theorem take_old (B : Nat) (w0 w : World) (i : Nat) (d x : Int) (Bd Bl : Nat) (vd vl : Value) (dist l : List Int) (hx : dist[i]? = some x) (hx0 : 0 ≤ x)
    (L' : List Ent) (hM : Mem B w0 w (ebox Bd #[vd] 27 :: ebox Bl #[vl] 27 :: rowI 3 vd dist :: rowI 3 vl l :: L')) :
    Calls Try.prog 52 #[.int .i64 i, .int .i64 d, .pointer (some ⟨Bd, 0, none⟩), .pointer (some ⟨Bl, 0, none⟩)] w fun e w' => e = .returned (.tuple #[]) ∧ w = w' := by
  obtain ⟨g, cap, rfl, hg1, hg2, hc, hf⟩ := hM.intsAt 2 rfl (by rintro rfl; simp at hx)
  have p0 : w.cell? ⟨Bd, 0, none⟩ = some (.slice (some ⟨g, 0, none⟩) dist.length cap) := by have := hM.cell 0 rfl 0; simpa using this
  have p1 := hc i x hx
  have hi : i < dist.length := getD_of_get hx
  have Hx := Lib.hid hx
  clear hx hc hf
  go_enter Try.func52, Try.ntmps52
  go_wp2
  go_end0
  exact ⟨rfl, rfl⟩

set_option maxHeartbeats 1000000 in
theorem take_new (B : Nat) (w0 w : World) (i : Nat) (d x : Int) (Bd Bl : Nat) (vd vl : Value) (dist l : List Int) (hx : dist[i]? = some x) (hx0 : x < 0) (hl : l.length ≤ 1000)
    (L' : List Ent) (hM : Mem B w0 w (ebox Bd #[vd] 27 :: ebox Bl #[vl] 27 :: rowI 3 vd dist :: rowI 3 vl l :: L')) :
    Calls Try.prog 52 #[.int .i64 i, .int .i64 d, .pointer (some ⟨Bd, 0, none⟩), .pointer (some ⟨Bl, 0, none⟩)] w fun e w' => e = .returned (.tuple #[]) ∧
      ∃ vl', Mem B w0 w' (ebox Bd #[vd] 27 :: ebox Bl #[vl'] 27 :: rowI 3 vd (dist.set i d) :: rowI 3 vl' (l ++ [(i : Int)]) :: L') ∧ KeepsOthers w w' := by
  obtain ⟨g, cap, rfl, hg1, hg2, hc, hf⟩ := hM.intsAt 2 rfl (by rintro rfl; simp at hx)
  obtain ⟨al, cl, hvl⟩ := hM.intsSlice 3 rfl
  have p0 : w.cell? ⟨Bd, 0, none⟩ = some (.slice (some ⟨g, 0, none⟩) dist.length cap) := by have := hM.cell 0 rfl 0; simpa using this
  have p2 : w.cell? ⟨Bl, 0, none⟩ = some vl := by have := hM.cell 1 rfl 0; simpa using this
  have p1 := hc i x hx
  have hi : i < dist.length := getD_of_get hx
  subst hvl
  have Hx := Lib.hid hx
  clear hx hc hf
  go_enter Try.func52, Try.ntmps52
  go_wp2
  obtain ⟨ad, n', cp, w1, hr, hn', hM1, hs1, hk1⟩ := ((hM.alloc_ (.cells #[.int .i64 (i : Int)] 3)).drew).run_appI elemInts 27 3 rfl (i : Int) w.heap.size 1 (by simp) (by omega)
  have q0 : w1.cell? ⟨Bd, 0, none⟩ = some (.slice (some ⟨g, 0, none⟩) dist.length cap) := by have := hM1.cell 0 rfl 0; simpa using this
  have q1 : w1.cell? ⟨g, i, none⟩ = some (.int .i64 x) := by
    have := (hM1.ownI 2 rfl).cellAt i (by simpa using hi)
    rw [this]; simp [Hx.out]
  have q2 : w1.frozen? ⟨g, i, none⟩ = false := (hM1.ownI 2 rfl).frozenAt i
  have hM2 := hM1.setRow 2 rfl i (.int .i64 d)
  have q3 : (w1.setCell ⟨g, i, none⟩ (.int .i64 d)).cell? ⟨Bl, 0, none⟩ = some (.slice al l.length cl) := by have := hM2.cell 1 rfl 0; simpa using this
  have q4 : (w1.setCell ⟨g, i, none⟩ (.int .i64 d)).frozen? ⟨Bl, 0, none⟩ = false := hM2.free 1 rfl 0
  have hM3 := hM2.setBox 1 rfl 0 (.slice ad n' cp)
  have hM4 : Mem B w0 ((w1.setCell ⟨g, i, none⟩ (.int .i64 d)).setCell ⟨Bl, 0, none⟩ (.slice ad n' cp)) (ebox Bd #[.slice (some ⟨g, 0, none⟩) dist.length cap] 27 :: ebox Bl #[.slice ad n' cp] 27 :: rowI 3 (.slice (some ⟨g, 0, none⟩) dist.length cap) (dist.set i d) :: rowI 3 (.slice ad n' cp) (l ++ [(i : Int)]) :: L') := hM3.cast (by simp [rowI, List.map_set])
  have HM3 := Lib.hid hM4
  have hko : KeepsOthers w ((w1.setCell ⟨g, i, none⟩ (.int .i64 d)).setCell ⟨Bl, 0, none⟩ (.slice ad n' cp)) :=
    ((((KeepsOthers.alloc w _).trans (KeepsOthers.drew _)).trans ⟨hs1, ((hM.alloc_ (.cells #[.int .i64 (i : Int)] 3)).drew).keeps 3 rfl hs1 hk1⟩).trans (KeepsOthers.setCell _ _ _)).trans (KeepsOthers.setCell _ _ _)
  have HKO := Lib.hid hko
  clear hM4 hko
  have z0 : Bd < w.heap.size := (hM.box 0 rfl).2.1
  have z1 : Bl < w.heap.size := (hM.box 1 rfl).2.1
  have HR := Lib.hid hr
  clear hr
  go_region_law (refine step_append_eq rfl (.tmp 14) (.tmp 16) 27 rfl rfl rfl HR.out ?_)
  all_goals (go_end0; exact ⟨rfl, _, HM3.out, HKO.out⟩)
end Go.Proofs.Ytnpbdabboecpaaa
