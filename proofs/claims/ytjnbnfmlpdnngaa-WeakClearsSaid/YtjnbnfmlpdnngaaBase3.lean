/- Texts Fd St F1 Fm F2 in one. -/
import Derived.Test.YtjnbnfmlpdnngaaBase1
import Derived.Test.YtjnbnfmlpdnngaaBase2
import Derived.BigRegion
import Derived.RegionTactic
import Derived.ChangeAlike
import Derived.Deep.QuietTactic
import Derived.BigQuiet
import Derived.Deep.RegionLaw
import Derived.StillTailTactics
import Derived.Laws.EntriesVeiled
/- graph.Found, walked. -/
namespace Go.Proofs.Ytjnbnfmlpdnngaa
open Go.RowKit Go.Shelf

/-- The mark of a range over a function. -/
def mark (D : Nat) : Deferred := { target := .collected D, args := #[] }
/-- A frame with some slots turned. -/
def setAll (t : Array Value) (slots : List Nat) (u : Nat → Value) : Array Value := slots.foldl (fun t s => t.setIfInBounds s (u s)) t

theorem roundsIn_mono {F : Fence} {n : Nat} {P : Program} {c : Code} {Q : Exit → Act → World → Prop} : ∀ (m : Nat) (a : Act) (w : World), Code.roundsIn F n P c Q m a w → Code.roundsIn F n P c Q (m + 1) a w
  | 0, _, _, h => h.elim
  | m + 1, a, w, h => by
    refine wpIn_mono (show c.wpIn F n P (Exit.then (Code.roundsIn F n P c Q m) Q) a w from h) ?_
    intro e a' w' hq
    cases e with
    | normal => exact roundsIn_mono m a' w' hq
    | _ => exact hq
theorem roundsIn_le {F : Fence} {n : Nat} {P : Program} {c : Code} {Q : Exit → Act → World → Prop} {m k : Nat} (h : m ≤ k) {a : Act} {w : World} (hr : Code.roundsIn F n P c Q m a w) : Code.roundsIn F n P c Q k a w := by
  induction h with
  | refl => exact hr
  | step _ ih => exact roundsIn_mono _ _ _ ih

theorem set_getD (t : Array Value) (i : Nat) : t.setIfInBounds i (t.getD i undef) = t := by
  apply Array.ext_getElem?
  intro j
  rw [Array.getElem?_setIfInBounds]
  split
  · rename_i h; subst h
    split
    · rename_i h; simp [h]
    · rename_i h; simp at h; simp [h]
  · rfl
theorem setAll_self (slots : List Nat) (t0 : Array Value) : setAll t0 slots (fun s => t0.getD s undef) = t0 := by
  induction slots with
  | nil => rfl
  | cons s slots ih =>
    show setAll (t0.setIfInBounds s (t0.getD s undef)) slots _ = t0
    rw [set_getD]; exact ih
/-- A loop whose rounds range over functions: each lays a mark. -/
theorem loop_marks {F : Fence} {n : Nat} {P : Program} {Q : Exit → Act → World → Prop} {c : Code} {t : Array Value} {w : World} (slots : List Nat) (I : Nat → (Nat → Value) → List Nat → World → Prop)
    {Ds0 : List Nat} {ds0 : List Deferred} (hds : ds0 = Ds0.map mark) (m0 : Nat) (h0 : I m0 (fun s => t.getD s undef) Ds0 w)
    (round : ∀ m u Ds W, I m u Ds W → c.wpIn F n P (Exit.then (fun a' W' => ∃ m' Ds', m' < m ∧ setAll t slots (fun s => a'.tmps.getD s undef) = a'.tmps ∧ a'.defers = Ds'.map mark ∧ I m' (fun s => a'.tmps.getD s undef) Ds' W') Q) ⟨setAll t slots u, Ds.map mark⟩ W) :
    (Code.loop c).wpIn F n P Q ⟨t, ds0⟩ w := by
  have key : ∀ m u Ds W, I m u Ds W → Code.roundsIn F n P c Q (m + 1) ⟨setAll t slots u, Ds.map mark⟩ W := by
    intro m
    induction m using Nat.strongRecOn with
    | _ m ih =>
      intro u Ds W hi
      show c.wpIn F n P (Exit.then (Code.roundsIn F n P c Q m) Q) _ W
      refine wpIn_mono (round m u Ds W hi) ?_
      intro e a' w' hq
      cases e with
      | normal =>
        obtain ⟨m', Ds', hlt, he, hd, hi'⟩ := hq
        obtain ⟨ts, dfs⟩ := a'
        simp only at he hd
        subst hd
        have := roundsIn_le (Nat.succ_le_of_lt hlt) (ih m' hlt _ Ds' w' hi')
        rw [he] at this
        exact this
      | _ => exact hq
  refine wpIn_loop_rounds (m0 + 1) ?_
  have := key m0 _ Ds0 w h0
  rw [setAll_self] at this
  rw [hds]; exact this

/-- append whose run is known, as one step of a region that draws. -/
theorem step_append_eq {P : Program} {ops : Array Oper} {o : Oper} {a : Act} {w : World} {K : Act → World → Prop} {Q : Exit → Act → World → Prop} {E : Prop}
    (hg : o.guard = none) (s x : Operand) (t : TypeId) (hop : o.op = Op.call { callee := Callee.builtin Builtin.append, args := #[s, x], argTypes := #[t, t] })
    {v y v' : Value} {w' : World} (hs : a.eval s = v) (hx : a.eval x = y) (hr : (Builtin.append_ #[t, t] o.type #[v, y]).run P w = .ok v' w') (hK : K (a.put o.dst v') w') :
    if Region.wanted o (yielded ops a.tmps) = true then Oper.wp P o a w K Q else E := by
  have hw : Region.wanted o (yielded ops a.tmps) = true := by simp [Region.wanted, hg]
  rw [if_pos hw]
  unfold Oper.wp execOp
  simp only [hop, resolve, invoke, builtin, Sem.run_bind, Sem.run_pure, Result.andThen_ok, List.map_toArray, List.map_cons, List.map_nil, hs, hx, hr]
  exact hK

theorem getD_of_get {l : List Int} {i : Nat} {d : Int} (h : l[i]? = some d) : i < l.length := (List.getElem?_eq_some_iff.1 h).1

/-- A slice of ints of the call's own that is not empty: its shape, a cell of it. -/
theorem Mem.intsSlice {B : Nat} {w0 w : World} {L : List Ent} (h : Mem B w0 w L) (k : Nat) {e : TypeId} {v : Value} {l : List Int} (hk : L[k]? = some (rowI e v l)) :
    ∃ a cap, v = .slice a l.length cap := by
  have hr := h.ownI k hk
  rcases hr.2 with ⟨h1, h0⟩ | ⟨g, cap, cur, rfl, hB, hg, _⟩
  · exact ⟨none, 0, by rw [h1, h0]⟩
  · exact ⟨_, _, rfl⟩

set_option maxHeartbeats 1000000 in
theorem take_old (B : Nat) (w0 w : World) (i : Nat) (d x : Int) (Bd Bl : Nat) (vd vl : Value) (dist l : List Int) (hx : dist[i]? = some x) (hx0 : 0 ≤ x)
    (L' : List Ent) (hM : Mem B w0 w (ebox Bd #[vd] 29 :: ebox Bl #[vl] 29 :: rowI 3 vd dist :: rowI 3 vl l :: L')) :
    Calls Try.prog 89 #[.int .i64 i, .int .i64 d, .pointer (some ⟨Bd, 0, none⟩), .pointer (some ⟨Bl, 0, none⟩)] w fun e w' => e = .returned (.tuple #[]) ∧ w = w' := by
  obtain ⟨g, cap, rfl, hg1, hg2, hc, hf⟩ := hM.intsAt 2 rfl (by rintro rfl; simp at hx)
  have p0 : w.cell? ⟨Bd, 0, none⟩ = some (.slice (some ⟨g, 0, none⟩) dist.length cap) := by have := hM.cell 0 rfl 0; simpa using this
  have p1 := hc i x hx
  have hi : i < dist.length := getD_of_get hx
  have Hx := Lib.hid hx
  clear hx hc hf
  go_enter Try.func89, Try.ntmps89
  go_wp2
  go_end0
  exact ⟨rfl, rfl⟩

set_option maxHeartbeats 1000000 in
theorem take_new (B : Nat) (w0 w : World) (i : Nat) (d x : Int) (Bd Bl : Nat) (vd vl : Value) (dist l : List Int) (hx : dist[i]? = some x) (hx0 : x < 0) (hl : l.length ≤ 1000)
    (L' : List Ent) (hM : Mem B w0 w (ebox Bd #[vd] 29 :: ebox Bl #[vl] 29 :: rowI 3 vd dist :: rowI 3 vl l :: L')) :
    Calls Try.prog 89 #[.int .i64 i, .int .i64 d, .pointer (some ⟨Bd, 0, none⟩), .pointer (some ⟨Bl, 0, none⟩)] w fun e w' => e = .returned (.tuple #[]) ∧
      ∃ vl', Mem B w0 w' (ebox Bd #[vd] 29 :: ebox Bl #[vl'] 29 :: rowI 3 vd (dist.set i d) :: rowI 3 vl' (l ++ [(i : Int)]) :: L') ∧ KeepsOthers w w' := by
  obtain ⟨g, cap, rfl, hg1, hg2, hc, hf⟩ := hM.intsAt 2 rfl (by rintro rfl; simp at hx)
  obtain ⟨al, cl, hvl⟩ := hM.intsSlice 3 rfl
  have p0 : w.cell? ⟨Bd, 0, none⟩ = some (.slice (some ⟨g, 0, none⟩) dist.length cap) := by have := hM.cell 0 rfl 0; simpa using this
  have p2 : w.cell? ⟨Bl, 0, none⟩ = some vl := by have := hM.cell 1 rfl 0; simpa using this
  have p1 := hc i x hx
  have hi : i < dist.length := getD_of_get hx
  subst hvl
  have Hx := Lib.hid hx
  clear hx hc hf
  go_enter Try.func89, Try.ntmps89
  go_wp2
  obtain ⟨ad, n', cp, w1, hr, hn', hM1, hs1, hk1⟩ := ((hM.alloc_ (.cells #[.int .i64 (i : Int)] 3)).drew).run_appI elemInts 29 3 rfl (i : Int) w.heap.size 1 (by simp) (by omega)
  have q0 : w1.cell? ⟨Bd, 0, none⟩ = some (.slice (some ⟨g, 0, none⟩) dist.length cap) := by have := hM1.cell 0 rfl 0; simpa using this
  have q1 : w1.cell? ⟨g, i, none⟩ = some (.int .i64 x) := by
    have := (hM1.ownI 2 rfl).cellAt i (by simpa using hi)
    rw [this]; simp [Hx.out]
  have q2 : w1.frozen? ⟨g, i, none⟩ = false := (hM1.ownI 2 rfl).frozenAt i
  have hM2 := hM1.setRow 2 rfl i (.int .i64 d)
  have q3 : (w1.setCell ⟨g, i, none⟩ (.int .i64 d)).cell? ⟨Bl, 0, none⟩ = some (.slice al l.length cl) := by have := hM2.cell 1 rfl 0; simpa using this
  have q4 : (w1.setCell ⟨g, i, none⟩ (.int .i64 d)).frozen? ⟨Bl, 0, none⟩ = false := hM2.free 1 rfl 0
  have hM3 := hM2.setBox 1 rfl 0 (.slice ad n' cp)
  have hM4 : Mem B w0 ((w1.setCell ⟨g, i, none⟩ (.int .i64 d)).setCell ⟨Bl, 0, none⟩ (.slice ad n' cp)) (ebox Bd #[.slice (some ⟨g, 0, none⟩) dist.length cap] 29 :: ebox Bl #[.slice ad n' cp] 29 :: rowI 3 (.slice (some ⟨g, 0, none⟩) dist.length cap) (dist.set i d) :: rowI 3 (.slice ad n' cp) (l ++ [(i : Int)]) :: L') := hM3.cast (by simp [rowI, List.map_set])
  have HM3 := Lib.hid hM4
  have hko : KeepsOthers w ((w1.setCell ⟨g, i, none⟩ (.int .i64 d)).setCell ⟨Bl, 0, none⟩ (.slice ad n' cp)) :=
    ((((KeepsOthers.alloc w _).trans (KeepsOthers.drew _)).trans ⟨hs1, ((hM.alloc_ (.cells #[.int .i64 (i : Int)] 3)).drew).keeps 3 rfl hs1 hk1⟩).trans (KeepsOthers.setCell _ _ _)).trans (KeepsOthers.setCell _ _ _)
  have HKO := Lib.hid hko
  clear hM4 hko
  have z0 : Bd < w.heap.size := (hM.box 0 rfl).2.1
  have z1 : Bl < w.heap.size := (hM.box 1 rfl).2.1
  have HR := Lib.hid hr
  clear hr
  go_region_law (refine step_append_eq rfl (.tmp 14) (.tmp 16) 29 rfl rfl rfl HR.out ?_)
  all_goals (go_end0; exact ⟨rfl, _, HM3.out, HKO.out⟩)
end Go.Proofs.Ytjnbnfmlpdnngaa

/- A region that draws, in a round of a range over a function: reads ahead, one tail (a call). -/
namespace Go.Proofs.Ytjnbnfmlpdnngaa
open Go.RowKit Go.Shelf

def noDefer (l : List Oper) : Bool := l.all fun o => match o.op with | .defer _ => false | _ => true
theorem noDefer_spec {l : List Oper} (h : noDefer l = true) {i : Nat} {o : Oper} (ho : l.toArray[i]? = some o) : ∀ c, o.op ≠ .defer c := by
  intro c e
  have hm : o ∈ l := by
    have : l[i]? = some o := by simpa using ho
    exact List.mem_of_getElem? this
  have := List.all_eq_true.1 h o hm
  rw [e] at this; simp at this

variable {P : Program} {n r : Nat}

theorem oper_round {o : Oper} {a : Act} {w : World} {K : Act → World → Prop} {Q : Exit → Act → World → Prop} (hd : ∀ c, o.op ≠ .defer c) (h : o.wp P a w K Q) : o.wpIn (Fence.wide.inRound r) n P a w K Q := by
  refine ⟨fun _ _ => trivial, ?_⟩
  rw [Oper.semAt_eq _ _ _ hd]
  unfold Oper.wp at h
  generalize (execOp a.eval o).run P w = res at *
  cases res with
  | ok x w' =>
    cases x with
    | enter f args => exact ⟨fun hx => (by cases hx), (callsIn_wide (n := n - 1)).2 h⟩
    | row f args => exact ⟨fun hx => (by cases hx), fun c cs _ => let ⟨v, w', h1, h2⟩ := h c cs; ⟨v, w', h1, stepsIn_wide.2 h2⟩⟩
    | round l f tmps assign body => exact h.elim
    | _ => exact h
  | halt x w' => cases x <;> first | exact h | exact h.elim

theorem any_round {l : List Oper} {Q : Exit → Act → World → Prop} (hd : noDefer l = true) (hQ : ¬ LetsOut Q) : ∀ (fuel : Nat) (listed : Array Bool) (a : Act) (w : World),
    wpAny P .any l.toArray Q fuel listed a w → wpAnyIn (Fence.wide.inRound r) n P .any l.toArray Q fuel listed a w
  | 0, _, _, _, h => h
  | fuel + 1, listed, a, w, h => by
    refine ⟨h.1, fun i hi => ?_⟩
    have h1 := h.2 i hi
    unfold wpOp at h1
    unfold wpOpIn
    cases ho : l.toArray[i]? with
    | none => rw [ho] at h1; exact any_round hd hQ _ _ _ _ h1
    | some o =>
      rw [ho] at h1
      simp only [] at h1 ⊢
      split
      · rename_i hw
        rw [if_pos hw] at h1
        rcases h1 with h1 | ⟨_, h1⟩
        · exact Oper.wpIn_mono (fun a w => any_round hd hQ _ _ a w) (oper_round (noDefer_spec hd ho) h1)
        · exact (hQ h1).elim
      · rename_i hw
        rw [if_neg hw] at h1
        exact ⟨fun _ _ => trivial, any_round hd hQ _ _ _ _ h1⟩

theorem region_round_tail {id : Nat} {Q : Exit → Act → World → Prop} {a : Act} {w : World} {l : List Oper} (k : Nat) (hm : P.follows .mixedOrders = true) (hB : Region.lexTailB .any l.toArray k = true) (hd : noDefer l = true) (hQ : ¬ LetsOut Q)
    (h : wpStill P l.toArray { w with drawn := w.drawn + 1 } (fun a' => wpList P l.toArray Q (l.drop k) a' { w with drawn := w.drawn + 1 }) (l.take k) a) : (Code.region id l.toArray true).wpIn (Fence.wide.inRound r) n P Q a w := by
  refine wpIn_region_any hm (any_round hd hQ _ _ _ _ ?_)
  simp only [Region.lexTailB, Bool.and_eq_true, decide_eq_true_eq] at hB
  obtain ⟨⟨⟨⟨hsel, hk⟩, hs⟩, hc⟩, hlex⟩ := hB
  have hk' : k < l.length := by simpa using hk
  have hlen : (l.take k).length = k := by simp; omega
  have hdrop : (l.drop k).length = l.toArray.size - k := by simp
  have head := wpAnyL_lex (md := .any) (g := l.toArray.size - k) hsel hs hc hk (l.take k) 0 _ a (fun j hj => by
    have hj' : j < k := by rw [hlen] at hj; exact hj
    simp [hj']) (by simpa using hlen)
    (show HeadInv .any l.toArray k (Array.replicate l.toArray.size false) from ⟨by simp, fun j oj _ hl => (by rw [getD_replicate_false] at hl; cases hl), fun t _ ht => getD_in (by simpa using ht) (getD_replicate_false _ _)⟩) (by rw [hlen]; exact hlex) h
  have whole := wpAny_of_head (Q' := Q) (g := l.toArray.size - k) (fun listed a' hL => by
    have tail := wpAny_of_seq (md := .any) (Q' := Q) (l.drop k) k listed a' { w with drawn := w.drawn + 1 } (fun j => by simp [List.getElem?_drop]) (by rw [hdrop]; exact hL.1) hL.2
    rwa [hdrop] at tail) _ _ _ head
  rw [hlen, show k + (l.toArray.size - k) = l.toArray.size by omega] at whole
  exact whole
end Go.Proofs.Ytjnbnfmlpdnngaa

/- What graph.Found's walk leans on: make of ints; the closure's contract; ranges over targets. -/
namespace Go.Proofs.Ytjnbnfmlpdnngaa
open Go.RowKit Go.Shelf


theorem callsIn_round {P : Program} {n r : Nat} {f : FuncId} {args : Array Value} {w : World} {R : Ending → World → Prop} (h : Calls P f args w R) : CallsIn (Fence.wide.inRound r) n P f args w R := (callsIn_wide (n := n)).2 h

/-- The closure: i is taken, if it is new. -/
theorem take_any (B : Nat) (w0 w : World) (n : Nat) (s : S) (x d : Int) (hs : SInv n s) (hx : 0 ≤ x ∧ x < n) (hn : n ≤ 1000) (Bd Bl : Nat) (vd vl : Value)
    (L' : List Ent) (hM : Mem B w0 w (ebox Bd #[vd] 29 :: ebox Bl #[vl] 29 :: rowI 3 vd s.2 :: rowI 3 vl s.1 :: L')) :
    Calls Try.prog 89 #[.int .i64 x, .int .i64 d, .pointer (some ⟨Bd, 0, none⟩), .pointer (some ⟨Bl, 0, none⟩)] w fun e w' => e = .returned (.tuple #[]) ∧
      ∃ vl', Mem B w0 w' (ebox Bd #[vd] 29 :: ebox Bl #[vl'] 29 :: rowI 3 vd (take1 d s x).2 :: rowI 3 vl' (take1 d s x).1 :: L') ∧ KeepsOthers w w' := by
  obtain ⟨i, rfl⟩ : ∃ i : Nat, x = (i : Int) := ⟨x.toNat, by omega⟩
  have hi : i < s.2.length := by rw [hs.len]; omega
  obtain ⟨y, hy⟩ := get_some _ _ hi
  have hg : s.2.getD i 0 = y := by rw [List.getD_eq_getElem?_getD, hy]; rfl
  have hle := hs.length_le
  by_cases h0 : y < 0
  · have e : take1 d s i = (s.1 ++ [(i : Int)], s.2.set i d) := by unfold take1; rw [if_pos (by rw [Int.toNat_natCast, hg]; exact h0)]; rfl
    rw [e]
    exact take_new B w0 w i d y Bd Bl vd vl s.2 s.1 hy h0 (by omega) L' hM
  · have e : take1 d s i = s := by unfold take1; rw [if_neg (by rw [Int.toNat_natCast, hg]; exact h0)]
    rw [e]
    refine (take_old B w0 w i d y Bd Bl vd vl s.2 s.1 hy (by omega) L' hM).mono ?_
    rintro e w1 ⟨rfl, rfl⟩
    exact ⟨rfl, vl, hM, KeepsOthers.refl _⟩

/-- graph.Targets, its world kept shut. -/
theorem targets_opaque (n : Nat) (a : Option Addr) (len cap : Nat) (w : World) :
    CallsIn Fence.wide n Try.prog 56 #[.slice a len cap] w fun e w' => ∃ Bs, e = .returned (.func (.func 79) #[] #[.pointer (some ⟨Bs, 0, none⟩)]) ∧
      Below w.heap.size w w' ∧ Bs < w'.heap.size ∧ w'.cell? ⟨Bs, 0, none⟩ = some (.slice a len cap) := by
  refine (targets_any n a len cap w).mono ?_
  rintro e w1 ⟨rfl, rfl⟩
  exact ⟨w.heap.size, rfl, (Below.refl _ w).alloc (Nat.le_refl _) _, by simp, by simp⟩

theorem init_step (n k : Nat) (h : k < n) : (List.replicate k (-1) ++ List.replicate (n - k) (0 : Int)).set k (-1) = List.replicate (k + 1) (-1) ++ List.replicate (n - (k + 1)) 0 := by
  rw [List.set_append_right _ _ (by simp)]
  obtain ⟨m, hm⟩ : ∃ m, n - k = m + 1 := ⟨n - k - 1, by omega⟩
  rw [hm, show n - (k + 1) = m by omega]
  simp only [List.length_replicate, Nat.sub_self, List.replicate_succ, List.set_cons_zero]
  rw [show List.replicate k (-1 : Int) ++ (-1 : Int) :: List.replicate m 0 = (List.replicate k (-1 : Int) ++ [-1]) ++ List.replicate m 0 by simp]
  rw [← List.replicate_succ', List.replicate_succ]
theorem init_get (n k : Nat) (h : k < n) : (List.replicate k (-1) ++ List.replicate (n - k) (0 : Int))[k]? = some 0 := by
  rw [List.getElem?_append_right (by simp)]
  rw [List.length_replicate, Nat.sub_self, List.getElem?_replicate, if_pos (by omega)]
/-- A mark more. -/
theorem Mem.tailDef {B : Nat} {w0 w : World} {A T : List Ent} {x : Ent} (h : Mem B w0 w (x :: (A ++ T))) : Mem B w0 w (A ++ x :: T) := h.perm List.perm_middle
/-- What Found holds. -/
@[reducible] def fl (Bd Bl : Nat) (vd vl : Value) (s : S) (L : List Ent) : List Ent := ebox Bd #[vd] 29 :: ebox Bl #[vl] 29 :: rowI 3 vd s.2 :: rowI 3 vl s.1 :: L
theorem calm_defs {B : Nat} (Ds : List Nat) (h : ∀ D ∈ Ds, D < B) : ∀ x ∈ Ds.map edef, x.Calm B := by
  intro x hx; obtain ⟨D, hD, rfl⟩ := List.mem_map.1 hx; exact edef_calm (h D hD)
theorem calm_append {B : Nat} {A T : List Ent} (h1 : ∀ x ∈ A, x.Calm B) (h2 : ∀ x ∈ T, x.Calm B) : ∀ x ∈ A ++ T, x.Calm B := by
  intro x hx; rcases List.mem_append.1 hx with h | h
  · exact h1 x h
  · exact h2 x h
theorem visit_eq {g : G} {s : S} {k i : Nat} {ob : List V} (hx : s.1[k]? = some (i : Int)) (hob : g.objs[i]? = some ob) : visitTo s k (targets ob) = visit g s k := by
  unfold visit fieldsAt
  have e : s.1.getD k 0 = i := by rw [List.getD_eq_getElem?_getD, hx]; rfl
  rw [e, Int.toNat_natCast, List.getD_eq_getElem?_getD, hob]; rfl
theorem visitTo_len (k : Nat) : ∀ (pre : List Int) (s : S), s.1.length ≤ (visitTo s k pre).1.length := by
  intro pre
  induction pre with
  | nil => intro s; exact Nat.le_refl _
  | cons a pre ih => intro s; exact Nat.le_trans (take1_len _ s a) (ih _)
theorem Mem.defs_lt {B : Nat} {w0 W : World} {L : List Ent} {Ds : List Nat} (h : Mem B w0 W L) (hs : ∀ D ∈ Ds, edef D ∈ L) : ∀ D ∈ Ds, D < W.heap.size := fun D hD => (h.lt (hs D hD) D rfl).2
end Go.Proofs.Ytjnbnfmlpdnngaa

/- graph.Found, walked. -/
namespace Go.Proofs.Ytjnbnfmlpdnngaa
open Go.RowKit Go.Shelf

attribute [local go_sem] Oper.semAt_some

set_option maxRecDepth 100000 in
set_option maxHeartbeats 4000000 in
theorem found_main (g : G) (hG : Fits g) (vo vr : Value) (w : World) (ho : IsObjs w vo g.objs) (hr : IsVals w vr g.roots) :
    CallsIn Fence.wide 10 Try.prog 74 #[.agg #[vo, vr]] w fun e w' => ∃ vl vd l dist, e = .returned (.tuple #[vl, vd]) ∧ FoundS g l dist ∧ Mem w.heap.size w w' [rowI 3 vl l, rowI 3 vd dist] := by
  obtain ⟨ao, co, rfl, hlo⟩ := ho.slice
  obtain ⟨ar, cr, rfl, hlr⟩ := hr.slice
  have Ho := Lib.hid ho
  have Hr := Lib.hid hr
  have hn := hG.objs
  clear ho hr
  refine callsIn_of_wp_marks Try.func74 rfl trivial ?_ rfl
  simp only [Try.ntmps74, List.size_toArray, List.length_cons, List.length_nil, Nat.reduceAdd, Nat.reduceSub, Array.replicate_succ, Array.replicate_zero, List.push_toArray, List.append_toArray, List.nil_append, List.cons_append]
  have hM0 := (Mem.start w).alloc #[.slice ao g.objs.length co, .slice ar g.roots.length cr] 25
  gi_wp2_with (gi_at_make; refine Mem.in_makeI elemInts rfl _ _ rfl hM0 _ _ g.objs.length rfl rfl (by go_num) (by go_num) (by omega) ?_; intro w1 hM1 hb1)
  have hM1b : Mem w.heap.size w w1 [rowI 3 (.slice (some ⟨w.heap.size + 1, 0, none⟩) g.objs.length g.objs.length) (List.replicate g.objs.length 0), ebox w.heap.size #[.slice ao g.objs.length co, .slice ar g.roots.length cr] 25] := by
    simpa using hM1
  clear hM1 hb1
  have hg1 : w.heap.size + 1 < w1.heap.size := (hM1b.lt (List.mem_cons_self ..) _ rfl).2
  have hM2 := hM1b.alloc #[.slice (some ⟨w.heap.size + 1, 0, none⟩) g.objs.length g.objs.length] 29
  gi_wp2
  gi_loopw [17] (fun i wr => ∃ k : Nat, k ≤ g.objs.length ∧ i = .int .i64 k ∧ Mem w.heap.size w wr [ebox w1.heap.size #[.slice (some ⟨w.heap.size + 1, 0, none⟩) g.objs.length g.objs.length] 29,
    rowI 3 (.slice (some ⟨w.heap.size + 1, 0, none⟩) g.objs.length g.objs.length) (List.replicate k (-1) ++ List.replicate (g.objs.length - k) 0), ebox w.heap.size #[.slice ao g.objs.length co, .slice ar g.roots.length cr] 25])
    (fun i _ => g.objs.length - (intOf i).toNat)
  case atStart => exact ⟨0, Nat.zero_le _, rfl, hM2⟩
  case round =>
    obtain ⟨k, hk, rfl, hM⟩ := hrel
    have p0 : wr.cell? ⟨w1.heap.size, 0, none⟩ = some (.slice (some ⟨w.heap.size + 1, 0, none⟩) g.objs.length g.objs.length) := by have := hM.cell 0 rfl 0; simpa using this
    by_cases hlt : k < g.objs.length
    · obtain ⟨q1, q2⟩ := hM.intAt 1 rfl (init_get _ _ hlt)
      have hM3 := hM.setI 1 rfl (by simp; omega) k (-1)
      rw [init_step _ _ hlt] at hM3
      have HM3 := Lib.hid hM3
      clear hM3
      gi_wp2
      go_roundw
      case rel => exact ⟨k + 1, by omega, by go_num, HM3.out⟩
      case measure => simp [intOf]; omega
    · obtain rfl : k = g.objs.length := by omega
      have HM := Lib.hid (hM.cast (L' := [ebox w1.heap.size #[.slice (some ⟨w.heap.size + 1, 0, none⟩) g.objs.length g.objs.length] 29,
        rowI 3 (.slice (some ⟨w.heap.size + 1, 0, none⟩) g.objs.length g.objs.length) (List.replicate g.objs.length (-1)), ebox w.heap.size #[.slice ao g.objs.length co, .slice ar g.roots.length cr] 25]) (by simp))
      have hsz : w1.heap.size < wr.heap.size := (hM.box 0 rfl).2.1
      have hsz0 : w.heap.size < wr.heap.size := by omega
      have p1 : wr.cell? ⟨w.heap.size, 0, none⟩ = some (.slice ao g.objs.length co) := by have := hM.cell 2 rfl 0; simpa using this
      have p2 : wr.cell? ⟨w.heap.size, 1, none⟩ = some (.slice ar g.roots.length cr) := by have := hM.cell 2 rfl 1; simpa using this
      clear hM
      gi_wp2_with fail
      obtain ⟨dv, hdv⟩ : ∃ dv : Value, dv = .slice (some ⟨w.heap.size + 1, 0, none⟩) g.objs.length g.objs.length := ⟨_, rfl⟩
      obtain ⟨fv, hfv⟩ : ∃ fv : Value, fv = .func (.func 89) #[] #[.pointer (some ⟨w1.heap.size, 0, none⟩), .pointer (some ⟨wr.heap.size, 0, none⟩)] := ⟨_, rfl⟩
      have hM4 := (((HM.out.nilI 3).alloc #[.slice none 0 0] 29).allocAt (wr.heap.size + 1) (by simp) #[fv] 170)
      rw [hfv] at hM4
      refine ⟨trivial, (targets_opaque _ _ _ _ _).mono ?_⟩
      rintro e w3 ⟨Bs, rfl, hb3, hBs, hcs⟩
      have hM5 := hM4.call hb3
      rw [← hfv, ← hdv] at hM5
      have hM6 : Mem w.heap.size w w3 (fl w1.heap.size wr.heap.size dv (.slice none 0 0) (found0 g.objs.length []) [ebox (wr.heap.size + 1) #[fv] 170, ebox w.heap.size #[.slice ao g.objs.length co, .slice ar g.roots.length cr] 25]) :=
        hM5.pick0 [3, 1, 4, 2, 0, 5] (by decide) rfl
      have hsz3 : wr.heap.size + 1 < w3.heap.size := (hM6.box 4 rfl).2.1
      clear hM5 hM4 hM0 hM2 hM1b
      gi_wp2
      refine range_slot (by omega) (gf := 79) (lb := #[.pointer (some ⟨Bs, 0, none⟩)]) rfl (enters_of Try.func79 (by kernel_rfl) rfl)
        (targets_stops _ (by omega) Bs g.roots _ w Hr.out w3 hM6.below hBs hcs) hM6.base
        (fun pre W => ∃ vl, Mem w.heap.size w W (fl w1.heap.size wr.heap.size dv vl (found0 g.objs.length (pre.map (·.1))) [ebox (wr.heap.size + 1) #[fv] 170, ebox w.heap.size #[.slice ao g.objs.length co, .slice ar g.roots.length cr] 25]))
        (fun _ _ _ => False) (ownFrom_ex fun vl => ownFrom_mem _ hM6.base (by intro _; repeat (first | exact calm_nil _ | refine calm_cons ?_ ?_ | exact ebox_calm _ _ _ _ | exact rowV_calm _ _ _ _ | exact rowI_calm _ _ _ _ | exact erow_calm _ _ _ _ _ _ | exact edef_calm (by first | exact Nat.le_refl _ | (simp; done) | (simp; omega) | (simp at *; omega)) | exact low_calm (by first | exact Nat.le_refl _ | (simp; done) | (simp; omega) | (simp at *; omega))))) (fun _ => ownFrom_false _) ⟨_, hM6⟩ 8 (fun x => .int .i64 x.1) ?assign ?body ?done ?stop
      case assign =>
        intro l x W K hK
        simp only [laid]
        gi_wp2
        exact hK
      case body =>
        rintro l pre ⟨x, hx⟩ W hsz ⟨vl, hM⟩ hlen
        have hmem := fun y hy => hG.rng.target (roots_all g) (i := y) hy
        have hinv : SInv g.objs.length (found0 g.objs.length (pre.map (·.1))) := found0_inv _ _ (by
          intro y hy; obtain ⟨z, _, rfl⟩ := List.mem_map.1 hy; exact hmem _ z.2)
        have pf : W.cell? ⟨wr.heap.size + 1, 0, none⟩ = some (.func (.func 89) #[] #[.pointer (some ⟨w1.heap.size, 0, none⟩), .pointer (some ⟨wr.heap.size, 0, none⟩)]) := by
          have := hM.cell 4 rfl 0; rw [hfv] at this; simpa using this
        simp only [laid]
        gi_wp2_with fail
        refine ⟨trivial, (callsIn_round (take_any w.heap.size w W g.objs.length _ x 0 hinv (hmem x hx) hn _ _ _ _ _ hM)).mono ?_⟩
        rintro e w4 ⟨rfl, vl', hM7, hk7⟩
        have hM8 := hM7
        rw [← found0_snoc] at hM8
        gi_wp2
        exact ⟨hk7.from _, below_between hM.below hM7.below hk7.size, vl', by rw [List.map_append]; exact hM8⟩
      case stop => rintro D c pre W hD hpre hf hK; exact hf.elim
      case done =>
        rintro D1 xs W hD1 hxs ⟨vl, hM⟩ hK1
        rw [hxs] at hM
        have hM7 := hM.addDef' (D := D1) (by have := hM6.base; omega) hK1 (by repeat (first | exact calm_nil _ | refine calm_cons ?_ ?_ | exact ebox_calm _ _ _ _ | exact rowV_calm _ _ _ _ | exact rowI_calm _ _ _ _ | exact erow_calm _ _ _ _ _ _ | exact edef_calm (by first | exact Nat.le_refl _ | (simp; done) | (simp; omega) | (simp at *; omega)) | exact low_calm (by first | exact Nat.le_refl _ | (simp; done) | (simp; omega) | (simp at *; omega))))
        gi_wp2
        have hbd : ∀ W', Below w.heap.size w W' → True := fun _ _ => trivial
        have hM8 : Mem w.heap.size w (W.alloc (.cells #[.int .i64 0] 3)) (fl w1.heap.size wr.heap.size dv vl (foundAt g 0) [ebox W.heap.size #[.int .i64 0] 3, ebox (wr.heap.size + 1) #[fv] 170, ebox w.heap.size #[.slice ao g.objs.length co, .slice ar g.roots.length cr] 25] ++ [D1].map edef) :=
          (hM7.alloc #[.int .i64 0] 3).pick0 [2, 3, 4, 5, 0, 6, 7, 1] (by decide) rfl
        clear hM7 hM hM6 hK1 hxs hD1
        refine loop_marks [9, 32, 33, 34, 35, 36, 37, 38, 39, 40, 41, 42, 43, 44, 45, 46, 47, 60] (fun m u Ds W => ∃ (k Bk : Nat) (vl : Value), m = g.objs.length - k ∧ k ≤ (foundAt g k).1.length ∧ (∀ j, j < k → j < (foundAt g j).1.length) ∧ u 9 = .pointer (some ⟨Bk, 0, none⟩) ∧
          Mem w.heap.size w W (fl w1.heap.size wr.heap.size dv vl (foundAt g k) [ebox Bk #[.int .i64 k] 3, ebox (wr.heap.size + 1) #[fv] 170, ebox w.heap.size #[.slice ao g.objs.length co, .slice ar g.roots.length cr] 25] ++ Ds.map edef))
          (Ds0 := [D1]) rfl (g.objs.length) ⟨0, _, vl, rfl, Nat.zero_le _, fun _ h => absurd h (Nat.not_lt_zero _), rfl, hM8⟩ ?_
        rintro m u Ds W2 ⟨k, Bk, vl2, rfl, hk, hprev, hu, hM⟩
        have hinv := foundAt_invR hG.rng k hprev
        simp only [setAll, List.foldl_cons, List.foldl_nil, List.setIfInBounds_toArray, List.set_cons_succ, List.set_cons_zero, hu]
        have pk : W2.cell? ⟨Bk, 0, none⟩ = some (.int .i64 k) := by have := hM.cell 4 rfl 0; simpa using this
        have pl : W2.cell? ⟨wr.heap.size, 0, none⟩ = some vl2 := by have := hM.cell 1 rfl 0; simpa using this
        have pd : W2.cell? ⟨w1.heap.size, 0, none⟩ = some dv := by have := hM.cell 0 rfl 0; simpa using this
        have pg : W2.cell? ⟨w.heap.size, 0, none⟩ = some (.slice ao g.objs.length co) := by have := hM.cell 6 rfl 0; simpa using this
        by_cases hlt : k < (foundAt g k).1.length
        · obtain ⟨x, hx⟩ := get_some _ _ hlt
          obtain ⟨gl, cl, rfl, hgl, hgl2, hcl, hfl⟩ := hM.intsAt 3 rfl (by rintro e; rw [e] at hx; simp at hx)
          have pe := hcl k x hx
          have hxr := hinv.rng x (List.mem_of_getElem? hx)
          obtain ⟨i, rfl⟩ : ∃ i : Nat, x = (i : Int) := ⟨x.toNat, by omega⟩
          have hi : i < g.objs.length := by omega
          obtain ⟨ob, hob⟩ := get_some _ _ hi
          obtain ⟨b, off, cap2, uo, hv, hb, hn2, c1, huo⟩ := Ho.out.at hM.below hob
          cases hv
          obtain ⟨au, cu, rfl, hlu⟩ := huo.slice
          have Hx := Lib.hid hx
          have Hob := Lib.hid hob
          have Huo := Lib.hid huo
          have Hinv := Lib.hid hinv
          have Hprev := Lib.hid hprev
          have HM := Lib.hid hM
          clear hx hob huo hinv hprev hcl hfl hM
          gi_wp2
          refine wpIn_wide.2 ?_
          go_still_tail 9, (by kernel_rfl)
          go_wp2_with fail
          refine (callsIn_wide.1 (targets_opaque 9 _ _ _ _)).mono ?_
          rintro e w4 ⟨Bs2, rfl, hb4, hBs2, hcs2⟩
          go_wp2
          gi_wp2
          have hM9 := (HM.out.drew).call hb4
          have hDs : ∀ D ∈ Ds, D < w4.heap.size := hM9.defs_lt (fun D hD => List.mem_append_right _ (List.mem_map.2 ⟨D, hD, rfl⟩))
          have hbig : wr.heap.size + 1 < w4.heap.size := (hM9.box 5 rfl).2.1
          have hbk : Bk < w4.heap.size := (hM9.box 4 rfl).2.1
          have hV0 : VInv g.objs.length k i (foundAt g k) := ⟨Hinv.out, Hx.out⟩
          have HV0 := Lib.hid hV0
          have hob2 : ∀ y ∈ targets ob, 0 ≤ y ∧ y < (g.objs.length : Int) := fun y hy => hG.rng.target (l := ob) (fun z hz => List.mem_append_right _ (List.mem_flatten.2 ⟨ob, List.mem_of_getElem? Hob.out, hz⟩)) hy
          have Hob2 := Lib.hid hob2
          have hbase := hM9.base
          clear hV0 hob2
          refine range_slot (by omega) (gf := 79) (lb := #[.pointer (some ⟨Bs2, 0, none⟩)]) rfl (enters_of Try.func79 (by kernel_rfl) rfl)
            (targets_stops _ (by omega) Bs2 ob _ w Huo.out w4 hM9.below hBs2 hcs2) hbase
            (fun pre W => ∃ vl, Mem w.heap.size w W (fl w1.heap.size wr.heap.size dv vl (visitTo (foundAt g k) k (pre.map (·.1))) [ebox Bk #[.int .i64 k] 3, ebox (wr.heap.size + 1) #[fv] 170, ebox w.heap.size #[.slice (some ⟨b, off, none⟩) g.objs.length co, .slice ar g.roots.length cr] 25] ++ Ds.map edef))
            (fun _ _ _ => False) (ownFrom_ex fun vl => ownFrom_mem _ hbase (fun _ => calm_append (by repeat (first | exact calm_nil _ | refine calm_cons ?_ ?_ | exact ebox_calm _ _ _ _ | exact rowV_calm _ _ _ _ | exact rowI_calm _ _ _ _ | exact erow_calm _ _ _ _ _ _ | exact edef_calm (by first | exact Nat.le_refl _ | (simp; done) | (simp; omega) | (simp at *; omega)) | exact low_calm (by first | exact Nat.le_refl _ | (simp; done) | (simp; omega) | (simp at *; omega)))) (calm_defs _ hDs))) (fun _ => ownFrom_false _) ⟨_, hM9⟩ 10 (fun x => .int .i64 x.1) ?assign2 ?body2 ?done2 ?stop2
          case assign2 =>
            intro l x W K hK
            simp only [laid]
            gi_wp2
            exact hK
          case body2 =>
            rintro l pre ⟨x, hx⟩ W hsz ⟨vl, hM⟩ hlen
            obtain ⟨pr, hpr⟩ : ∃ pr : List Int, pre.map (·.1) = pr := ⟨_, rfl⟩
            have hprm : ∀ y ∈ pr, 0 ≤ y ∧ y < (g.objs.length : Int) := by intro y hy; rw [← hpr] at hy; obtain ⟨z, _, rfl⟩ := List.mem_map.1 hy; exact Hob2.out _ z.2
            rw [hpr] at hM
            have hV := visitTo_inv pr _ HV0.out hprm
            have hinv := hV.inv
            obtain ⟨hd0, hd1, hd2⟩ := hV.dist
            obtain ⟨dd, hdd⟩ := get_some _ _ (show i < (visitTo (foundAt g k) k pr).2.length by rw [hinv.len]; exact hi)
            have hde : distAt (visitTo (foundAt g k) k pr) k = dd := by rw [hd2, Int.toNat_natCast, List.getD_eq_getElem?_getD, hdd]; rfl
            rw [hde] at hd0 hd1
            have hkn : k ≤ 1000 := by have := Hinv.out.length_le; omega
            obtain ⟨gl2, cl2, rfl, hgl3, hgl4, hcl2, _⟩ := hM.intsAt 3 rfl (by rintro e; have := hV.at_; rw [e] at this; simp at this)
            have c2 := hcl2 k _ hV.at_
            have hklt : k < (visitTo (foundAt g k) k pr).1.length := (List.getElem?_eq_some_iff.1 hV.at_).1
            rw [hdv] at hM
            obtain ⟨c3, _⟩ := hM.intAt 2 rfl hdd
            have pf : W.cell? ⟨wr.heap.size + 1, 0, none⟩ = some (.func (.func 89) #[] #[.pointer (some ⟨w1.heap.size, 0, none⟩), .pointer (some ⟨wr.heap.size, 0, none⟩)]) := by
              have := hM.cell 5 rfl 0; rw [hfv] at this; simpa using this
            have r0 : W.cell? ⟨w1.heap.size, 0, none⟩ = some (.slice (some ⟨w.heap.size + 1, 0, none⟩) g.objs.length g.objs.length) := by have := hM.cell 0 rfl 0; simpa using this
            have r1 : W.cell? ⟨wr.heap.size, 0, none⟩ = some (.slice (some ⟨gl2, 0, none⟩) (visitTo (foundAt g k) k pr).1.length cl2) := by have := hM.cell 1 rfl 0; simpa using this
            have r2 : W.cell? ⟨Bk, 0, none⟩ = some (.int .i64 k) := by have := hM.cell 4 rfl 0; simpa using this
            have HM2 := Lib.hid hM
            have Hinv2 := Lib.hid hinv
            have Hde := Lib.hid hde
            have Hpr := Lib.hid hpr
            clear hM hV hinv hd2 hdd hde hcl2 hprm hpr
            simp only [laid]
            gi_wp2
            refine region_round_tail 10 (by kernel_rfl) (by kernel_rfl) (by kernel_rfl) (by rintro ⟨a, w, h⟩; exact h) ?_
            simp only [List.take_succ_cons, List.take_zero, List.drop_succ_cons, List.drop_zero]
            repeat still_step
            try refine wpStill_nil ?_
            go_wp2_with fail
            refine (take_any w.heap.size w _ g.objs.length _ x (dd + 1) Hinv2.out (Hob2.out x hx) hn _ _ _ _ _ HM2.out.drew).mono ?_
            rintro e w5 ⟨rfl, vl', hM7, hk7⟩
            have hM8 := hM7
            rw [← Hde.out, ← visitTo_snoc] at hM8
            go_wp2
            refine ⟨((KeepsOthers.drew _).trans hk7).from _, below_between HM2.out.below hM7.below (Nat.le_trans (Nat.le_refl _) hk7.size), vl', ?_⟩
            rw [List.map_append, Hpr.out, hdv]; exact hM8
          case stop2 => rintro D c pre W hD hpre hf hK; exact hf.elim
          case done2 =>
            rintro D2 xs W hD2 hxs ⟨vl, hM⟩ hK2
            have hM10 := hM.addDef' (D := D2) (by omega) hK2 (calm_append (by repeat (first | exact calm_nil _ | refine calm_cons ?_ ?_ | exact ebox_calm _ _ _ _ | exact rowV_calm _ _ _ _ | exact rowI_calm _ _ _ _ | exact erow_calm _ _ _ _ _ _ | exact edef_calm (by first | exact Nat.le_refl _ | (simp; done) | (simp; omega) | (simp at *; omega)) | exact low_calm (by first | exact Nat.le_refl _ | (simp; done) | (simp; omega) | (simp at *; omega)))) (calm_defs _ (fun D hD => by have := hDs D hD; omega)))
            have r2 : W.cell? ⟨Bk, 0, none⟩ = some (.int .i64 k) := by have := hM.cell 4 rfl 0; simpa using this
            have hkn : k + 1 ≤ 1001 := by have := Hinv.out.length_le; omega
            have HM10 := Lib.hid hM10
            have Hxs := Lib.hid hxs
            clear hM hM10 hxs
            gi_wp2
            have hkn2 := Hinv.out.length_le
            refine ⟨g.objs.length - (k + 1), D2 :: Ds, by omega, rfl, rfl, k + 1, W.heap.size, vl, rfl, ?_, ?_, rfl, ?_⟩
            · show k + 1 ≤ (visit g (foundAt g k) k).1.length
              rw [← visit_eq Hx.out Hob.out]; have := visitTo_len k (targets ob) (foundAt g k); omega
            · intro j hj
              rcases Nat.lt_or_ge j k with h | h
              · exact Hprev.out j h
              · obtain rfl : j = k := by omega
                exact hlt
            · have hM11 := HM10.out.alloc #[.int .i64 ((k + 1 : Nat) : Int)] 3
              rw [Hxs.out, visit_eq Hx.out Hob.out] at hM11
              exact Mem.pick (A := [_, _, _, _, _, _, _, _, _]) (T := Ds.map edef) (A' := [_, _, _, _, _, _, _, _]) hM11 [2, 3, 4, 5, 0, 7, 8, 1] (by decide) rfl
        · have hke : k = (foundAt g k).1.length := by omega
          have Hke := Lib.hid hke
          obtain ⟨al, cl, hvl⟩ := hM.intsSlice 3 rfl
          subst hvl
          have HM2 := Lib.hid hM
          have Hprev := Lib.hid hprev
          clear hke hM hprev hinv
          gi_wp2
          refine wpIn_wide.2 ?_
          go_quiet (fail)
          go_wp2
          gi_wp2
          refine leaves_marks (v := .tuple #[.slice al (foundAt g k).1.length cl, .slice (some ⟨w.heap.size + 1, 0, none⟩) g.objs.length g.objs.length]) Ds _ ((HM2.out.drewN _).perm List.perm_append_comm) ?_
          intro W' hM3
          refine ⟨by simp [results, Try.results74, go_sem], _, _, _, _, rfl, ⟨k, rfl, Hke.out, Hprev.out⟩, ?_⟩
          rw [hdv] at hM3
          exact hM3.pick0 [3, 2] (by decide) rfl

/-- graph.Found. -/
theorem found_fits (g : G) (hG : Fits g) (v : Value) (w : World) (hg : IsGraph w v g) :
    Calls Try.prog 74 #[v] w fun e w' => ∃ vl vd l dist, e = .returned (.tuple #[vl, vd]) ∧ FoundS g l dist ∧ Mem w.heap.size w w' [rowI 3 vl l, rowI 3 vd dist] := by
  obtain ⟨vo, vr, rfl, ho, hr⟩ := hg
  exact callsIn_wide.1 (found_main g hG vo vr w ho hr)
theorem found_any (g : G) (hG : Good g) (v : Value) (w : World) (hg : IsGraph w v g) :
    Calls Try.prog 74 #[v] w fun e w' => ∃ vl vd l dist, e = .returned (.tuple #[vl, vd]) ∧ FoundS g l dist ∧ Mem w.heap.size w w' [rowI 3 vl l, rowI 3 vd dist] := found_fits g hG.fits v w hg
end Go.Proofs.Ytjnbnfmlpdnngaa

/- What Found tells is how far each is: plain. -/
namespace Go.Proofs.Ytjnbnfmlpdnngaa

def D (s : S) (j : Int) : Int := s.2.getD j.toNat 0

theorem take1_old {d : Int} {s : S} {j : Int} (h : 0 ≤ D s j) : take1 d s j = s := by unfold take1; rw [if_neg (by unfold D at h; omega)]
theorem take1_new {d : Int} {s : S} {j : Int} (h : D s j < 0) : take1 d s j = (s.1 ++ [j], s.2.set j.toNat d) := by unfold take1; rw [if_pos (show s.2.getD j.toNat 0 < 0 from h)]
theorem SInv.found {n : Nat} {s : S} (h : SInv n s) {j : Int} (hj : 0 ≤ j ∧ j < n) : 0 ≤ D s j ↔ j ∈ s.1 := by
  have := h.iff j.toNat (by omega)
  rwa [show ((j.toNat : Nat) : Int) = j by omega] at this
theorem D_set {n : Nat} {s : S} (h : SInv n s) {j : Int} (hj : 0 ≤ j ∧ j < n) (d y : Int) (l : List Int) (hy : 0 ≤ y) : D (l, s.2.set j.toNat d) y = if y = j then d else D s y := by
  unfold D
  simp only []
  rw [getD_set (by rw [h.len]; omega)]
  by_cases e : y = j
  · subst e; simp
  · rw [if_neg (by omega), if_neg e]

/-- Within the visit of x, the k-th found: pre are done. -/
structure BV (g : G) (k : Nat) (x : Int) (pre : List Int) (s : S) : Prop where
  v : VInv g.objs.length k x s
  root : ∀ j ∈ targets g.roots, j ∈ s.1 ∧ D s j = 0
  par : ∀ y ∈ s.1, (y ∈ targets g.roots ∧ D s y = 0) ∨ ∃ p ∈ s.1, y ∈ targets (fieldsAt g p) ∧ D s y = D s p + 1
  closed : ∀ (a : Nat) (p : Int), a < k → s.1[a]? = some p → ∀ j ∈ targets (fieldsAt g p), j ∈ s.1 ∧ D s j ≤ D s p + 1
  sorted : ∀ (a b : Nat) (p q : Int), a ≤ b → s.1[a]? = some p → s.1[b]? = some q → D s p ≤ D s q
  near : ∀ y ∈ s.1, D s y ≤ D s x + 1
  done : ∀ j ∈ pre, j ∈ s.1 ∧ D s j ≤ D s x + 1

theorem BV.step {g : G} {k : Nat} {x : Int} {pre : List Int} {s : S} (h : BV g k x pre s) {j : Int} (hj : 0 ≤ j ∧ j < (g.objs.length : Int)) (hjt : j ∈ targets (fieldsAt g x)) :
    BV g k x (pre ++ [j]) (take1 (distAt s k + 1) s j) := by
  have hd := h.v.dist
  have hv := h.v.step hj
  have hx := List.mem_of_getElem? h.v.at_
  have hDx : distAt s k = D s x := hd.2.2
  rw [hDx] at hv ⊢
  have hfj := h.v.inv.found hj
  have hpos : ∀ y ∈ s.1, 0 ≤ y := fun y hy => (h.v.inv.rng y hy).1
  by_cases h0 : 0 ≤ D s j
  · rw [take1_old h0] at hv ⊢
    have hjm := hfj.1 h0
    refine ⟨hv, h.root, h.par, h.closed, h.sorted, h.near, ?_⟩
    intro y hy
    rcases List.mem_append.1 hy with hy | hy
    · exact h.done y hy
    · simp at hy; subst hy; exact ⟨hjm, h.near _ hjm⟩
  · have hjn : j ∉ s.1 := fun hm => h0 (hfj.2 hm)
    rw [take1_new (by omega)] at hv ⊢
    have e := fun y hy => D_set h.v.inv hj (D s x + 1) y (s.1 ++ [j]) hy
    have eo : ∀ y ∈ s.1, D (s.1 ++ [j], s.2.set j.toNat (D s x + 1)) y = D s y := by
      intro y hy; rw [e y (hpos y hy), if_neg (by rintro rfl; exact hjn hy)]
    have ej : D (s.1 ++ [j], s.2.set j.toNat (D s x + 1)) j = D s x + 1 := by rw [e j hj.1, if_pos rfl]
    have mo : ∀ y ∈ s.1, y ∈ s.1 ++ [j] := fun y hy => List.mem_append_left _ hy
    refine ⟨hv, ?_, ?_, ?_, ?_, ?_, ?_⟩
    · intro y hy
      obtain ⟨h1, h2⟩ := h.root y hy
      exact ⟨mo y h1, by rw [eo y h1]; exact h2⟩
    · intro y hy
      rcases List.mem_append.1 hy with hy | hy
      · rw [eo y hy]
        rcases h.par y hy with h1 | ⟨p, hp, h1, h2⟩
        · exact .inl h1
        · exact .inr ⟨p, mo p hp, h1, by rw [eo p hp]; exact h2⟩
      · simp at hy; subst hy
        exact .inr ⟨x, mo x hx, hjt, by rw [ej, eo x hx]⟩
    · intro a p ha hp y hy
      have hal : a < s.1.length := by have := (List.getElem?_eq_some_iff.1 h.v.at_).1; omega
      rw [List.getElem?_append_left hal] at hp
      obtain ⟨h1, h2⟩ := h.closed a p ha hp y hy
      exact ⟨mo y h1, by rw [eo y h1, eo p (List.mem_of_getElem? hp)]; exact h2⟩
    · intro a b p q hab hp hq
      rcases Nat.lt_or_ge b s.1.length with hb | hb
      · rw [List.getElem?_append_left hb] at hq
        rw [List.getElem?_append_left (by omega)] at hp
        rw [eo p (List.mem_of_getElem? hp), eo q (List.mem_of_getElem? hq)]
        exact h.sorted a b p q hab hp hq
      · rw [List.getElem?_append_right hb] at hq
        have hqj : q = j := by have := List.mem_of_getElem? hq; simpa using this
        rw [hqj, ej]
        rcases Nat.lt_or_ge a s.1.length with ha | ha
        · rw [List.getElem?_append_left ha] at hp
          rw [eo p (List.mem_of_getElem? hp)]
          exact h.near p (List.mem_of_getElem? hp)
        · rw [List.getElem?_append_right ha] at hp
          have hpj : p = j := by have := List.mem_of_getElem? hp; simpa using this
          rw [hpj, ej]; omega
    · intro y hy
      rw [eo x hx]
      rcases List.mem_append.1 hy with hy | hy
      · rw [eo y hy]; exact h.near y hy
      · simp at hy; subst hy; rw [ej]; omega
    · intro y hy
      rw [eo x hx]
      rcases List.mem_append.1 hy with hy | hy
      · obtain ⟨h1, h2⟩ := h.done y hy
        exact ⟨mo y h1, by rw [eo y h1]; exact h2⟩
      · simp at hy; subst hy
        exact ⟨by simp, by rw [ej]; omega⟩

theorem BV.steps {g : G} {k : Nat} {x : Int} (hg : ∀ j ∈ targets (fieldsAt g x), 0 ≤ j ∧ j < (g.objs.length : Int)) : ∀ (more pre : List Int) (s : S), BV g k x pre s → (∀ j ∈ more, j ∈ targets (fieldsAt g x)) → BV g k x (pre ++ more) (visitTo s k more) := by
  intro more
  induction more with
  | nil => intro pre s h _; rw [List.append_nil]; exact h
  | cons a more ih =>
    intro pre s h hm
    have := ih (pre ++ [a]) _ (h.step (hg a (hm a (by simp))) (hm a (by simp))) (fun j hj => hm j (by simp [hj]))
    rw [List.append_assoc] at this
    exact this

/-- With k of the found visited. -/
structure BInv (g : G) (k : Nat) (s : S) : Prop where
  inv : SInv g.objs.length s
  root : ∀ j ∈ targets g.roots, j ∈ s.1 ∧ D s j = 0
  par : ∀ y ∈ s.1, (y ∈ targets g.roots ∧ D s y = 0) ∨ ∃ p ∈ s.1, y ∈ targets (fieldsAt g p) ∧ D s y = D s p + 1
  closed : ∀ (a : Nat) (p : Int), a < k → s.1[a]? = some p → ∀ j ∈ targets (fieldsAt g p), j ∈ s.1 ∧ D s j ≤ D s p + 1
  sorted : ∀ (a b : Nat) (p q : Int), a ≤ b → s.1[a]? = some p → s.1[b]? = some q → D s p ≤ D s q
  near : ∀ x, s.1[k]? = some x → ∀ y ∈ s.1, D s y ≤ D s x + 1

structure B0 (g : G) (pre : List Int) (s : S) : Prop where
  inv : SInv g.objs.length s
  zero : ∀ y ∈ s.1, y ∈ targets g.roots ∧ D s y = 0
  done : ∀ j ∈ pre, j ∈ s.1
theorem B0.step {g : G} (hg : Rng g) {pre : List Int} {s : S} (h : B0 g pre s) {a : Int} (hat : a ∈ targets g.roots) : B0 g (pre ++ [a]) (take1 0 s a) := by
  have ha := hg.target (roots_all g) hat
  have hi := take1_inv h.inv ha (d := 0) ⟨by omega, by omega⟩
  have hfa := h.inv.found ha
  by_cases h0 : 0 ≤ D s a
  · rw [take1_old h0]
    refine ⟨h.inv, h.zero, ?_⟩
    intro j hj
    rcases List.mem_append.1 hj with hj | hj
    · exact h.done j hj
    · simp at hj; subst hj; exact hfa.1 h0
  · have han : a ∉ s.1 := fun hm => h0 (hfa.2 hm)
    rw [take1_new (by omega)] at hi ⊢
    have e := fun y hy => D_set h.inv ha 0 y (s.1 ++ [a]) hy
    refine ⟨hi, ?_, ?_⟩
    · intro y hy
      rcases List.mem_append.1 hy with hy2 | hy
      · rw [e y (h.inv.rng y hy2).1, if_neg (by intro e; rw [e] at hy2; exact han hy2)]; exact h.zero y hy2
      · simp at hy; subst hy; exact ⟨hat, by rw [e y ha.1, if_pos rfl]⟩
    · intro j hj
      rcases List.mem_append.1 hj with hj | hj
      · exact List.mem_append_left _ (h.done j hj)
      · simp at hj; subst hj; simp
theorem B0.steps {g : G} (hg : Rng g) : ∀ (more pre : List Int) (s : S), B0 g pre s → (∀ j ∈ more, j ∈ targets g.roots) → B0 g (pre ++ more) (more.foldl (take1 0) s) := by
  intro more
  induction more with
  | nil => intro pre s h _; rw [List.append_nil]; exact h
  | cons a more ih =>
    intro pre s h hm
    have := ih (pre ++ [a]) _ (h.step hg (hm a (by simp))) (fun j hj => hm j (by simp [hj]))
    rw [List.append_assoc] at this
    exact this
theorem found0_all {g : G} (hg : Rng g) : B0 g (targets g.roots) (found0 g.objs.length (targets g.roots)) := by
  have := B0.steps hg (targets g.roots) [] ([], List.replicate g.objs.length (-1)) ⟨sinv_start _, by simp, by simp⟩ (fun _ h => h)
  rw [List.nil_append] at this
  exact this

theorem foundAt_binv {g : G} (hg : Rng g) : ∀ k, (∀ j, j < k → j < (foundAt g j).1.length) → BInv g k (foundAt g k)
  | 0, _ => by
    obtain ⟨h1, h2, h3⟩ := found0_all hg
    refine ⟨h1, fun j hj => ⟨h3 j hj, (h2 j (h3 j hj)).2⟩, fun y hy => .inl (h2 y hy), fun a p ha => by omega, ?_, ?_⟩
    · intro a b p q _ hp hq
      rw [show foundAt g 0 = found0 g.objs.length (targets g.roots) from rfl] at *
      rw [(h2 p (List.mem_of_getElem? hp)).2, (h2 q (List.mem_of_getElem? hq)).2]; omega
    · intro x hx y hy
      rw [show foundAt g 0 = found0 g.objs.length (targets g.roots) from rfl] at *
      rw [(h2 y hy).2, (h2 x (List.mem_of_getElem? hx)).2]; omega
  | k + 1, h => by
    have ih := foundAt_binv hg k (fun j hj => h j (by omega))
    obtain ⟨x, hx⟩ := get_some _ _ (h k (by omega))
    have ht : ∀ j ∈ targets (fieldsAt g x), 0 ≤ j ∧ j < (g.objs.length : Int) := fun j hj => hg.target (fields_all g x) hj
    have hb0 : BV g k x [] (foundAt g k) := ⟨⟨ih.inv, hx⟩, ih.root, ih.par, ih.closed, ih.sorted, ih.near x hx, by simp⟩
    have hb := BV.steps ht (targets (fieldsAt g x)) [] _ hb0 (fun _ h => h)
    have e : visitTo (foundAt g k) k (targets (fieldsAt g x)) = foundAt g (k + 1) := by
      show _ = visit g (foundAt g k) k
      unfold visit
      rw [show (foundAt g k).1.getD k 0 = x by rw [List.getD_eq_getElem?_getD, hx]; rfl]
    rw [e, List.nil_append] at hb
    refine ⟨hb.v.inv, hb.root, hb.par, ?_, hb.sorted, ?_⟩
    · intro a p ha hp
      rcases Nat.lt_or_ge a k with h1 | h1
      · exact hb.closed a p h1 hp
      · obtain rfl : a = k := by omega
        have := hb.v.at_
        rw [hp] at this; cases this
        exact hb.done
    · intro x2 hx2 y hy
      have h1 := hb.near y hy
      have h2 := hb.sorted k (k + 1) x x2 (by omega) hb.v.at_ hx2
      omega

/-- How far each is, and who is found. -/
structure Far (g : G) (l dist : List Int) : Prop where
  inv : SInv g.objs.length (l, dist)
  root : ∀ j ∈ targets g.roots, j ∈ l ∧ D (l, dist) j = 0
  par : ∀ y ∈ l, (y ∈ targets g.roots ∧ D (l, dist) y = 0) ∨ ∃ p ∈ l, y ∈ targets (fieldsAt g p) ∧ D (l, dist) y = D (l, dist) p + 1
  closed : ∀ p ∈ l, ∀ j ∈ targets (fieldsAt g p), j ∈ l ∧ D (l, dist) j ≤ D (l, dist) p + 1
  sorted : ∀ (a b : Nat) (p q : Int), a ≤ b → l[a]? = some p → l[b]? = some q → D (l, dist) p ≤ D (l, dist) q
theorem FoundS.farR {g : G} (hg : Rng g) {l dist : List Int} (h : FoundS g l dist) : Far g l dist := by
  obtain ⟨k, h1, rfl, h3⟩ := h
  have := foundAt_binv hg _ h3
  rw [h1] at this
  refine ⟨this.inv, this.root, this.par, ?_, this.sorted⟩
  intro p hp
  obtain ⟨a, ha, rfl⟩ := List.getElem_of_mem hp
  exact this.closed a _ ha (List.getElem?_eq_getElem ha)
theorem FoundS.far {g : G} (hg : Good g) {l dist : List Int} (h : FoundS g l dist) : Far g l dist := h.farR hg.fits.rng
end Go.Proofs.Ytjnbnfmlpdnngaa
