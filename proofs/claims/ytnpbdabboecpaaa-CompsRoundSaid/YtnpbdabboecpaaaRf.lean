/- Ranges over functions and what is owned: the marks at a function's return; invariants that abide the loop's book-keeping. -/
import Derived.Test.YtnpbdabboecpaaaCk
namespace Go.Proofs.Ytnpbdabboecpaaa
open Go.RowKit Go.Shelf

/-- The block for the rounds' deferred calls. -/
def edef (D : Nat) : Ent := eown D (fun o => o = .deferred (some []))
def Ent.Cells (x : Ent) : Prop := ∀ o, x.at_ (some o) → o.isCells = true
theorem ebox_cells (b : Nat) (c : Array Value) (t : TypeId) : (ebox b c t).Cells := by
  intro o h; simp only [ebox, Option.some.injEq] at h; subst h; rfl

theorem erow_cells (e : TypeId) (sz : Nat) (v : Value) (n : Nat) (xs : List Value) {B : Nat} {w : World} (h : (erow e sz v n xs).ok B w) : ∀ b, (erow e sz v n xs).blk = some b → ∃ o : Obj, w.heap[b]? = some o ∧ o.isCells = true := by
  intro b hb
  have h2 := h.2
  rw [hb] at h2
  obtain ⟨_, h3 | ⟨g, cap, cur, rfl, ho, _⟩⟩ := h2
  · obtain ⟨rfl, _⟩ := h3; simp [erow, Value.ownBlock] at hb
  · exact ⟨_, ho, rfl⟩

/-- Its block is one of cells, or lies below. -/
def Ent.Calm (B : Nat) (x : Ent) : Prop := ∀ (w : World) (B0 : Nat), x.ok B0 w → ∀ b, x.blk = some b → b < B ∨ ∃ o : Obj, w.heap[b]? = some o ∧ o.isCells = true
theorem ebox_calm (B b : Nat) (c : Array Value) (t : TypeId) : (ebox b c t).Calm B := by
  intro w B0 h b' hb
  cases hb
  exact .inr ⟨_, h.2, rfl⟩
theorem erow_calm (B : Nat) (e : TypeId) (sz : Nat) (v : Value) (n : Nat) (xs : List Value) : (erow e sz v n xs).Calm B :=
  fun _ _ h b hb => .inr (erow_cells e sz v n xs h b hb)
theorem rowV_calm (B : Nat) (e : TypeId) (v : Value) (l : List V) : (rowV e v l).Calm B := erow_calm B e 2 v _ _
theorem rowI_calm (B : Nat) (e : TypeId) (v : Value) (l : List Int) : (rowI e v l).Calm B := erow_calm B e 1 v _ _
theorem low_calm {B b : Nat} {p : Obj → Prop} (h : b < B) : (eown b p).Calm B := by
  intro _ _ _ b' hb
  cases hb
  exact .inl h

theorem edef_calm {B D : Nat} (h : D < B) : (edef D).Calm B := low_calm h
theorem calm_nil (B : Nat) : ∀ x ∈ ([] : List Ent), x.Calm B := by intro x hx; cases hx
theorem calm_cons {B : Nat} {x : Ent} {L : List Ent} (h : x.Calm B) (ht : ∀ y ∈ L, y.Calm B) : ∀ y ∈ x :: L, y.Calm B := by
  intro y hy; rcases List.mem_cons.1 hy with rfl | hy
  · exact h
  · exact ht y hy
theorem ownFrom_mem {β : Type} {B0 B : Nat} {w0 : World} (L : β → List Ent) (hB : B0 ≤ B) (hL : ∀ s, ∀ x ∈ L s, x.Calm B) : OwnFrom B (fun s W => Mem B0 w0 W (L s)) := by
  intro s W W' _ hs hg hr
  refine hs.same ((Below.refl B0 W).grown hg hs.base (fun k e => Nat.le_trans hB (hr k e).1)) ?_
  intro x hx b hb
  have hlt := (hs.lt hx b hb).2
  refine hg.block b hlt ?_
  intro e
  obtain ⟨h1, o, h2, h3⟩ := hr b e.symm
  rcases hL s x hx W B0 (hs.ok x hx) b hb with h4 | ⟨o2, h5, h6⟩
  · omega
  · rw [h2] at h5; cases h5; rw [h3] at h6; cases h6
theorem ownFrom_ex {β ι : Type} {B : Nat} {I : ι → β → World → Prop} (h : ∀ i, OwnFrom B (I i)) : OwnFrom B (fun s W => ∃ i, I i s W) :=
  fun s W W' row ⟨i, hs⟩ hg hr => ⟨i, h i s W W' row hs hg hr⟩
theorem ownFrom_false {β : Type} (B : Nat) : OwnFrom B (fun (_ : β) (_ : World) => False) := fun _ _ _ _ h _ _ => h

theorem keepsFrom_below {B : Nat} {W W' : World} (h : Below W.heap.size W W') : KeepsFrom B W W' :=
  ⟨h.size, fun k _o _ hk _ => (h.block k (Array.getElem?_eq_some_iff.1 hk).1).trans hk⟩
theorem keepsFrom_row {B : Nat} {W W' : World} {v : Value} {B0 : Nat} {e : TypeId} {sz n : Nat} {xs : List Value} (hown : W.ownsRow B0 e sz v n xs) (hs : W.heap.size ≤ W'.heap.size)
    (h : ∀ b, b < W.heap.size → v.ownBlock ≠ some b → W'.heap[b]? = W.heap[b]?) : KeepsFrom B W W' := by
  refine ⟨hs, fun k o _ hk ho => ?_⟩
  refine (h k (Array.getElem?_eq_some_iff.1 hk).1 ?_).trans hk
  intro e'
  rcases hown.2 with ⟨rfl, _⟩ | ⟨g, cap, cur, rfl, _, hg, _⟩
  · simp [Value.ownBlock] at e'
  · simp [Value.ownBlock] at e'; subst e'; rw [hk] at hg; cases hg; cases ho

theorem Mem.putDef {B : Nat} {w0 W : World} {L : List Ent} {D : Nat} (h : Mem B w0 W (edef D :: L)) (o : Obj) : Mem B w0 (W.putObj D o) L := by
  have hD := h.lt (List.mem_cons_self ..) D rfl
  have ha := h.apart
  rw [List.pairwise_cons] at ha
  refine (h.drop (List.sublist_cons_self _ _)).same ?_ ?_
  · exact ⟨rfl, rfl, rfl, by simp [World.putObj], fun k hk => World.putObj_heap_other (by omega)⟩
  · intro x hx b hb
    refine World.putObj_heap_other ?_
    rintro rfl
    exact ha.1 x hx b rfl hb

/-- At the function's return the marks are taken. -/
theorem leaves_marks {F : Fence} {n : Nat} {P : Program} {fn : Func} {tmps : Array Value} {R : Ending → World → Prop} {B : Nat} {w0 : World} {L : List Ent} {v : Value} :
    ∀ (Ds : List Nat) (W : World), Mem B w0 W (Ds.map edef ++ L) → (∀ W', Mem B w0 W' L → (results fn tmps).run P W' = .ok v W' ∧ R (.returned v) W') →
      LeavesInM F n P fn tmps R (Ds.map fun D => { target := .collected D, args := #[] }) .returning W
  | [], W, h, fin => ⟨v, (fin W h).1, (fin W h).2⟩
  | D :: Ds, W, h, fin => by
    have hD : W.heap[D]? = some (.deferred (some [])) := by
      obtain ⟨_, x, hx, rfl⟩ := h.ok (edef D) (by simp)
      exact hx
    exact ⟨by simp, .inl ⟨D, _, rfl, run_takeDeferred hD, leaves_marks Ds _ (h.putDef _) fin⟩⟩

/-- A mark that the loop's law hands over is owned. -/
theorem Mem.addDef {B : Nat} {w0 W : World} {L : List Ent} (h : Mem B w0 W L) {D : Nat} (hB : B ≤ D) (hD : W.heap[D]? = some (.deferred (some []))) (ha : ∀ x ∈ L, x.blk ≠ some D) : Mem B w0 W (edef D :: L) :=
  h.cons _ ⟨fun b e => by cases e; exact ⟨hB, (Array.getElem?_eq_some_iff.1 hD).1⟩, ⟨_, hD, rfl⟩⟩ (fun y hy b e => by cases e; exact ha y hy)
/-- .. from its being no block of cells. -/
theorem Mem.addDef' {B : Nat} {w0 W : World} {L : List Ent} (h : Mem B w0 W L) {D : Nat} (hB : B ≤ D) (hD : W.heap[D]? = some (.deferred (some []))) (ha : ∀ x ∈ L, x.Calm D) : Mem B w0 W (edef D :: L) := by
  refine h.addDef hB hD ?_
  intro x hx e
  rcases ha x hx W B (h.ok x hx) D e with h1 | ⟨o, h1, h2⟩
  · omega
  · rw [hD] at h1; cases h1; cases h2

theorem ownFrom_size {β : Type} (B k : Nat) : OwnFrom B (fun (_ : β) W => k ≤ W.heap.size) := fun _ _ _ _ hs hg _ => Nat.le_trans hs hg.size
/-- The frame with a round's values laid in. -/
@[reducible] def laid (a : Act) (p : Tmp) (v : Value) : Array Value := a.tmps.setIfInBounds p v

theorem foldl_one (f : Array Value → Nat × Value → Array Value) (t : Array Value) (p : Nat) (v : Value) : Array.foldl f t (#[p].zip #[v]) = f t (p, v) := by
  simp
/-- A range over a function whose loop variable is boxed in every round. -/
theorem range_box {P : Program} {n : Nat} {α : Type} {g : Operand} {p : Tmp} {assign body : Code} {Q : Exit → Act → World → Prop} {a : Act} {w : World}
    (h1 : 1 ≤ n) {gf : Nat} {lb : Array Value} (hg : a.eval g = .func (.func gf) #[] lb) (eg : ∀ args w, (callFunc gf args).run P w = .ok (.enter gf args) w)
    {enc : α → Value} {n₀ : Nat} {S Sp : List α → Prop} {N : Nat} (hseq : SeqStopsK Fence.wide (n - 1) P gf lb (fun x => #[enc x]) (Below n₀) S Sp N w) (hn : n₀ ≤ w.heap.size)
    (I : List α → World → Prop) (Ix : Code → List α → World → Prop) (hI : OwnFrom w.heap.size I) (hIx : ∀ c, OwnFrom w.heap.size (Ix c)) (h0 : I [] w) (slot : Nat) (T : TypeId) (cs : α → Array Value)
    (hassign : ∀ (l : Nat) (x : α) (W : World) (K : Act → World → Prop), K { tmps := (laid a p (enc x)).setIfInBounds slot (.pointer (some ⟨W.heap.size, 0, none⟩)), defers := [] } (W.alloc (.cells (cs x) T)) →
      assign.wpIn (Fence.wide.inRound l) (n - 1 - 1) P (Exit.then K (fun _ _ _ => False)) { tmps := laid a p (enc x), defers := [] } W)
    (hbody : ∀ (l : Nat) (pre : List α) (x : α) (W : World) (Bx : Nat), w.heap.size ≤ Bx → Bx < W.heap.size → W.heap[Bx]? = some (.cells (cs x) T (0, 0)) → w.heap.size ≤ W.heap.size → I pre W → pre.length < N →
      body.wpIn (Fence.wide.inRound l) (n - 1 - 1) P (ownPostG w.heap.size (Below n₀) I Ix (pre ++ [x]) W) { tmps := (laid a p (enc x)).setIfInBounds slot (.pointer (some ⟨Bx, 0, none⟩)), defers := [] } W)
    (hdone : ∀ (D : Nat) (xs : List α) (W : World), w.heap.size ≤ D → S xs → I xs W → W.heap[D]? = some (.deferred (some [])) → Q .normal { a with defers := { target := .collected D, args := #[] } :: a.defers } W)
    (hstop : ∀ (D : Nat) (c : Code) (pre : List α) (W : World), w.heap.size ≤ D → Sp pre → Ix c pre W → W.heap[D]? = some (.deferred (some [])) → c.wpIn Fence.wide n P Q { a with defers := { target := .collected D, args := #[] } :: a.defers } W) :
    (Code.rangeFunc g #[p] assign body).wpIn Fence.wide n P Q a w := by
  refine wpIn_rangeFunc_ownH (F := Fence.wide) rfl h1 hg trivial eg hseq belowK_t (belowK_b hn) (Below.refl _ _) (fun _ => rfl) (fun pre W => I pre W ∧ w.heap.size ≤ W.heap.size) Ix (hI.and (ownFrom_size _ _)) hIx ⟨h0, Nat.le_refl _⟩
    (fun x a' W => ∃ Bx, w.heap.size ≤ Bx ∧ W.heap[Bx]? = some (.cells (cs x) T (0, 0)) ∧ a' = { tmps := (laid a p (enc x)).setIfInBounds slot (.pointer (some ⟨Bx, 0, none⟩)), defers := [] })
    ?_ ?_ ?_ (fun D xs W hD hS hi => hdone D xs W hD hS hi.1) hstop
  · rintro x a' s W W' row ⟨Bx, hB, hc, ha⟩ hg' hr
    refine ⟨Bx, hB, (hg'.block Bx (Array.getElem?_eq_some_iff.1 hc).1 ?_).trans hc, ha⟩
    intro e
    obtain ⟨_, o, h2, h3⟩ := hr Bx e.symm
    rw [hc] at h2; cases h2; cases h3
  · intro l pre x W K ⟨hi, hz⟩ hK
    rw [foldl_one]
    exact hassign l x W K (hK _ _ ((KeepsOthers.alloc _ _).from _) ((Below.refl n₀ W).alloc (Nat.le_trans hn hz) _) ⟨hI.alloc _ hi, by simp; omega⟩ ⟨W.heap.size, hz, heap_alloc_new W _, rfl⟩)
  · rintro l pre x a' W hl ⟨r, hr⟩ ⟨hi, hz⟩ ⟨Bx, hB, hc, rfl⟩ hlen
    refine wpIn_mono (hbody l pre x W Bx hB (Array.getElem?_eq_some_iff.1 hc).1 hc hz hi hlen) ?_
    intro e a3 W3 hp
    cases e with
    | normal => exact ⟨hp.1, hp.2.1, hp.2.2, Nat.le_trans hz hp.1.size⟩
    | _ => exact hp

/-- A range over a function whose loop variable lies in a slot. -/
theorem range_slot {P : Program} {n : Nat} {α : Type} {g : Operand} {p : Tmp} {assign body : Code} {Q : Exit → Act → World → Prop} {a : Act} {w : World}
    (h1 : 1 ≤ n) {gf : Nat} {lb : Array Value} (hg : a.eval g = .func (.func gf) #[] lb) (eg : ∀ args w, (callFunc gf args).run P w = .ok (.enter gf args) w)
    {enc : α → Value} {n₀ : Nat} {S Sp : List α → Prop} {N : Nat} (hseq : SeqStopsK Fence.wide (n - 1) P gf lb (fun x => #[enc x]) (Below n₀) S Sp N w) (hn : n₀ ≤ w.heap.size)
    (I : List α → World → Prop) (Ix : Code → List α → World → Prop) (hI : OwnFrom w.heap.size I) (hIx : ∀ c, OwnFrom w.heap.size (Ix c)) (h0 : I [] w) (slot : Nat) (enc2 : α → Value)
    (hassign : ∀ (l : Nat) (x : α) (W : World) (K : Act → World → Prop), K { tmps := (laid a p (enc x)).setIfInBounds slot (enc2 x), defers := [] } W →
      assign.wpIn (Fence.wide.inRound l) (n - 1 - 1) P (Exit.then K (fun _ _ _ => False)) { tmps := laid a p (enc x), defers := [] } W)
    (hbody : ∀ (l : Nat) (pre : List α) (x : α) (W : World), w.heap.size ≤ W.heap.size → I pre W → pre.length < N →
      body.wpIn (Fence.wide.inRound l) (n - 1 - 1) P (ownPostG w.heap.size (Below n₀) I Ix (pre ++ [x]) W) { tmps := (laid a p (enc x)).setIfInBounds slot (enc2 x), defers := [] } W)
    (hdone : ∀ (D : Nat) (xs : List α) (W : World), w.heap.size ≤ D → S xs → I xs W → W.heap[D]? = some (.deferred (some [])) → Q .normal { a with defers := { target := .collected D, args := #[] } :: a.defers } W)
    (hstop : ∀ (D : Nat) (c : Code) (pre : List α) (W : World), w.heap.size ≤ D → Sp pre → Ix c pre W → W.heap[D]? = some (.deferred (some [])) → c.wpIn Fence.wide n P Q { a with defers := { target := .collected D, args := #[] } :: a.defers } W) :
    (Code.rangeFunc g #[p] assign body).wpIn Fence.wide n P Q a w := by
  refine wpIn_rangeFunc_ownH (F := Fence.wide) rfl h1 hg trivial eg hseq belowK_t (belowK_b hn) (Below.refl _ _) (fun _ => rfl) (fun pre W => I pre W ∧ w.heap.size ≤ W.heap.size) Ix (hI.and (ownFrom_size _ _)) hIx ⟨h0, Nat.le_refl _⟩
    (fun x a' _ => a' = { tmps := (laid a p (enc x)).setIfInBounds slot (enc2 x), defers := [] })
    (fun x a' s W W' row ha _ _ => ha) ?_ ?_ (fun D xs W hD hS hi => hdone D xs W hD hS hi.1) hstop
  · intro l pre x W K hi hK
    rw [foldl_one]
    exact hassign l x W K (hK _ _ (KeepsFrom.refl _ _) (Below.refl _ _) hi rfl)
  · rintro l pre x a' W hl ⟨r, hr⟩ ⟨hi, hz⟩ rfl hlen
    refine wpIn_mono (hbody l pre x W hz hi hlen) ?_
    intro e a3 W3 hp
    cases e with
    | normal => exact ⟨hp.1, hp.2.1, hp.2.2, Nat.le_trans hz hp.1.size⟩
    | _ => exact hp
end Go.Proofs.Ytnpbdabboecpaaa
