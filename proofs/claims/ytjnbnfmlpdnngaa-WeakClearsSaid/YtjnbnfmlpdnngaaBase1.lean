/- Texts Mem G0 Ei G1 Hh Ia Pk Ft M0 Mi Cf Cl En Gr Tu Open in one. -/
import Derived.WalkKit
import Derived.WalkSpells
import Derived.WalkLawsBesides
import Derived.Laws.OwnMore
import Derived.Lib.Hide
import Derived.RangeFuncOwn
import Derived.Test.YtjnbnfmlpdnngaaRows
import Derived.RangeFuncNested
import Derived.RangeFuncBound
import Derived.RangeFuncCalls
import Derived.RangeFuncLeaves
import Derived.RangeFuncBox
import Derived.Shelf.Abstract
import Derived.Shelf.RegionOpen
import Derived.OwnWalkIn
import Derived.TacticsInMore
import Derived.LoopNIn
import Derived.LoopIn
import Derived.Below
import Derived.StillTailTactics
import Derived.Deep.RegionHeld3
import Derived.Deep.Slices
import Derived.Deep.Fields
import Derived.ChangeSame
import Derived.SizedLaws
import Derived.OpenShut
import Derived.ProofKit
import Derived.Lib.SmallJoins
import Derived.Deep.SlicePairs
/- What a call owns: a list of blocks of its own, each with what lies in it, all apart; everything below block B is as it was. Plain facts on worlds, over any program. -/
namespace Go.Proofs.Ytjnbnfmlpdnngaa
open Go.RowKit

/-- One thing that the call owns: its block (none: a nil slice), and what is to lie there. -/
structure Ent where
  blk : Option Nat
  at_ : Option Obj → Prop

/-- A block of known cells. -/
def ebox (b : Nat) (c : Array Value) (t : TypeId) : Ent := ⟨some b, fun o => o = some (.cells c t (0, 0))⟩
/-- A slice that the call made, with its elements' cells. -/
def erow (e : TypeId) (sz : Nat) (v : Value) (n : Nat) (xs : List Value) : Ent :=
  ⟨v.ownBlock, fun o => xs.length = n * sz ∧
    ((v = .slice none 0 0 ∧ n = 0) ∨ ∃ g cap cur, v = .slice (some ⟨g, 0, none⟩) n cap ∧ o = some (.cells cur e (0, 0)) ∧ n ≤ cap ∧ cap ≤ maxLen ∧ cur.size = cap * sz ∧ cur.toList.take (n * sz) = xs)⟩
/-- Any block of which something is known. -/
def eown (b : Nat) (p : Obj → Prop) : Ent := ⟨some b, fun o => ∃ x, o = some x ∧ p x⟩

def Ent.ok (B : Nat) (w : World) (x : Ent) : Prop :=
  (∀ b, x.blk = some b → B ≤ b ∧ b < w.heap.size) ∧ x.at_ (x.blk.bind (w.heap[·]?))
def Ent.apart (x y : Ent) : Prop := ∀ b, x.blk = some b → y.blk ≠ some b
theorem Ent.apart_symm {x y : Ent} (h : x.apart y) : y.apart x := fun b hb hx => h b hx hb

structure Mem (B : Nat) (w0 w : World) (L : List Ent) : Prop where
  below : Below B w0 w
  base : B ≤ w.heap.size
  ok : ∀ x ∈ L, x.ok B w
  apart : L.Pairwise Ent.apart

theorem Mem.start (w : World) : Mem w.heap.size w w [] := ⟨Below.refl _ _, Nat.le_refl _, by simp, by simp⟩

theorem Ent.ok_same {B : Nat} {w w' : World} {x : Ent} (h : x.ok B w) (hs : w.heap.size ≤ w'.heap.size) (hb : ∀ b, x.blk = some b → w'.heap[b]? = w.heap[b]?) : x.ok B w' := by
  refine ⟨fun b e => ⟨(h.1 b e).1, Nat.lt_of_lt_of_le (h.1 b e).2 hs⟩, ?_⟩
  have h2 := h.2
  cases e : x.blk with
  | none => rw [e] at h2; exact h2
  | some b => rw [e] at h2; simp only [Option.bind_some] at h2 ⊢; rw [hb b e]; exact h2

/-- Another world in which what is owned lies as it lay. -/
theorem Mem.same {B : Nat} {w0 w w' : World} {L : List Ent} (h : Mem B w0 w L) (hb : Below B w w') (hk : ∀ x ∈ L, ∀ b, x.blk = some b → w'.heap[b]? = w.heap[b]?) : Mem B w0 w' L :=
  ⟨h.below.trans hb, Nat.le_trans h.base hb.size, fun x hx => Ent.ok_same (h.ok x hx) hb.size (hk x hx), h.apart⟩

/-- Behind a call that leaves all that was there as it was. -/
theorem Mem.call {B : Nat} {w0 w w' : World} {L : List Ent} (h : Mem B w0 w L) (hb : Below w.heap.size w w') : Mem B w0 w' L :=
  h.same (hb.mono h.base) fun x hx b e => hb.block b ((h.ok x hx).1 b e).2

theorem Mem.drew {B : Nat} {w0 w : World} {L : List Ent} (h : Mem B w0 w L) : Mem B w0 w.drew L :=
  h.same ((Below.refl _ _).drew) fun _ _ _ _ => rfl

theorem Mem.drewN {B : Nat} {w0 w : World} {L : List Ent} (h : Mem B w0 w L) (n : Nat) : Mem B w0 (w.drewN n) L :=
  h.same (below_drewN (Below.refl _ _) n) fun _ _ _ _ => rfl

/-- A new block, forgotten. -/
theorem Mem.alloc_ {B : Nat} {w0 w : World} {L : List Ent} (h : Mem B w0 w L) (o : Obj) : Mem B w0 (w.alloc o) L :=
  h.call ((Below.refl _ _).alloc (Nat.le_refl _) o)

theorem Mem.lt {B : Nat} {w0 w : World} {L : List Ent} (h : Mem B w0 w L) {x : Ent} (hx : x ∈ L) : ∀ b, x.blk = some b → B ≤ b ∧ b < w.heap.size := (h.ok x hx).1

/-- One more thing is owned. -/
theorem Mem.cons {B : Nat} {w0 w : World} {L : List Ent} (h : Mem B w0 w L) (x : Ent) (hx : x.ok B w) (ha : ∀ y ∈ L, x.apart y) : Mem B w0 w (x :: L) :=
  ⟨h.below, h.base, by intro y hy; cases hy with | head => exact hx | tail _ hy => exact h.ok y hy, by rw [List.pairwise_cons]; exact ⟨ha, h.apart⟩⟩

/-- A new block of known cells. -/
theorem Mem.alloc {B : Nat} {w0 w : World} {L : List Ent} (h : Mem B w0 w L) (c : Array Value) (t : TypeId) : Mem B w0 (w.alloc (.cells c t)) (ebox w.heap.size c t :: L) := by
  refine (h.alloc_ _).cons _ ⟨?_, ?_⟩ ?_
  · intro b e; cases e; exact ⟨h.base, by simp⟩
  · show (w.alloc (.cells c t)).heap[w.heap.size]? = _; exact heap_alloc_new w _
  · intro y hy b e e'
    cases e
    have := (h.lt hy _ e').2
    omega

theorem Mem.allocAt {B : Nat} {w0 w : World} {L : List Ent} (h : Mem B w0 w L) (b : Nat) (hb : w.heap.size = b) (c : Array Value) (t : TypeId) : Mem B w0 (w.alloc (.cells c t)) (ebox b c t :: L) := by
  subst hb; exact h.alloc c t

/-- A new block of whatever make. -/
theorem Mem.allocOwn {B : Nat} {w0 w : World} {L : List Ent} (h : Mem B w0 w L) (o : Obj) (p : Obj → Prop) (hp : p o) : Mem B w0 (w.alloc o) (eown w.heap.size p :: L) := by
  refine (h.alloc_ _).cons _ ⟨?_, ?_⟩ ?_
  · intro b e; cases e; exact ⟨h.base, by simp⟩
  · exact ⟨o, heap_alloc_new w _, hp⟩
  · intro y hy b e e'
    cases e
    have := (h.lt hy _ e').2
    omega

/-- The nil slice. -/
theorem Mem.nil {B : Nat} {w0 w : World} {L : List Ent} (h : Mem B w0 w L) (e : TypeId) (sz : Nat) : Mem B w0 w (erow e sz (.slice none 0 0) 0 [] :: L) :=
  h.cons _ ⟨fun b e => by simp [erow, Value.ownBlock] at e, by simp [erow]⟩ fun y _ b e => by simp [erow, Value.ownBlock] at e

theorem row_ok {B : Nat} {w : World} {e : TypeId} {sz : Nat} {v : Value} {n : Nat} {xs : List Value} : (erow e sz v n xs).ok B w ↔ w.ownsRow B e sz v n xs := by
  constructor
  · rintro ⟨h1, h2, h3⟩
    refine ⟨h2, ?_⟩
    rcases h3 with h3 | ⟨g, cap, cur, rfl, ho, r⟩
    · exact .inl h3
    · exact .inr ⟨g, cap, cur, rfl, (h1 g rfl).1, ho, r⟩
  · intro h
    refine ⟨h.lt, h.1, ?_⟩
    rcases h.2 with h3 | ⟨g, cap, cur, rfl, _, ho, r⟩
    · exact .inl h3
    · exact .inr ⟨g, cap, cur, rfl, ho, r⟩

/-- Behind a call that hands back a slice of its own. -/
theorem Mem.callRow {B : Nat} {w0 w w' : World} {L : List Ent} (h : Mem B w0 w L) (hb : Below w.heap.size w w') {e : TypeId} {sz : Nat} {v : Value} {n : Nat} {xs : List Value}
    (hr : w'.ownsRow w.heap.size e sz v n xs) : Mem B w0 w' (erow e sz v n xs :: L) := by
  refine (h.call hb).cons _ (row_ok.2 ⟨hr.1, ?_⟩) ?_
  · rcases hr.2 with h3 | ⟨g, cap, cur, rfl, hg, ho, r⟩
    · exact .inl h3
    · exact .inr ⟨g, cap, cur, rfl, Nat.le_trans h.base hg, ho, r⟩
  · intro y hy b e e'
    have := (hr.lt b e).1
    have := (h.lt hy b e').2
    omega

/-- One thing of the call's own has turned; its block is the same, or a new one. -/
theorem Mem.turn {B : Nat} {w0 w w' : World} {L : List Ent} (h : Mem B w0 w L) (k : Nat) {x x' : Ent} (hk : L[k]? = some x) (hg : w.grownBy w' x.blk) (hx' : x'.ok B w')
    (hb : ∀ b, x'.blk = some b → x.blk = some b ∨ w.heap.size ≤ b) : Mem B w0 w' (L.set k x') := by
  have hkl : k < L.length := by
    rcases Nat.lt_or_ge k L.length with h' | h'
    · exact h'
    · simp [List.getElem?_eq_none h'] at hk
  have hxe : L[k] = x := by simpa [List.getElem?_eq_getElem hkl] using hk
  have hxm : x ∈ L := hxe ▸ List.getElem_mem hkl
  have hpw := List.pairwise_iff_getElem.1 h.apart
  refine ⟨h.below.trans ⟨hg.os, hg.tape, hg.output, hg.size, fun j hj => hg.block j (Nat.lt_of_lt_of_le hj h.base) (fun e => by have := (h.lt hxm j e.symm).1; omega)⟩, Nat.le_trans h.base hg.size, ?_, ?_⟩
  · intro y hy
    obtain ⟨i, hi, rfl⟩ := List.mem_iff_getElem.1 hy
    rw [List.getElem_set]
    split
    · exact hx'
    · rename_i hik
      have hi' : i < L.length := by simpa using hi
      have hym : L[i] ∈ L := List.getElem_mem hi'
      refine Ent.ok_same (h.ok _ hym) hg.size fun b e => hg.block b (h.lt hym b e).2 ?_
      intro e2
      rcases Nat.lt_or_ge i k with hlt | hge
      · exact hpw i k hi' hkl hlt b e (hxe ▸ e2.symm)
      · exact hpw k i hkl hi' (by omega) b (hxe ▸ e2.symm) e
  · rw [List.pairwise_iff_getElem]
    intro i j hi hj hij b e e'
    rw [List.length_set] at hi hj
    rw [List.getElem_set] at e e'
    have old : ∀ m (hm : m < L.length) b, L[m].blk = some b → b < w.heap.size := fun m hm b e => (h.lt (List.getElem_mem hm) b e).2
    split at e
    · rename_i hik
      subst hik
      rw [if_neg (by omega)] at e'
      rcases hb b e with h1 | h1
      · exact hpw k j hi hj hij b (by rw [hxe]; exact h1) e'
      · have := old j hj b e'; omega
    · split at e'
      · rename_i hjk
        subst hjk
        rcases hb b e' with h1 | h1
        · exact hpw i k hi hj hij b e (by rw [hxe]; exact h1)
        · have := old i hi b e; omega
      · exact hpw i j hi hj hij b e e'

theorem Mem.get {B : Nat} {w0 w : World} {L : List Ent} (h : Mem B w0 w L) (k : Nat) {x : Ent} (hk : L[k]? = some x) : x.ok B w := by
  have hkl : k < L.length := by
    rcases Nat.lt_or_ge k L.length with h' | h'
    · exact h'
    · simp [List.getElem?_eq_none h'] at hk
  have hxe : L[k] = x := by simpa [List.getElem?_eq_getElem hkl] using hk
  exact h.ok x (hxe ▸ List.getElem_mem hkl)

theorem Mem.row {B : Nat} {w0 w : World} {L : List Ent} (h : Mem B w0 w L) (k : Nat) {e : TypeId} {sz : Nat} {v : Value} {n : Nat} {xs : List Value} (hk : L[k]? = some (erow e sz v n xs)) : w.ownsRow B e sz v n xs :=
  row_ok.1 (h.get k hk)

theorem Mem.box {B : Nat} {w0 w : World} {L : List Ent} (h : Mem B w0 w L) (k : Nat) {b : Nat} {c : Array Value} {t : TypeId} (hk : L[k]? = some (ebox b c t)) : B ≤ b ∧ b < w.heap.size ∧ w.heap[b]? = some (.cells c t (0, 0)) :=
  ⟨((h.get k hk).1 b rfl).1, ((h.get k hk).1 b rfl).2, (h.get k hk).2⟩
theorem Mem.cell {B : Nat} {w0 w : World} {L : List Ent} (h : Mem B w0 w L) (k : Nat) {b : Nat} {c : Array Value} {t : TypeId} (hk : L[k]? = some (ebox b c t)) (j : Nat) : w.cell? ⟨b, j, none⟩ = c[j]? := by
  simp [World.cell?, (h.box k hk).2.2]
theorem Mem.free {B : Nat} {w0 w : World} {L : List Ent} (h : Mem B w0 w L) (k : Nat) {b : Nat} {c : Array Value} {t : TypeId} (hk : L[k]? = some (ebox b c t)) (j : Nat) : w.frozen? ⟨b, j, none⟩ = false := by
  simp [World.frozen?, (h.box k hk).2.2]

/-- A store into a block of known cells. -/
theorem Mem.setBox {B : Nat} {w0 w : World} {L : List Ent} (h : Mem B w0 w L) (k : Nat) {b : Nat} {c : Array Value} {t : TypeId} (hk : L[k]? = some (ebox b c t)) (j : Nat) (u : Value) :
    Mem B w0 (w.setCell ⟨b, j, none⟩ u) (L.set k (ebox b (c.setIfInBounds j u) t)) := by
  have hb := h.box k hk
  refine h.turn k hk ⟨rfl, rfl, rfl, by simp, fun i _ hi => Below.heap_setCell _ _ _ _ (fun e => hi (by rw [e]; rfl))⟩ ⟨?_, ?_⟩ ?_
  · intro b' e; cases e; exact ⟨hb.1, by simpa using hb.2.1⟩
  · show (w.setCell ⟨b, j, none⟩ u).heap[b]? = _
    exact heap_setCell_same w b j c t u hb.2.2
  · intro b' e; exact .inl e

/-- A store into an element of a slice of the call's own. -/
theorem Mem.setRow {B : Nat} {w0 w : World} {L : List Ent} (h : Mem B w0 w L) (k : Nat) {e : TypeId} {sz g n cap : Nat} {xs : List Value} (hk : L[k]? = some (erow e sz (.slice (some ⟨g, 0, none⟩) n cap) n xs)) (j : Nat) (u : Value) :
    Mem B w0 (w.setCell ⟨g, j, none⟩ u) (L.set k (erow e sz (.slice (some ⟨g, 0, none⟩) n cap) n (xs.set j u))) := by
  obtain ⟨h1, h2⟩ := (h.row k hk).stored j u
  exact h.turn k hk h2 (row_ok.2 h1) fun b' e => .inl e

/-- A store below: no, a store into a block that is not owned and was made since. -/
theorem Mem.setNew {B : Nat} {w0 w : World} {L : List Ent} (h : Mem B w0 w L) (a : Addr) (u : Value) (hB : B ≤ a.block) (ha : ∀ x ∈ L, x.blk ≠ some a.block) : Mem B w0 (w.setCell a u) L :=
  h.same ((Below.refl _ _).setCell hB _) fun x hx b e => Below.heap_setCell _ _ _ _ (fun e' => ha x hx (by rw [e, e']))

/-- Some of what is owned, forgotten. -/
theorem Mem.drop {B : Nat} {w0 w : World} {L : List Ent} (h : Mem B w0 w L) {L' : List Ent} (hs : L'.Sublist L) : Mem B w0 w L' :=
  ⟨h.below, h.base, fun x hx => h.ok x (hs.subset hx), h.apart.sublist hs⟩
theorem Mem.perm {B : Nat} {w0 w : World} {L : List Ent} (h : Mem B w0 w L) {L' : List Ent} (hs : L'.Perm L) : Mem B w0 w L' :=
  ⟨h.below, h.base, fun x hx => h.ok x (hs.subset hx), h.apart.perm hs.symm (fun h => Ent.apart_symm h)⟩

/-- An element type's row of the program's table. -/
structure Elem (P : Program) (t e : TypeId) (sz bytes : Nat) (z : Value) : Prop where
  under : P.underlying t = some (.slice e)
  info : ∃ i, P.info? e = some i ∧ i.zero = some z ∧ i.size = sz ∧ i.bytes = bytes
  cells : z.cells.size = sz
  pos : 0 < sz

section
variable {P : Program} {B : Nat} {w0 w : World} {L : List Ent} {t e : TypeId} {sz bytes : Nat} {z : Value}

/-- append to a slice of the call's own: of what lies at an address. -/
theorem Mem.run_append (T : Elem P t e sz bytes z) (ty : TypeId) (h : Mem B w0 w L) (k : Nat) {v : Value} {n : Nat} {xs : List Value} (hk : L[k]? = some (erow e sz v n xs))
    (a : Addr) (m c : Nat) (news : List Value) (hl : news.length = m * sz) (hnews : ∀ j u, news[j]? = some u → w.cell? (a.add j) = some u) (h1 : ∀ u ∈ news, u.oneCell' = true)
    (h63 : n + m ≤ maxLen) (hbytes : (n + m) * bytes ≤ 140737488355328) :
    ∃ v' w', (Builtin.append_ #[t, t] ty #[v, .slice (some a) m c]).run P w = .ok v' w' ∧ Mem B w0 w' (L.set k (erow e sz v' (n + m) (xs ++ news))) ∧ w.heap.size ≤ w'.heap.size ∧
      (∀ b, b < w.heap.size → v.ownBlock ≠ some b → w'.heap[b]? = w.heap[b]?) ∧ (v' = .slice none 0 0 ↔ v = .slice none 0 0 ∧ m = 0) ∧ ∃ ad cap, v' = .slice ad (n + m) cap := by
  obtain ⟨i, hi, hz, rfl, rfl⟩ := T.info
  have hown := h.row k hk
  obtain ⟨v', w', hr, h2, h3, h4⟩ := run_append_own (P := P) w B t ty e i z i.size i.bytes T.under hi hz rfl rfl T.cells T.pos v n xs hown a m c news hl hnews h1 h63 hbytes h.base
  refine ⟨v', w', hr, h.turn k hk (x' := erow e i.size v' (n + m) (xs ++ news)) h3 (row_ok.2 h2) ?_, h3.size, fun b hb hne => h3.block b hb (fun e => hne e.symm), h4, ?_⟩
  · intro b hb
    by_cases hnil : v = .slice none 0 0
    · subst hnil
      have hn : n = 0 := by
        rcases hown.2 with ⟨_, h⟩ | ⟨g, cap, cur, h, _⟩
        · exact h
        · cases h
      subst hn
      have hxs : xs = [] := List.eq_nil_of_length_eq_zero (by simpa using hown.1)
      subst hxs
      obtain ⟨v2, w2, hr2, k2, _, _⟩ := run_append_own (P := P) w w.heap.size t ty e i z i.size i.bytes T.under hi hz rfl rfl T.cells T.pos _ 0 [] (World.ownsRow_nil w w.heap.size e i.size) a m c news hl hnews h1 h63 hbytes (Nat.le_refl _)
      rw [hr] at hr2
      cases hr2
      exact .inr (k2.lt b hb).1
    · rcases hown.2 with ⟨h, _⟩ | ⟨g, cap, cur, rfl, hbg, hg, hnc, hcm, hcs, htake⟩
      · exact absurd h hnil
      · by_cases hroom : n + m ≤ cap
        · have hfit : n * i.size + news.length ≤ cur.size := by rw [hl, hcs, ← Nat.add_mul]; exact Nat.mul_le_mul_right _ hroom
          have hr3 := run_append_room (P := P) w t ty e i T.under hi g n cap cur hg a m c news hl hnews h1 hroom hfit
          rw [hr] at hr3
          cases hr3
          exact .inl hb
        · have hm : n + m ≤ 9223372036854775807 := by simp only [maxLen] at h63; omega
          have holds : ∀ j u, xs[j]? = some u → w.cell? ((⟨g, 0, none⟩ : Addr).add j) = some u := hown.cells (g := g) rfl
          have hr3 := run_append_grow (P := P) w t ty e i z T.under hi hz ⟨g, 0, none⟩ n cap xs hown.1 holds a m c news hl hnews (by omega) (by omega) (growslice_fits (by omega) hbytes)
          rw [hr] at hr3
          cases hr3
          cases hb
          exact .inr (Nat.le_refl _)
  · rcases h2.2 with ⟨h, h'⟩ | ⟨g, cap, cur, h, _⟩
    · exact ⟨none, 0, by rw [h, h']⟩
    · exact ⟨_, _, h⟩

theorem Mem.wp_append (T : Elem P t e sz bytes z) {ops : Array Oper} {rest : List Oper} {o : Oper} {ac : Act} {Q : Exit → Act → World → Prop} (hgd : o.guard = none) (s x : Operand)
    (ho : o.op = .call { callee := .builtin .append, args := #[s, x], argTypes := #[t, t] }) (h : Mem B w0 w L) (k : Nat) {v : Value} {n : Nat} {xs : List Value} (hk : L[k]? = some (erow e sz v n xs))
    (hs : ac.eval s = v) (a : Addr) (m c : Nat) (news : List Value) (hx : ac.eval x = .slice (some a) m c) (hl : news.length = m * sz) (hnews : ∀ j u, news[j]? = some u → w.cell? (a.add j) = some u)
    (h1 : ∀ u ∈ news, u.oneCell' = true) (h63 : n + m ≤ maxLen) (hbytes : (n + m) * bytes ≤ 140737488355328)
    (hh : ∀ ad cap w', Mem B w0 w' (L.set k (erow e sz (.slice ad (n + m) cap) (n + m) (xs ++ news))) → w.heap.size ≤ w'.heap.size →
      (∀ b, b < w.heap.size → v.ownBlock ≠ some b → w'.heap[b]? = w.heap[b]?) → (ad = none ↔ v = .slice none 0 0 ∧ m = 0) → wpList P ops Q rest (ac.put o.dst (.slice ad (n + m) cap)) w') : wpList P ops Q (o :: rest) ac w := by
  refine wpList_plain hgd fun K hK => ?_
  obtain ⟨v', w', hr, h2, h3, h4, h5, ad, cap, rfl⟩ := h.run_append T o.type k hk a m c news hl hnews h1 h63 hbytes
  unfold Oper.wp execOp
  simp only [ho, resolve, invoke, builtin, Sem.run_bind, Sem.run_pure, Result.andThen_ok, List.map_toArray, List.map_cons, List.map_nil, hs, hx, hr]
  refine hK _ _ (hh ad cap w' h2 h3 h4 ?_)
  constructor
  · intro e
    subst e
    have := h2.row k (by rw [List.getElem?_set_self]; rcases Nat.lt_or_ge k L.length with h' | h'; exact h'; simp [List.getElem?_eq_none h'] at hk)
    rcases this.2 with ⟨h6, _⟩ | ⟨g, cap, cur, h6, _⟩
    · exact h5.1 h6
    · cases h6
  · intro e
    have := h5.2 e
    injection this

/-- append(l, x): one element, which the walk has just laid in a block of its own. -/
theorem Mem.wp_app1 (T : Elem P t e sz bytes z) {ops : Array Oper} {rest : List Oper} {o : Oper} {ac : Act} {Q : Exit → Act → World → Prop} (hgd : o.guard = none) (s x : Operand)
    (ho : o.op = .call { callee := .builtin .append, args := #[s, x], argTypes := #[t, t] }) (h : Mem B w0 w L) (k : Nat) {v : Value} {n : Nat} {xs : List Value} (hk : L[k]? = some (erow e sz v n xs))
    (hs : ac.eval s = v) (c : Nat) (news : Array Value) (e2 : TypeId) (bl : Nat) (hx : ac.eval x = .slice (some ⟨bl, 0, none⟩) 1 c) (hbl : w.heap.size = bl) (hl : news.size = sz)
    (h1 : news.toList.all (·.oneCell') = true) (hb : bytes ≤ 1000) (hn : n ≤ 1000000)
    (hh : ∀ ad cap w', Mem B w0 w' (L.set k (erow e sz (.slice ad (n + 1) cap) (n + 1) (xs ++ news.toList))) → w.heap.size < w'.heap.size →
      (∀ b, b < w.heap.size → v.ownBlock ≠ some b → w'.heap[b]? = w.heap[b]?) → ad ≠ none → wpList P ops Q rest (ac.put o.dst (.slice ad (n + 1) cap)) w') :
    wpList P ops Q (o :: rest) ac (w.alloc (.cells news e2)) := by
  subst hbl
  refine Mem.wp_append T hgd s x ho (h.alloc_ _) k hk hs ⟨w.heap.size, 0, none⟩ 1 c news.toList hx (by simpa using hl) ?_ ?_ ?_ ?_ ?_
  · intro j u hj
    have e : (⟨w.heap.size, 0, none⟩ : Addr).add j = ⟨w.heap.size, j, none⟩ := by unfold Addr.add; split <;> simp_all
    rw [e, World.cell?_alloc_new]
    simpa using hj
  · intro u hu
    exact List.all_eq_true.1 h1 u hu
  · simp only [maxLen]; omega
  · have := Nat.mul_le_mul (show n + 1 ≤ 1000001 by omega) hb
    omega
  · intro ad cap w' h2 h3 h4 h5
    refine hh ad cap w' h2 (by simp at h3; omega) ?_ (fun hn => by simpa using h5.1 hn)
    intro b hb hne
    exact (h4 b (by simp; omega) hne).trans (heap_alloc_old w _ hb)

theorem Mem.cast {L' : List Ent} (h : Mem B w0 w L) (e : L = L') : Mem B w0 w L' := e ▸ h
end
end Go.Proofs.Ytjnbnfmlpdnngaa

/- Graphs as data, and how slices of values, of objects and of ints read in a world. Plain facts, over any program. -/
namespace Go.Proofs.Ytjnbnfmlpdnngaa
open Go.RowKit

/-- A value: a number, or a reference. -/
structure V where
  ref : Bool
  n : Int
deriving DecidableEq, Inhabited
/-- A graph. -/
structure G where
  objs : List (List V)
  roots : List V

def i64ok (n : Int) : Prop := -9223372036854775808 ≤ n ∧ n ≤ 9223372036854775807
def cellsV (v : V) : List Value := [.bool v.ref, .int .i64 v.n]

/-- A slice of values. -/
def IsVals (w : World) (v : Value) (l : List V) : Prop :=
  ∃ a cap, v = .slice a l.length cap ∧ l.length ≤ 9223372036854775807 ∧ ∀ k x, l[k]? = some x → ∃ b off, a = some ⟨b, off, none⟩ ∧ b < w.heap.size ∧
    w.cell? ⟨b, off + k * 2, none⟩ = some (.bool x.ref) ∧ w.cell? ⟨b, off + k * 2 + 1, none⟩ = some (.int .i64 x.n) ∧ i64ok x.n
/-- A slice of ints. -/
def IsInts (w : World) (v : Value) (l : List Int) : Prop :=
  ∃ a cap, v = .slice a l.length cap ∧ l.length ≤ 9223372036854775807 ∧ ∀ k x, l[k]? = some x → ∃ b off, a = some ⟨b, off, none⟩ ∧ b < w.heap.size ∧
    w.cell? ⟨b, off + k, none⟩ = some (.int .i64 x) ∧ i64ok x
/-- A slice of objects. -/
def IsObjs (w : World) (v : Value) (l : List (List V)) : Prop :=
  ∃ a cap, v = .slice a l.length cap ∧ l.length ≤ 9223372036854775807 ∧ ∀ k x, l[k]? = some x → ∃ b off u, a = some ⟨b, off, none⟩ ∧ b < w.heap.size ∧
    w.cell? ⟨b, off + k, none⟩ = some u ∧ IsVals w u x
def IsGraph (w : World) (v : Value) (g : G) : Prop := ∃ vo vr, v = .agg #[vo, vr] ∧ IsObjs w vo g.objs ∧ IsVals w vr g.roots

theorem IsVals.later {w w' : World} {v : Value} {l : List V} (h : IsVals w v l) (hb : Below w.heap.size w w') : IsVals w' v l := by
  obtain ⟨a, cap, rfl, hl, hc⟩ := h
  refine ⟨a, cap, rfl, hl, fun k x hx => ?_⟩
  obtain ⟨b, off, ha, h1, h2, h3, h4⟩ := hc k x hx
  exact ⟨b, off, ha, Nat.lt_of_lt_of_le h1 hb.size, (hb.cell (p := ⟨_, _, none⟩) h1).trans h2, (hb.cell (p := ⟨_, _, none⟩) h1).trans h3, h4⟩
theorem IsInts.later {w w' : World} {v : Value} {l : List Int} (h : IsInts w v l) (hb : Below w.heap.size w w') : IsInts w' v l := by
  obtain ⟨a, cap, rfl, hl, hc⟩ := h
  refine ⟨a, cap, rfl, hl, fun k x hx => ?_⟩
  obtain ⟨b, off, ha, h1, h2, h4⟩ := hc k x hx
  exact ⟨b, off, ha, Nat.lt_of_lt_of_le h1 hb.size, (hb.cell (p := ⟨_, _, none⟩) h1).trans h2, h4⟩
theorem IsObjs.later {w w' : World} {v : Value} {l : List (List V)} (h : IsObjs w v l) (hb : Below w.heap.size w w') : IsObjs w' v l := by
  obtain ⟨a, cap, rfl, hl, hc⟩ := h
  refine ⟨a, cap, rfl, hl, fun k x hx => ?_⟩
  obtain ⟨b, off, u, ha, h1, h2, h4⟩ := hc k x hx
  exact ⟨b, off, u, ha, Nat.lt_of_lt_of_le h1 hb.size, (hb.cell (p := ⟨_, _, none⟩) h1).trans h2, h4.later hb⟩
theorem IsGraph.later {w w' : World} {v : Value} {g : G} (h : IsGraph w v g) (hb : Below w.heap.size w w') : IsGraph w' v g := by
  obtain ⟨vo, vr, rfl, h1, h2⟩ := h
  exact ⟨vo, vr, rfl, h1.later hb, h2.later hb⟩

/-- One element, in a world in which what lay below is as it was. -/
theorem IsVals.at {w wr : World} {v : Value} {l : List V} (h : IsVals w v l) (hb : Below w.heap.size w wr) {k : Nat} {x : V} (hx : l[k]? = some x) :
    ∃ b off cap, v = .slice (some ⟨b, off, none⟩) l.length cap ∧ b < w.heap.size ∧ b < wr.heap.size ∧ wr.cell? ⟨b, off + k * 2, none⟩ = some (.bool x.ref) ∧ wr.cell? ⟨b, off + k * 2 + 1, none⟩ = some (.int .i64 x.n) ∧ i64ok x.n := by
  obtain ⟨a, cap, rfl, hl, hc⟩ := h
  obtain ⟨b, off, ha, h1, h2, h3, h4⟩ := hc k x hx
  exact ⟨b, off, cap, by rw [ha], h1, Nat.lt_of_lt_of_le h1 hb.size, (hb.cell (p := ⟨_, _, none⟩) h1).trans h2, (hb.cell (p := ⟨_, _, none⟩) h1).trans h3, h4⟩
theorem IsInts.at {w wr : World} {v : Value} {l : List Int} (h : IsInts w v l) (hb : Below w.heap.size w wr) {k : Nat} {x : Int} (hx : l[k]? = some x) :
    ∃ b off cap, v = .slice (some ⟨b, off, none⟩) l.length cap ∧ b < w.heap.size ∧ b < wr.heap.size ∧ wr.cell? ⟨b, off + k, none⟩ = some (.int .i64 x) ∧ i64ok x := by
  obtain ⟨a, cap, rfl, hl, hc⟩ := h
  obtain ⟨b, off, ha, h1, h2, h4⟩ := hc k x hx
  exact ⟨b, off, cap, by rw [ha], h1, Nat.lt_of_lt_of_le h1 hb.size, (hb.cell (p := ⟨_, _, none⟩) h1).trans h2, h4⟩
theorem IsObjs.at {w wr : World} {v : Value} {l : List (List V)} (h : IsObjs w v l) (hb : Below w.heap.size w wr) {k : Nat} {x : List V} (hx : l[k]? = some x) :
    ∃ b off cap u, v = .slice (some ⟨b, off, none⟩) l.length cap ∧ b < w.heap.size ∧ b < wr.heap.size ∧ wr.cell? ⟨b, off + k, none⟩ = some u ∧ IsVals w u x := by
  obtain ⟨a, cap, rfl, hl, hc⟩ := h
  obtain ⟨b, off, u, ha, h1, h2, h4⟩ := hc k x hx
  exact ⟨b, off, cap, u, by rw [ha], h1, Nat.lt_of_lt_of_le h1 hb.size, (hb.cell (p := ⟨_, _, none⟩) h1).trans h2, h4⟩
theorem IsVals.slice {w : World} {v : Value} {l : List V} (h : IsVals w v l) : ∃ a cap, v = .slice a l.length cap ∧ l.length ≤ 9223372036854775807 := by
  obtain ⟨a, cap, rfl, hl, _⟩ := h; exact ⟨a, cap, rfl, hl⟩
theorem IsInts.slice {w : World} {v : Value} {l : List Int} (h : IsInts w v l) : ∃ a cap, v = .slice a l.length cap ∧ l.length ≤ 9223372036854775807 := by
  obtain ⟨a, cap, rfl, hl, _⟩ := h; exact ⟨a, cap, rfl, hl⟩
theorem IsObjs.slice {w : World} {v : Value} {l : List (List V)} (h : IsObjs w v l) : ∃ a cap, v = .slice a l.length cap ∧ l.length ≤ 9223372036854775807 := by
  obtain ⟨a, cap, rfl, hl, _⟩ := h; exact ⟨a, cap, rfl, hl⟩

theorem length_cellsV (l : List V) : (l.flatMap cellsV).length = l.length * 2 := by
  induction l with
  | nil => rfl
  | cons x l ih => simp [List.flatMap_cons, cellsV] at *; omega
theorem getElem_cellsV (l : List V) : ∀ (k : Nat) (x : V), l[k]? = some x → (l.flatMap cellsV)[k * 2]? = some (.bool x.ref) ∧ (l.flatMap cellsV)[k * 2 + 1]? = some (.int .i64 x.n) := by
  induction l with
  | nil => intro k x h; simp at h
  | cons y l ih =>
    intro k x h
    cases k with
    | zero => simp at h; subst h; simp [List.flatMap_cons, cellsV]
    | succ k =>
      have := ih k x (by simpa using h)
      have e1 : (k + 1) * 2 = k * 2 + 2 := by omega
      rw [e1]
      simpa [List.flatMap_cons, cellsV] using this

/-- A slice of the call's own reads as its elements. -/
theorem isVals_of_own {w : World} {B : Nat} {e : TypeId} {v : Value} {l : List V} (h : w.ownsRow B e 2 v l.length (l.flatMap cellsV)) (hl : l.length ≤ 1000000) (hn : ∀ x ∈ l, i64ok x.n) : IsVals w v l := by
  rcases h.2 with ⟨rfl, h0⟩ | ⟨g, cap, cur, rfl, _, hg, _⟩
  · have : l = [] := List.eq_nil_of_length_eq_zero h0
    subst this
    exact ⟨none, 0, rfl, by simp, by simp⟩
  · refine ⟨_, cap, rfl, by omega, fun k x hx => ?_⟩
    have hk : k < l.length := (List.getElem?_eq_some_iff.1 hx).1
    have hc := getElem_cellsV l k x hx
    refine ⟨g, 0, rfl, (Array.getElem?_eq_some_iff.1 hg).1, ?_, ?_, hn x (List.mem_of_getElem? hx)⟩
    · rw [Nat.zero_add, h.cellAt _ (by omega)]; exact hc.1
    · rw [Nat.zero_add, h.cellAt _ (by omega)]; exact hc.2
theorem isInts_of_own {w : World} {B : Nat} {e : TypeId} {v : Value} {l : List Int} (h : w.ownsRow B e 1 v l.length (l.map (.int .i64))) (hl : l.length ≤ 1000000) (hn : ∀ x ∈ l, i64ok x) : IsInts w v l := by
  rcases h.2 with ⟨rfl, h0⟩ | ⟨g, cap, cur, rfl, _, hg, _⟩
  · have : l = [] := List.eq_nil_of_length_eq_zero h0
    subst this
    exact ⟨none, 0, rfl, by simp, by simp⟩
  · refine ⟨_, cap, rfl, by omega, fun k x hx => ?_⟩
    have hk : k < l.length := (List.getElem?_eq_some_iff.1 hx).1
    refine ⟨g, 0, rfl, (Array.getElem?_eq_some_iff.1 hg).1, ?_, hn x (List.mem_of_getElem? hx)⟩
    rw [Nat.zero_add, h.cellAt _ (by omega)]
    simp [hx]

/-- A slice of values, of ints, of the call's own. -/
def rowV (e : TypeId) (v : Value) (l : List V) : Ent := erow e 2 v l.length (l.flatMap cellsV)
def rowI (e : TypeId) (v : Value) (l : List Int) : Ent := erow e 1 v l.length (l.map (.int .i64))
section
variable {P : Program} {B : Nat} {w0 w : World} {L : List Ent} {t e : TypeId} {z : Value}
theorem Mem.wp_appV (T : Elem P t e 2 16 z) {ops : Array Oper} {rest : List Oper} {o : Oper} {ac : Act} {Q : Exit → Act → World → Prop} (hgd : o.guard = none) (s x : Operand)
    (ho : o.op = .call { callee := .builtin .append, args := #[s, x], argTypes := #[t, t] }) (h : Mem B w0 w L) (k : Nat) {v : Value} {l : List V} (hk : L[k]? = some (rowV e v l))
    (hs : ac.eval s = v) (c : Nat) (y : V) (e2 : TypeId) (bl : Nat) (hx : ac.eval x = .slice (some ⟨bl, 0, none⟩) 1 c) (hbl : w.heap.size = bl) (hn : l.length ≤ 1000000)
    (hh : ∀ ad n' cap w', Hid (n' = l.length + 1) → Mem B w0 w' (L.set k (rowV e (.slice ad n' cap) (l ++ [y]))) → w.heap.size < w'.heap.size →
      (∀ b, b < w.heap.size → v.ownBlock ≠ some b → w'.heap[b]? = w.heap[b]?) → ad ≠ none → wpList P ops Q rest (ac.put o.dst (.slice ad n' cap)) w') :
    wpList P ops Q (o :: rest) ac (w.alloc (.cells #[.bool y.ref, .int .i64 y.n] e2)) := by
  refine Mem.wp_app1 T hgd s x ho h k hk hs c _ e2 bl hx hbl rfl rfl (by decide) hn ?_
  intro ad cap w' h1 h2 h3 h4
  refine hh ad _ cap w' (Lib.hid rfl) (h1.cast ?_) h2 h3 h4
  simp [rowV, cellsV]
theorem Mem.wp_appI (T : Elem P t e 1 8 z) {ops : Array Oper} {rest : List Oper} {o : Oper} {ac : Act} {Q : Exit → Act → World → Prop} (hgd : o.guard = none) (s x : Operand)
    (ho : o.op = .call { callee := .builtin .append, args := #[s, x], argTypes := #[t, t] }) (h : Mem B w0 w L) (k : Nat) {v : Value} {l : List Int} (hk : L[k]? = some (rowI e v l))
    (hs : ac.eval s = v) (c : Nat) (y : Int) (e2 : TypeId) (bl : Nat) (hx : ac.eval x = .slice (some ⟨bl, 0, none⟩) 1 c) (hbl : w.heap.size = bl) (hn : l.length ≤ 1000000)
    (hh : ∀ ad n' cap w', Hid (n' = l.length + 1) → Mem B w0 w' (L.set k (rowI e (.slice ad n' cap) (l ++ [y]))) → w.heap.size < w'.heap.size →
      (∀ b, b < w.heap.size → v.ownBlock ≠ some b → w'.heap[b]? = w.heap[b]?) → ad ≠ none → wpList P ops Q rest (ac.put o.dst (.slice ad n' cap)) w') :
    wpList P ops Q (o :: rest) ac (w.alloc (.cells #[.int .i64 y] e2)) := by
  refine Mem.wp_app1 T hgd s x ho h k hk hs c _ e2 bl hx hbl rfl rfl (by decide) hn ?_
  intro ad cap w' h1 h2 h3 h4
  refine hh ad _ cap w' (Lib.hid rfl) (h1.cast ?_) h2 h3 h4
  simp [rowI]
/-- append(l, y) as an equation on the run, for a region that draws its order. -/
theorem Mem.run_appI (T : Elem P t e 1 8 z) (ty : TypeId) (h : Mem B w0 w L) (k : Nat) {v : Value} {l : List Int} (hk : L[k]? = some (rowI e v l)) (y : Int) (bl c : Nat)
    (hc : w.cell? ⟨bl, 0, none⟩ = some (.int .i64 y)) (hn : l.length ≤ 1000000) :
    ∃ ad n' cap w', (Builtin.append_ #[t, t] ty #[v, .slice (some ⟨bl, 0, none⟩) 1 c]).run P w = .ok (.slice ad n' cap) w' ∧ Hid (n' = l.length + 1) ∧ Mem B w0 w' (L.set k (rowI e (.slice ad n' cap) (l ++ [y]))) ∧
      w.heap.size ≤ w'.heap.size ∧ (∀ b, b < w.heap.size → v.ownBlock ≠ some b → w'.heap[b]? = w.heap[b]?) := by
  obtain ⟨v', w', h1, h2, h3, h4, _, ad, cap, rfl⟩ := h.run_append T ty k hk ⟨bl, 0, none⟩ 1 c [.int .i64 y] rfl (by
    intro j u hj
    cases j with
    | zero => simp at hj; subst hj; simpa [Addr.add] using hc
    | succ j => simp at hj) (by simp [Value.oneCell']) (by simp only [maxLen]; omega) (by omega)
  exact ⟨ad, _, cap, w', h1, Lib.hid rfl, h2.cast (by simp [rowI]), h3, h4⟩
theorem Mem.keeps {w' : World} (h : Mem B w0 w L) (k : Nat) {sz n : Nat} {v : Value} {xs : List Value} (hk : L[k]? = some (erow e sz v n xs)) (_hs : w.heap.size ≤ w'.heap.size)
    (hb : ∀ b, b < w.heap.size → v.ownBlock ≠ some b → w'.heap[b]? = w.heap[b]?) : ∀ (b : Nat) (o : Obj), w.heap[b]? = some o → o.isCells = false → w'.heap[b]? = some o := by
  intro b o ho hc
  refine (hb b (Array.getElem?_eq_some_iff.1 ho).1 ?_).trans ho
  intro e'
  rcases (h.row k hk).2 with ⟨rfl, _⟩ | ⟨g, cap, cur, rfl, _, hg, _⟩
  · simp [Value.ownBlock] at e'
  · simp [Value.ownBlock] at e'; subst e'; rw [ho] at hg; cases hg; cases hc
theorem Mem.nilV (h : Mem B w0 w L) (e : TypeId) : Mem B w0 w (rowV e (.slice none 0 0) [] :: L) := h.nil e 2
theorem Mem.nilI (h : Mem B w0 w L) (e : TypeId) : Mem B w0 w (rowI e (.slice none 0 0) [] :: L) := h.nil e 1
theorem Mem.ownV (h : Mem B w0 w L) (k : Nat) {v : Value} {l : List V} (hk : L[k]? = some (rowV e v l)) : w.ownsRow B e 2 v l.length (l.flatMap cellsV) := h.row k hk
theorem Mem.ownI (h : Mem B w0 w L) (k : Nat) {v : Value} {l : List Int} (hk : L[k]? = some (rowI e v l)) : w.ownsRow B e 1 v l.length (l.map (.int .i64)) := h.row k hk
end

/-! ### What may be -/
def badC (v : V) (n : Int) : Int :=
  if v.ref then (if v.n < 0 ∨ n ≤ v.n then 2 else 0) else (if v.n < -4611686018427387904 ∨ 4611686018427387903 < v.n then 3 else 0)
def allV (g : G) : List V := g.roots ++ g.objs.flatten
structure Good (g : G) : Prop where
  objs : g.objs.length ≤ 24
  roots : g.roots.length ≤ 8
  fields : ∀ o ∈ g.objs, o.length ≤ 4
  vals : ∀ v ∈ allV g, badC v g.objs.length = 0

theorem take_succ_some {α : Type} (l : List α) (k : Nat) (x : α) (h : l[k]? = some x) : l.take (k + 1) = l.take k ++ [x] := by
  rw [List.take_add_one, h]; rfl
theorem get_some {α : Type} (l : List α) (k : Nat) (h : k < l.length) : ∃ x, l[k]? = some x := ⟨_, List.getElem?_eq_getElem h⟩
end Go.Proofs.Ytjnbnfmlpdnngaa

/- The elements of a slice of ints. -/
namespace Go.Proofs.Ytjnbnfmlpdnngaa
open Go.RowKit
theorem elemInts : Elem Try.prog 29 3 1 8 (.int .i64 0) := ⟨by kernel_rfl, info_parts (by kernel_rfl), rfl, by decide⟩
end Go.Proofs.Ytjnbnfmlpdnngaa

/- The references on graphs, walked: bad, all, GraphCheck, Refers, Has. -/
namespace Go.Proofs.Ytjnbnfmlpdnngaa
open Go.RowKit
theorem elemVals : Elem Try.prog 23 84 2 16 (.agg #[.bool false, .int .i64 0]) := ⟨by kernel_rfl, info_parts (by kernel_rfl), rfl, by decide⟩

set_option maxHeartbeats 400000 in
theorem bad_any (v : V) (n : Int) (w : World) :
    Calls Try.prog 63 #[.agg #[.bool v.ref, .int .i64 v.n], .int .i64 n] w fun e w' => e = .returned (.int .i64 (badC v n)) ∧ Below w.heap.size w w' := by
  obtain ⟨r, m⟩ := v
  unfold badC
  cases r
  · go_enter Try.func63, Try.ntmps63
    go_wp2
    all_goals (go_ret; exact ⟨congrArg (fun x => Ending.returned (.int .i64 x)) (by simp <;> omega), (by repeat (first | exact Below.refl _ _ | refine Below.setCell ?_ (by first | exact Nat.le_refl _ | (simp; done) | (simp; omega) | (simp at *; omega)) _ | refine Below.alloc ?_ (by first | exact Nat.le_refl _ | (simp; done) | (simp; omega) | (simp at *; omega)) _ | refine Below.drew ?_ | refine Below.trans ?_ (Below.mono (by assumption) (by first | exact Nat.le_refl _ | (simp; done) | (simp; omega) | (simp at *; omega)))))⟩)
  · go_enter Try.func63, Try.ntmps63
    go_wp2
    all_goals (go_ret; exact ⟨congrArg (fun x => Ending.returned (.int .i64 x)) (by simp <;> omega), (by repeat (first | exact Below.refl _ _ | refine Below.setCell ?_ (by first | exact Nat.le_refl _ | (simp; done) | (simp; omega) | (simp at *; omega)) _ | refine Below.alloc ?_ (by first | exact Nat.le_refl _ | (simp; done) | (simp; omega) | (simp at *; omega)) _ | refine Below.drew ?_ | refine Below.trans ?_ (Below.mono (by assumption) (by first | exact Nat.le_refl _ | (simp; done) | (simp; omega) | (simp at *; omega)))))⟩)

theorem take_len_le {α : Type} (l : List α) (k : Nat) : (l.take k).length ≤ l.length := by rw [List.length_take]; omega

theorem flatten_le {α : Type} (L : List (List α)) (m : Nat) (h : ∀ x ∈ L, x.length ≤ m) : L.flatten.length ≤ m * L.length := by
  induction L with
  | nil => simp
  | cons a L ih =>
    have h1 := h a (by simp)
    have h2 := ih (fun x hx => h x (by simp [hx]))
    rw [List.flatten_cons, List.length_append, List.length_cons, Nat.mul_add]
    omega

set_option maxHeartbeats 400000 in
theorem all_any (v : Value) (g : G) (w : World) (hg : IsGraph w v g) (h1 : g.objs.length ≤ 24) (h2 : g.roots.length ≤ 8) (h3 : ∀ o ∈ g.objs, o.length ≤ 4) :
    Calls Try.prog 62 #[v] w fun e w' => ∃ r, e = .returned r ∧ w'.ownsRow w.heap.size 84 2 r (allV g).length ((allV g).flatMap cellsV) ∧ Below w.heap.size w w' := by
  obtain ⟨vo, vr, rfl, ho, hr⟩ := hg
  obtain ⟨ao, co, rfl, hlo⟩ := ho.slice
  obtain ⟨ar, cr, rfl, hlr⟩ := hr.slice
  have Ho := Lib.hid ho
  have Hr := Lib.hid hr
  have H3 := Lib.hid h3
  clear ho hr h3
  go_enter Try.func62, Try.ntmps62
  go_wp2
  go_loopw [3, 13] (fun r i wr => ∃ k : Nat, k ≤ g.roots.length ∧ i = .int .i64 k ∧ Mem w.heap.size w wr [rowV 84 r (g.roots.take k), ebox w.heap.size #[.slice ao g.objs.length co, .slice ar g.roots.length cr] 25]) (fun _ i _ => g.roots.length - (intOf i).toNat)
  case atStart => exact ⟨0, Nat.zero_le _, rfl, ((Mem.start w).alloc _ _).nilV _⟩
  case round =>
    obtain ⟨k, hk, rfl, hM⟩ := hrel
    by_cases hlt : k < g.roots.length
    · obtain ⟨x, hx⟩ := get_some _ _ hlt
      obtain ⟨b, off, cap, hv, hb, hn, c1, c2, _⟩ := Hr.out.at hM.below hx
      cases hv
      have hs := take_succ_some _ _ _ hx
      have HS := Lib.hid hs
      clear hs hx
      have hM1 := fun o => hM.alloc_ o
      go_wp2_with (at_builtin; refine Mem.wp_appV elemVals rfl (.tmp 17) (.tmp 19) rfl (hM1 _) 0 rfl rfl _ x _ _ rfl (by simp) (by simp; omega) ?_; intro ad n1 cp w1 hn1 hM3 hs1 hk1 ha1)
      go_roundw
      case rel => exact ⟨k + 1, by omega, by go_num, hM3.cast (by rw [HS.out]; rfl)⟩
      case measure => simp [intOf]; omega
    · obtain rfl : k = g.roots.length := by omega
      have q0 := hM.cell 1 rfl 0
      have hw := (hM.box 1 rfl).2.1
      simp at q0
      go_wp2
      have HB := hM.below
      go_loopw [3, 25] (fun r i wr => ∃ j : Nat, j ≤ g.objs.length ∧ i = .int .i64 j ∧ Mem w.heap.size w wr [rowV 84 r (g.roots ++ (g.objs.take j).flatten)]) (fun _ i _ => g.objs.length - (intOf i).toNat)
      case atStart => exact ⟨0, Nat.zero_le _, rfl, (hM.drop (L' := [rowV _ _ _]) (by simp; exact .inl rfl)).cast (by simp)⟩
      case round =>
        obtain ⟨j, hj, rfl, hMj⟩ := hrel
        by_cases hlt : j < g.objs.length
        · obtain ⟨o, hx⟩ := get_some _ _ hlt
          rename_i wr
          obtain ⟨b, off, cap, u, hv, hb, hn, c1, hu⟩ := Ho.out.at hMj.below hx
          cases hv
          obtain ⟨ao2, co2, rfl, hlo2⟩ := hu.slice
          have hs := take_succ_some _ _ _ hx
          have hsm : o.length ≤ 4 := H3.out o (List.mem_of_getElem? hx)
          have hacc : (g.roots ++ (g.objs.take j).flatten).length ≤ 8 + 4 * 24 := by
            have := flatten_le (g.objs.take j) 4 (fun x hx => H3.out x (List.mem_of_mem_take hx))
            have h5 := take_len_le g.objs j
            rw [List.length_append]
            omega
          have HS := Lib.hid hs
          have HU := Lib.hid hu
          clear hs hx hu
          go_wp2
          go_loopw [3, 32] (fun r i wr => ∃ k : Nat, k ≤ o.length ∧ i = .int .i64 k ∧ Mem w.heap.size w wr [rowV 84 r (g.roots ++ (g.objs.take j).flatten ++ o.take k)]) (fun _ i _ => o.length - (intOf i).toNat)
          case atStart => exact ⟨0, Nat.zero_le _, rfl, by simpa using hMj.alloc_ _⟩
          case round =>
            obtain ⟨k, hk, rfl, hM⟩ := hrel
            by_cases hlt2 : k < o.length
            · obtain ⟨x, hx⟩ := get_some _ _ hlt2
              rename_i wr3
              obtain ⟨b2, off2, cap2, hv, hb2, hn2, c2, c3, _⟩ := HU.out.at hM.below hx
              cases hv
              have hs := take_succ_some _ _ _ hx
              have HS2 := Lib.hid hs
              have hacc2 : (g.roots ++ (g.objs.take j).flatten ++ o.take k).length ≤ 200 := by rw [List.length_append]; have := take_len_le o k; omega
              clear hs hx
              have hM1 := fun o => hM.alloc_ o
              go_wp2_with (at_builtin; refine Mem.wp_appV elemVals rfl (.tmp 36) (.tmp 38) rfl (hM1 _) 0 rfl rfl _ x _ _ rfl (by simp) (by omega) ?_; intro ad n1 cp w1 hn1 hM3 hs1 hk1 ha1)
              go_roundw
              case rel => exact ⟨k + 1, by omega, by go_num, hM3.cast (by rw [HS2.out, ← List.append_assoc]; rfl)⟩
              case measure => simp [intOf]; omega
            · obtain rfl : k = o.length := by omega
              go_wp2
              go_roundw
              case rel => exact ⟨j + 1, by omega, by go_num, hM.cast (by rw [HS.out]; simp)⟩
              case measure => simp [intOf]; omega
        · obtain rfl : j = g.objs.length := by omega
          go_wp2
          go_ret
          exact ⟨_, rfl, by simpa [allV] using hMj.ownV 0 rfl, hMj.below⟩

theorem badC_cases (v : V) (n : Int) : badC v n = 0 ∨ badC v n = 2 ∨ badC v n = 3 := by
  unfold badC; split <;> split <;> simp
theorem bad_eq (v : V) (n c : Int) (w : World) (h : badC v n = c) :
    Calls Try.prog 63 #[.agg #[.bool v.ref, .int .i64 v.n], .int .i64 n] w fun e w' => e = .returned (.int .i64 c) ∧ Below w.heap.size w w' := by
  subst h; exact bad_any v n w

/-- The code that GraphCheck tells. -/
def Checked (g : G) (e : Ending) : Prop := ∃ c : Int, e = .returned (.int .i64 c) ∧ (c = 0 ↔ Good g)

set_option maxHeartbeats 400000 in
theorem check_large (v : Value) (g : G) (w : World) (hg : IsGraph w v g) (h1 : 24 < g.objs.length ∨ 8 < g.roots.length) :
    Calls Try.prog 41 #[v] w fun e w' => Checked g e ∧ Below w.heap.size w w' := by
  obtain ⟨vo, vr, rfl, ho, hr⟩ := hg
  obtain ⟨ao, co, rfl, hlo⟩ := ho.slice
  obtain ⟨ar, cr, rfl, hlr⟩ := hr.slice
  have hbad : ¬ Good g := fun h => by have := h.objs; have := h.roots; omega
  have Hbad := Lib.hid hbad
  clear hbad ho hr
  by_cases h2 : 24 < g.objs.length
  · clear h1
    go_enter Try.func41, Try.ntmps41
    go_wp2
    go_ret
    exact ⟨⟨1, rfl, by simp [Hbad.out]⟩, (by repeat (first | exact Below.refl _ _ | refine Below.setCell ?_ (by first | exact Nat.le_refl _ | (simp; done) | (simp; omega) | (simp at *; omega)) _ | refine Below.alloc ?_ (by first | exact Nat.le_refl _ | (simp; done) | (simp; omega) | (simp at *; omega)) _ | refine Below.drew ?_ | refine Below.trans ?_ (Below.mono (by assumption) (by first | exact Nat.le_refl _ | (simp; done) | (simp; omega) | (simp at *; omega)))))⟩
  · have h3 : 8 < g.roots.length := by omega
    have h4 : g.objs.length ≤ 24 := by omega
    clear h1 h2
    go_enter Try.func41, Try.ntmps41
    go_wp2
    go_ret
    exact ⟨⟨1, rfl, by simp [Hbad.out]⟩, (by repeat (first | exact Below.refl _ _ | refine Below.setCell ?_ (by first | exact Nat.le_refl _ | (simp; done) | (simp; omega) | (simp at *; omega)) _ | refine Below.alloc ?_ (by first | exact Nat.le_refl _ | (simp; done) | (simp; omega) | (simp at *; omega)) _ | refine Below.drew ?_ | refine Below.trans ?_ (Below.mono (by assumption) (by first | exact Nat.le_refl _ | (simp; done) | (simp; omega) | (simp at *; omega)))))⟩

def Worst (l : List V) (n : Int) (k : Nat) (c : Int) : Prop := c = 0 ↔ ∀ y ∈ l.take k, badC y n = 0
theorem worst_step {l : List V} {n : Int} {k : Nat} {x : V} {c c' e : Int} (hs : l.take (k + 1) = l.take k ++ [x]) (hcs : Worst l n k c) (he : badC x n = e)
    (h : c' = 0 ↔ c = 0 ∧ e = 0) : Worst l n (k + 1) c' := by
  unfold Worst at *
  rw [hs, h, hcs, ← he]
  simp [List.mem_append, or_imp, forall_and]
theorem allV_le (g : G) (h1 : g.objs.length ≤ 24) (h2 : g.roots.length ≤ 8) (h3 : ∀ o ∈ g.objs, o.length ≤ 4) : (allV g).length ≤ 1000000 := by
  have := flatten_le g.objs 4 h3
  unfold allV; rw [List.length_append]; omega
theorem IsVals.ok {w : World} {v : Value} {l : List V} (h : IsVals w v l) : ∀ x ∈ l, i64ok x.n := by
  obtain ⟨a, cap, rfl, hl, hc⟩ := h
  intro x hx
  obtain ⟨k, hk⟩ := List.getElem?_of_mem hx
  obtain ⟨b, off, _, _, _, _, h⟩ := hc k x hk
  exact h
theorem IsGraph.ok {w : World} {v : Value} {g : G} (h : IsGraph w v g) : ∀ x ∈ allV g, i64ok x.n := by
  obtain ⟨vo, vr, rfl, ho, hr⟩ := h
  intro x hx
  rcases List.mem_append.1 hx with h | h
  · exact hr.ok x h
  · obtain ⟨o, ho1, ho2⟩ := List.mem_flatten.1 h
    obtain ⟨a, cap, rfl, hl, hc⟩ := ho
    obtain ⟨k, hk⟩ := List.getElem?_of_mem ho1
    obtain ⟨b, off, u, _, _, _, hu⟩ := hc k o hk
    exact hu.ok x ho2

set_option maxHeartbeats 400000 in
theorem check_small (v : Value) (g : G) (w : World) (hg : IsGraph w v g) (h1 : g.objs.length ≤ 24) (h2 : g.roots.length ≤ 8) :
    Calls Try.prog 41 #[v] w fun e w' => Checked g e ∧ Below w.heap.size w w' := by
  have hg0 := hg
  obtain ⟨vo, vr, rfl, ho, hr⟩ := hg
  obtain ⟨ao, co, rfl, hlo⟩ := ho.slice
  obtain ⟨ar, cr, rfl, hlr⟩ := hr.slice
  have Ho := Lib.hid ho
  have Hg := Lib.hid hg0
  clear ho hr hg0
  go_enter Try.func41, Try.ntmps41
  go_wp2
  go_loopw [22] (fun i wr => ∃ k : Nat, k ≤ g.objs.length ∧ i = .int .i64 k ∧ (∀ o ∈ g.objs.take k, o.length ≤ 4) ∧ Mem w.heap.size w wr [ebox w.heap.size #[.slice ao g.objs.length co, .slice ar g.roots.length cr] 25]) (fun i _ => g.objs.length - (intOf i).toNat)
  case atStart => exact ⟨0, Nat.zero_le _, rfl, by simp, (Mem.start w).alloc _ _⟩
  case round =>
    obtain ⟨k, hk, rfl, hfit, hM⟩ := hrel
    have Hfit := Lib.hid hfit
    clear hfit
    by_cases hlt : k < g.objs.length
    · obtain ⟨o, hx⟩ := get_some _ _ hlt
      obtain ⟨b, off, cap, u, hv, hb, hn, c1, hu⟩ := Ho.out.at hM.below hx
      cases hv
      obtain ⟨ao2, co2, rfl, hlo2⟩ := hu.slice
      have HS := Lib.hid (take_succ_some _ _ _ hx)
      have hmem := List.mem_of_getElem? hx
      have Hmem := Lib.hid hmem
      clear hx hu hmem
      by_cases h4 : o.length ≤ 4
      · go_wp2
        go_roundw
        case rel => exact ⟨k + 1, by omega, by go_num, by rw [HS.out]; intro x hx; rcases List.mem_append.1 hx with h | h; exact Hfit.out x h; simp at h; subst h; exact h4, hM.alloc_ _⟩
        case measure => simp [intOf]; omega
      · have h5 : 4 < o.length := by omega
        clear h4
        go_wp2
        go_ret
        exact ⟨⟨1, rfl, by simp; intro h; have := h.fields o Hmem.out; omega⟩, (hM.alloc_ _).below⟩
    · obtain rfl : k = g.objs.length := by omega
      have hall : ∀ o ∈ g.objs, o.length ≤ 4 := by have := Hfit.out; rwa [List.take_length] at this
      have Hall := Lib.hid hall
      clear hall
      have q0 := hM.cell 0 rfl 0
      have q1 := hM.cell 0 rfl 1
      have hw := (hM.box 0 rfl).2.1
      simp at q0 q1
      go_wp2_with fail
      refine (all_any _ g _ (Hg.out.later hM.below) h1 h2 Hall.out).mono ?_
      rename_i wA
      rintro e wB ⟨r, rfl, hrow, hbA⟩
      have hi := isVals_of_own hrow (allV_le g h1 h2 Hall.out) Hg.out.ok
      have hMB := hM.call hbA
      obtain ⟨aa, ca, rfl, hla⟩ := hi.slice
      have Hi := Lib.hid hi
      have p0 : wB.cell? ⟨w.heap.size, 0, none⟩ = some (.slice ao g.objs.length co) := by have := hMB.cell 0 rfl 0; simpa using this
      clear hi hrow
      go_wp2
      go_loopw [5, 34] (fun ws i wr => ∃ (k : Nat) (c : Int), k ≤ (allV g).length ∧ ws = .int .i64 c ∧ i = .int .i64 k ∧ (c = 0 ∨ c = 3) ∧ Worst (allV g) g.objs.length k c ∧ Below wB.heap.size wB wr) (fun _ i _ => (allV g).length - (intOf i).toNat)
      case atStart => exact ⟨0, 0, Nat.zero_le _, rfl, rfl, by simp, by simp [Worst], Below.refl _ _⟩
      case round =>
        obtain ⟨k, c, hk, rfl, rfl, hc, hcs, hB⟩ := hrel
        have Hcs := Lib.hid hcs
        clear hcs
        by_cases hlt2 : k < (allV g).length
        · obtain ⟨x, hx⟩ := get_some _ _ hlt2
          obtain ⟨b2, off2, cap2, hv, hb2, hn2, c2, c3, _⟩ := Hi.out.at hB hx
          cases hv
          have HS := Lib.hid (take_succ_some _ _ _ hx)
          have Hmem := Lib.hid (List.mem_of_getElem? hx)
          clear hx
          have hw2 : w.heap.size < wr.heap.size := Nat.lt_of_lt_of_le (hMB.box 0 rfl).2.1 hB.size
          have p1 : wr.cell? ⟨w.heap.size, 0, none⟩ = some (.slice ao g.objs.length co) := (hB.cell (p := ⟨_, _, none⟩) (hMB.box 0 rfl).2.1).trans p0
          rcases hc with rfl | rfl <;> rcases badC_cases x g.objs.length with he | he | he
          all_goals
            have He := Lib.hid he
            clear he
            go_wp2_with fail
            refine (bad_eq x _ _ _ He.out).mono ?_
            rintro e w3 ⟨rfl, hb3⟩
            go_wp2
          · go_roundw
            case rel => exact ⟨k + 1, _, by omega, rfl, by go_num, by simp, worst_step HS.out Hcs.out He.out (by simp), (hB.alloc (Nat.le_trans hB.size (Nat.le_refl _)) _).trans (hb3.mono (by simp; have := hB.size; omega))⟩
            case measure => simp [intOf]; omega
          · go_ret
            exact ⟨⟨2, rfl, by simp; intro h; have h5 := h.vals x Hmem.out; rw [He.out] at h5; omega⟩, hMB.below.trans (((hB.alloc (Nat.le_trans hB.size (Nat.le_refl _)) _).trans (hb3.mono (by simp; have := hB.size; omega))).mono hMB.base)⟩
          · go_roundw
            case rel => exact ⟨k + 1, _, by omega, rfl, by go_num, by simp, worst_step HS.out Hcs.out He.out (by simp), (hB.alloc (Nat.le_trans hB.size (Nat.le_refl _)) _).trans (hb3.mono (by simp; have := hB.size; omega))⟩
            case measure => simp [intOf]; omega
          · go_roundw
            case rel => exact ⟨k + 1, _, by omega, rfl, by go_num, by simp, worst_step HS.out Hcs.out He.out (by simp), (hB.alloc (Nat.le_trans hB.size (Nat.le_refl _)) _).trans (hb3.mono (by simp; have := hB.size; omega))⟩
            case measure => simp [intOf]; omega
          · go_ret
            exact ⟨⟨2, rfl, by simp; intro h; have h5 := h.vals x Hmem.out; rw [He.out] at h5; omega⟩, hMB.below.trans (((hB.alloc (Nat.le_trans hB.size (Nat.le_refl _)) _).trans (hb3.mono (by simp; have := hB.size; omega))).mono hMB.base)⟩
          · go_roundw
            case rel => exact ⟨k + 1, _, by omega, rfl, by go_num, by simp, worst_step HS.out Hcs.out He.out (by simp), (hB.alloc (Nat.le_trans hB.size (Nat.le_refl _)) _).trans (hb3.mono (by simp; have := hB.size; omega))⟩
            case measure => simp [intOf]; omega
        · obtain rfl : k = (allV g).length := by omega
          have hv : c = 0 ↔ ∀ x ∈ allV g, badC x g.objs.length = 0 := by have := Hcs.out; unfold Worst at this; rwa [List.take_length] at this
          have Hv := Lib.hid hv
          clear hv
          go_wp2
          go_ret
          exact ⟨⟨c, rfl, ⟨fun h => ⟨h1, h2, Hall.out, Hv.out.1 h⟩, fun h => Hv.out.2 h.vals⟩⟩, (hMB.below.trans (hB.mono hMB.base))⟩

/-- May a graph be? As GraphCheck tells it. -/
theorem check_any (v : Value) (g : G) (w : World) (hg : IsGraph w v g) :
    Calls Try.prog 41 #[v] w fun e w' => Checked g e ∧ Below w.heap.size w w' := by
  by_cases h : 24 < g.objs.length ∨ 8 < g.roots.length
  · exact check_large v g w hg h
  · exact check_small v g w hg (by omega) (by omega)

set_option maxHeartbeats 400000 in
theorem good_yes (v : Value) (g : G) (w : World) (hg : IsGraph w v g) (h : Good g) :
    Calls Try.prog 12 #[v] w fun e w' => e = .returned (.bool true) ∧ Below w.heap.size w w' := by
  have hg0 := hg
  obtain ⟨vo, vr, rfl, ho, hr⟩ := hg
  obtain ⟨ao, co, rfl, hlo⟩ := ho.slice
  obtain ⟨ar, cr, rfl, hlr⟩ := hr.slice
  have Hg := Lib.hid hg0
  clear ho hr hg0
  go_enter Try.func12, Try.ntmps12
  go_wp2_with fail
  refine (check_any _ g _ (Hg.out.later ((Below.refl _ _).alloc (Nat.le_refl _) _))).mono ?_
  rintro e w1 ⟨⟨c, rfl, hc⟩, hb⟩
  obtain rfl : c = 0 := hc.2 h
  clear hc
  go_wp2
  go_ret
  exact ⟨rfl, (by repeat (first | exact Below.refl _ _ | refine Below.setCell ?_ (by first | exact Nat.le_refl _ | (simp; done) | (simp; omega) | (simp at *; omega)) _ | refine Below.alloc ?_ (by first | exact Nat.le_refl _ | (simp; done) | (simp; omega) | (simp at *; omega)) _ | refine Below.drew ?_ | refine Below.trans ?_ (Below.mono (by assumption) (by first | exact Nat.le_refl _ | (simp; done) | (simp; omega) | (simp at *; omega)))))⟩
set_option maxHeartbeats 400000 in
theorem good_no (v : Value) (g : G) (w : World) (hg : IsGraph w v g) (h : ¬ Good g) :
    Calls Try.prog 12 #[v] w fun e w' => e = .returned (.bool false) ∧ Below w.heap.size w w' := by
  have hg0 := hg
  obtain ⟨vo, vr, rfl, ho, hr⟩ := hg
  obtain ⟨ao, co, rfl, hlo⟩ := ho.slice
  obtain ⟨ar, cr, rfl, hlr⟩ := hr.slice
  have Hg := Lib.hid hg0
  clear ho hr hg0
  go_enter Try.func12, Try.ntmps12
  go_wp2_with fail
  refine (check_any _ g _ (Hg.out.later ((Below.refl _ _).alloc (Nat.le_refl _) _))).mono ?_
  rintro e w1 ⟨⟨c, rfl, hc⟩, hb⟩
  have hc0 : (c == 0) = false := by simp; intro e; exact h (hc.1 e)
  clear hc h
  go_wp2
  go_ret
  exact ⟨rfl, (by repeat (first | exact Below.refl _ _ | refine Below.setCell ?_ (by first | exact Nat.le_refl _ | (simp; done) | (simp; omega) | (simp at *; omega)) _ | refine Below.alloc ?_ (by first | exact Nat.le_refl _ | (simp; done) | (simp; omega) | (simp at *; omega)) _ | refine Below.drew ?_ | refine Below.trans ?_ (Below.mono (by assumption) (by first | exact Nat.le_refl _ | (simp; done) | (simp; omega) | (simp at *; omega)))))⟩
end Go.Proofs.Ytjnbnfmlpdnngaa

/- Has, walked. -/
namespace Go.Proofs.Ytjnbnfmlpdnngaa
open Go.RowKit

def hasB (l : List Int) (x : Int) : Bool := decide (x ∈ l)
def refersB (l : List V) (i : Int) : Bool := decide ((⟨true, i⟩ : V) ∈ l)
def NotYet {α : Type} (l : List α) (k : Nat) (p : α → Bool) : Prop := ∀ y ∈ l.take k, p y = false
theorem NotYet.zero {α : Type} (l : List α) (p : α → Bool) : NotYet l 0 p := by intro y hy; simp at hy
theorem NotYet.succ {α : Type} {l : List α} {k : Nat} {p : α → Bool} {x : α} (h : NotYet l k p) (hs : l.take (k + 1) = l.take k ++ [x]) (hx : p x = false) : NotYet l (k + 1) p := by
  intro y hy; rw [hs] at hy; rcases List.mem_append.1 hy with h1 | h1
  · exact h y h1
  · simp at h1; subst h1; exact hx
theorem NotYet.all {α : Type} {l : List α} {p : α → Bool} (h : NotYet l l.length p) : ∀ y ∈ l, p y = false := by
  intro y hy; exact h y (by rwa [List.take_length])

theorem has_in {l : List Int} {k : Nat} {x y : Int} (hx : l[k]? = some y) (h : (x == y) = true) : hasB l x = true := by
  have : x = y := by simpa using h
  subst this
  simpa [hasB] using List.mem_of_getElem? hx
theorem has_out {l : List Int} {x : Int} (h : NotYet l l.length (fun y => x == y)) : hasB l x = false := by
  have := h.all
  simp [hasB]
  intro hm
  simpa using this x hm

set_option maxHeartbeats 400000 in
theorem has_any (v : Value) (l : List Int) (x : Int) (w : World) (hl : IsInts w v l) :
    Calls Try.prog 14 #[v, .int .i64 x] w fun e w' => e = .returned (.bool (hasB l x)) ∧ w = w' := by
  obtain ⟨a, cap, rfl, hm⟩ := hl.slice
  have Hl := Lib.hid hl
  clear hl
  go_enter Try.func14, Try.ntmps14
  go_wp2
  go_loop [9] (fun i => ∃ k : Nat, k ≤ l.length ∧ i = .int .i64 k ∧ NotYet l k (fun y => x == y)) (fun i => l.length - (intOf i).toNat)
  case atStart => exact ⟨0, Nat.zero_le _, rfl, NotYet.zero _ _⟩
  case round =>
    obtain ⟨k, hk, rfl, hN⟩ := hrel
    by_cases hlt : k < l.length
    · obtain ⟨y, hx⟩ := get_some _ _ hlt
      obtain ⟨b, off, cap2, hv, hb, hn, c1, _⟩ := Hl.out.at (Below.refl _ _) hx
      cases hv
      have HS := Lib.hid (take_succ_some _ _ _ hx)
      have Hx := Lib.hid hx
      clear hx
      rcases hxy : (x == y) with _ | _
      · go_wp2
        go_round
        case rel => exact ⟨k + 1, by omega, by go_num, hN.succ HS.out hxy⟩
        case measure => simp [intOf]; omega
      · have HR := Lib.hid (has_in Hx.out hxy)
        go_wp2
        go_ret
        exact ⟨by rw [HR.out]; rfl, rfl⟩
    · obtain rfl : k = l.length := by omega
      have HR := Lib.hid (has_out hN)
      go_wp2
      go_ret
      exact ⟨by rw [HR.out]; rfl, rfl⟩

theorem has_yes (v : Value) (l : List Int) (x : Int) (w : World) (hl : IsInts w v l) (h : x ∈ l) :
    Calls Try.prog 14 #[v, .int .i64 x] w fun e w' => e = .returned (.bool true) ∧ w = w' := by
  have := has_any v l x w hl
  rwa [show hasB l x = true by simp [hasB, h]] at this
theorem has_no (v : Value) (l : List Int) (x : Int) (w : World) (hl : IsInts w v l) (h : x ∉ l) :
    Calls Try.prog 14 #[v, .int .i64 x] w fun e w' => e = .returned (.bool false) ∧ w = w' := by
  have := has_any v l x w hl
  rwa [show hasB l x = false by simp [hasB, h]] at this
end Go.Proofs.Ytjnbnfmlpdnngaa

/- Targets as data; what iterators' contracts lean on. -/
namespace Go.Proofs.Ytjnbnfmlpdnngaa
open Go.RowKit Go.Shelf

attribute [local go_sem] Oper.semAt_some

/-- The objects to which references go, in order. -/
def targets (l : List V) : List Int := (l.filter (·.ref)).map (·.n)
theorem targets_succ {l : List V} {k : Nat} {x : V} (h : l.take (k + 1) = l.take k ++ [x]) : targets (l.take (k + 1)) = targets (l.take k) ++ if x.ref then [x.n] else [] := by
  rw [h]; unfold targets; rw [List.filter_append, List.map_append]
  cases hx : x.ref <;> simp [hx]
theorem targets_prefix (l : List V) (k : Nat) : targets (l.take k) <+: targets l :=
  List.IsPrefix.map _ (List.IsPrefix.filter _ (List.take_prefix k l))
/-- One of the targets. -/
abbrev Tg (l : List V) := { x : Int // x ∈ targets l }
theorem mem_targets {l : List V} {x : V} (h : x ∈ l) (hr : x.ref = true) : x.n ∈ targets l := by
  unfold targets; exact List.mem_map.2 ⟨x, List.mem_filter.2 ⟨h, hr⟩, rfl⟩

end Go.Proofs.Ytjnbnfmlpdnngaa

/- Graphs relabelled, as data; places in lists. Plain. -/
namespace Go.Proofs.Ytjnbnfmlpdnngaa

def fieldsAt (g : G) (i : Int) : List V := g.objs.getD i.toNat []
def turnV (p : Int → Int) (v : V) : V := if v.ref then ⟨true, p v.n⟩ else v
/-- The first place of a number in a list, counted from o; 0: none. -/
def plc : List Int → Int → Nat → Int
  | [], _, _ => 0
  | x :: xs, y, o => if x = y then o else plc xs y (o + 1)
theorem plc_rng : ∀ (l : List Int) (y : Int) (o : Nat), 0 ≤ plc l y o ∧ plc l y o ≤ o + l.length := by
  intro l
  induction l with
  | nil => intro y o; simp only [plc, List.length_nil]; omega
  | cons x xs ih =>
    intro y o
    unfold plc
    split
    · simp; omega
    · have := ih y (o + 1); simp; omega
theorem plc_get : ∀ (l : List Int) (y : Int) (o i : Nat), l[i]? = some y → (∀ j, j < i → l[j]? ≠ some y) → plc l y o = ((o + i : Nat) : Int) := by
  intro l
  induction l with
  | nil => intro y o i h; simp at h
  | cons x xs ih =>
    intro y o i h hf
    unfold plc
    cases i with
    | zero => simp at h; subst h; simp
    | succ i =>
      have hx : x ≠ y := by intro e; exact hf 0 (by omega) (by simp [e])
      rw [if_neg hx, ih y (o + 1) i (by simpa using h) (fun j hj => by have := hf (j + 1) (by omega); simpa using this)]
      congr 1; omega
theorem plc_mem : ∀ (l : List Int) (y : Int) (o : Nat), y ∈ l → ∃ i, l[i]? = some y ∧ plc l y o = ((o + i : Nat) : Int)
  | [], y, o, h => by cases h
  | x :: xs, y, o, h => by
    unfold plc
    by_cases e : x = y
    · subst e; exact ⟨0, by simp, by simp⟩
    · rw [if_neg e]
      have hm : y ∈ xs := by rcases List.mem_cons.1 h with h1 | h1; exact absurd h1.symm e; exact h1
      obtain ⟨i, h1, h2⟩ := plc_mem xs y (o + 1) hm
      exact ⟨i + 1, by simpa using h1, by rw [h2]; congr 1; omega⟩
/-- h is g, relabelled by p on the objects of L. -/
structure Iso (g h : G) (L : List Int) (p : Int → Int) : Prop where
  rng : ∀ x ∈ L, (0 ≤ x ∧ x < g.objs.length) ∧ 0 ≤ p x ∧ p x < h.objs.length
  inj : ∀ x ∈ L, ∀ y ∈ L, p x = p y → x = y
  roots : h.roots = g.roots.map (turnV p)
  rootsL : ∀ j ∈ targets g.roots, j ∈ L
  fields : ∀ x ∈ L, fieldsAt h (p x) = (fieldsAt g x).map (turnV p)
  fieldsL : ∀ x ∈ L, ∀ j ∈ targets (fieldsAt g x), j ∈ L
theorem targets_map (p : Int → Int) (l : List V) : targets (l.map (turnV p)) = (targets l).map p := by
  induction l with
  | nil => rfl
  | cons v l ih =>
    obtain ⟨r, n⟩ := v
    unfold targets at *
    cases r <;> simp [turnV] <;> simpa using ih
/-- What stands at the places that were paired. -/
structure Paired (L F : List Int) : Prop where
  nodup : F.Nodup
  sub : ∀ x ∈ F, x ∈ L
theorem Paired.snoc {L F : List Int} (h : Paired L F) {x : Int} (hx : x ∈ L) (hn : x ∉ F) : Paired L (F ++ [x]) := by
  refine ⟨?_, ?_⟩
  · rw [List.nodup_append]
    refine ⟨h.nodup, by simp, ?_⟩
    intro a ha c hc e
    simp at hc
    subst hc e
    exact hn ha
  · intro y hy
    rcases List.mem_append.1 hy with h1 | h1
    · exact h.sub y h1
    · simp at h1; subst h1; exact hx
theorem nodup_sub_len : ∀ (F L : List Int), F.Nodup → (∀ x ∈ F, x ∈ L) → F.length ≤ L.length
  | [], _, _, _ => by simp
  | x :: xs, L, hn, hs => by
    rw [List.nodup_cons] at hn
    have hx := hs x (by simp)
    have ih := nodup_sub_len xs (L.erase x) hn.2 (fun y hy => by
      rw [List.mem_erase_of_ne (by rintro rfl; exact hn.1 hy)]
      exact hs y (by simp [hy]))
    rw [List.length_erase_of_mem hx] at ih
    have : 0 < L.length := List.length_pos_of_mem hx
    simp only [List.length_cons]; omega
theorem Paired.le {L F : List Int} (h : Paired L F) : F.length ≤ L.length := nodup_sub_len F L h.nodup h.sub
/-- A relabelling that tells the objects of L apart. -/
structure Lab (L : List Int) (p : Int → Int) : Prop where
  inj : ∀ x ∈ L, ∀ y ∈ L, p x = p y → x = y
  ok : ∀ x ∈ L, i64ok x ∧ i64ok (p x)
  len : L.length ≤ 1000
def renumP (g : G) (l : List Int) (q : Int → Int) : G := ⟨l.map fun x => (fieldsAt g x).map (turnV q), g.roots.map (turnV q)⟩
end Go.Proofs.Ytjnbnfmlpdnngaa

/- Graphs of moderate size whose references are in range. Plain. -/
namespace Go.Proofs.Ytjnbnfmlpdnngaa

def Rng (g : G) : Prop := ∀ v ∈ allV g, v.ref = true → 0 ≤ v.n ∧ v.n < (g.objs.length : Int)
theorem Rng.target {g : G} (h : Rng g) {l : List V} (hl : ∀ x ∈ l, x ∈ allV g) {i : Int} (hi : i ∈ targets l) : 0 ≤ i ∧ i < (g.objs.length : Int) := by
  obtain ⟨v, hv, rfl⟩ := List.mem_map.1 hi
  obtain ⟨h1, h2⟩ := List.mem_filter.1 hv
  exact h v (hl v h1) (by simpa using h2)
theorem roots_in (g : G) : ∀ x ∈ g.roots, x ∈ allV g := fun _ hx => List.mem_append_left _ hx
theorem fields_in (g : G) (i : Int) : ∀ x ∈ fieldsAt g i, x ∈ allV g := by
  intro x hx
  unfold fieldsAt at hx
  rw [List.getD_eq_getElem?_getD] at hx
  cases h : g.objs[i.toNat]? with
  | none => rw [h] at hx; simp at hx
  | some o => rw [h] at hx; exact List.mem_append_right _ (List.mem_flatten.2 ⟨o, List.mem_of_getElem? h, hx⟩)
/-- A graph of moderate size. -/
structure Fits (g : G) : Prop where
  objs : g.objs.length ≤ 1000
  roots : g.roots.length ≤ 1000
  fields : ∀ o ∈ g.objs, o.length ≤ 1000
  rng : Rng g
  vals : ∀ v ∈ allV g, i64ok v.n
theorem Good.fits {g : G} (h : Good g) : Fits g := by
  have hv : ∀ v ∈ allV g, (v.ref = true → 0 ≤ v.n ∧ v.n < (g.objs.length : Int)) ∧ i64ok v.n := by
    intro v hv
    have h1 := h.vals v hv
    have h2 := h.objs
    unfold badC at h1
    unfold i64ok
    cases hr : v.ref with
    | true =>
      rw [if_pos hr] at h1
      by_cases hc : v.n < 0 ∨ (g.objs.length : Int) ≤ v.n
      · rw [if_pos hc] at h1; cases h1
      · exact ⟨fun _ => by omega, by omega⟩
    | false =>
      rw [if_neg (by rw [hr]; decide)] at h1
      by_cases hc : v.n < -4611686018427387904 ∨ 4611686018427387903 < v.n
      · rw [if_pos hc] at h1; cases h1
      · exact ⟨fun h => (by cases h), by omega⟩
  exact ⟨by have := h.objs; omega, by have := h.roots; omega, fun o ho => by have := h.fields o ho; omega, fun v hm => (hv v hm).1, fun v hm => (hv v hm).2⟩
theorem Fits.flen {g : G} (hG : Fits g) (x : Int) : (fieldsAt g x).length ≤ 1000 := by
  unfold fieldsAt
  rw [List.getD_eq_getElem?_getD]
  cases h : g.objs[x.toNat]? with
  | none => simp
  | some o => exact hG.fields o (List.mem_of_getElem? h)
end Go.Proofs.Ytjnbnfmlpdnngaa

/- Machines: registers, objects by number, what is done with them and what is told. Plain. -/
namespace Go.Proofs.Ytjnbnfmlpdnngaa

/-- What is done. -/
structure Dd where
  kind : Int
  to_ : Int
  frm : Int
  at_ : Int
  n : Int
deriving DecidableEq
/-- What is told. -/
structure Ot where
  code : Int
  ref : Bool
  n : Int
deriving DecidableEq
def cellsD (d : Dd) : List Value := [.int .i64 d.kind, .int .i64 d.to_, .int .i64 d.frm, .int .i64 d.at_, .int .i64 d.n]
def cellsO (o : Ot) : List Value := [.int .i64 o.code, .bool o.ref, .int .i64 o.n]
theorem cellsD_len (d : Dd) : (cellsD d).length = 5 := rfl
theorem cellsO_len (o : Ot) : (cellsO o).length = 3 := rfl

/-- Objects by number; none: gone. -/
abbrev Os := List (Option (List V))
structure Sm (X : Type) where
  regs : List V
  os : Os
  x : X
def objAt (os : Os) (i : Int) : List V := ((os[i.toNat]?).getD none).getD []
def Lives (os : Os) (i : Int) : Prop := 0 ≤ i ∧ ∃ l, os[i.toNat]? = some (some l)
theorem Lives.lt {os : Os} {i : Int} (h : Lives os i) : i.toNat < os.length := by
  obtain ⟨_, l, h⟩ := h
  exact (List.getElem?_eq_some_iff.1 h).1
theorem Lives.obj {os : Os} {i : Int} (h : Lives os i) : os[i.toNat]? = some (some (objAt os i)) := by
  obtain ⟨_, l, h⟩ := h
  unfold objAt; rw [h]; rfl
theorem lives_nat {os : Os} {i : Nat} {l : List V} (h : os[i]? = some (some l)) : Lives os (i : Int) := ⟨by omega, l, by simpa using h⟩
theorem objAt_nat {os : Os} {i : Nat} {l : List V} (h : os[i]? = some (some l)) : objAt os (i : Int) = l := by unfold objAt; rw [Int.toNat_natCast, h]; rfl

/-- A value that may stand: a reference to an object that is there, or a number in range. -/
def OkV (os : Os) (v : V) : Prop := (v.ref = true → Lives os v.n) ∧ (v.ref = false → -4611686018427387904 ≤ v.n ∧ v.n ≤ 4611686018427387903)
/-- How a memory answers. -/
structure Kd (X : Type) where
  new : Sm X → Nat → Sm X × Option Int
  put : Sm X → Int → Nat → V → Sm X
  hold : Sm X → Nat → V → Sm X
/-- M3, but for what a field needs. -/
def wrongC (d : Dd) : Int :=
  if d.kind < 1 ∨ 7 < d.kind then 5
  else if d.kind ≠ 7 ∧ (d.to_ < 0 ∨ 8 ≤ d.to_) then 2
  else if ¬ (d.kind = 1 ∨ d.kind = 2) ∧ (d.frm < 0 ∨ 8 ≤ d.frm) then 2
  else if d.kind = 1 ∧ (d.n < 0 ∨ 4 < d.n) then 3
  else if d.kind = 2 ∧ (d.n < -4611686018427387904 ∨ 4611686018427387903 < d.n) then 3
  else 0
def fieldC (os : Os) (v : V) (at_ : Int) : Int :=
  if v.ref = false then 5 else if at_ < 0 ∨ ((objAt os v.n).length : Int) ≤ at_ then 3 else 0
def zerosV (m : Nat) : List V := List.replicate m ⟨false, 0⟩
def reg (l : List V) (r : Int) : V := l.getD r.toNat ⟨false, 0⟩
section
variable {X : Type}
def Kd.set (K : Kd X) (s : Sm X) (r : Int) (v : V) : Sm X :=
  let t := K.hold s r.toNat v
  ⟨t.regs.set r.toNat v, t.os, t.x⟩
def Kd.step (K : Kd X) (s : Sm X) (d : Dd) : Sm X × Ot :=
  if wrongC d ≠ 0 then (s, ⟨wrongC d, false, 0⟩)
  else if d.kind = 1 then
    match K.new s d.n.toNat with
    | (t, none) => (t, ⟨6, false, 0⟩)
    | (t, some o) => (K.set t d.to_ ⟨true, o⟩, ⟨0, false, 0⟩)
  else if d.kind = 2 then (K.set s d.to_ ⟨false, d.n⟩, ⟨0, false, 0⟩)
  else if d.kind = 3 then (K.set s d.to_ (reg s.regs d.frm), ⟨0, false, 0⟩)
  else if d.kind = 4 then
    if fieldC s.os (reg s.regs d.to_) d.at_ ≠ 0 then (s, ⟨fieldC s.os (reg s.regs d.to_) d.at_, false, 0⟩)
    else (K.put s (reg s.regs d.to_).n d.at_.toNat (reg s.regs d.frm), ⟨0, false, 0⟩)
  else if d.kind = 5 then
    if fieldC s.os (reg s.regs d.frm) d.at_ ≠ 0 then (s, ⟨fieldC s.os (reg s.regs d.frm) d.at_, false, 0⟩)
    else (K.set s d.to_ ((objAt s.os (reg s.regs d.frm).n).getD d.at_.toNat ⟨false, 0⟩), ⟨0, false, 0⟩)
  else if d.kind = 6 then (s, ⟨0, false, if reg s.regs d.to_ = reg s.regs d.frm then 1 else 0⟩)
  else (s, ⟨0, (reg s.regs d.frm).ref, if (reg s.regs d.frm).ref then ((objAt s.os (reg s.regs d.frm).n).length : Int) else (reg s.regs d.frm).n⟩)
end
/-- What a register's file and the objects always are. -/
structure Fine (regs : List V) (os : Os) : Prop where
  regs8 : regs.length = 8
  regs : ∀ v ∈ regs, OkV os v
  flen : ∀ (i : Nat) (l : List V), os[i]? = some (some l) → l.length ≤ 4
  num : ∀ (i : Nat) (l : List V), os[i]? = some (some l) → ∀ v ∈ l, v.ref = false → -4611686018427387904 ≤ v.n ∧ v.n ≤ 4611686018427387903
  rng : ∀ (i : Nat) (l : List V), os[i]? = some (some l) → ∀ v ∈ l, v.ref = true → 0 ≤ v.n ∧ v.n < (os.length : Int)
theorem reg_get {l : List V} {r : Int} (h0 : 0 ≤ r) (h1 : r < l.length) : l[r.toNat]? = some (reg l r) := by
  unfold reg
  rw [List.getD_eq_getElem?_getD, List.getElem?_eq_getElem (by omega)]; rfl
theorem Fine.reg {regs : List V} {os : Os} (h : Fine regs os) {r : Int} (h0 : 0 ≤ r) (h1 : r < 8) : OkV os (reg regs r) :=
  h.regs _ (List.mem_of_getElem? (reg_get h0 (by rw [h.regs8]; exact h1)))
theorem wrong_zero {d : Dd} (h : wrongC d = 0) : 1 ≤ d.kind ∧ d.kind ≤ 7 ∧ (d.kind ≠ 7 → 0 ≤ d.to_ ∧ d.to_ < 8) ∧ (¬ (d.kind = 1 ∨ d.kind = 2) → 0 ≤ d.frm ∧ d.frm < 8) ∧ (d.kind = 1 → 0 ≤ d.n ∧ d.n ≤ 4) ∧ (d.kind = 2 → -4611686018427387904 ≤ d.n ∧ d.n ≤ 4611686018427387903) := by
  unfold wrongC at h
  split at h; · cases h
  split at h; · cases h
  split at h; · cases h
  split at h; · cases h
  split at h; · cases h
  rename_i h1 h2 h3 h4 h5
  refine ⟨by omega, by omega, fun hk => ?_, fun hk => ?_, fun hk => ?_, fun hk => ?_⟩
  · have := fun h => h2 ⟨hk, h⟩; omega
  · have := fun h => h3 ⟨hk, h⟩; omega
  · have := fun h => h4 ⟨hk, h⟩; omega
  · have := fun h => h5 ⟨hk, h⟩; omega
theorem field_zero {os : Os} {v : V} {at_ : Int} (h : fieldC os v at_ = 0) : v.ref = true ∧ 0 ≤ at_ ∧ at_ < ((objAt os v.n).length : Int) := by
  unfold fieldC at h
  split at h; · cases h
  split at h; · cases h
  rename_i h1 h2
  exact ⟨by simpa using h1, by omega, by omega⟩
end Go.Proofs.Ytjnbnfmlpdnngaa

/- make of ints in a row of the call's own; an int of a row. Plain laws, over any program. -/
namespace Go.Proofs.Ytjnbnfmlpdnngaa
open Go.RowKit Go.Shelf

theorem Mem.intsAt {B : Nat} {w0 w : World} {L : List Ent} (h : Mem B w0 w L) (k : Nat) {e : TypeId} {v : Value} {l : List Int} (hk : L[k]? = some (rowI e v l)) (hne : l ≠ []) :
    ∃ g cap, v = .slice (some ⟨g, 0, none⟩) l.length cap ∧ B ≤ g ∧ g < w.heap.size ∧ (∀ j x, l[j]? = some x → w.cell? ⟨g, j, none⟩ = some (.int .i64 x)) ∧ (∀ j, w.frozen? ⟨g, j, none⟩ = false) := by
  have hr := h.ownI k hk
  rcases hr.2 with ⟨_, h0⟩ | ⟨g, cap, cur, rfl, hB, hg, _⟩
  · exact (hne (List.eq_nil_of_length_eq_zero h0)).elim
  · refine ⟨g, cap, rfl, hB, (Array.getElem?_eq_some_iff.1 hg).1, fun j x hx => ?_, fun j => hr.frozenAt j⟩
    rw [hr.cellAt j (by have := (List.getElem?_eq_some_iff.1 hx).1; omega)]
    simp [hx]
theorem grown_below {w w' : World} (h : w.grownBy w' none) : Below w.heap.size w w' := (Below.refl _ w).grown h (Nat.le_refl _) (fun _ e => by cases e)

section
variable {F : Fence} {n : Nat} {P : Program} {B : Nat} {w0 w : World} {L : List Ent} {t e : TypeId}

theorem Mem.make_own (h : Mem B w0 w L) {w' : World} {v : Value} {m : Nat} (hown : w'.ownsRow w.heap.size e 1 v m (madeCells #[.int .i64 0] (m * 1)).toList) (hg : w.grownBy w' none) : Mem B w0 w' (rowI e v (List.replicate m 0) :: L) := by
  rw [Nat.mul_one, toList_madeCells_one] at hown
  exact (h.callRow (grown_below hg) hown).cast (by simp [rowI])

/-- make([]int, m). -/
theorem Mem.wp_makeI (T : Elem P t e 1 8 (.int .i64 0)) {ops : Array Oper} {rest : List Oper} {o : Oper} {a : Act} {Q : Exit → Act → World → Prop} (hgd : o.guard = none) (l c : Operand) (hop : o.op = Op.makeSlice t l c)
    (h : Mem B w0 w L) (X Y : Int) (m : Nat) (hl : a.eval l = .int .i64 X) (hc : a.eval c = .int .i64 Y) (hX : X = (m : Int)) (hY : Y = (m : Int)) (hm : m ≤ 1000)
    (hK : ∀ w', Mem B w0 w' (rowI e (.slice (some ⟨w.heap.size, 0, none⟩) m m) (List.replicate m 0) :: L) → Below w.heap.size w w' → wpList P ops Q rest (a.put o.dst (.slice (some ⟨w.heap.size, 0, none⟩) m m)) w') :
    wpList P ops Q (o :: rest) a w := by
  obtain ⟨i, hi, hz, hs, hb⟩ := T.info
  exact wpList_make_full w hgd l c t hop w.heap.size e i _ 1 T.under hi hz hs .i64 .i64 X Y m hl hc hX hY (by rw [hb]; omega) (by simp [maxLen]; omega) (Nat.le_refl _) (fun w' h1 h2 => hK w' (h.make_own h1 h2) (grown_below h2))

theorem Mem.in_makeI (T : Elem P t e 1 8 (.int .i64 0)) {ops : Array Oper} {rest : List Oper} {o : Oper} {a : Act} {Q : Exit → Act → World → Prop} (hgd : o.guard = none) (l c : Operand) (hop : o.op = Op.makeSlice t l c)
    (h : Mem B w0 w L) (X Y : Int) (m : Nat) (hl : a.eval l = .int .i64 X) (hc : a.eval c = .int .i64 Y) (hX : X = (m : Int)) (hY : Y = (m : Int)) (hm : m ≤ 1000)
    (hK : ∀ w', Mem B w0 w' (rowI e (.slice (some ⟨w.heap.size, 0, none⟩) m m) (List.replicate m 0) :: L) → Below w.heap.size w w' → wpListIn F n P ops Q rest (a.put o.dst (.slice (some ⟨w.heap.size, 0, none⟩) m m)) w') :
    wpListIn F n P ops Q (o :: rest) a w := by
  obtain ⟨i, hi, hz, hs, hb⟩ := T.info
  refine wpListIn_plain hgd fun K hK' => ?_
  obtain ⟨w', hrun, r1, r2⟩ := run_make_full (P := P) w w.heap.size t e i _ 1 T.under hi hz hs .i64 .i64 m (by rw [hb]; omega) (by simp [maxLen]; omega) (Nat.le_refl _)
  subst hX
  subst hY
  unfold Oper.wpIn
  refine ⟨?_, ?_⟩
  · simp [Oper.about, hop]
  · rw [Oper.semAt_plain F _ _ (by rw [hop]; intro c hc'; cases hc')]
    simp [execOp, hop, hl, hc, hrun, Result.andThen]
    exact hK' _ _ (hK w' (h.make_own r1 r2) (grown_below r2))
end
theorem Mem.intAt {B : Nat} {w0 w : World} {L : List Ent} (h : Mem B w0 w L) (k : Nat) {e : TypeId} {b m cap : Nat} {l : List Int} (hk : L[k]? = some (rowI e (.slice (some ⟨b, 0, none⟩) m cap) l)) {j : Nat} {x : Int} (hx : l[j]? = some x) :
    w.cell? ⟨b, j, none⟩ = some (.int .i64 x) ∧ w.frozen? ⟨b, j, none⟩ = false := by
  obtain ⟨g, cap', hv, _, _, hc, hf⟩ := h.intsAt k hk (by rintro rfl; simp at hx)
  cases hv
  exact ⟨hc j x hx, hf j⟩
theorem Mem.setI {B : Nat} {w0 w : World} {L : List Ent} (h : Mem B w0 w L) (k : Nat) {e : TypeId} {b m cap : Nat} {l : List Int} (hk : L[k]? = some (rowI e (.slice (some ⟨b, 0, none⟩) m cap) l)) (hm : l.length = m) (j : Nat) (x : Int) :
    Mem B w0 (w.setCell ⟨b, j, none⟩ (.int .i64 x)) (L.set k (rowI e (.slice (some ⟨b, 0, none⟩) m cap) (l.set j x))) := by
  subst hm
  exact (h.setRow k hk j (.int .i64 x)).cast (by simp [rowI, List.map_set])
/-- A cell of a slice of ints of the call's own. -/
theorem Ent.apart_at {L : List Ent} (h : L.Pairwise Ent.apart) {i j : Nat} (hne : i ≠ j) {x y : Ent} (hx : L[i]? = some x) (hy : L[j]? = some y) : x.apart y := by
  obtain ⟨hi, rfl⟩ := List.getElem?_eq_some_iff.1 hx
  obtain ⟨hj, rfl⟩ := List.getElem?_eq_some_iff.1 hy
  have hp := List.pairwise_iff_getElem.1 h
  rcases Nat.lt_or_ge i j with hij | hij
  · exact hp i j hi hj hij
  · exact Ent.apart_symm (hp j i hj hi (by omega))
theorem pick_ok {A A' : List Ent} (idx : List Nat) (he : A'.map some = idx.map (fun i => A[i]?)) : ∀ x ∈ A', x ∈ A := by
  intro x hx
  have h1 : some x ∈ idx.map (fun i => A[i]?) := by rw [← he]; exact List.mem_map.2 ⟨x, hx, rfl⟩
  obtain ⟨i, _, h2⟩ := List.mem_map.1 h1
  exact List.mem_of_getElem? h2
theorem pick_apart {A A' : List Ent} (h : A.Pairwise Ent.apart) (idx : List Nat) (hn : idx.Nodup) (he : A'.map some = idx.map (fun i => A[i]?)) : A'.Pairwise Ent.apart := by
  have hlen : A'.length = idx.length := by have := congrArg List.length he; simpa using this
  have key : ∀ i (hi : i < A'.length), A[idx[i]'(by omega)]? = some A'[i] := by
    intro i hi
    have h1 := congrArg (fun l => l[i]?) he
    simp only [List.getElem?_map, List.getElem?_eq_getElem hi, List.getElem?_eq_getElem (show i < idx.length by omega), Option.map_some, Option.some.injEq] at h1
    exact h1.symm
  rw [List.pairwise_iff_getElem]
  intro i j hi hj hij
  have hp := List.pairwise_iff_getElem.1 hn i j (by omega) (by omega) hij
  exact Ent.apart_at h hp (key i hi) (key j hj)
/-- What is owned, in another order; some of it let go. -/
theorem Mem.pick {B : Nat} {w0 w : World} {A A' T : List Ent} (h : Mem B w0 w (A ++ T)) (idx : List Nat) (hn : idx.Nodup) (he : A'.map some = idx.map (fun i => A[i]?)) : Mem B w0 w (A' ++ T) := by
  obtain ⟨h1, h2, h3⟩ := List.pairwise_append.1 h.apart
  have hm := pick_ok idx he
  refine ⟨h.below, h.base, ?_, List.pairwise_append.2 ⟨pick_apart h1 idx hn he, h2, fun a ha b hb => h3 a (hm a ha) b hb⟩⟩
  intro x hx
  rcases List.mem_append.1 hx with hx | hx
  · exact h.ok x (List.mem_append_left _ (hm x hx))
  · exact h.ok x (List.mem_append_right _ hx)
theorem Mem.pick0 {B : Nat} {w0 w : World} {A A' : List Ent} (h : Mem B w0 w A) (idx : List Nat) (hn : idx.Nodup) (he : A'.map some = idx.map (fun i => A[i]?)) : Mem B w0 w A' := by
  have := Mem.pick (T := []) (h.cast (List.append_nil _).symm) idx hn he
  exact this.cast (List.append_nil _)
theorem below_between {B : Nat} {w0 W W' : World} (h : Below B w0 W) (h' : Below B w0 W') (hs : W.heap.size ≤ W'.heap.size) : Below B W W' :=
  ⟨h'.os.trans h.os.symm, h'.tape.trans h.tape.symm, h'.output.trans h.output.symm, hs, fun k hk => (h'.block k hk).trans (h.block k hk).symm⟩
theorem Mem.callMem {B : Nat} {w0 w w' : World} {L L' : List Ent} (h : Mem B w0 w L) (hM : Mem w.heap.size w w' L') : Mem B w0 w' (L' ++ L) := by
  have h2 := h.call hM.below
  refine ⟨h2.below, h2.base, ?_, List.pairwise_append.2 ⟨hM.apart, h2.apart, ?_⟩⟩
  · intro x hx
    rcases List.mem_append.1 hx with hx | hx
    · have h3 := hM.ok x hx
      exact ⟨fun b hb => ⟨Nat.le_trans h.base (h3.1 b hb).1, (h3.1 b hb).2⟩, h3.2⟩
    · exact h2.ok x hx
  · intro x hx y hy b hb hb'
    have h3 := (hM.lt hx b hb).1
    have h4 := (h.lt hy b hb').2
    omega

theorem isInts_one (w : World) (x : Int) (t : TypeId) (hx : i64ok x) : IsInts (w.alloc (.cells #[.int .i64 x] t)) (.slice (some ⟨w.heap.size, 0, none⟩) 1 1) [x] := by
  refine ⟨some ⟨w.heap.size, 0, none⟩, 1, rfl, by simp, ?_⟩
  intro k y hk
  cases k with
  | zero => simp at hk; subst hk; exact ⟨w.heap.size, 0, rfl, by simp, by rw [World.cell?_alloc_new]; rfl, hx⟩
  | succ k => simp at hk

theorem step_append_eq' {P : Program} {ops : Array Oper} {o : Oper} {a : Act} {w : World} {K : Act → World → Prop} {Q : Exit → Act → World → Prop} {E : Prop}
    (hg : o.guard = none) (s x : Operand) (t : TypeId) (hop : o.op = Op.call { callee := Callee.builtin Builtin.append, args := #[s, x], argTypes := #[t, t] })
    {v y v' : Value} {w' : World} (hs : a.eval s = v) (hx : a.eval x = y) (hr : (Builtin.append_ #[t, t] o.type #[v, y]).run P w = .ok v' w') (hK : K (a.put o.dst v') w') :
    if Region.wanted o (yielded ops a.tmps) = true then Oper.wp P o a w K Q else E := by
  have hw : Region.wanted o (yielded ops a.tmps) = true := by simp [Region.wanted, hg]
  rw [if_pos hw]
  unfold Oper.wp execOp
  simp only [hop, resolve, invoke, builtin, Sem.run_bind, Sem.run_pure, Result.andThen_ok, List.map_toArray, List.map_cons, List.map_nil, hs, hx, hr]
  exact hK
/-- append(l, y) in a region: y in a new block. -/
theorem Mem.step_appI' {P : Program} {B : Nat} {w0 w : World} {L : List Ent} {t e : TypeId} {z : Value} (T : Elem P t e 1 8 z) {ops : Array Oper} {o : Oper} {ac : Act} {K : Act → World → Prop} {Q : Exit → Act → World → Prop} {E : Prop} (hgd : o.guard = none) (s x : Operand)
    (ho : o.op = .call { callee := .builtin .append, args := #[s, x], argTypes := #[t, t] }) (h : Mem B w0 w L) (k : Nat) {v : Value} {l : List Int} (hk : L[k]? = some (rowI e v l))
    (hs : ac.eval s = v) (bl c : Nat) (y : Int) (hx : ac.eval x = .slice (some ⟨bl, 0, none⟩) 1 c) (hc : w.cell? ⟨bl, 0, none⟩ = some (.int .i64 y)) (hn : l.length ≤ 1000000)
    (hh : ∀ ad n' cap w', Mem B w0 w' (L.set k (rowI e (.slice ad n' cap) (l ++ [y]))) → w.heap.size ≤ w'.heap.size →
      (∀ b, b < w.heap.size → v.ownBlock ≠ some b → w'.heap[b]? = w.heap[b]?) → K (ac.put o.dst (.slice ad n' cap)) w') :
    if Region.wanted o (yielded ops ac.tmps) = true then Oper.wp P o ac w K Q else E := by
  obtain ⟨ad, n', cap, w', hr, _, h2, h3, h4⟩ := h.run_appI T o.type k hk y bl c hc hn
  exact step_append_eq' hgd s x t ho hs hx hr (hh ad n' cap w' h2 h3 h4)
theorem own_slice {B : Nat} {w : World} {e : TypeId} {sz n : Nat} {v : Value} {xs : List Value} (h : w.ownsRow B e sz v n xs) : ∃ a m c, v = .slice a m c := by
  rcases h.2 with ⟨rfl, _⟩ | ⟨g, cap, cur, rfl, _⟩
  · exact ⟨_, _, _, rfl⟩
  · exact ⟨_, _, _, rfl⟩
end Go.Proofs.Ytjnbnfmlpdnngaa

/- slices.ContainsFunc at ints, with any closure that answers. -/
namespace Go.Proofs.Ytjnbnfmlpdnngaa
open Go.RowKit Go.Shelf

set_option maxRecDepth 100000 in
set_option maxHeartbeats 1000000 in
theorem indexFunc_any (f : Nat) (bxs : Array Value) (v : Value) (l : List Int) (p : Int → Bool) (w : World) (hl : IsInts w v l) (hent : ∀ args w, (callFunc f args).run Try.prog w = .ok (.enter f args) w)
    (hstep : ∀ x ∈ l, ∀ X, Below w.heap.size w X → Calls Try.prog f (#[.int .i64 x] ++ bxs) X fun e w' => e = .returned (.bool (p x)) ∧ Below X.heap.size X w') :
    Calls Try.prog 83 #[v, .func (.func f) #[] bxs] w fun e w' => ∃ r : Int, e = .returned (.int .i64 r) ∧ decide (r ≥ 0) = l.any p ∧ Below w.heap.size w w' := by
  have Hl := Lib.hid hl
  have Hs := Lib.hid hstep
  obtain ⟨a, cap, rfl, hm⟩ := hl.slice
  obtain ⟨n, hn⟩ : ∃ n, l.length = n := ⟨_, rfl⟩
  have Hn := Lib.hid hn
  rw [hn] at hm ⊢
  clear hl hstep hn
  go_enter Try.func83, Try.ntmps83
  go_wp2
  go_loopw [8] (fun i wr => ∃ k : Nat, k ≤ n ∧ i = .int .i64 k ∧ (l.take k).any p = false ∧ Below w.heap.size w wr) (fun i _ => n - (intOf i).toNat)
  case atStart => exact ⟨0, Nat.zero_le _, rfl, by simp, Below.refl _ _⟩
  case round =>
    obtain ⟨k, hk, rfl, hT, hB⟩ := hrel
    by_cases hlt : k < n
    · obtain ⟨x, hx⟩ := get_some l k (by rw [Hn.out]; exact hlt)
      obtain ⟨b, off, cap2, hv, _, hb1, d0, _⟩ := Hl.out.at hB hx
      rw [Hn.out] at hv
      cases hv
      have HC := Lib.hid (Hs.out x (List.mem_of_getElem? hx) wr hB)
      obtain ⟨bp, hbp⟩ : ∃ bp, p x = bp := ⟨_, rfl⟩
      have Hany : Hid (bp = true → l.any p = true) := Lib.hid (fun h => List.any_eq_true.2 ⟨x, List.mem_of_getElem? hx, hbp.trans h⟩)
      have Hno : Hid (bp = false → (l.take (k + 1)).any p = false) := Lib.hid (fun h => by rw [take_succ_some _ _ _ hx, List.any_append, hT]; simp [hbp, h])
      rw [hbp] at HC
      have HB := Lib.hid hB
      have e1 : (k : Int) < n := by omega
      clear hB hx hT hbp
      go_wp2_with fail
      refine HC.out.mono ?_
      rintro e w2 ⟨rfl, hb2⟩
      have HB2 := Lib.hid (HB.out.trans (hb2.mono HB.out.size))
      clear hb2 HC HB
      cases bp with
      | true =>
        have Ha := Lib.hid (Hany.out rfl)
        clear Hany Hno
        go_wp2
        go_ret
        exact ⟨_, rfl, by rw [Ha.out]; simp, HB2.out⟩
      | false =>
        have Ha := Lib.hid (Hno.out rfl)
        clear Hany Hno
        go_wp2
        go_roundw
        case rel => exact ⟨k + 1, by omega, by go_num, Ha.out, HB2.out⟩
        case measure => simp [intOf]; omega
    · obtain rfl : k = n := by omega
      rw [show l.take k = l by rw [← Hn.out, List.take_length]] at hT
      have HT := Lib.hid hT
      have HB := Lib.hid hB
      clear hT hB
      go_wp2
      go_ret
      exact ⟨_, rfl, by rw [HT.out]; rfl, HB.out⟩
set_option maxRecDepth 100000 in
set_option maxHeartbeats 1000000 in
theorem containsFunc_any (f : Nat) (bxs : Array Value) (v : Value) (l : List Int) (p : Int → Bool) (w : World) (hl : IsInts w v l) (hent : ∀ args w, (callFunc f args).run Try.prog w = .ok (.enter f args) w)
    (hstep : ∀ x ∈ l, ∀ X, Below w.heap.size w X → Calls Try.prog f (#[.int .i64 x] ++ bxs) X fun e w' => e = .returned (.bool (p x)) ∧ Below X.heap.size X w') :
    Calls Try.prog 65 #[v, .func (.func f) #[] bxs] w fun e w' => e = .returned (.bool (l.any p)) ∧ Below w.heap.size w w' := by
  have HC := Lib.hid (indexFunc_any f bxs v l p w hl hent hstep)
  clear hl hstep
  go_enter Try.func65, Try.ntmps65
  go_wp2_with fail
  refine HC.out.mono ?_
  rintro e w2 ⟨r, rfl, hr, hb⟩
  have HB := Lib.hid hb
  obtain ⟨bp, hbp⟩ : ∃ bp, l.any p = bp := ⟨_, rfl⟩
  rw [hbp] at hr
  have Hbp := Lib.hid hbp
  clear hb HC hbp
  go_wp2
  go_ret
  exact ⟨by rw [Hbp.out]; rfl, HB.out⟩
end Go.Proofs.Ytjnbnfmlpdnngaa

/- A box of two cells. -/
namespace Go.Proofs.Ytjnbnfmlpdnngaa
open Go.RowKit

theorem Mem.cells2 {B : Nat} {w0 w : World} {L : List Ent} (h : Mem B w0 w L) (k : Nat) {b : Nat} {x y : Value} {t : TypeId} (hk : L[k]? = some (ebox b #[x, y] t)) : w.cell? ⟨b, 0, none⟩ = some x ∧ w.cell? ⟨b, 1, none⟩ = some y :=
  ⟨by have := h.cell k hk 0; simpa using this, by have := h.cell k hk 1; simpa using this⟩
end Go.Proofs.Ytjnbnfmlpdnngaa

/- Room for nothing among what is owned; what is at the front put in a place. -/
namespace Go.Proofs.Ytjnbnfmlpdnngaa
open Go.RowKit

/-- Anything, at no block. -/
def enone : Ent := ⟨none, fun _ => True⟩
theorem enone_ok (B : Nat) (w : World) : enone.ok B w := ⟨(fun b e => by cases e), trivial⟩
section
variable {P : Program} {B : Nat} {w0 w : World} {L : List Ent}
theorem Mem.addNone (h : Mem B w0 w L) : Mem B w0 w (enone :: L) := h.cons _ (enone_ok _ _) (fun _ _ b e => by cases e)
/-- What is at the front comes to stand at a place. -/
theorem Mem.fill {x : Ent} (h : Mem B w0 w (x :: L)) (k : Nat) (hk : k < L.length) : Mem B w0 w (L.set k x) := by
  have e : L.set k x = L.take k ++ x :: L.drop (k + 1) := by
    rw [List.set_eq_take_append_cons_drop, if_pos hk]
  rw [e]
  refine (h.drop (L' := x :: (L.take k ++ L.drop (k + 1))) (.cons_cons _ ?_)).perm List.perm_middle
  conv => rhs; rw [← List.take_append_drop k L]
  refine List.Sublist.append_left ?_ _
  rw [List.drop_eq_getElem_cons hk]
  exact List.sublist_cons_self _ _
theorem Mem.forget (h : Mem B w0 w L) (k : Nat) (hk : k < L.length) : Mem B w0 w (L.set k enone) := h.addNone.fill k hk
end
end Go.Proofs.Ytjnbnfmlpdnngaa

/- append as one step of a drawing region; slices of objects of the call's own; graphs that were made. -/
namespace Go.Proofs.Ytjnbnfmlpdnngaa
open Go.RowKit

section
variable {P : Program} {B : Nat} {w0 w : World} {L : List Ent} {t e : TypeId} {sz bytes : Nat} {z : Value}
theorem Mem.step_app1 (T : Elem P t e sz bytes z) {ops : Array Oper} {o : Oper} {ac : Act} {K : Act → World → Prop} {Q : Exit → Act → World → Prop} {E : Prop} (hgd : o.guard = none) (s x : Operand)
    (ho : o.op = .call { callee := .builtin .append, args := #[s, x], argTypes := #[t, t] }) (h : Mem B w0 w L) (k : Nat) {v : Value} {n : Nat} {xs : List Value} (hk : L[k]? = some (erow e sz v n xs))
    (hs : ac.eval s = v) (c : Nat) (news : Array Value) (e2 : TypeId) (bl : Nat) (hx : ac.eval x = .slice (some ⟨bl, 0, none⟩) 1 c) (hbl : w.heap.size = bl) (hl : news.size = sz)
    (h1 : news.toList.all (·.oneCell') = true) (hb : bytes ≤ 1000) (hn : n ≤ 1000000)
    (hh : ∀ ad cap w', Mem B w0 w' (L.set k (erow e sz (.slice ad (n + 1) cap) (n + 1) (xs ++ news.toList))) → w.heap.size < w'.heap.size →
      (∀ b, b < w.heap.size → v.ownBlock ≠ some b → w'.heap[b]? = w.heap[b]?) → K (ac.put o.dst (.slice ad (n + 1) cap)) w') :
    if Region.wanted o (yielded ops ac.tmps) = true then Oper.wp P o ac (w.alloc (.cells news e2)) K Q else E := by
  subst hbl
  obtain ⟨v', w', hr, h2, h3, h4, h5, ad, cap, rfl⟩ := (h.alloc_ (.cells news e2)).run_append T o.type k hk ⟨w.heap.size, 0, none⟩ 1 c news.toList (by simpa using hl) (by
    intro j u hj
    have e : (⟨w.heap.size, 0, none⟩ : Addr).add j = ⟨w.heap.size, j, none⟩ := by unfold Addr.add; split <;> simp_all
    rw [e, World.cell?_alloc_new]
    simpa using hj) (fun u hu => List.all_eq_true.1 h1 u hu) (by simp only [maxLen]; omega) (by
    have := Nat.mul_le_mul (show n + 1 ≤ 1000001 by omega) hb
    omega)
  refine step_append_eq' hgd s x t ho hs hx hr (hh ad cap w' h2 (by simp at h3; omega) ?_)
  intro b hb hne
  exact (h4 b (by simp; omega) hne).trans (heap_alloc_old w _ hb)
end

theorem Ent.ok_weak {B B' : Nat} {w : World} {x : Ent} (h : x.ok B w) (hB : B' ≤ B) : x.ok B' w := ⟨fun b e => ⟨Nat.le_trans hB (h.1 b e).1, (h.1 b e).2⟩, h.2⟩

theorem elemObjs : Elem Try.prog 22 61 1 24 (.agg #[.slice none 0 0]) := ⟨by kernel_rfl, info_parts (by kernel_rfl), rfl, by decide⟩

/-- Rows of values that the call made, one behind the other. -/
abbrev Rws := List (Value × List V)
def rowsE (rows : Rws) : List Ent := rows.map fun r => rowV 84 r.1 r.2
theorem rowsE_snoc (rows : Rws) (r : Value × List V) : rowsE (rows ++ [r]) = rowsE rows ++ [rowV 84 r.1 r.2] := by simp [rowsE]
theorem Mem.rowsSnoc {B : Nat} {w0 w : World} {A : List Ent} {rows : Rws} {v : Value} {l : List V} (h : Mem B w0 w ([rowV 84 v l] ++ (A ++ rowsE rows))) : Mem B w0 w (A ++ rowsE (rows ++ [(v, l)])) := by
  refine h.perm ?_
  rw [rowsE_snoc, ← List.append_assoc]
  exact List.perm_append_comm

theorem isObjs_of_own {w : World} {B n : Nat} {e : TypeId} {v : Value} {rows : Rws} (h : w.ownsRow B e 1 v n (rows.map (·.1))) (hn : rows.length ≤ 1000000) (hr : ∀ r ∈ rows, IsVals w r.1 r.2) : IsObjs w v (rows.map (·.2)) := by
  have hlen : rows.length = n := by have := h.1; simpa using this
  rcases h.2 with ⟨rfl, h0⟩ | ⟨g, cap, cur, rfl, hB, hg, hnc, hcap, hcs, htk⟩
  · have : rows = [] := List.eq_nil_of_length_eq_zero (by omega)
    subst this
    exact ⟨none, 0, rfl, by simp, by simp⟩
  · refine ⟨_, cap, by rw [List.length_map, hlen], by rw [List.length_map]; omega, ?_⟩
    intro k x hx
    rw [List.getElem?_map] at hx
    obtain ⟨r, hr1, rfl⟩ := Option.map_eq_some_iff.1 hx
    have hk : k < n := by have := (List.getElem?_eq_some_iff.1 hr1).1; omega
    refine ⟨g, 0, r.1, rfl, (Array.getElem?_eq_some_iff.1 hg).1, ?_, hr r (List.mem_of_getElem? hr1)⟩
    rw [Nat.zero_add, h.cellAt k (by omega), List.getElem?_map, hr1]; rfl
theorem Mem.isSlice {B : Nat} {w0 w : World} {L : List Ent} (h : Mem B w0 w L) (k : Nat) {e : TypeId} {sz n : Nat} {v : Value} {xs : List Value} (hk : L[k]? = some (erow e sz v n xs)) : ∃ a m c, v = .slice a m c := by
  rcases (h.row k hk).2 with ⟨rfl, _⟩ | ⟨g, cap, cur, rfl, _⟩
  · exact ⟨_, _, _, rfl⟩
  · exact ⟨_, _, _, rfl⟩
theorem Mem.isVals {B : Nat} {w0 w : World} {L : List Ent} (h : Mem B w0 w L) (k : Nat) {e : TypeId} {v : Value} {l : List V} (hk : L[k]? = some (rowV e v l)) (hl : l.length ≤ 1000000) (hn : ∀ x ∈ l, i64ok x.n) : IsVals w v l := isVals_of_own (h.ownV k hk) hl hn
theorem Mem.isValsM {B : Nat} {w0 w : World} {L : List Ent} (h : Mem B w0 w L) {e : TypeId} {v : Value} {l : List V} (hm : rowV e v l ∈ L) (hl : l.length ≤ 1000000) (hn : ∀ x ∈ l, i64ok x.n) : IsVals w v l := by
  obtain ⟨k, hk, he⟩ := List.getElem_of_mem hm
  exact h.isVals k (by rw [List.getElem?_eq_getElem hk, he]) hl hn
/-- What is owned is owned in any world that agrees on its blocks. -/
theorem Mem.move {B : Nat} {w0 w W' : World} {L : List Ent} (h : Mem B w0 w L) (hs : w.heap.size ≤ W'.heap.size) (hb : ∀ b, B ≤ b → b < w.heap.size → W'.heap[b]? = w.heap[b]?) : Mem B W' W' L :=
  ⟨Below.refl _ _, Nat.le_trans h.base hs, fun x hx => Ent.ok_same (h.ok x hx) hs (fun b e => hb b (h.lt hx b e).1 (h.lt hx b e).2), h.apart⟩
/-- A graph, in any world that agrees on the blocks from B on. -/
def Graft (B : Nat) (w : World) (v : Value) (c : G) : Prop := ∀ W' : World, w.heap.size ≤ W'.heap.size → (∀ b, B ≤ b → b < w.heap.size → W'.heap[b]? = w.heap[b]?) → IsGraph W' v c
theorem Graft.here {B : Nat} {w : World} {v : Value} {c : G} (h : Graft B w v c) : IsGraph w v c := h w (Nat.le_refl _) (fun _ _ _ => rfl)
theorem Graft.step {B B' : Nat} {w w' : World} {v : Value} {c : G} (h : Graft B w v c) (hB : B' ≤ B) (hs : w.heap.size ≤ w'.heap.size) (hb : ∀ b, B ≤ b → b < w.heap.size → w'.heap[b]? = w.heap[b]?) : Graft B' w' v c :=
  fun W' hs' hb' => h W' (Nat.le_trans hs hs') (fun b h1 h2 => (hb' b (Nat.le_trans hB h1) (Nat.lt_of_lt_of_le h2 hs)).trans (hb b h1 h2))

theorem take_ne {α : Type} {l m : List α} {k : Nat} {x y : α} (hx : l[k]? = some x) (hy : m[k]? = some y) (h : x ≠ y) : l ≠ m := by
  rintro rfl
  rw [hx] at hy; cases hy; exact h rfl
end Go.Proofs.Ytjnbnfmlpdnngaa

/- Slices of structs of one-cell fields: as they come in, as the call's own. -/
namespace Go.Proofs.Ytjnbnfmlpdnngaa
open Go.RowKit

/-- A slice of elements, the cells of each told by enc. -/
def IsTup {α : Type} (sz : Nat) (enc : α → List Value) (w : World) (v : Value) (l : List α) : Prop :=
  ∃ a cap, v = .slice a l.length cap ∧ l.length ≤ 9223372036854775807 ∧ ∀ k x, l[k]? = some x → ∃ b off, a = some ⟨b, off, none⟩ ∧ b < w.heap.size ∧
    ∀ j u, (enc x)[j]? = some u → w.cell? ⟨b, off + k * sz + j, none⟩ = some u
section
variable {α : Type} {sz : Nat} {enc : α → List Value} {w wr : World} {v : Value} {l : List α}
theorem IsTup.later (h : IsTup sz enc w v l) (hb : Below w.heap.size w wr) : IsTup sz enc wr v l := by
  obtain ⟨a, cap, rfl, hl, hc⟩ := h
  refine ⟨a, cap, rfl, hl, fun k x hx => ?_⟩
  obtain ⟨b, off, ha, h1, h2⟩ := hc k x hx
  exact ⟨b, off, ha, Nat.lt_of_lt_of_le h1 hb.size, fun j u hu => (hb.cell (p := ⟨_, _, none⟩) h1).trans (h2 j u hu)⟩
theorem IsTup.slice (h : IsTup sz enc w v l) : ∃ a cap, v = .slice a l.length cap ∧ l.length ≤ 9223372036854775807 := by
  obtain ⟨a, cap, rfl, hl, _⟩ := h; exact ⟨a, cap, rfl, hl⟩
/-- One element, in a world in which what lay below is as it was. -/
theorem IsTup.at (h : IsTup sz enc w v l) (hb : Below w.heap.size w wr) {k : Nat} {x : α} (hx : l[k]? = some x) :
    ∃ b off cap, v = .slice (some ⟨b, off, none⟩) l.length cap ∧ b < w.heap.size ∧ b < wr.heap.size ∧ ∀ j u, (enc x)[j]? = some u → wr.cell? ⟨b, off + k * sz + j, none⟩ = some u := by
  obtain ⟨a, cap, rfl, hl, hc⟩ := h
  obtain ⟨b, off, ha, h1, h2⟩ := hc k x hx
  exact ⟨b, off, cap, by rw [ha], h1, Nat.lt_of_lt_of_le h1 hb.size, fun j u hu => (hb.cell (p := ⟨_, _, none⟩) h1).trans (h2 j u hu)⟩
theorem length_tup (hz : ∀ x, (enc x).length = sz) : ∀ l : List α, (l.flatMap enc).length = l.length * sz
  | [] => by simp
  | x :: l => by rw [List.flatMap_cons, List.length_append, hz, length_tup hz l, List.length_cons, Nat.add_mul]; omega
theorem getElem_tup (hz : ∀ x, (enc x).length = sz) : ∀ (l : List α) (k : Nat) (x : α), l[k]? = some x → ∀ j u, (enc x)[j]? = some u → (l.flatMap enc)[k * sz + j]? = some u
  | [], k, x, h => by simp at h
  | y :: l, 0, x, h => by
    intro j u hu
    simp at h; subst h
    rw [List.flatMap_cons, Nat.zero_mul, Nat.zero_add, List.getElem?_append_left (List.getElem?_eq_some_iff.1 hu).1]; exact hu
  | y :: l, k + 1, x, h => by
    intro j u hu
    have := getElem_tup hz l k x (by simpa using h) j u hu
    rw [List.flatMap_cons, List.getElem?_append_right (by rw [hz, Nat.add_mul]; omega), hz]
    rw [show (k + 1) * sz + j - sz = k * sz + j by rw [Nat.add_mul]; omega]
    exact this
theorem isTup_of_own {B : Nat} {e : TypeId} (hz : ∀ x, (enc x).length = sz) (h : w.ownsRow B e sz v l.length (l.flatMap enc)) (hl : l.length ≤ 1000000) : IsTup sz enc w v l := by
  rcases h.2 with ⟨rfl, h0⟩ | ⟨g, cap, cur, rfl, _, hg, _⟩
  · have : l = [] := List.eq_nil_of_length_eq_zero h0
    subst this
    exact ⟨none, 0, rfl, by simp, by simp⟩
  · refine ⟨_, cap, rfl, by omega, fun k x hx => ?_⟩
    have hk : k < l.length := (List.getElem?_eq_some_iff.1 hx).1
    refine ⟨g, 0, rfl, (Array.getElem?_eq_some_iff.1 hg).1, fun j u hu => ?_⟩
    have hj : j < sz := by rw [← hz x]; exact (List.getElem?_eq_some_iff.1 hu).1
    have hlt : k * sz + j < l.length * sz := by
      have := Nat.mul_le_mul_right sz (show k + 1 ≤ l.length by omega)
      rw [Nat.add_mul] at this; omega
    rw [Nat.zero_add, h.cellAt _ hlt]
    exact getElem_tup hz l k x hx j u hu
end
/-- A slice of such elements of the call's own. -/
def rowT {α : Type} (e : TypeId) (sz : Nat) (enc : α → List Value) (v : Value) (l : List α) : Ent := erow e sz v l.length (l.flatMap enc)
section
variable {P : Program} {B : Nat} {w0 w : World} {L : List Ent} {t e : TypeId} {z : Value} {α : Type} {sz bytes : Nat} {enc : α → List Value}
theorem Mem.nilT (h : Mem B w0 w L) (e : TypeId) (sz : Nat) (enc : α → List Value) : Mem B w0 w (rowT e sz enc (.slice none 0 0) [] :: L) := h.nil e sz
theorem Mem.ownT (h : Mem B w0 w L) (k : Nat) {v : Value} {l : List α} (hk : L[k]? = some (rowT e sz enc v l)) : w.ownsRow B e sz v l.length (l.flatMap enc) := h.row k hk
theorem Mem.isTup (h : Mem B w0 w L) (k : Nat) {v : Value} {l : List α} (hk : L[k]? = some (rowT e sz enc v l)) (hz : ∀ x, (enc x).length = sz) (hl : l.length ≤ 1000000) : IsTup sz enc w v l := isTup_of_own hz (h.ownT k hk) hl
/-- append(l, y). -/
theorem Mem.wp_appT (T : Elem P t e sz bytes z) {ops : Array Oper} {rest : List Oper} {o : Oper} {ac : Act} {Q : Exit → Act → World → Prop} (hgd : o.guard = none) (s x : Operand)
    (ho : o.op = .call { callee := .builtin .append, args := #[s, x], argTypes := #[t, t] }) (h : Mem B w0 w L) (k : Nat) {v : Value} {l : List α} (hk : L[k]? = some (rowT e sz enc v l))
    (hs : ac.eval s = v) (c : Nat) (y : α) (news : Array Value) (hy : enc y = news.toList) (e2 : TypeId) (bl : Nat) (hx : ac.eval x = .slice (some ⟨bl, 0, none⟩) 1 c) (hbl : w.heap.size = bl) (hsz : news.size = sz)
    (h1 : news.toList.all (·.oneCell') = true) (hb : bytes ≤ 1000) (hn : l.length ≤ 1000000)
    (hh : ∀ ad n' cap w', Hid (n' = l.length + 1) → Mem B w0 w' (L.set k (rowT e sz enc (.slice ad n' cap) (l ++ [y]))) → w.heap.size < w'.heap.size →
      (∀ b, b < w.heap.size → v.ownBlock ≠ some b → w'.heap[b]? = w.heap[b]?) → ad ≠ none → wpList P ops Q rest (ac.put o.dst (.slice ad n' cap)) w') :
    wpList P ops Q (o :: rest) ac (w.alloc (.cells news e2)) := by
  refine Mem.wp_app1 T hgd s x ho h k hk hs c news e2 bl hx hbl hsz h1 hb hn ?_
  intro ad cap w' h1 h2 h3 h4
  refine hh ad _ cap w' (Lib.hid rfl) (h1.cast ?_) h2 h3 h4
  simp [rowT, hy]
/-- A cell of one of the elements. -/
theorem Mem.tupAt (h : Mem B w0 w L) (k : Nat) {g m cap : Nat} {l : List α} (hk : L[k]? = some (rowT e sz enc (.slice (some ⟨g, 0, none⟩) m cap) l)) (hz : ∀ x, (enc x).length = sz) {i : Nat} {x : α} (hx : l[i]? = some x) :
    ∀ j u, (enc x)[j]? = some u → w.cell? ⟨g, i * sz + j, none⟩ = some u ∧ w.frozen? ⟨g, i * sz + j, none⟩ = false := by
  have hr := h.row k hk
  intro j u hu
  have hil : i < l.length := (List.getElem?_eq_some_iff.1 hx).1
  have hj : j < sz := by rw [← hz x]; exact (List.getElem?_eq_some_iff.1 hu).1
  have hlt : i * sz + j < l.length * sz := by
    have := Nat.mul_le_mul_right sz (show i + 1 ≤ l.length by omega)
    rw [Nat.add_mul] at this; omega
  rcases hr.2 with ⟨h', _⟩ | ⟨g', cap', cur, h', _, hg, _, _, _, htake⟩
  · cases h'
  · have hr' := hr
    cases h'
    refine ⟨?_, by simp [World.frozen?, hg]⟩
    have hc : w.cell? ⟨g, i * sz + j, none⟩ = cur.toList[i * sz + j]? := by simp [World.cell?, hg]
    rw [hc]
    have h2 : (cur.toList.take (l.length * sz))[i * sz + j]? = cur.toList[i * sz + j]? := by rw [List.getElem?_take, if_pos hlt]
    rw [← h2, htake]
    exact getElem_tup hz l i x hx j u hu
/-- A store into a cell of one of the elements. -/
theorem Mem.setT (h : Mem B w0 w L) (k : Nat) {g n cap : Nat} {l l' : List α} (hk : L[k]? = some (rowT e sz enc (.slice (some ⟨g, 0, none⟩) n cap) l)) (hn : l.length = n) (j : Nat) (u : Value) (hl : (l.flatMap enc).set j u = l'.flatMap enc) (hll : l'.length = l.length) :
    Mem B w0 (w.setCell ⟨g, j, none⟩ u) (L.set k (rowT e sz enc (.slice (some ⟨g, 0, none⟩) n cap) l')) := by
  subst hn
  refine (h.setRow k (n := l.length) hk j u).cast ?_
  unfold rowT
  rw [hl, hll]
end
section
open Go.ChangeShapes Go.WideShapes Go.Deep
variable {H : Type} {enc : TypeId × Value → H} {P : Program} {w : World}
theorem open_slice_fields {base : Nat} {spare : Nat → Bool} {held : Bool} {t e : TypeId} {fs : Array Field} {fuel : Nat} {cs : List Value} {x : DataW H × List MemPlace} (ht : P.underlying t = some (.slice e)) (he : P.underlying e = some (.struct fs))
    (hone : oneCellFields P fs = true) (hC : P.cellsOf e = fs.size) (h : DataW.trod enc P w base spare held fuel t cs = some x) :
    (cs = [.slice none 0 0] ∧ x = (.nil, [])) ∨
    ∃ (a : Addr) (len cap m : Nat) (D : Nat → DataW H), cs = [.slice (some a) len cap] ∧ len ≤ cap ∧ cap ≤ maxLen ∧ m = (if spare a.block then cap else len) ∧
      x.1 = .slice ((List.range len).map D) ((List.range (m - len)).map fun j => D (len + j)) ∧
      ∀ i, i < m → ∀ (j : Nat) (f : Field), fs[j]? = some f → ∃ (v : Value) (y : DataW H × List MemPlace) (n : Nat), w.cell? (a.add (i * fs.size + j)) = some v ∧ DataW.trod enc P w base spare held n f.type [v] = some y := by
  rcases open_slice ht h with h0 | ⟨a, len, cap, m, n, D, Pl, hcs, hb, hl, hm, hmm, hx, hi⟩
  · exact .inl h0
  · refine .inr ⟨a, len, cap, m, D, hcs, hl, hm, hmm, by rw [hx], fun i him => ?_⟩
    obtain ⟨cs', hc, ht'⟩ := hi i him
    rw [hC] at hc
    obtain ⟨ys, n', hn', hy, hlen, hyl, hf⟩ := DataW.trod_struct he ht'
    obtain ⟨_, hcl, hat⟩ := World.cells?_some hc
    intro j f hj
    obtain ⟨ho, hk⟩ := hone_of hone j f hj
    have hjl : j < fs.size := (Array.getElem?_eq_some_iff.1 hj).1
    have hcell := hat j hjl
    have hv : cs'[j]? = some (cs'[j]'(by omega)) := List.getElem?_eq_getElem (by omega)
    have h1 := hf j f hj
    rw [ho, hk] at h1
    have hone' : (cs'.drop j).take 1 = [cs'[j]'(by omega)] := by
      rw [List.drop_eq_getElem_cons (by omega)]
      rfl
    rw [hone'] at h1
    have hys : ys[j]? = some (ys[j]'(by omega)) := List.getElem?_eq_getElem (by omega)
    refine ⟨_, _, _, ?_, h1.trans hys⟩
    rw [← Go.Deep.add_add, hcell, hv]
theorem addr_plain' {w : World} {a : Addr} {v : Value} (h : w.cell? (a.add 0) = some v) : ∃ b off, a = ⟨b, off, none⟩ ∧ b < w.heap.size := by
  obtain ⟨b, off, s⟩ := a
  simp only [Addr.add, if_true] at h
  unfold World.cell? at h
  split at h
  · rename_i c _ _ hc
    have hlt := (Array.getElem?_eq_some_iff.1 hc).1
    cases s with
    | none => exact ⟨b, off, rfl, hlt⟩
    | some s => simp at h
  · cases h
/-- A slice of structs of ints that came in: each element's ints. -/
theorem open_intTup {t e : TypeId} {fs : Array Field} {fuel : Nat} {cs : List Value} {x : DataW H × List MemPlace} (ht : P.underlying t = some (.slice e)) (he : P.underlying e = some (.struct fs))
    (hone : oneCellFields P fs = true) (hC : P.cellsOf e = fs.size) (h0 : 0 < fs.size) (hint : ∀ (j : Nat) (f : Field), fs[j]? = some f → P.underlying f.type = some (.int .i64)) (h : DataW.trod enc P w 0 (fun _ => true) true fuel t cs = some x) :
    ∃ (v : Value) (l : List (List Int)), cs = [v] ∧ (∀ y ∈ l, y.length = fs.size ∧ ∀ z ∈ y, i64ok z) ∧ IsTup fs.size (fun y : List Int => y.map (.int .i64)) w v l ∧
      ((x.1 = .nil ∧ l = []) ∨ ∃ elems spare, x.1 = .slice elems spare ∧ elems.length = l.length) := by
  rcases open_slice_fields ht he hone hC h with ⟨rfl, rfl⟩ | ⟨a, len, cap, m, D, rfl, hlc, hcm, hmm, hx1, hx⟩
  · exact ⟨_, [], rfl, by simp, ⟨none, 0, rfl, by simp, by simp⟩, .inl ⟨rfl, rfl⟩⟩
  · have hm : len ≤ 9223372036854775807 := by simp [maxLen] at hcm; omega
    have hlm : len ≤ m := by rw [hmm]; split <;> omega
    have hf : ∀ i, i < len → ∃ f : Nat → Int, ∀ j, j < fs.size → w.cell? (a.add (i * fs.size + j)) = some (.int .i64 (f j)) ∧ i64ok (f j) := by
      intro i hi
      refine choose_lt (p := fun j (c : Int) => w.cell? (a.add (i * fs.size + j)) = some (.int .i64 c) ∧ i64ok c) ?_
      intro j hj
      obtain ⟨v, y, n, hc, ht2⟩ := hx i (by omega) j _ (Array.getElem?_eq_getElem hj)
      obtain ⟨c, e1, _, wc⟩ := DataW.trod_int (hint j _ (Array.getElem?_eq_getElem hj)) ht2
      simp at e1
      subst e1
      exact ⟨c, hc, bounds_i64 wc⟩
    obtain ⟨f, hf⟩ := choose_lt hf
    refine ⟨_, (List.range len).map fun i => (List.range fs.size).map (f i), rfl, ?_, ⟨some a, cap, by simp, by simpa using hm, ?_⟩, .inr ⟨_, _, hx1, by simp⟩⟩
    · intro y hy
      obtain ⟨i, hi, rfl⟩ := List.mem_map.1 hy
      rw [List.mem_range] at hi
      refine ⟨by simp, fun z hz => ?_⟩
      obtain ⟨j, hj, rfl⟩ := List.mem_map.1 hz
      rw [List.mem_range] at hj
      exact (hf i hi j hj).2
    · intro k y hy
      have hk : k < len := by have := (List.getElem?_eq_some_iff.1 hy).1; simpa using this
      have hyf : y = (List.range fs.size).map (f k) := by simp [hk] at hy; exact hy.symm
      subst hyf
      obtain ⟨b, off, rfl, hb⟩ := addr_plain' (by have := (hf 0 (by omega) 0 h0).1; simpa using this)
      refine ⟨b, off, rfl, hb, fun j u hu => ?_⟩
      have hj : j < fs.size := by have := (List.getElem?_eq_some_iff.1 hu).1; simpa using this
      simp [hj] at hu
      subst hu
      have := (hf k hk j hj).1
      rw [add_plain] at this
      rw [Nat.add_assoc]; exact this
/-- The elements in another guise. -/
theorem IsTup.map {α β : Type} {sz : Nat} {enc : α → List Value} {enc' : β → List Value} {v : Value} {l : List α} (h : IsTup sz enc w v l) (f : α → β) (hf : ∀ x ∈ l, enc' (f x) = enc x) : IsTup sz enc' w v (l.map f) := by
  obtain ⟨a, cap, rfl, hl, hc⟩ := h
  refine ⟨a, cap, by simp, by simpa using hl, fun k y hy => ?_⟩
  rw [List.getElem?_map] at hy
  cases hx : l[k]? with
  | none => rw [hx] at hy; cases hy
  | some x =>
    rw [hx] at hy
    cases hy
    obtain ⟨b, off, ha, h1, h2⟩ := hc k x hx
    exact ⟨b, off, ha, h1, fun j u hu => h2 j u (by rw [← hf x (List.mem_of_getElem? hx)]; exact hu)⟩
end
end Go.Proofs.Ytjnbnfmlpdnngaa

/- The arguments of the laws on graphs, opened. -/
namespace Go.Proofs.Ytjnbnfmlpdnngaa
open Go.RowKit Go.ChangeShapes Go.WideShapes Go.Joins Go.Deep

theorem addr_plain {w : World} {a : Addr} {v : Value} (h : w.cell? (a.add 0) = some v) : ∃ b off, a = ⟨b, off, none⟩ ∧ b < w.heap.size := by
  obtain ⟨b, off, s⟩ := a
  simp only [Addr.add, if_true] at h
  unfold World.cell? at h
  split at h
  · rename_i c _ _ hc
    have hlt := (Array.getElem?_eq_some_iff.1 hc).1
    cases s with
    | none => exact ⟨b, off, rfl, hlt⟩
    | some s => simp at h
  · cases h

section
variable {H : Type} {enc : TypeId × Value → H} {W : World}

theorem open_vals {fuel : Nat} {cs : List Value} {x : DataW H × List MemPlace} (h : DataW.trod enc Try.prog W 0 (fun _ => true) true fuel 23 cs = some x) : ∃ v l, cs = [v] ∧ IsVals W v l := by
  rcases open_slice_pairs Try.underlying23 Try.underlying84 (by kernel_rfl) (by kernel_rfl) (by kernel_rfl) (by kernel_rfl) (by kernel_rfl) h with ⟨rfl, _⟩ | ⟨a, len, cap, m, n, V0, V1, D0, D1, P0, P1, rfl, _, hlc, hcm, rfl, _, hx⟩
  · exact ⟨_, [], rfl, none, 0, rfl, by simp, by simp⟩
  · have hm : len ≤ 9223372036854775807 := by simp [maxLen] at hcm; omega
    obtain ⟨f, hf⟩ := choose_lt (n := len) (p := fun i (v : V) => W.cell? (a.add (i * 2)) = some (.bool v.ref) ∧ W.cell? (a.add (i * 2 + 1)) = some (.int .i64 v.n) ∧ i64ok v.n) (fun i hi => by
      obtain ⟨c0, c1, t0, t1⟩ := hx i (by omega)
      obtain ⟨b, e0, _⟩ := DataW.trod_bool Try.underlying4 t0
      obtain ⟨c, e1, _, wc⟩ := DataW.trod_int Try.underlying2 t1
      simp at e0 e1
      rw [e0] at c0; rw [e1] at c1
      have hb := bounds_i64 wc
      exact ⟨⟨b, c⟩, c0, c1, by dsimp only; omega, by dsimp only; omega⟩)
    refine ⟨_, (List.range len).map f, rfl, some a, _, by simp; rfl, by simpa using hm, ?_⟩
    intro k y hy
    have hk : k < len := by have := (List.getElem?_eq_some_iff.1 hy).1; simpa using this
    have hyf : y = f k := by simp [hk] at hy; exact hy.symm
    subst hyf
    obtain ⟨b, off, rfl, hb⟩ := addr_plain (hf 0 (by omega)).1
    obtain ⟨h0, h1, h2⟩ := hf k hk
    rw [add_plain] at h0 h1
    exact ⟨b, off, rfl, hb, h0, h1, h2⟩

theorem open_ints {fuel : Nat} {cs : List Value} {x : DataW H × List MemPlace} (h : DataW.trod enc Try.prog W 0 (fun _ => true) true fuel 29 cs = some x) : ∃ v l, cs = [v] ∧ IsInts W v l := by
  rcases open_slice1 Try.underlying29 (by kernel_rfl) h with ⟨rfl, _⟩ | ⟨a, len, cap, m, n, V, D, P, rfl, _, hlc, hcm, rfl, _, hx⟩
  · exact ⟨_, [], rfl, none, 0, rfl, by simp, by simp⟩
  · have hm : len ≤ 9223372036854775807 := by simp [maxLen] at hcm; omega
    obtain ⟨f, hf⟩ := choose_lt (n := len) (p := fun i (v : Int) => W.cell? (a.add i) = some (.int .i64 v) ∧ i64ok v) (fun i hi => by
      obtain ⟨c0, t0⟩ := hx i (by omega)
      obtain ⟨c, e1, _, wc⟩ := DataW.trod_int Try.underlying3 t0
      simp at e1
      rw [e1] at c0
      have hb := bounds_i64 wc
      exact ⟨c, c0, by omega, by omega⟩)
    refine ⟨_, (List.range len).map f, rfl, some a, _, by simp; rfl, by simpa using hm, ?_⟩
    intro k y hy
    have hk : k < len := by have := (List.getElem?_eq_some_iff.1 hy).1; simpa using this
    have hyf : y = f k := by simp [hk] at hy; exact hy.symm
    subst hyf
    obtain ⟨b, off, rfl, hb⟩ := addr_plain (hf 0 (by omega)).1
    obtain ⟨h0, h2⟩ := hf k hk
    rw [add_plain] at h0
    exact ⟨b, off, rfl, hb, h0, h2⟩

theorem open_objs {fuel : Nat} {cs : List Value} {x : DataW H × List MemPlace} (h : DataW.trod enc Try.prog W 0 (fun _ => true) true fuel 22 cs = some x) : ∃ v l, cs = [v] ∧ IsObjs W v l := by
  rcases open_slice1 Try.underlying22 (by kernel_rfl) h with ⟨rfl, _⟩ | ⟨a, len, cap, m, n, V, D, P, rfl, _, hlc, hcm, rfl, _, hx⟩
  · exact ⟨_, [], rfl, none, 0, rfl, by simp, by simp⟩
  · have hm : len ≤ 9223372036854775807 := by simp [maxLen] at hcm; omega
    obtain ⟨f, hf⟩ := choose_lt (n := len) (p := fun i (u : Value × List Go.Proofs.Ytjnbnfmlpdnngaa.V) => W.cell? (a.add i) = some u.1 ∧ IsVals W u.1 u.2) (fun i hi => by
      obtain ⟨c0, t0⟩ := hx i (by omega)
      obtain ⟨y0, n', _, _, t1⟩ := trod_struct1 Try.underlying61 t0
      have hc : Try.prog.cellsOf 23 = 1 := by kernel_rfl
      simp only [hc, List.drop_zero, List.take_succ_cons, List.take_zero] at t1
      obtain ⟨v, l, e1, hv⟩ := open_vals t1
      obtain rfl := (List.cons.inj e1).1
      exact ⟨(V i, l), c0, hv⟩)
    refine ⟨_, (List.range len).map (fun i => (f i).2), rfl, some a, _, by simp; rfl, by simpa using hm, ?_⟩
    intro k y hy
    have hk : k < len := by have := (List.getElem?_eq_some_iff.1 hy).1; simpa using this
    have hyf : y = (f k).2 := by simp [hk] at hy; exact hy.symm
    subst hyf
    obtain ⟨b, off, rfl, hb⟩ := addr_plain (hf 0 (by omega)).1
    obtain ⟨h0, h2⟩ := hf k hk
    rw [add_plain] at h0
    exact ⟨b, off, _, rfl, hb, h0, h2⟩

set_option maxRecDepth 100000 in
theorem open_graph {base : Nat} {v : Value} {d : DataW H} {p : List MemPlace} (hv : Value.okWide Try.prog W .any base 25 v) (h : DataW.Trod enc Try.prog W 0 (fun _ => true) true 25 v d p) : ∃ g, IsGraph W v g := by
  obtain ⟨c0, c1, y0, y1, m, rfl, rfl, rfl, hy0, hy1⟩ := open_agg2 Try.underlying25 (by kernel_rfl) (by kernel_rfl) hv h
  obtain ⟨u0, l0, e0, h0⟩ := open_objs hy0
  obtain ⟨u1, l1, e1, h1⟩ := open_vals hy1
  simp at e0 e1
  subst e0 e1
  exact ⟨⟨l0, l1⟩, _, _, rfl, h0, h1⟩
end
end Go.Proofs.Ytjnbnfmlpdnngaa
