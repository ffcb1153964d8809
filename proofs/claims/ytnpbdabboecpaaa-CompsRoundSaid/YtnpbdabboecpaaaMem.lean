/- What a call owns: a list of blocks of its own, each with what lies in it, all apart; everything below block B is as it was. Plain facts on worlds, over any program. -/
import Derived.WalkKit
import Derived.WalkSpells
import Derived.WalkLawsBesides
import Derived.Laws.OwnMore
import Derived.Lib.Hide
namespace Go.Proofs.Ytnpbdabboecpaaa
open Go.RowKit

/-- One thing that the call owns: its block (none: a nil slice), and what is to lie there. -/
structure Ent where
  blk : Option Nat
  at_ : Option Obj → Prop

/-- A block of known cells. -/
def ebox (b : Nat) (c : Array Value) (t : TypeId) : Ent := ⟨some b, fun o => o = some (.cells c t (0, 0))⟩
/-- A slice that the call made, with its elements' cells. -/
def erow (e : TypeId) (sz : Nat) (v : Value) (n : Nat) (xs : List Value) : Ent :=
  ⟨v.ownBlock, fun o => xs.length = n * sz ∧
    ((v = .slice none 0 0 ∧ n = 0) ∨ ∃ g cap cur, v = .slice (some ⟨g, 0, none⟩) n cap ∧ o = some (.cells cur e (0, 0)) ∧ n ≤ cap ∧ cap ≤ maxLen ∧ cur.size = cap * sz ∧ cur.toList.take (n * sz) = xs)⟩
/-- Any block of which something is known. -/
def eown (b : Nat) (p : Obj → Prop) : Ent := ⟨some b, fun o => ∃ x, o = some x ∧ p x⟩

def Ent.ok (B : Nat) (w : World) (x : Ent) : Prop :=
  (∀ b, x.blk = some b → B ≤ b ∧ b < w.heap.size) ∧ x.at_ (x.blk.bind (w.heap[·]?))
def Ent.apart (x y : Ent) : Prop := ∀ b, x.blk = some b → y.blk ≠ some b
theorem Ent.apart_symm {x y : Ent} (h : x.apart y) : y.apart x := fun b hb hx => h b hx hb

structure Mem (B : Nat) (w0 w : World) (L : List Ent) : Prop where
  below : Below B w0 w
  base : B ≤ w.heap.size
  ok : ∀ x ∈ L, x.ok B w
  apart : L.Pairwise Ent.apart

theorem Mem.start (w : World) : Mem w.heap.size w w [] := ⟨Below.refl _ _, Nat.le_refl _, by simp, by simp⟩

theorem Ent.ok_same {B : Nat} {w w' : World} {x : Ent} (h : x.ok B w) (hs : w.heap.size ≤ w'.heap.size) (hb : ∀ b, x.blk = some b → w'.heap[b]? = w.heap[b]?) : x.ok B w' := by
  refine ⟨fun b e => ⟨(h.1 b e).1, Nat.lt_of_lt_of_le (h.1 b e).2 hs⟩, ?_⟩
  have h2 := h.2
  cases e : x.blk with
  | none => rw [e] at h2; exact h2
  | some b => rw [e] at h2; simp only [Option.bind_some] at h2 ⊢; rw [hb b e]; exact h2

/-- Another world in which what is owned lies as it lay. -/
theorem Mem.same {B : Nat} {w0 w w' : World} {L : List Ent} (h : Mem B w0 w L) (hb : Below B w w') (hk : ∀ x ∈ L, ∀ b, x.blk = some b → w'.heap[b]? = w.heap[b]?) : Mem B w0 w' L :=
  ⟨h.below.trans hb, Nat.le_trans h.base hb.size, fun x hx => Ent.ok_same (h.ok x hx) hb.size (hk x hx), h.apart⟩

/-- Behind a call that leaves all that was there as it was. -/
theorem Mem.call {B : Nat} {w0 w w' : World} {L : List Ent} (h : Mem B w0 w L) (hb : Below w.heap.size w w') : Mem B w0 w' L :=
  h.same (hb.mono h.base) fun x hx b e => hb.block b ((h.ok x hx).1 b e).2

theorem Mem.drew {B : Nat} {w0 w : World} {L : List Ent} (h : Mem B w0 w L) : Mem B w0 w.drew L :=
  h.same ((Below.refl _ _).drew) fun _ _ _ _ => rfl

theorem Mem.drewN {B : Nat} {w0 w : World} {L : List Ent} (h : Mem B w0 w L) (n : Nat) : Mem B w0 (w.drewN n) L :=
  h.same (below_drewN (Below.refl _ _) n) fun _ _ _ _ => rfl

/-- A new block, forgotten. -/
theorem Mem.alloc_ {B : Nat} {w0 w : World} {L : List Ent} (h : Mem B w0 w L) (o : Obj) : Mem B w0 (w.alloc o) L :=
  h.call ((Below.refl _ _).alloc (Nat.le_refl _) o)

theorem Mem.lt {B : Nat} {w0 w : World} {L : List Ent} (h : Mem B w0 w L) {x : Ent} (hx : x ∈ L) : ∀ b, x.blk = some b → B ≤ b ∧ b < w.heap.size := (h.ok x hx).1

/-- One more thing is owned. -/
theorem Mem.cons {B : Nat} {w0 w : World} {L : List Ent} (h : Mem B w0 w L) (x : Ent) (hx : x.ok B w) (ha : ∀ y ∈ L, x.apart y) : Mem B w0 w (x :: L) :=
  ⟨h.below, h.base, by intro y hy; cases hy with | head => exact hx | tail _ hy => exact h.ok y hy, by rw [List.pairwise_cons]; exact ⟨ha, h.apart⟩⟩

/-- A new block of known cells. -/
theorem Mem.alloc {B : Nat} {w0 w : World} {L : List Ent} (h : Mem B w0 w L) (c : Array Value) (t : TypeId) : Mem B w0 (w.alloc (.cells c t)) (ebox w.heap.size c t :: L) := by
  refine (h.alloc_ _).cons _ ⟨?_, ?_⟩ ?_
  · intro b e; cases e; exact ⟨h.base, by simp⟩
  · show (w.alloc (.cells c t)).heap[w.heap.size]? = _; exact heap_alloc_new w _
  · intro y hy b e e'
    cases e
    have := (h.lt hy _ e').2
    omega

theorem Mem.allocAt {B : Nat} {w0 w : World} {L : List Ent} (h : Mem B w0 w L) (b : Nat) (hb : w.heap.size = b) (c : Array Value) (t : TypeId) : Mem B w0 (w.alloc (.cells c t)) (ebox b c t :: L) := by
  subst hb; exact h.alloc c t

/-- A new block of whatever make. -/
theorem Mem.allocOwn {B : Nat} {w0 w : World} {L : List Ent} (h : Mem B w0 w L) (o : Obj) (p : Obj → Prop) (hp : p o) : Mem B w0 (w.alloc o) (eown w.heap.size p :: L) := by
  refine (h.alloc_ _).cons _ ⟨?_, ?_⟩ ?_
  · intro b e; cases e; exact ⟨h.base, by simp⟩
  · exact ⟨o, heap_alloc_new w _, hp⟩
  · intro y hy b e e'
    cases e
    have := (h.lt hy _ e').2
    omega

/-- The nil slice. -/
theorem Mem.nil {B : Nat} {w0 w : World} {L : List Ent} (h : Mem B w0 w L) (e : TypeId) (sz : Nat) : Mem B w0 w (erow e sz (.slice none 0 0) 0 [] :: L) :=
  h.cons _ ⟨fun b e => by simp [erow, Value.ownBlock] at e, by simp [erow]⟩ fun y _ b e => by simp [erow, Value.ownBlock] at e

theorem row_ok {B : Nat} {w : World} {e : TypeId} {sz : Nat} {v : Value} {n : Nat} {xs : List Value} : (erow e sz v n xs).ok B w ↔ w.ownsRow B e sz v n xs := by
  constructor
  · rintro ⟨h1, h2, h3⟩
    refine ⟨h2, ?_⟩
    rcases h3 with h3 | ⟨g, cap, cur, rfl, ho, r⟩
    · exact .inl h3
    · exact .inr ⟨g, cap, cur, rfl, (h1 g rfl).1, ho, r⟩
  · intro h
    refine ⟨h.lt, h.1, ?_⟩
    rcases h.2 with h3 | ⟨g, cap, cur, rfl, _, ho, r⟩
    · exact .inl h3
    · exact .inr ⟨g, cap, cur, rfl, ho, r⟩

/-- Behind a call that hands back a slice of its own. -/
theorem Mem.callRow {B : Nat} {w0 w w' : World} {L : List Ent} (h : Mem B w0 w L) (hb : Below w.heap.size w w') {e : TypeId} {sz : Nat} {v : Value} {n : Nat} {xs : List Value}
    (hr : w'.ownsRow w.heap.size e sz v n xs) : Mem B w0 w' (erow e sz v n xs :: L) := by
  refine (h.call hb).cons _ (row_ok.2 ⟨hr.1, ?_⟩) ?_
  · rcases hr.2 with h3 | ⟨g, cap, cur, rfl, hg, ho, r⟩
    · exact .inl h3
    · exact .inr ⟨g, cap, cur, rfl, Nat.le_trans h.base hg, ho, r⟩
  · intro y hy b e e'
    have := (hr.lt b e).1
    have := (h.lt hy b e').2
    omega

/-- One thing of the call's own has turned; its block is the same, or a new one. -/
theorem Mem.turn {B : Nat} {w0 w w' : World} {L : List Ent} (h : Mem B w0 w L) (k : Nat) {x x' : Ent} (hk : L[k]? = some x) (hg : w.grownBy w' x.blk) (hx' : x'.ok B w')
    (hb : ∀ b, x'.blk = some b → x.blk = some b ∨ w.heap.size ≤ b) : Mem B w0 w' (L.set k x') := by
  have hkl : k < L.length := by
    rcases Nat.lt_or_ge k L.length with h' | h'
    · exact h'
    · simp [List.getElem?_eq_none h'] at hk
  have hxe : L[k] = x := by simpa [List.getElem?_eq_getElem hkl] using hk
  have hxm : x ∈ L := hxe ▸ List.getElem_mem hkl
  have hpw := List.pairwise_iff_getElem.1 h.apart
  refine ⟨h.below.trans ⟨hg.os, hg.tape, hg.output, hg.size, fun j hj => hg.block j (Nat.lt_of_lt_of_le hj h.base) (fun e => by have := (h.lt hxm j e.symm).1; omega)⟩, Nat.le_trans h.base hg.size, ?_, ?_⟩
  · intro y hy
    obtain ⟨i, hi, rfl⟩ := List.mem_iff_getElem.1 hy
    rw [List.getElem_set]
    split
    · exact hx'
    · rename_i hik
      have hi' : i < L.length := by simpa using hi
      have hym : L[i] ∈ L := List.getElem_mem hi'
      refine Ent.ok_same (h.ok _ hym) hg.size fun b e => hg.block b (h.lt hym b e).2 ?_
      intro e2
      rcases Nat.lt_or_ge i k with hlt | hge
      · exact hpw i k hi' hkl hlt b e (hxe ▸ e2.symm)
      · exact hpw k i hkl hi' (by omega) b (hxe ▸ e2.symm) e
  · rw [List.pairwise_iff_getElem]
    intro i j hi hj hij b e e'
    rw [List.length_set] at hi hj
    rw [List.getElem_set] at e e'
    have old : ∀ m (hm : m < L.length) b, L[m].blk = some b → b < w.heap.size := fun m hm b e => (h.lt (List.getElem_mem hm) b e).2
    split at e
    · rename_i hik
      subst hik
      rw [if_neg (by omega)] at e'
      rcases hb b e with h1 | h1
      · exact hpw k j hi hj hij b (by rw [hxe]; exact h1) e'
      · have := old j hj b e'; omega
    · split at e'
      · rename_i hjk
        subst hjk
        rcases hb b e' with h1 | h1
        · exact hpw i k hi hj hij b e (by rw [hxe]; exact h1)
        · have := old i hi b e; omega
      · exact hpw i j hi hj hij b e e'

theorem Mem.get {B : Nat} {w0 w : World} {L : List Ent} (h : Mem B w0 w L) (k : Nat) {x : Ent} (hk : L[k]? = some x) : x.ok B w := by
  have hkl : k < L.length := by
    rcases Nat.lt_or_ge k L.length with h' | h'
    · exact h'
    · simp [List.getElem?_eq_none h'] at hk
  have hxe : L[k] = x := by simpa [List.getElem?_eq_getElem hkl] using hk
  exact h.ok x (hxe ▸ List.getElem_mem hkl)

theorem Mem.row {B : Nat} {w0 w : World} {L : List Ent} (h : Mem B w0 w L) (k : Nat) {e : TypeId} {sz : Nat} {v : Value} {n : Nat} {xs : List Value} (hk : L[k]? = some (erow e sz v n xs)) : w.ownsRow B e sz v n xs :=
  row_ok.1 (h.get k hk)

theorem Mem.box {B : Nat} {w0 w : World} {L : List Ent} (h : Mem B w0 w L) (k : Nat) {b : Nat} {c : Array Value} {t : TypeId} (hk : L[k]? = some (ebox b c t)) : B ≤ b ∧ b < w.heap.size ∧ w.heap[b]? = some (.cells c t (0, 0)) :=
  ⟨((h.get k hk).1 b rfl).1, ((h.get k hk).1 b rfl).2, (h.get k hk).2⟩
theorem Mem.cell {B : Nat} {w0 w : World} {L : List Ent} (h : Mem B w0 w L) (k : Nat) {b : Nat} {c : Array Value} {t : TypeId} (hk : L[k]? = some (ebox b c t)) (j : Nat) : w.cell? ⟨b, j, none⟩ = c[j]? := by
  simp [World.cell?, (h.box k hk).2.2]
theorem Mem.free {B : Nat} {w0 w : World} {L : List Ent} (h : Mem B w0 w L) (k : Nat) {b : Nat} {c : Array Value} {t : TypeId} (hk : L[k]? = some (ebox b c t)) (j : Nat) : w.frozen? ⟨b, j, none⟩ = false := by
  simp [World.frozen?, (h.box k hk).2.2]

/-- A store into a block of known cells. -/
theorem Mem.setBox {B : Nat} {w0 w : World} {L : List Ent} (h : Mem B w0 w L) (k : Nat) {b : Nat} {c : Array Value} {t : TypeId} (hk : L[k]? = some (ebox b c t)) (j : Nat) (u : Value) :
    Mem B w0 (w.setCell ⟨b, j, none⟩ u) (L.set k (ebox b (c.setIfInBounds j u) t)) := by
  have hb := h.box k hk
  refine h.turn k hk ⟨rfl, rfl, rfl, by simp, fun i _ hi => Below.heap_setCell _ _ _ _ (fun e => hi (by rw [e]; rfl))⟩ ⟨?_, ?_⟩ ?_
  · intro b' e; cases e; exact ⟨hb.1, by simpa using hb.2.1⟩
  · show (w.setCell ⟨b, j, none⟩ u).heap[b]? = _
    exact heap_setCell_same w b j c t u hb.2.2
  · intro b' e; exact .inl e

/-- A store into an element of a slice of the call's own. -/
theorem Mem.setRow {B : Nat} {w0 w : World} {L : List Ent} (h : Mem B w0 w L) (k : Nat) {e : TypeId} {sz g n cap : Nat} {xs : List Value} (hk : L[k]? = some (erow e sz (.slice (some ⟨g, 0, none⟩) n cap) n xs)) (j : Nat) (u : Value) :
    Mem B w0 (w.setCell ⟨g, j, none⟩ u) (L.set k (erow e sz (.slice (some ⟨g, 0, none⟩) n cap) n (xs.set j u))) := by
  obtain ⟨h1, h2⟩ := (h.row k hk).stored j u
  exact h.turn k hk h2 (row_ok.2 h1) fun b' e => .inl e

/-- A store below: no, a store into a block that is not owned and was made since. -/
theorem Mem.setNew {B : Nat} {w0 w : World} {L : List Ent} (h : Mem B w0 w L) (a : Addr) (u : Value) (hB : B ≤ a.block) (ha : ∀ x ∈ L, x.blk ≠ some a.block) : Mem B w0 (w.setCell a u) L :=
  h.same ((Below.refl _ _).setCell hB _) fun x hx b e => Below.heap_setCell _ _ _ _ (fun e' => ha x hx (by rw [e, e']))

/-- Some of what is owned, forgotten. -/
theorem Mem.drop {B : Nat} {w0 w : World} {L : List Ent} (h : Mem B w0 w L) {L' : List Ent} (hs : L'.Sublist L) : Mem B w0 w L' :=
  ⟨h.below, h.base, fun x hx => h.ok x (hs.subset hx), h.apart.sublist hs⟩
theorem Mem.perm {B : Nat} {w0 w : World} {L : List Ent} (h : Mem B w0 w L) {L' : List Ent} (hs : L'.Perm L) : Mem B w0 w L' :=
  ⟨h.below, h.base, fun x hx => h.ok x (hs.subset hx), h.apart.perm hs.symm (fun h => Ent.apart_symm h)⟩

/-- An element type's row of the program's table. -/
structure Elem (P : Program) (t e : TypeId) (sz bytes : Nat) (z : Value) : Prop where
  under : P.underlying t = some (.slice e)
  info : ∃ i, P.info? e = some i ∧ i.zero = some z ∧ i.size = sz ∧ i.bytes = bytes
  cells : z.cells.size = sz
  pos : 0 < sz

section
variable {P : Program} {B : Nat} {w0 w : World} {L : List Ent} {t e : TypeId} {sz bytes : Nat} {z : Value}

/-- append to a slice of the call's own: of what lies at an address. -/
theorem Mem.run_append (T : Elem P t e sz bytes z) (ty : TypeId) (h : Mem B w0 w L) (k : Nat) {v : Value} {n : Nat} {xs : List Value} (hk : L[k]? = some (erow e sz v n xs))
    (a : Addr) (m c : Nat) (news : List Value) (hl : news.length = m * sz) (hnews : ∀ j u, news[j]? = some u → w.cell? (a.add j) = some u) (h1 : ∀ u ∈ news, u.oneCell' = true)
    (h63 : n + m ≤ maxLen) (hbytes : (n + m) * bytes ≤ 140737488355328) :
    ∃ v' w', (Builtin.append_ #[t, t] ty #[v, .slice (some a) m c]).run P w = .ok v' w' ∧ Mem B w0 w' (L.set k (erow e sz v' (n + m) (xs ++ news))) ∧ w.heap.size ≤ w'.heap.size ∧
      (∀ b, b < w.heap.size → v.ownBlock ≠ some b → w'.heap[b]? = w.heap[b]?) ∧ (v' = .slice none 0 0 ↔ v = .slice none 0 0 ∧ m = 0) ∧ ∃ ad cap, v' = .slice ad (n + m) cap := by
  obtain ⟨i, hi, hz, rfl, rfl⟩ := T.info
  have hown := h.row k hk
  obtain ⟨v', w', hr, h2, h3, h4⟩ := run_append_own (P := P) w B t ty e i z i.size i.bytes T.under hi hz rfl rfl T.cells T.pos v n xs hown a m c news hl hnews h1 h63 hbytes h.base
  refine ⟨v', w', hr, h.turn k hk (x' := erow e i.size v' (n + m) (xs ++ news)) h3 (row_ok.2 h2) ?_, h3.size, fun b hb hne => h3.block b hb (fun e => hne e.symm), h4, ?_⟩
  · intro b hb
    by_cases hnil : v = .slice none 0 0
    · subst hnil
      have hn : n = 0 := by
        rcases hown.2 with ⟨_, h⟩ | ⟨g, cap, cur, h, _⟩
        · exact h
        · cases h
      subst hn
      have hxs : xs = [] := List.eq_nil_of_length_eq_zero (by simpa using hown.1)
      subst hxs
      obtain ⟨v2, w2, hr2, k2, _, _⟩ := run_append_own (P := P) w w.heap.size t ty e i z i.size i.bytes T.under hi hz rfl rfl T.cells T.pos _ 0 [] (World.ownsRow_nil w w.heap.size e i.size) a m c news hl hnews h1 h63 hbytes (Nat.le_refl _)
      rw [hr] at hr2
      cases hr2
      exact .inr (k2.lt b hb).1
    · rcases hown.2 with ⟨h, _⟩ | ⟨g, cap, cur, rfl, hbg, hg, hnc, hcm, hcs, htake⟩
      · exact absurd h hnil
      · by_cases hroom : n + m ≤ cap
        · have hfit : n * i.size + news.length ≤ cur.size := by rw [hl, hcs, ← Nat.add_mul]; exact Nat.mul_le_mul_right _ hroom
          have hr3 := run_append_room (P := P) w t ty e i T.under hi g n cap cur hg a m c news hl hnews h1 hroom hfit
          rw [hr] at hr3
          cases hr3
          exact .inl hb
        · have hm : n + m ≤ 9223372036854775807 := by simp only [maxLen] at h63; omega
          have holds : ∀ j u, xs[j]? = some u → w.cell? ((⟨g, 0, none⟩ : Addr).add j) = some u := hown.cells (g := g) rfl
          have hr3 := run_append_grow (P := P) w t ty e i z T.under hi hz ⟨g, 0, none⟩ n cap xs hown.1 holds a m c news hl hnews (by omega) (by omega) (growslice_fits (by omega) hbytes)
          rw [hr] at hr3
          cases hr3
          cases hb
          exact .inr (Nat.le_refl _)
  · rcases h2.2 with ⟨h, h'⟩ | ⟨g, cap, cur, h, _⟩
    · exact ⟨none, 0, by rw [h, h']⟩
    · exact ⟨_, _, h⟩

theorem Mem.wp_append (T : Elem P t e sz bytes z) {ops : Array Oper} {rest : List Oper} {o : Oper} {ac : Act} {Q : Exit → Act → World → Prop} (hgd : o.guard = none) (s x : Operand)
    (ho : o.op = .call { callee := .builtin .append, args := #[s, x], argTypes := #[t, t] }) (h : Mem B w0 w L) (k : Nat) {v : Value} {n : Nat} {xs : List Value} (hk : L[k]? = some (erow e sz v n xs))
    (hs : ac.eval s = v) (a : Addr) (m c : Nat) (news : List Value) (hx : ac.eval x = .slice (some a) m c) (hl : news.length = m * sz) (hnews : ∀ j u, news[j]? = some u → w.cell? (a.add j) = some u)
    (h1 : ∀ u ∈ news, u.oneCell' = true) (h63 : n + m ≤ maxLen) (hbytes : (n + m) * bytes ≤ 140737488355328)
    (hh : ∀ ad cap w', Mem B w0 w' (L.set k (erow e sz (.slice ad (n + m) cap) (n + m) (xs ++ news))) → w.heap.size ≤ w'.heap.size →
      (∀ b, b < w.heap.size → v.ownBlock ≠ some b → w'.heap[b]? = w.heap[b]?) → (ad = none ↔ v = .slice none 0 0 ∧ m = 0) → wpList P ops Q rest (ac.put o.dst (.slice ad (n + m) cap)) w') : wpList P ops Q (o :: rest) ac w := by
  refine wpList_plain hgd fun K hK => ?_
  obtain ⟨v', w', hr, h2, h3, h4, h5, ad, cap, rfl⟩ := h.run_append T o.type k hk a m c news hl hnews h1 h63 hbytes
  unfold Oper.wp execOp
  simp only [ho, resolve, invoke, builtin, Sem.run_bind, Sem.run_pure, Result.andThen_ok, List.map_toArray, List.map_cons, List.map_nil, hs, hx, hr]
  refine hK _ _ (hh ad cap w' h2 h3 h4 ?_)
  constructor
  · intro e
    subst e
    have := h2.row k (by rw [List.getElem?_set_self]; rcases Nat.lt_or_ge k L.length with h' | h'; exact h'; simp [List.getElem?_eq_none h'] at hk)
    rcases this.2 with ⟨h6, _⟩ | ⟨g, cap, cur, h6, _⟩
    · exact h5.1 h6
    · cases h6
  · intro e
    have := h5.2 e
    injection this

/-- append(l, x): one element, which the walk has just laid in a block of its own. -/
theorem Mem.wp_app1 (T : Elem P t e sz bytes z) {ops : Array Oper} {rest : List Oper} {o : Oper} {ac : Act} {Q : Exit → Act → World → Prop} (hgd : o.guard = none) (s x : Operand)
    (ho : o.op = .call { callee := .builtin .append, args := #[s, x], argTypes := #[t, t] }) (h : Mem B w0 w L) (k : Nat) {v : Value} {n : Nat} {xs : List Value} (hk : L[k]? = some (erow e sz v n xs))
    (hs : ac.eval s = v) (c : Nat) (news : Array Value) (e2 : TypeId) (bl : Nat) (hx : ac.eval x = .slice (some ⟨bl, 0, none⟩) 1 c) (hbl : w.heap.size = bl) (hl : news.size = sz)
    (h1 : news.toList.all (·.oneCell') = true) (hb : bytes ≤ 1000) (hn : n ≤ 1000000)
    (hh : ∀ ad cap w', Mem B w0 w' (L.set k (erow e sz (.slice ad (n + 1) cap) (n + 1) (xs ++ news.toList))) → w.heap.size < w'.heap.size →
      (∀ b, b < w.heap.size → v.ownBlock ≠ some b → w'.heap[b]? = w.heap[b]?) → ad ≠ none → wpList P ops Q rest (ac.put o.dst (.slice ad (n + 1) cap)) w') :
    wpList P ops Q (o :: rest) ac (w.alloc (.cells news e2)) := by
  subst hbl
  refine Mem.wp_append T hgd s x ho (h.alloc_ _) k hk hs ⟨w.heap.size, 0, none⟩ 1 c news.toList hx (by simpa using hl) ?_ ?_ ?_ ?_ ?_
  · intro j u hj
    have e : (⟨w.heap.size, 0, none⟩ : Addr).add j = ⟨w.heap.size, j, none⟩ := by unfold Addr.add; split <;> simp_all
    rw [e, World.cell?_alloc_new]
    simpa using hj
  · intro u hu
    exact List.all_eq_true.1 h1 u hu
  · simp only [maxLen]; omega
  · have := Nat.mul_le_mul (show n + 1 ≤ 1000001 by omega) hb
    omega
  · intro ad cap w' h2 h3 h4 h5
    refine hh ad cap w' h2 (by simp at h3; omega) ?_ (fun hn => by simpa using h5.1 hn)
    intro b hb hne
    exact (h4 b (by simp; omega) hne).trans (heap_alloc_old w _ hb)

theorem Mem.cast {L' : List Ent} (h : Mem B w0 w L) (e : L = L') : Mem B w0 w L' := e ▸ h
end
end Go.Proofs.Ytnpbdabboecpaaa
