/- append as one step of a drawing region; slices of objects of the call's own; graphs that were made. -/
import Derived.Test.YtnpbdabboecpaaaRows
import Derived.Test.YtnpbdabboecpaaaMi
namespace Go.Proofs.Ytnpbdabboecpaaa
open Go.RowKit

section
variable {P : Program} {B : Nat} {w0 w : World} {L : List Ent} {t e : TypeId} {sz bytes : Nat} {z : Value}
theorem Mem.step_app1 (T : Elem P t e sz bytes z) {ops : Array Oper} {o : Oper} {ac : Act} {K : Act → World → Prop} {Q : Exit → Act → World → Prop} {E : Prop} (hgd : o.guard = none) (s x : Operand)
    (ho : o.op = .call { callee := .builtin .append, args := #[s, x], argTypes := #[t, t] }) (h : Mem B w0 w L) (k : Nat) {v : Value} {n : Nat} {xs : List Value} (hk : L[k]? = some (erow e sz v n xs))
    (hs : ac.eval s = v) (c : Nat) (news : Array Value) (e2 : TypeId) (bl : Nat) (hx : ac.eval x = .slice (some ⟨bl, 0, none⟩) 1 c) (hbl : w.heap.size = bl) (hl : news.size = sz)
    (h1 : news.toList.all (·.oneCell') = true) (hb : bytes ≤ 1000) (hn : n ≤ 1000000)
    (hh : ∀ ad cap w', Mem B w0 w' (L.set k (erow e sz (.slice ad (n + 1) cap) (n + 1) (xs ++ news.toList))) → w.heap.size < w'.heap.size →
      (∀ b, b < w.heap.size → v.ownBlock ≠ some b → w'.heap[b]? = w.heap[b]?) → K (ac.put o.dst (.slice ad (n + 1) cap)) w') :
    if Region.wanted o (yielded ops ac.tmps) = true then Oper.wp P o ac (w.alloc (.cells news e2)) K Q else E := by
  subst hbl
  obtain ⟨v', w', hr, h2, h3, h4, h5, ad, cap, rfl⟩ := (h.alloc_ (.cells news e2)).run_append T o.type k hk ⟨w.heap.size, 0, none⟩ 1 c news.toList (by simpa using hl) (by
    intro j u hj
    have e : (⟨w.heap.size, 0, none⟩ : Addr).add j = ⟨w.heap.size, j, none⟩ := by unfold Addr.add; split <;> simp_all
    rw [e, World.cell?_alloc_new]
    simpa using hj) (fun u hu => List.all_eq_true.1 h1 u hu) (by simp only [maxLen]; omega) (by
    have := Nat.mul_le_mul (show n + 1 ≤ 1000001 by omega) hb
    omega)
  refine step_append_eq' hgd s x t ho hs hx hr (hh ad cap w' h2 (by simp at h3; omega) ?_)
  intro b hb hne
  exact (h4 b (by simp; omega) hne).trans (heap_alloc_old w _ hb)
end

theorem Ent.ok_weak {B B' : Nat} {w : World} {x : Ent} (h : x.ok B w) (hB : B' ≤ B) : x.ok B' w := ⟨fun b e => ⟨Nat.le_trans hB (h.1 b e).1, (h.1 b e).2⟩, h.2⟩

theorem elemObjs : Elem Try.prog 22 50 1 24 (.agg #[.slice none 0 0]) := ⟨by kernel_rfl, info_parts (by kernel_rfl), rfl, by decide⟩

/-- Rows of values that the call made, one behind the other. -/
abbrev Rws := List (Value × List V)
def rowsE (rows : Rws) : List Ent := rows.map fun r => rowV 60 r.1 r.2
theorem rowsE_snoc (rows : Rws) (r : Value × List V) : rowsE (rows ++ [r]) = rowsE rows ++ [rowV 60 r.1 r.2] := by simp [rowsE]
theorem Mem.rowsSnoc {B : Nat} {w0 w : World} {A : List Ent} {rows : Rws} {v : Value} {l : List V} (h : Mem B w0 w ([rowV 60 v l] ++ (A ++ rowsE rows))) : Mem B w0 w (A ++ rowsE (rows ++ [(v, l)])) := by
  refine h.perm ?_
  rw [rowsE_snoc, ← List.append_assoc]
  exact List.perm_append_comm

theorem isObjs_of_own {w : World} {B n : Nat} {e : TypeId} {v : Value} {rows : Rws} (h : w.ownsRow B e 1 v n (rows.map (·.1))) (hn : rows.length ≤ 1000000) (hr : ∀ r ∈ rows, IsVals w r.1 r.2) : IsObjs w v (rows.map (·.2)) := by
  have hlen : rows.length = n := by have := h.1; simpa using this
  rcases h.2 with ⟨rfl, h0⟩ | ⟨g, cap, cur, rfl, hB, hg, hnc, hcap, hcs, htk⟩
  · have : rows = [] := List.eq_nil_of_length_eq_zero (by omega)
    subst this
    exact ⟨none, 0, rfl, by simp, by simp⟩
  · refine ⟨_, cap, by rw [List.length_map, hlen], by rw [List.length_map]; omega, ?_⟩
    intro k x hx
    rw [List.getElem?_map] at hx
    obtain ⟨r, hr1, rfl⟩ := Option.map_eq_some_iff.1 hx
    have hk : k < n := by have := (List.getElem?_eq_some_iff.1 hr1).1; omega
    refine ⟨g, 0, r.1, rfl, (Array.getElem?_eq_some_iff.1 hg).1, ?_, hr r (List.mem_of_getElem? hr1)⟩
    rw [Nat.zero_add, h.cellAt k (by omega), List.getElem?_map, hr1]; rfl
theorem Mem.isSlice {B : Nat} {w0 w : World} {L : List Ent} (h : Mem B w0 w L) (k : Nat) {e : TypeId} {sz n : Nat} {v : Value} {xs : List Value} (hk : L[k]? = some (erow e sz v n xs)) : ∃ a m c, v = .slice a m c := by
  rcases (h.row k hk).2 with ⟨rfl, _⟩ | ⟨g, cap, cur, rfl, _⟩
  · exact ⟨_, _, _, rfl⟩
  · exact ⟨_, _, _, rfl⟩
theorem Mem.isVals {B : Nat} {w0 w : World} {L : List Ent} (h : Mem B w0 w L) (k : Nat) {e : TypeId} {v : Value} {l : List V} (hk : L[k]? = some (rowV e v l)) (hl : l.length ≤ 1000000) (hn : ∀ x ∈ l, i64ok x.n) : IsVals w v l := isVals_of_own (h.ownV k hk) hl hn
theorem Mem.isValsM {B : Nat} {w0 w : World} {L : List Ent} (h : Mem B w0 w L) {e : TypeId} {v : Value} {l : List V} (hm : rowV e v l ∈ L) (hl : l.length ≤ 1000000) (hn : ∀ x ∈ l, i64ok x.n) : IsVals w v l := by
  obtain ⟨k, hk, he⟩ := List.getElem_of_mem hm
  exact h.isVals k (by rw [List.getElem?_eq_getElem hk, he]) hl hn
/-- What is owned is owned in any world that agrees on its blocks. -/
theorem Mem.move {B : Nat} {w0 w W' : World} {L : List Ent} (h : Mem B w0 w L) (hs : w.heap.size ≤ W'.heap.size) (hb : ∀ b, B ≤ b → b < w.heap.size → W'.heap[b]? = w.heap[b]?) : Mem B W' W' L :=
  ⟨Below.refl _ _, Nat.le_trans h.base hs, fun x hx => Ent.ok_same (h.ok x hx) hs (fun b e => hb b (h.lt hx b e).1 (h.lt hx b e).2), h.apart⟩
/-- A graph, in any world that agrees on the blocks from B on. -/
def Graft (B : Nat) (w : World) (v : Value) (c : G) : Prop := ∀ W' : World, w.heap.size ≤ W'.heap.size → (∀ b, B ≤ b → b < w.heap.size → W'.heap[b]? = w.heap[b]?) → IsGraph W' v c
theorem Graft.here {B : Nat} {w : World} {v : Value} {c : G} (h : Graft B w v c) : IsGraph w v c := h w (Nat.le_refl _) (fun _ _ _ => rfl)
theorem Graft.step {B B' : Nat} {w w' : World} {v : Value} {c : G} (h : Graft B w v c) (hB : B' ≤ B) (hs : w.heap.size ≤ w'.heap.size) (hb : ∀ b, B ≤ b → b < w.heap.size → w'.heap[b]? = w.heap[b]?) : Graft B' w' v c :=
  fun W' hs' hb' => h W' (Nat.le_trans hs hs') (fun b h1 h2 => (hb' b (Nat.le_trans hB h1) (Nat.lt_of_lt_of_le h2 hs)).trans (hb b h1 h2))

theorem take_ne {α : Type} {l m : List α} {k : Nat} {x y : α} (hx : l[k]? = some x) (hy : m[k]? = some y) (h : x ≠ y) : l ≠ m := by
  rintro rfl
  rw [hx] at hy; cases hy; exact h rfl
end Go.Proofs.Ytnpbdabboecpaaa
