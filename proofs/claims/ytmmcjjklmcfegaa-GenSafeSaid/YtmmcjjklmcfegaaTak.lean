/- The front of a slice; room. -/
import Derived.Test.YtmmcjjklmcfegaaBase1
namespace Go.Proofs.Ytmmcjjklmcfegaa
open Go.RowKit

theorem isTup_take {α : Type} {sz : Nat} {enc : α → List Value} {w : World} {a : Option Addr} {m c : Nat} {l : List α} (h : IsTup sz enc w (.slice a m c) l) (n : Nat) (hn : n ≤ l.length) : IsTup sz enc w (.slice a n c) (l.take n) := by
  obtain ⟨a', c', e, hl, hc⟩ := h
  cases e
  refine ⟨a, c, by rw [List.length_take, Nat.min_eq_left hn], by rw [List.length_take]; omega, fun k x hx => ?_⟩
  rw [List.getElem?_take] at hx
  split at hx
  · exact hc k x hx
  · cases hx
theorem isInts_take {w : World} {a : Option Addr} {m c : Nat} {l : List Int} (h : IsInts w (.slice a m c) l) (n : Nat) (hn : n ≤ l.length) : IsInts w (.slice a n c) (l.take n) := by
  obtain ⟨a', c', e, hl, hc⟩ := h
  cases e
  refine ⟨a, c, by rw [List.length_take, Nat.min_eq_left hn], by rw [List.length_take]; omega, fun k x hx => ?_⟩
  rw [List.getElem?_take] at hx
  split at hx
  · exact hc k x hx
  · cases hx
theorem ownCap {B : Nat} {w : World} {e : TypeId} {sz n n' c : Nat} {a : Option Addr} {xs : List Value} (h : w.ownsRow B e sz (.slice a n' c) n xs) : n ≤ c := by
  rcases h.2 with ⟨h1, h0⟩ | ⟨g, cap, cur, h1, _, _, hc, _⟩
  · cases h1; omega
  · cases h1; exact hc
theorem Mem.sliceIn {B : Nat} {w0 w : World} {L : List Ent} (h : Mem B w0 w L) {e : TypeId} {sz : Nat} {v : Value} {n : Nat} {xs : List Value} (hx : erow e sz v n xs ∈ L) : ∃ a n' c, v = .slice a n' c := by
  obtain ⟨k, hk⟩ := List.getElem?_of_mem hx
  exact own_slice (h.row k hk)
/-- One element, the slice's length in any guise. -/
theorem IsTup.at2 {α : Type} {sz : Nat} {enc : α → List Value} {w wr : World} {a : Option Addr} {m c : Nat} {l : List α} (h : IsTup sz enc w (.slice a m c) l) (hb : Below w.heap.size w wr) {k : Nat} {x : α} (hx : l[k]? = some x) :
    ∃ b off, a = some ⟨b, off, none⟩ ∧ b < w.heap.size ∧ b < wr.heap.size ∧ ∀ j u, (enc x)[j]? = some u → wr.cell? ⟨b, off + k * sz + j, none⟩ = some u := by
  obtain ⟨b, off, cap, hv, h1, h2, h3⟩ := h.at hb hx
  injection hv with e1 e2 e3
  exact ⟨b, off, e1, h1, h2, h3⟩
/-- append(l, y), y a struct in a new block: a step of a region that draws. -/
theorem Mem.step_appT2 {P : Program} {B : Nat} {w0 w : World} {L : List Ent} {t e : TypeId} {z : Value} {α : Type} {sz bytes : Nat} {enc : α → List Value} (T : Elem P t e sz bytes z) {ops : Array Oper} {o : Oper} {ac : Act} {K : Act → World → Prop} {Q : Exit → Act → World → Prop} {E : Prop} (hgd : o.guard = none) (s x : Operand)
    (ho : o.op = .call { callee := .builtin .append, args := #[s, x], argTypes := #[t, t] }) (h : Mem B w0 w L) (k : Nat) {v : Value} {l : List α} (hk : L[k]? = some (rowT e sz enc v l))
    (hs : ac.eval s = v) (bl c : Nat) (y : α) (hx : ac.eval x = .slice (some ⟨bl, 0, none⟩) 1 c) (hc : ∀ j u, (enc y)[j]? = some u → w.cell? ⟨bl, j, none⟩ = some u) (hsz : (enc y).length = sz) (h1 : ∀ u ∈ enc y, u.oneCell' = true) (hn : l.length ≤ 1000000) (hb : bytes ≤ 1000)
    (hh : ∀ ad cap w', Mem B w0 w' (L.set k (rowT e sz enc (.slice ad (l.length + 1) cap) (l ++ [y]))) → w.heap.size ≤ w'.heap.size →
      (∀ b, b < w.heap.size → v.ownBlock ≠ some b → w'.heap[b]? = w.heap[b]?) → K (ac.put o.dst (.slice ad (l.length + 1) cap)) w') :
    if Region.wanted o (yielded ops ac.tmps) = true then Oper.wp P o ac w K Q else E := by
  obtain ⟨v', w', hr, h2, h3, h4, _, ad, cap, rfl⟩ := h.run_append T o.type k hk ⟨bl, 0, none⟩ 1 c (enc y) (by rw [hsz]; omega) (fun j u hj => by
    have e : (⟨bl, 0, none⟩ : Addr).add j = ⟨bl, j, none⟩ := by unfold Addr.add; split <;> simp_all
    rw [e]; exact hc j u hj) h1 (by simp only [maxLen]; omega) (by have := Nat.mul_le_mul (show l.length + 1 ≤ 1000001 by omega) hb; omega)
  exact step_append_eq' hgd s x t ho hs hx hr (hh ad cap w' (h2.cast (by simp [rowT])) h3 h4)
theorem new_at (w : World) {l : List Value} (c : Array Value) (hc : c.toList = l) (e : TypeId) : ∀ j u, l[j]? = some u → ((w.alloc (.cells c e)).drew).cell? ⟨w.heap.size, j, none⟩ = some u := by
  intro j u hj
  subst hc
  have h2 : c[j]? = some u := by rw [Array.getElem?_toList] at hj; exact hj
  simpa using h2
theorem new_at' (w : World) {l : List Value} (c : Array Value) (hc : c.toList = l) (e : TypeId) : ∀ j u, l[j]? = some u → (w.alloc (.cells c e)).cell? ⟨w.heap.size, j, none⟩ = some u := by
  intro j u hj
  subst hc
  have h2 : c[j]? = some u := by rw [Array.getElem?_toList] at hj; exact hj
  simpa using h2
end Go.Proofs.Ytmmcjjklmcfegaa
