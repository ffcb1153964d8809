/- A row of the call's own that is cut at its head and appended to at its end. -/
import Derived.Test.YtmmcjjklmcfegaaBase1
import Derived.Deep.AppendSrc
import Derived.Deep.Upon
import Derived.Room.Entries
namespace Go.Proofs.Ytmmcjjklmcfegaa
open Go.RowKit

def cellsL (p : Int × Nat) : List Value := [.int .i64 p.1, .int .i64 (p.2 : Int)]
def flatL (l : List (Int × Nat)) : List Value := l.flatMap cellsL
theorem flatL_len (l : List (Int × Nat)) : (flatL l).length = l.length * 2 := by
  unfold flatL
  induction l with
  | nil => rfl
  | cons p l ih => rw [List.flatMap_cons, List.length_append, ih]; simp [cellsL]; omega
/-- How such a row lies. -/
def LogAt (e : TypeId) (v : Value) (l : List (Int × Nat)) (o : Option Obj) : Prop :=
  (v = .slice none 0 0 ∧ l = []) ∨ (∃ g off cur, v = .slice (some ⟨g, off, none⟩) 0 0 ∧ l = [] ∧ o = some (.cells cur e (0, 0))) ∨
  ∃ g cap pre post, v = .slice (some ⟨g, pre.length, none⟩) l.length cap ∧ 0 < cap ∧ l.length ≤ cap ∧ cap ≤ maxLen ∧ o = some (.cells (pre ++ (flatL l ++ post)).toArray e (0, 0)) ∧ post.length = (cap - l.length) * 2
def logE (e : TypeId) (v : Value) (l : List (Int × Nat)) : Ent := ⟨v.ownBlock, LogAt e v l⟩
section
variable {P : Program} {B : Nat} {w0 w : World} {L : List Ent} {t e : TypeId} {bytes : Nat} {z : Value}
theorem Mem.nilL (h : Mem B w0 w L) (e : TypeId) : Mem B w0 w (logE e (.slice none 0 0) [] :: L) :=
  h.cons _ ⟨(fun b e => by cases e), .inl ⟨rfl, rfl⟩⟩ (fun y hy b e => by cases e)
theorem Mem.logSlice (h : Mem B w0 w L) (k : Nat) {v : Value} {l : List (Int × Nat)} (hk : L[k]? = some (logE e v l)) : ∃ a c, v = .slice a l.length c ∧ l.length ≤ c := by
  rcases (h.get k hk).2 with ⟨rfl, rfl⟩ | ⟨g, off, cur, rfl, rfl, _⟩ | ⟨g, cap, pre, post, rfl, _, h2, _⟩
  · exact ⟨_, _, rfl, Nat.le_refl _⟩
  · exact ⟨_, _, rfl, Nat.le_refl _⟩
  · exact ⟨_, _, rfl, h2⟩
/-- The head, and what is left behind it. -/
theorem Mem.logHead (h : Mem B w0 w L) (k : Nat) {v : Value} {p : Int × Nat} {l : List (Int × Nat)} (hk : L[k]? = some (logE e v (p :: l))) :
    ∃ g off cap, v = .slice (some ⟨g, off, none⟩) (l.length + 1) cap ∧ w.cell? ⟨g, off, none⟩ = some (.int .i64 p.1) ∧ w.cell? ⟨g, off + 1, none⟩ = some (.int .i64 (p.2 : Int)) ∧ g < w.heap.size ∧ l.length + 1 ≤ cap ∧ cap ≤ maxLen ∧
      (cap = 1 → Mem B w0 w (L.set k (logE e (.slice (some ⟨g, off, none⟩) 0 0) l))) ∧ (1 < cap → Mem B w0 w (L.set k (logE e (.slice (some ⟨g, off + 2, none⟩) l.length (cap - 1)) l))) := by
  have hok := h.get k hk
  rcases hok.2 with ⟨_, h2⟩ | ⟨g, off, cur, _, h2, _⟩ | ⟨g, cap, pre, post, rfl, h0, h1, h2, ho, hp⟩
  · cases h2
  · cases h2
  · have hb := hok.1 g rfl
    have hg : w.heap[g]? = some (.cells (pre ++ (flatL (p :: l) ++ post)).toArray e (0, 0)) := ho
    have hc : ∀ j, w.cell? ⟨g, j, none⟩ = (pre ++ (flatL (p :: l) ++ post))[j]? := fun j => by simp [World.cell?, hg]
    have hself : w.grownBy w (some g) := ⟨rfl, rfl, rfl, Nat.le_refl _, fun _ _ _ => rfl⟩
    refine ⟨g, pre.length, cap, rfl, ?_, ?_, hb.2, by simpa using h1, h2, fun hc1 => ?_, fun hc1 => ?_⟩
    · rw [hc, List.getElem?_append_right (Nat.le_refl _), Nat.sub_self]; rfl
    · rw [hc, List.getElem?_append_right (by omega), show pre.length + 1 - pre.length = 1 by omega]; rfl
    · have hl : l = [] := by
        have : l.length + 1 ≤ cap := by simpa using h1
        exact List.eq_nil_of_length_eq_zero (by omega)
      subst hl
      exact h.turn k hk hself ⟨fun b e => by cases e; exact hb, .inr (.inl ⟨g, _, _, rfl, rfl, ho⟩)⟩ (fun b e => .inl e)
    · refine h.turn k hk hself ⟨fun b e => by cases e; exact hb, .inr (.inr ⟨g, cap - 1, pre ++ cellsL p, post, ?_, by omega, ?_, by omega, ?_, ?_⟩)⟩ (fun b e => .inl e)
      · rw [List.length_append]; rfl
      · have : l.length + 1 ≤ cap := by simpa using h1
        omega
      · refine ho.trans ?_
        unfold flatL
        rw [List.flatMap_cons]
        simp [List.append_assoc]
      · rw [hp, List.length_cons]
        congr 1
        omega
theorem setCells2 (w : World) (g o : Nat) (x y : Value) : w.setCells g o [x, y] = (w.setCell ⟨g, o, none⟩ x).setCell ⟨g, o + 1, none⟩ y := rfl
/-- One is appended. -/
theorem Mem.run_appL (T : Elem P t e 2 bytes z) (h : Mem B w0 w L) (k : Nat) {v : Value} {l : List (Int × Nat)} (hk : L[k]? = some (logE e v l)) (p : Int × Nat) (c : Nat) (hb : bytes ≤ 1000) (hn : l.length ≤ 1000000) (e2 : TypeId) :
    ∃ v' w', (∀ ty, (Builtin.append_ #[t, t] ty #[v, .slice (some ⟨w.heap.size, 0, none⟩) 1 c]).run P (w.alloc (.cells (cellsL p).toArray e2)) = .ok v' w') ∧ Mem B w0 w' (L.set k (logE e v' (l ++ [p]))) ∧ (∃ a n c, v' = .slice a n c) ∧ w.heap.size < w'.heap.size := by
  obtain ⟨i, hi, hz, hs, hby⟩ := T.info
  have hok := h.get k hk
  obtain ⟨W, hW⟩ : ∃ W, w.alloc (.cells (cellsL p).toArray e2) = W := ⟨_, rfl⟩
  have hWs : W.heap.size = w.heap.size + 1 := by rw [← hW]; simp
  have hWo : ∀ b, b < w.heap.size → W.heap[b]? = w.heap[b]? := fun b hb => by rw [← hW]; exact Below.heap_alloc w _ b hb
  have hcell : ∀ j u, (cellsL p)[j]? = some u → W.cell? ((⟨w.heap.size, 0, none⟩ : Addr).add j) = some u := by
    intro j u hu
    rw [Addr.add_lit, Nat.zero_add, ← hW]
    simp only [World.cell?, heap_alloc_new]
    simpa using hu
  have hsrc : Src P i.size t (.slice (some ⟨w.heap.size, 0, none⟩) 1 c) 1 (cellsL p) W := by
    rw [hs]
    exact Src.ofSlice W T.under _ 1 c _ rfl hcell (by intro u hu; simp [cellsL] at hu; rcases hu with rfl | rfl <;> rfl)
  have hgrow : ∀ base cap, cap < l.length + 1 → (Builtin.firstCells i.size l.length (.slice base l.length cap)).run P W.drew = .ok (flatL l).toArray W.drew → v = .slice base l.length cap →
      ∃ v' w', (∀ ty, (Builtin.append_ #[t, t] ty #[v, .slice (some ⟨w.heap.size, 0, none⟩) 1 c]).run P W = .ok v' w') ∧ Mem B w0 w' (L.set k (logE e v' (l ++ [p]))) ∧ (∃ a n c, v' = .slice a n c) ∧ w.heap.size < w'.heap.size := by
    intro base cap hc hold hv
    have hnc := Room.nextslicecap_le' hc
    have hfit : Builtin.nextslicecap (l.length + 1) cap * i.bytes ≤ 281474976710656 := by
      rw [hby]
      have h1 : Builtin.nextslicecap (l.length + 1) cap * bytes ≤ (2 * (l.length + 1)) * 1000 := Nat.mul_le_mul hnc hb
      omega
    have hr := fun ty => run_append_grow_src (P := P) W t t ty e i z T.under hi hz base l.length cap (flatL l) hold _ 1 (cellsL p) hsrc hc (by omega) hfit
    have hge := grownCap_ge W (l.length + 1) cap e
    have hcm := grownCap_le_maxLen W (l.length + 1) cap e (by simp only [maxLen]; omega)
    refine ⟨_, _, fun ty => by rw [hv]; exact hr ty, ?_, ⟨_, _, _, rfl⟩, by simp [hWs]; omega⟩
    refine h.turn k hk ⟨by rw [← hW]; rfl, by rw [← hW]; rfl, by rw [← hW]; rfl, by simp [hWs]; omega, fun b hb _ => ?_⟩ ⟨fun b e => ?_, .inr (.inr ⟨W.heap.size, _, [], Builtin.zeroCells z.cells (grownCap W (l.length + 1) cap e - (l.length + 1)) |>.toList, ?_, by omega, ?_, hcm, ?_, ?_⟩)⟩ (fun b e => ?_)
    · refine (Below.heap_alloc W.drew _ b (by simp [hWs]; omega)).trans ?_
      exact hWo b hb
    · cases e
      have := h.base
      exact ⟨by show B ≤ W.heap.size; omega, by simp⟩
    · simp
    · simp; exact hge
    · show (W.drew.alloc _).heap[W.heap.size]? = _
      have := heap_alloc_new W.drew (.cells ((flatL l ++ cellsL p).toArray ++ Builtin.zeroCells z.cells (grownCap W (l.length + 1) cap e - (l.length + 1))) e)
      rw [show W.drew.heap.size = W.heap.size from rfl] at this
      rw [this]
      congr 2
      unfold flatL
      apply Array.ext'
      simp
    · rw [Array.length_toList, size_zeroCells, T.cells]
      simp
    · cases e
      exact .inr (by show w.heap.size ≤ W.heap.size; omega)
  rw [hW]
  rcases hok.2 with ⟨rfl, rfl⟩ | ⟨g, off, cur, rfl, rfl, ho⟩ | ⟨g, cap, pre, post, rfl, h0, h1, h2, ho, hp⟩
  · exact hgrow none 0 (by simp) (run_firstCells_none W.drew i.size 0 0 0) rfl
  · exact hgrow (some ⟨g, off, none⟩) 0 (by simp) (run_firstCells_some W.drew i.size 0 ⟨g, off, none⟩ 0 0 [] (by simp) (by simp)) rfl
  · have hbg := hok.1 g rfl
    have hg : w.heap[g]? = some (.cells (pre ++ (flatL l ++ post)).toArray e (0, 0)) := ho
    have hgW : W.heap[g]? = some (.cells (pre ++ (flatL l ++ post)).toArray e (0, 0)) := by rw [hWo g hbg.2]; exact hg
    have hcW : ∀ j, W.cell? ⟨g, j, none⟩ = (pre ++ (flatL l ++ post))[j]? := fun j => by simp [World.cell?, hgW]
    have hfl := flatL_len l
    by_cases hroom : l.length + 1 ≤ cap
    · obtain ⟨x, y, post', rfl⟩ : ∃ x y post', post = x :: y :: post' := by
        match post, hp with
        | [], hp => simp at hp; omega
        | [_], hp => simp at hp; omega
        | x :: y :: q, _ => exact ⟨x, y, q, rfl⟩
      have hr := fun ty => run_append_room_src (P := P) W t t ty e i T.under hi g pre.length l.length cap _ 1 (cellsL p) hsrc hroom (fun j hj => by
          have hj2 : j < 2 := hj
          rw [hcW, hs, List.getElem?_append_right (by omega), List.getElem?_append_right (by omega), List.getElem?_eq_getElem (by simp; omega)]; rfl)
        (fun j _ => by simp [World.frozen?, hgW])
      rw [hs] at hr
      have hset : (W.setCells g (pre.length + l.length * 2) (cellsL p)).heap[g]? = some (.cells (pre ++ (flatL (l ++ [p]) ++ post')).toArray e (0, 0)) := by
        unfold cellsL
        rw [setCells2]
        have h3 : ∀ (X : World) (cu : Array Value) (o : Nat) (q : Value), X.heap[g]? = some (.cells cu e (0, 0)) → (X.setCell ⟨g, o, none⟩ q).heap[g]? = some (.cells (cu.setIfInBounds o q) e (0, 0)) := by
          intro X cu o q hX
          rw [heap_setCell_same]
          rw [hX]
        rw [h3 _ _ _ _ (h3 _ _ _ _ hgW)]
        congr 2
        apply Array.ext'
        simp only [Array.toList_setIfInBounds]
        have e1 : pre ++ (flatL l ++ x :: y :: post') = (pre ++ flatL l) ++ x :: y :: post' := by simp
        have e2 : pre ++ (flatL (l ++ [p]) ++ post') = (pre ++ flatL l) ++ .int .i64 p.1 :: .int .i64 (p.2 : Int) :: post' := by unfold flatL; simp [cellsL]
        have e3 : pre.length + l.length * 2 = (pre ++ flatL l).length := by rw [List.length_append, hfl]
        rw [e1, e2, e3]
        rw [List.set_append_right _ _ (Nat.le_refl _), Nat.sub_self]
        rw [List.set_append_right _ _ (by omega), show (pre ++ flatL l).length + 1 - (pre ++ flatL l).length = 1 by omega]
        rfl
      refine ⟨_, _, hr, ?_, ⟨_, _, _, rfl⟩, by rw [show (W.setCells g (pre.length + l.length * 2) (cellsL p)).heap.size = W.heap.size from by unfold cellsL; rw [setCells2]; simp]; omega⟩
      refine h.turn k hk ⟨by rw [← hW]; rfl, by rw [← hW]; rfl, by rw [← hW]; rfl, by unfold cellsL; rw [setCells2]; simp [hWs], fun b hb hne => ?_⟩ ⟨fun b e => ?_, .inr (.inr ⟨g, cap, pre, post', ?_, h0, ?_, h2, hset, ?_⟩)⟩ (fun b e => .inl e)
      · have hne2 : b ≠ g := fun e => hne (by rw [e]; rfl)
        unfold cellsL
        rw [setCells2, heap_setCell_other _ _ _ _ (by simpa using hne2), heap_setCell_other _ _ _ _ (by simpa using hne2)]
        exact hWo b hb
      · cases e
        refine ⟨hbg.1, ?_⟩
        unfold cellsL
        rw [setCells2]; simp [hWs]; omega
      · simp
      · simpa using hroom
      · simp only [List.length_cons] at hp
        simp only [List.length_append, List.length_singleton]
        omega
    · obtain rfl : cap = l.length := by omega
      refine hgrow _ _ (by omega) ?_ rfl
      exact run_firstCells_some W.drew i.size l.length ⟨g, pre.length, none⟩ l.length l.length (flatL l) (by rw [hfl, hs]) (fun j u hu => by
        rw [Addr.add_lit]
        have hj := (List.getElem?_eq_some_iff.1 hu).1
        rw [show W.drew.cell? ⟨g, pre.length + j, none⟩ = W.cell? ⟨g, pre.length + j, none⟩ from rfl, hcW, List.getElem?_append_right (by omega), show pre.length + j - pre.length = j by omega, List.getElem?_append_left hj]
        exact hu)
end
end Go.Proofs.Ytmmcjjklmcfegaa
