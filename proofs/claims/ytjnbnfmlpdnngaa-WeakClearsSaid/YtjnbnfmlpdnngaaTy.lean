/- What a range over a function keeps; marks at a return; a new empty row. (Parted out of Tz.) -/
import Derived.Test.YtjnbnfmlpdnngaaBase3
namespace Go.Proofs.Ytjnbnfmlpdnngaa
open Go.RowKit Go.Shelf

attribute [local go_sem] Oper.semAt_some

theorem ownFrom_and {β : Type} {B : Nat} {p : β → Prop} {I : β → World → Prop} (h : OwnFrom B I) : OwnFrom B (fun s W => p s ∧ I s W) :=
  fun s W W' row ⟨hp, hs⟩ hg hr => ⟨hp, h s W W' row hs hg hr⟩
theorem calm_of {B : Nat} {w0 w : World} {L : List Ent} (h : Mem B w0 w L) {L' : List Ent} (hs : ∀ x ∈ L', x ∈ L) : ∀ x ∈ L', x.Calm w.heap.size :=
  fun x hx _ _ _ b hb => .inl (h.lt (hs x hx) b hb).2
theorem mem_of_target {l : List V} {n : Int} (h : n ∈ targets l) : (⟨true, n⟩ : V) ∈ l := by
  unfold targets at h
  simp only [List.mem_map, List.mem_filter] at h
  obtain ⟨v, ⟨hv, hr⟩, rfl⟩ := h
  obtain ⟨r, m⟩ := v
  simp only at hr
  subst hr; exact hv
theorem ref_in' {g : G} (hG : Good g) {n : Int} (hv : (⟨true, n⟩ : V) ∈ allV g) : 0 ≤ n ∧ n < g.objs.length := by
  have hb := hG.vals _ hv
  simp [badC] at hb
  omega
theorem ownFrom_keeps {β : Type} {B : Nat} {w : World} (h : w.heap.size ≤ B) : OwnFrom B (fun (_ : β) W => KeepsOthers w W) := by
  intro s W W' row hs hg hr
  refine ⟨Nat.le_trans hs.size hg.size, fun k o hk ho => ?_⟩
  have h1 := hs.same k o hk ho
  refine (hg.block k (Array.getElem?_eq_some_iff.1 h1).1 ?_).trans h1
  intro e
  have h2 := (hr k e.symm).1
  have h3 := (Array.getElem?_eq_some_iff.1 hk).1
  omega
theorem keepsOthers_put {w W : World} {D : Nat} {o : Obj} (h : KeepsOthers w W) (hD : w.heap.size ≤ D) : KeepsOthers w (W.putObj D o) := by
  refine ⟨by simpa [World.putObj] using h.size, fun k o' hk ho => ?_⟩
  have h3 := (Array.getElem?_eq_some_iff.1 hk).1
  rw [World.putObj_heap_other (by omega)]
  exact h.same k o' hk ho
/-- At the function's return the marks are taken; what lay ahead of the call is kept. -/
theorem leaves_marks2 {F : Fence} {n : Nat} {P : Program} {fn : Func} {tmps : Array Value} {R : Ending → World → Prop} {B : Nat} {w0 w : World} {L : List Ent} {v : Value} :
    ∀ (Ds : List Nat) (W : World), Mem B w0 W (Ds.map edef ++ L) → KeepsOthers w W → (∀ D ∈ Ds, w.heap.size ≤ D) → (∀ W', Mem B w0 W' L → KeepsOthers w W' → (results fn tmps).run P W' = .ok v W' ∧ R (.returned v) W') →
      LeavesInM F n P fn tmps R (Ds.map fun D => { target := .collected D, args := #[] }) .returning W
  | [], W, h, hk, _, fin => ⟨v, (fin W h hk).1, (fin W h hk).2⟩
  | D :: Ds, W, h, hk, hD0, fin => by
    have hD : W.heap[D]? = some (.deferred (some [])) := by
      obtain ⟨_, x, hx, rfl⟩ := h.ok (edef D) (by simp)
      exact hx
    exact ⟨by simp, .inl ⟨D, _, rfl, run_takeDeferred hD, leaves_marks2 Ds _ (h.putDef _) (keepsOthers_put hk (hD0 D (by simp))) (fun D hD => hD0 D (List.mem_cons_of_mem _ hD)) fin⟩⟩
theorem Mem.fresh0 {B : Nat} {w0 w : World} {L : List Ent} (h : Mem B w0 w L) (e : TypeId) : Mem B w0 (w.alloc (.cells #[] e)) (rowI e (.slice (some ⟨w.heap.size, 0, none⟩) 0 0) [] :: L) := by
  refine (h.alloc_ _).cons _ ⟨?_, ?_⟩ ?_
  · intro b e; cases e; exact ⟨h.base, by simp⟩
  · exact ⟨rfl, .inr ⟨w.heap.size, 0, #[], rfl, heap_alloc_new w _, Nat.le_refl _, Nat.zero_le _, rfl, rfl⟩⟩
  · intro y hy b e e'
    cases e
    exact absurd (h.lt hy _ e').2 (Nat.lt_irrefl _)
theorem of_targets {l : List V} {j : Int} (h : j ∈ targets l) : (⟨true, j⟩ : V) ∈ l := by
  unfold targets at h
  obtain ⟨⟨r, n⟩, hx, rfl⟩ := List.mem_map.1 h
  obtain ⟨h1, h2⟩ := List.mem_filter.1 hx
  obtain rfl : r = true := h2
  exact h1
end Go.Proofs.Ytjnbnfmlpdnngaa
