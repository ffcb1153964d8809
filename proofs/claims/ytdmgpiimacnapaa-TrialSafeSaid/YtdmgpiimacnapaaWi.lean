/- The plain law of WeakMore; a row that holds nothing yet. -/
import Derived.Test.YtdmgpiimacnapaaWh
import Derived.Test.YtdmgpiimacnapaaDr
namespace Go.Proofs.Ytdmgpiimacnapaa
open Go.RowKit Go.Shelf

theorem kindAt_set {ks : List Int} {i : Nat} (hi : i < ks.length) (x : Int) : kindAt (ks.set i 0) x = kindAt ks x ∨ kindAt (ks.set i 0) x = 0 := by
  unfold kindAt
  rw [List.getD_eq_getElem?_getD, List.getD_eq_getElem?_getD, List.getElem?_set]
  by_cases h : i = x.toNat
  · right; rw [if_pos h]; simp [hi]
  · left; rw [if_neg h]
theorem kindAt_zero (n : Nat) (x : Int) : kindAt (List.replicate n 0) x = 0 := by
  unfold kindAt
  rw [List.getD_eq_getElem?_getD, List.getElem?_replicate]
  split <;> rfl
theorem InStrong.plain {g : G} {ks ks' : List Int} {S : Int → Prop} {i : Int} {v : V} (h : InStrong g ks S i v) (hk : ∀ x, kindAt ks' x = kindAt ks x ∨ kindAt ks' x = 0) : InStrong g ks' S i v := by
  rcases hk i with e | e
  · unfold InStrong at h ⊢; rw [e]; exact h
  · exact .inl ⟨e, h.field⟩
theorem WeakS.more {g : G} {ks ks' : List Int} {K K' : List Bool} (h : WeakS g ks K) (h' : WeakS g ks' K') (hk : ∀ x, kindAt ks' x = kindAt ks x ∨ kindAt ks' x = 0) : ∀ x ∈ listK K, x ∈ listK K' := by
  intro x hx
  refine mem_listK.2 (h.inv.least (fun j => kp K' j = true) ?_ (fun v hv hr => h'.inv.root v hv hr) x (mem_listK.1 hx))
  intro i v hi hv hr
  exact h'.keeps i v hi (hv.plain hk) hr
theorem refersB_iff {l : List V} {i : Int} : refersB l i = true ↔ (⟨true, i⟩ : V) ∈ l := by simp [refersB]
theorem WeakS.none {g : G} {ks : List Int} {K : List Bool} (h : WeakS g ks K) (he : listK K = []) {l : List Int} (hr : ReachR g l) : l = [] := by
  refine List.eq_nil_iff_forall_not_mem.2 fun x hx => ?_
  have hc := hr.sound x hx (fun _ => False) ⟨fun j _ hj => ?_, fun _ _ _ _ hf _ => hf⟩
  · exact hc
  · have := mem_listK.2 (h.inv.root _ (refersB_iff.1 hj) rfl)
    rw [he] at this; cases this
theorem kindOf_set {g : G} {ks : List Int} (h : KindOf g ks) (i : Nat) : KindOf g (ks.set i 0) := by
  refine ⟨h.1, by simp [h.2.1], ?_⟩
  intro x hx
  rcases List.mem_or_eq_of_mem_set hx with h1 | rfl
  · exact h.2.2 x h1
  · exact ⟨by omega, by omega⟩
theorem kindOf_zero {g : G} {ks : List Int} (h : KindOf g ks) : KindOf g (List.replicate ks.length 0) := by
  refine ⟨h.1, by simp [h.2.1], ?_⟩
  intro x hx
  have := (List.mem_replicate.1 hx).2
  subst this
  exact ⟨by omega, by omega⟩
theorem Mem.fresh0 {B : Nat} {w0 w : World} {L : List Ent} (h : Mem B w0 w L) (e : TypeId) : Mem B w0 (w.alloc (.cells #[] e)) (rowI e (.slice (some ⟨w.heap.size, 0, none⟩) 0 0) [] :: L) := by
  refine (h.alloc_ _).cons _ ⟨?_, ?_⟩ ?_
  · intro b e; cases e; exact ⟨h.base, by simp⟩
  · exact ⟨rfl, .inr ⟨w.heap.size, 0, #[], rfl, heap_alloc_new w _, Nat.le_refl _, Nat.zero_le _, rfl, rfl⟩⟩
  · intro y hy b e e'
    cases e
    exact absurd (h.lt hy _ e').2 (Nat.lt_irrefl _)
end Go.Proofs.Ytdmgpiimacnapaa
