/- The plain law of trial.keep: what it keeps. -/
import Derived.Test.YtdmgpiimacnapaaTa
namespace Go.Proofs.Ytdmgpiimacnapaa
open Go.RowKit Go.Shelf

structure KeepT (g : G) (st st' : List Int) (xs : List Int) : Prop where
  len : st'.length = st.length
  mono : ∀ j : Nat, st'.getD j 0 = st.getD j 0 ∨ (st.getD j 0 = 1 ∧ st'.getD j 0 = 2)
  has : ∀ x ∈ xs, ¬ on st' x
  new : ∀ i : Nat, st.getD i 0 = 1 → st'.getD i 0 = 2 → ∀ j ∈ targets (fieldsAt g i), ¬ on st' j
  least : ∀ S : Int → Prop, (∀ i, S i → ∀ j ∈ targets (fieldsAt g i), S j) → (∀ x ∈ xs, S x) → ∀ j : Nat, st.getD j 0 = 1 → st'.getD j 0 = 2 → S (j : Int)
theorem KeepT.nil (g : G) (st : List Int) : KeepT g st st [] := ⟨rfl, fun _ => .inl rfl, by simp, fun i h1 h2 => by omega, fun _ _ _ j h1 h2 => by omega⟩
theorem KeepT.old {g : G} {st : List Int} {x : Int} (h : ¬ on st x) : KeepT g st st [x] :=
  ⟨rfl, fun _ => .inl rfl, by intro y hy; simp at hy; subst hy; exact h, fun i h1 h2 => by omega, fun _ _ _ j h1 h2 => by omega⟩
theorem KeepT.off {g : G} {st st' xs : List Int} (h : KeepT g st st' xs) {j : Int} (hj : ¬ on st j) : ¬ on st' j := by
  rintro ⟨h0, h1⟩
  rcases h.mono j.toNat with h2 | ⟨_, h2⟩
  · exact hj ⟨h0, by omega⟩
  · omega
theorem KeepT.trans {g : G} {st st1 st2 xs ys : List Int} (h : KeepT g st st1 xs) (h2 : KeepT g st1 st2 ys) : KeepT g st st2 (xs ++ ys) := by
  refine ⟨h2.len.trans h.len, ?_, ?_, ?_, ?_⟩
  · intro j
    have a := h.mono j
    have b := h2.mono j
    omega
  · intro x hx
    rcases List.mem_append.1 hx with h1 | h1
    · exact h2.off (h.has x h1)
    · exact h2.has x h1
  · intro i h0 h3 j hj
    rcases h.mono i with a | ⟨_, a⟩
    · exact h2.new i (by omega) h3 j hj
    · exact h2.off (h.new i h0 a j hj)
  · intro S hS hxs j h0 h3
    rcases h.mono j with a | ⟨_, a⟩
    · exact h2.least S hS (fun z hz => hxs z (List.mem_append_right _ hz)) j (by omega) h3
    · exact h.least S hS (fun z hz => hxs z (List.mem_append_left _ hz)) j h0 a
theorem KeepT.take {g : G} {st st1 : List Int} {x : Nat} (hx : x < st.length) (h0 : st.getD x 0 = 1) (h : KeepT g (st.set x 2) st1 (targets (fieldsAt g x))) : KeepT g st st1 [(x : Int)] := by
  have hs := fun y => getD_put st hx 2 y
  refine ⟨by rw [h.len]; simp, ?_, ?_, ?_, ?_⟩
  · intro j
    have a := h.mono j
    rw [hs] at a
    by_cases e : j = x
    · subst e; rw [if_pos rfl] at a; omega
    · rw [if_neg e] at a; exact a
  · intro y hy
    simp at hy; subst hy
    refine h.off ?_
    rintro ⟨_, h1⟩
    rw [hs, Int.toNat_natCast, if_pos rfl] at h1
    omega
  · intro i h1 h2 j hj
    by_cases e : i = x
    · subst e; exact h.has j hj
    · exact h.new i (by rw [hs, if_neg e]; exact h1) h2 j hj
  · intro S hS hxs j h1 h2
    by_cases e : j = x
    · subst e; exact hxs _ (by simp)
    · exact h.least S hS (fun z hz => hS _ (hxs _ (by simp)) z hz) j (by rw [hs, if_neg e]; exact h1) h2
end Go.Proofs.Ytdmgpiimacnapaa
