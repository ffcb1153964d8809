/- A law on one operation of a list, carried into a fence (a round, or a function whose rounds range over functions). -/
import Derived.Test.YtjnbnfmlpdnngaaBase3
import Derived.OwnWalkIn
namespace Go.Proofs.Ytjnbnfmlpdnngaa
open Go.RowKit Go.Shelf

def Freed (F : Fence) : Prop := F = Fence.wide ∨ ∃ r, F = Fence.wide.inRound r
theorem freed_wide : Freed Fence.wide := .inl rfl
theorem freed_round (r : Nat) : Freed (Fence.wide.inRound r) := .inr ⟨r, rfl⟩

section
variable {F : Fence} {n : Nat} {P : Program} {ops : Array Oper} {Q : Exit → Act → World → Prop} {a : Act} {w : World} {rest : List Oper} {o : Oper}
theorem oper_free (hF : Freed F) (hd : ∀ c, o.op ≠ .defer c) {K : Act → World → Prop} {Qs : Exit → Act → World → Prop} (hQs : ∀ e a w, e ≠ .normal → ¬ Qs e a w) (h : o.wp P a w K Qs) : o.wpIn F n P a w K Q := by
  have hfn : ∀ f, F.fn f := by rcases hF with rfl | ⟨r, rfl⟩ <;> exact fun _ => trivial
  have hcalls : ∀ {f : FuncId} {args : Array Value} {w : World} {R : Ending → World → Prop}, Calls P f args w R → CallsIn F (n - 1) P f args w R := by
    rcases hF with rfl | ⟨r, rfl⟩
    · exact fun h => (callsIn_wide (n := n - 1)).2 h
    · exact fun h => (callsIn_wide (n := n - 1)).2 h
  have hsteps : F.depth.isSome = true → 1 ≤ n := by rcases hF with rfl | ⟨r, rfl⟩ <;> exact fun h => by cases h
  refine ⟨fun f _ => hfn f, ?_⟩
  rw [Oper.semAt_eq _ _ _ hd]
  unfold Oper.wp at h
  generalize (execOp a.eval o).run P w = res at *
  cases res with
  | ok x w' =>
    cases x with
    | enter f args =>
      refine ⟨hsteps, hcalls (Calls.mono h ?_)⟩
      intro e w2 hq
      cases e with
      | returned v => exact hq
      | panicked c => exact (hQs _ _ _ (by simp) hq).elim
      | outgrown => obtain ⟨a3, w3, h3⟩ := hq; exact (hQs _ _ _ (by simp) h3).elim
    | row f args =>
      rcases hF with rfl | ⟨r, rfl⟩
      · exact ⟨hsteps, fun c cs _ => let ⟨v, w', h1, h2⟩ := h c cs; ⟨v, w', h1, stepsIn_wide.2 h2⟩⟩
      · exact ⟨hsteps, fun c cs _ => let ⟨v, w', h1, h2⟩ := h c cs; ⟨v, w', h1, stepsIn_wide.2 h2⟩⟩
    | round l f tmps assign body => exact h.elim
    | _ => exact h
  | halt x w' => cases x <;> first | exact (hQs _ _ _ (by simp) h).elim | exact h.elim

/-- One operation by its law outside. -/
theorem list_in (hF : Freed F) (hg : o.guard = none) (hd : ∀ c, o.op ≠ .defer c) (h : wpList P ops (fun e a' w' => e = .normal ∧ wpListIn F n P ops Q rest a' w') [o] a w) : wpListIn F n P ops Q (o :: rest) a w := by
  refine wpListIn_plain hg fun K hK => ?_
  unfold wpList at h
  have hw : Region.wanted o (yielded ops a.tmps) = true := by simp [Region.wanted, hg]
  rw [if_pos hw] at h
  replace h := h.resolve_right (fun h => by obtain ⟨_, a, w, h, _⟩ := h; cases h)
  refine Oper.wpIn_mono (K := fun a w => wpList P ops (fun e a' w' => e = .normal ∧ wpListIn F n P ops Q rest a' w') [] a w) ?_ (oper_free hF hd ?_ h)
  · intro a w h; exact hK _ _ h.2
  · intro e a w hne h; exact hne h.1
end
end Go.Proofs.Ytjnbnfmlpdnngaa
