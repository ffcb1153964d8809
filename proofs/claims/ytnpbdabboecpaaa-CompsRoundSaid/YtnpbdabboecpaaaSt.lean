/- A region that draws, in a round of a range over a function: reads ahead, one tail (a call). -/
import Derived.Test.YtnpbdabboecpaaaFd
import Derived.StillTailTactics
namespace Go.Proofs.Ytnpbdabboecpaaa
open Go.RowKit Go.Shelf

def noDefer (l : List Oper) : Bool := l.all fun o => match o.op with | .defer _ => false | _ => true
theorem noDefer_spec {l : List Oper} (h : noDefer l = true) {i : Nat} {o : Oper} (ho : l.toArray[i]? = some o) : ∀ c, o.op ≠ .defer c := by
  intro c e
  have hm : o ∈ l := by
    have : l[i]? = some o := by simpa using ho
    exact List.mem_of_getElem? this
  have := List.all_eq_true.1 h o hm
  rw [e] at this; simp at this

variable {P : Program} {n r : Nat}

theorem oper_round {o : Oper} {a : Act} {w : World} {K : Act → World → Prop} {Q : Exit → Act → World → Prop} (hd : ∀ c, o.op ≠ .defer c) (h : o.wp P a w K Q) : o.wpIn (Fence.wide.inRound r) n P a w K Q := by
  refine ⟨fun _ _ => trivial, ?_⟩
  rw [Oper.semAt_eq _ _ _ hd]
  unfold Oper.wp at h
  generalize (execOp a.eval o).run P w = res at *
  cases res with
  | ok x w' =>
    cases x with
    | enter f args => exact ⟨fun hx => (by cases hx), (callsIn_wide (n := n - 1)).2 h⟩
    | row f args => exact ⟨fun hx => (by cases hx), fun c cs _ => let ⟨v, w', h1, h2⟩ := h c cs; ⟨v, w', h1, stepsIn_wide.2 h2⟩⟩
    | round l f tmps assign body => exact h.elim
    | _ => exact h
  | halt x w' => cases x <;> first | exact h | exact h.elim

theorem any_round {l : List Oper} {Q : Exit → Act → World → Prop} (hd : noDefer l = true) (hQ : ¬ LetsOut Q) : ∀ (fuel : Nat) (listed : Array Bool) (a : Act) (w : World),
    wpAny P .any l.toArray Q fuel listed a w → wpAnyIn (Fence.wide.inRound r) n P .any l.toArray Q fuel listed a w
  | 0, _, _, _, h => h
  | fuel + 1, listed, a, w, h => by
    refine ⟨h.1, fun i hi => ?_⟩
    have h1 := h.2 i hi
    unfold wpOp at h1
    unfold wpOpIn
    cases ho : l.toArray[i]? with
    | none => rw [ho] at h1; exact any_round hd hQ _ _ _ _ h1
    | some o =>
      rw [ho] at h1
      simp only [] at h1 ⊢
      split
      · rename_i hw
        rw [if_pos hw] at h1
        rcases h1 with h1 | ⟨_, h1⟩
        · exact Oper.wpIn_mono (fun a w => any_round hd hQ _ _ a w) (oper_round (noDefer_spec hd ho) h1)
        · exact (hQ h1).elim
      · rename_i hw
        rw [if_neg hw] at h1
        exact ⟨fun _ _ => trivial, any_round hd hQ _ _ _ _ h1⟩

theorem region_round_tail {id : Nat} {Q : Exit → Act → World → Prop} {a : Act} {w : World} {l : List Oper} (k : Nat) (hm : P.follows .mixedOrders = true) (hB : Region.lexTailB .any l.toArray k = true) (hd : noDefer l = true) (hQ : ¬ LetsOut Q)
    (h : wpStill P l.toArray { w with drawn := w.drawn + 1 } (fun a' => wpList P l.toArray Q (l.drop k) a' { w with drawn := w.drawn + 1 }) (l.take k) a) : (Code.region id l.toArray true).wpIn (Fence.wide.inRound r) n P Q a w := by
  refine wpIn_region_any hm (any_round hd hQ _ _ _ _ ?_)
  simp only [Region.lexTailB, Bool.and_eq_true, decide_eq_true_eq] at hB
  obtain ⟨⟨⟨⟨hsel, hk⟩, hs⟩, hc⟩, hlex⟩ := hB
  have hk' : k < l.length := by simpa using hk
  have hlen : (l.take k).length = k := by simp; omega
  have hdrop : (l.drop k).length = l.toArray.size - k := by simp
  have head := wpAnyL_lex (md := .any) (g := l.toArray.size - k) hsel hs hc hk (l.take k) 0 _ a (fun j hj => by
    have hj' : j < k := by rw [hlen] at hj; exact hj
    simp [hj']) (by simpa using hlen)
    (show HeadInv .any l.toArray k (Array.replicate l.toArray.size false) from ⟨by simp, fun j oj _ hl => (by rw [getD_replicate_false] at hl; cases hl), fun t _ ht => getD_in (by simpa using ht) (getD_replicate_false _ _)⟩) (by rw [hlen]; exact hlex) h
  have whole := wpAny_of_head (Q' := Q) (g := l.toArray.size - k) (fun listed a' hL => by
    have tail := wpAny_of_seq (md := .any) (Q' := Q) (l.drop k) k listed a' { w with drawn := w.drawn + 1 } (fun j => by simp [List.getElem?_drop]) (by rw [hdrop]; exact hL.1) hL.2
    rwa [hdrop] at tail) _ _ _ head
  rw [hlen, show k + (l.toArray.size - k) = l.toArray.size by omega] at whole
  exact whole
end Go.Proofs.Ytnpbdabboecpaaa
