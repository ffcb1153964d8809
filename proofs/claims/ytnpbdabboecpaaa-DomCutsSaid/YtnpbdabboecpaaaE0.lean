/- Who keeps whom: a pass over the order. Plain. -/
import Derived.Test.YtnpbdabboecpaaaD2
namespace Go.Proofs.Ytnpbdabboecpaaa.Dom
open Go.Proofs.Ytnpbdabboecpaaa

section
variable {D : Dg} {Dm : Int → Int → Prop} {U V : Int → Int} {p : Nat}
theorem anc_congr (h : ∀ y, 0 ≤ y → U y = V y) {a x : Int} (ha : Anc U a x) : Anc V a x := by
  induction ha with
  | here h0 => exact .here h0
  | up h0 _ ih => exact .up h0 (by rw [← h _ h0]; exact ih)
theorem inv_congr (hD : D.Ok) (h : ∀ y, 0 ≤ y → U y = V y) (hi : Inv D Dm U p) : Inv D Dm V p := by
  have hA : ∀ a x, Anc U a x ↔ Anc V a x := fun a x => ⟨anc_congr h, anc_congr (fun y hy => (h y hy).symm)⟩
  have hR : ∀ x, Rk D V x → Rk D U x := fun x hx => ⟨hx.1, by rw [h x (hD.pos x hx.1)]; exact hx.2⟩
  have hR2 : ∀ x, Rk D U x → Rk D V x := fun x hx => ⟨hx.1, by rw [← h x (hD.pos x hx.1)]; exact hx.2⟩
  have hC : ∀ j, Cons V j → Cons U j := fun j hj ⟨h0, h1⟩ => hj ⟨h0, by rw [← h j h0]; exact h1⟩
  have hC2 : ∀ j, Cons U j → Cons V j := fun j hj ⟨h0, h1⟩ => hj ⟨h0, by rw [h j h0]; exact h1⟩
  have hU : ∀ x, D.P x → U x = V x := fun x hx => h x (hD.pos x hx)
  refine ⟨fun x hx => ?_, fun y hy hp => ?_, fun x y hx hy hlt => ?_, fun x c hx hj => ?_, fun x hx j hj hf k hk hp => ?_, fun x v hx hd => ?_⟩
  · rw [← hU x hx.1]
    rcases hi.st x (hR x hx) with h1 | ⟨h1, h2⟩
    · exact .inl h1
    · exact .inr ⟨hR2 _ h1, h2⟩
  · rw [← hU y hy]; exact hi.low y hy hp
  · rw [← hU y hy]; exact hi.down x y (hR x hx) hy hlt
  · rw [← hU x hx.1]
    exact (hA _ _).1 (hi.big x c (hR x hx) fun j hm hc => (hA _ _).2 (hj j hm (hC2 j hc)))
  · rw [← hU x hx.1] at hk
    exact (hA _ _).1 (hi.fw x (hR x hx) j hj hf k ((hA _ _).2 hk) hp)
  · rw [← hU x hx.1]
    exact (hA _ _).1 (hi.sem x v (hR x hx) hd)
/-- What is left to do: less with every turn that changes something. -/
def val (D : Dg) (N : Nat) (u : Int) : Nat := if u = -2 then N + 1 else if u < 0 then 0 else D.R u + 1
def phi (D : Dg) (N : Nat) (F : List Int) (U : Int → Int) : Nat := (F.map fun x => val D N (U x)).sum
theorem sum_le {f g : Int → Nat} : ∀ {F : List Int}, (∀ x ∈ F, f x ≤ g x) → (F.map f).sum ≤ (F.map g).sum
  | [], _ => Nat.le_refl _
  | a :: F, h => by
    have h1 := h a (by simp)
    have h2 := sum_le (F := F) (fun x hx => h x (List.mem_cons_of_mem _ hx))
    simp only [List.map_cons, List.sum_cons]
    omega
theorem sum_lt {f g : Int → Nat} {i : Int} : ∀ {F : List Int}, (∀ x ∈ F, f x ≤ g x) → i ∈ F → f i < g i → (F.map f).sum < (F.map g).sum
  | [], _, hi, _ => by simp at hi
  | a :: F, h, hi, hl => by
    have h1 := h a (by simp)
    have h2 := sum_le (F := F) (fun x hx => h x (List.mem_cons_of_mem _ hx))
    simp only [List.map_cons, List.sum_cons]
    rcases List.mem_cons.1 hi with rfl | hi
    · omega
    · have := sum_lt (F := F) (fun x hx => h x (List.mem_cons_of_mem _ hx)) hi hl
      omega
theorem val_lt (hD : D.Ok) {N : Nat} {x m : Int} (hN : D.R x < N) (h1 : m = -1 ∨ (D.P m ∧ D.R m < D.R x)) (hne : m ≠ U x) (h2 : U x ≠ -2 → m = U x ∨ (0 ≤ U x ∧ (m = -1 ∨ D.R m < D.R (U x)))) : val D N m < val D N (U x) := by
  rcases h1 with rfl | ⟨h1, h1b⟩
  · have hm : val D N (-1) = 0 := by simp [val]
    rw [hm]
    unfold val
    by_cases hu : U x = -2
    · rw [if_pos hu]; omega
    · rcases h2 hu with h | ⟨h3, _⟩
      · exact absurd h hne
      · rw [if_neg hu, if_neg (by omega)]; omega
  · have hm0 := hD.pos m h1
    have hm : val D N m = D.R m + 1 := by unfold val; rw [if_neg (by omega), if_neg (by omega)]
    rw [hm]
    unfold val
    by_cases hu : U x = -2
    · rw [if_pos hu]; omega
    · rcases h2 hu with h | ⟨h3, h4⟩
      · exact absurd h hne
      · rw [if_neg hu, if_neg (by omega)]
        rcases h4 with h | h
        · omega
        · omega
end
/-- Amid a pass. -/
structure PassI (D : Dg) (Dm : Int → Int → Prop) (n N : Nat) (F U0 U : List Int) (ch : Bool) (p : Nat) : Prop where
  inv : Inv D Dm (upAt U) p
  len : U.length = n
  out : ∀ x : Int, 0 ≤ x → x < n → x ∉ F → upAt U x = -2
  same : ch = false → U = U0 ∧ ∀ x ∈ F, D.R x < p → Mt D (upAt U) (D.pre x) (upAt U x)
  less : ch = true → phi D N F (upAt U) < phi D N F (upAt U0)
  le : phi D N F (upAt U) ≤ phi D N F (upAt U0)
theorem PassI.keep {D : Dg} {Dm : Int → Int → Prop} {n N : Nat} {F U0 U : List Int} {ch : Bool} {p : Nat} (hD : D.Ok) (hDm : DmOk D Dm) (hP : ∀ x ∈ F, D.P x) (h : PassI D Dm n N F U0 U ch p) {x : Int} (hx : x ∈ F) (hR : D.R x = p)
    (hm : Mt D (upAt U) (D.pre x) (upAt U x)) : PassI D Dm n N F U0 U ch (p + 1) := by
  have ht := (h.inv.turn hD hDm (hP x hx) hR hm).1
  have hid : updU (upAt U) x (upAt U x) = upAt U := by
    funext y
    unfold updU
    split
    · rename_i e; rw [e]
    · rfl
  rw [hid] at ht
  refine ⟨ht, h.len, h.out, fun hc => ⟨(h.same hc).1, fun y hy hyp => ?_⟩, h.less, h.le⟩
  by_cases e : D.R y < p
  · exact (h.same hc).2 y hy e
  · have : y = x := hD.inj y x (hP y hy) (hP x hx) (by omega)
    subst this; exact hm
theorem PassI.turn {D : Dg} {Dm : Int → Int → Prop} {n N : Nat} {F U0 U : List Int} {ch : Bool} {p i : Nat} (hD : D.Ok) (hDm : DmOk D Dm) (hP : ∀ x ∈ F, D.P x) (hN : ∀ x ∈ F, D.R x < N) (h : PassI D Dm n N F U0 U ch p) (hx : (i : Int) ∈ F) (hi : i < n) (hR : D.R (i : Int) = p)
    {m : Int} (hm : Mt D (upAt U) (D.pre (i : Int)) m) (hne : m ≠ upAt U (i : Int)) : PassI D Dm n N F U0 (U.set i m) true (p + 1) := by
  obtain ⟨ht, h1, h2⟩ := h.inv.turn hD hDm (hP _ hx) hR hm
  have hset : ∀ y : Int, 0 ≤ y → upAt (U.set i m) y = updU (upAt U) (i : Int) m y := fun y hy => upAt_set (by rw [h.len]; exact hi) m hy
  have hphi : phi D N F (upAt (U.set i m)) < phi D N F (upAt U) := by
    have hv := val_lt hD (U := upAt U) (hN _ hx) h1 hne h2
    refine sum_lt (i := (i : Int)) (fun y hy => ?_) hx ?_
    · show val D N (upAt (U.set i m) y) ≤ val D N (upAt U y)
      rw [hset y (hD.pos y (hP y hy))]
      unfold updU
      split
      · rename_i e; rw [e]; exact Nat.le_of_lt hv
      · exact Nat.le_refl _
    · show val D N (upAt (U.set i m) (i : Int)) < val D N (upAt U (i : Int))
      rw [hset _ (by omega), updU_same]
      exact hv
  refine ⟨inv_congr hD (fun y hy => (hset y hy).symm) ht, by rw [List.length_set]; exact h.len, fun x h0 h3 h4 => ?_, (fun hc => (by cases hc)), fun _ => Nat.lt_of_lt_of_le hphi h.le, Nat.le_trans (Nat.le_of_lt hphi) h.le⟩
  rw [hset x h0, updU_ne (fun e => h4 (by rw [e]; exact hx))]
  exact h.out x h0 h3 h4
theorem PassI.start {D : Dg} {Dm : Int → Int → Prop} {n N : Nat} {F U : List Int} (hi : Inv D Dm (upAt U) 0) (hl : U.length = n) (ho : ∀ x : Int, 0 ≤ x → x < n → x ∉ F → upAt U x = -2) : PassI D Dm n N F U U false 0 :=
  ⟨hi, hl, ho, (fun _ => ⟨rfl, fun _ _ h => absurd h (Nat.not_lt_zero _)⟩), (fun h => (by cases h)), Nat.le_refl _⟩
end Go.Proofs.Ytnpbdabboecpaaa.Dom
