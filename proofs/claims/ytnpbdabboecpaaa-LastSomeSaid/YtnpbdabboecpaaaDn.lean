/- The plain law of ragpickerref.Dist: what it finds is the least closed set. -/
import Derived.Test.YtnpbdabboecpaaaF0
import Derived.Test.YtnpbdabboecpaaaG2
namespace Go.Proofs.Ytnpbdabboecpaaa
def dAt (d : List Int) (i : Nat) : Int := d.getD i (-1)
theorem dAt_some {d : List Int} {i : Nat} {x : Int} (h : d[i]? = some x) : dAt d i = x := by unfold dAt; rw [List.getD_eq_getElem?_getD, h]; rfl
theorem dAt_out {d : List Int} {i : Nat} (h : d.length ≤ i) : dAt d i = -1 := by unfold dAt; rw [List.getD_eq_getElem?_getD, List.getElem?_eq_none h]; rfl
theorem dAt_lt {d : List Int} {i : Nat} (h : 0 ≤ dAt d i) : i < d.length := by
  rcases Nat.lt_or_ge i d.length with h1 | h1
  · exact h1
  · rw [dAt_out h1] at h; omega
theorem dAt_mem {d : List Int} {i : Nat} (h : 0 ≤ dAt d i) : dAt d i ∈ d := by
  have := dAt_lt h
  unfold dAt
  rw [List.getD_eq_getElem?_getD, List.getElem?_eq_getElem this]
  exact List.getElem_mem this
theorem dAt_set {d : List Int} {i : Nat} (hi : i < d.length) (x : Int) (y : Nat) : dAt (d.set i x) y = if y = i then x else dAt d y := by
  unfold dAt
  rw [List.getD_eq_getElem?_getD, List.getElem?_set, List.getD_eq_getElem?_getD]
  by_cases h : i = y
  · subst h; simp [hi]
  · rw [if_neg h, if_neg (fun e => h e.symm)]
def refF (g : G) (i j : Nat) : Prop := refersB (fieldsAt g i) j = true
def ClosedN (g : G) (S : Nat → Prop) : Prop :=
  (∀ j, j < g.objs.length → refersB g.roots j = true → S j) ∧ ∀ i j, i < g.objs.length → j < g.objs.length → S i → refF g i j → S j
/-- The roots' targets known, the first k of them. -/
structure D0 (g : G) (k : Nat) (d : List Int) : Prop where
  len : d.length = g.objs.length
  val : ∀ i, i < k → dAt d i = if refersB g.roots i = true then 0 else -1
theorem D0.start (g : G) : D0 g 0 (List.replicate g.objs.length 0) := ⟨by simp, fun _ h => absurd h (Nat.not_lt_zero _)⟩
theorem D0.yes {g : G} {k : Nat} {d : List Int} (h : D0 g k d) (hk : k < g.objs.length) (hr : refersB g.roots k = true) : D0 g (k + 1) ((d.set k (-1)).set k 0) := by
  refine ⟨by simp [h.len], fun i hi => ?_⟩
  rw [dAt_set (by simp [h.len, hk]), dAt_set (by simp [h.len, hk])]
  by_cases hik : i = k
  · subst hik; simp [hr]
  · rw [if_neg hik, if_neg hik]; exact h.val i (by omega)
theorem D0.no {g : G} {k : Nat} {d : List Int} (h : D0 g k d) (hk : k < g.objs.length) (hr : refersB g.roots k = false) : D0 g (k + 1) (d.set k (-1)) := by
  refine ⟨by simp [h.len], fun i hi => ?_⟩
  rw [dAt_set (by simp [h.len, hk])]
  by_cases hik : i = k
  · subst hik; simp [hr]
  · rw [if_neg hik]; exact h.val i (by omega)
structure DInv (g : G) (t i j : Nat) (d : List Int) : Prop where
  len : d.length = g.objs.length
  sound : ∀ x, 0 ≤ dAt d x → ∀ S, ClosedN g S → S x
  roots : ∀ x, x < g.objs.length → refersB g.roots x = true → 0 ≤ dAt d x
  low : ∀ x (k : Nat), dAt d x = (k : Int) + 1 → ∃ y, dAt d y = (k : Int)
  done : ∀ x, 0 ≤ dAt d x → (dAt d x < t ∨ dAt d x = t ∧ x < i) → ∀ y, y < g.objs.length → refF g x y → 0 ≤ dAt d y
  cur : dAt d i = t → ∀ y, y < j → refF g i y → 0 ≤ dAt d y
theorem D0.all {g : G} {d : List Int} (h : D0 g g.objs.length d) : DInv g 0 0 0 d := by
  have hv : ∀ x, 0 ≤ dAt d x → x < g.objs.length ∧ refersB g.roots x = true ∧ dAt d x = 0 := by
    intro x hx
    have h1 := dAt_lt hx
    rw [h.len] at h1
    have h2 := h.val x h1
    by_cases hr : refersB g.roots x = true
    · rw [if_pos hr] at h2; exact ⟨h1, hr, h2⟩
    · rw [if_neg hr] at h2; omega
  refine ⟨h.len, ?_, ?_, ?_, ?_, ?_⟩
  · intro x hx S hS
    exact hS.1 x (hv x hx).1 (hv x hx).2.1
  · intro x hx hr
    have h2 := h.val x hx
    rw [if_pos hr] at h2; omega
  · intro x k hx
    have := (hv x (by omega)).2.2
    omega
  · intro x hx h1
    have := (hv x hx).2.2
    omega
  · intro _ y hy; exact absurd hy (Nat.not_lt_zero _)
theorem DInv.skip {g : G} {t i j : Nat} {d : List Int} (h : DInv g t i j d) (hn : 0 ≤ dAt d j ∨ refersB (fieldsAt g i) j = false) : DInv g t i (j + 1) d := by
  refine ⟨h.len, h.sound, h.roots, h.low, h.done, fun hi y hy hr => ?_⟩
  rcases Nat.lt_or_ge y j with h1 | h1
  · exact h.cur hi y h1 hr
  · obtain rfl : y = j := by omega
    rcases hn with h2 | h2
    · exact h2
    · unfold refF at hr; rw [h2] at hr; cases hr
theorem DInv.hit {g : G} {t i j : Nat} {d : List Int} (h : DInv g t i j d) (hj : j < g.objs.length) (hd : dAt d i = t) (hneg : dAt d j < 0) (hr : refersB (fieldsAt g i) j = true) : DInv g t i (j + 1) (d.set j ((t : Int) + 1)) := by
  have hs := fun x => dAt_set (d := d) (i := j) (by rw [h.len]; exact hj) ((t : Int) + 1) x
  have hil : i < g.objs.length := by rw [← h.len]; exact dAt_lt (by omega)
  refine ⟨by simp [h.len], ?_, ?_, ?_, ?_, ?_⟩
  · intro x hx S hS
    rw [hs] at hx
    by_cases e : x = j
    · subst e; exact hS.2 i x hil hj (h.sound i (by omega) S hS) hr
    · rw [if_neg e] at hx; exact h.sound x hx S hS
  · intro x hx h1
    rw [hs]
    by_cases e : x = j
    · rw [if_pos e]; omega
    · rw [if_neg e]; exact h.roots x hx h1
  · intro x k hx
    rw [hs] at hx
    by_cases e : x = j
    · rw [if_pos e] at hx
      exact ⟨i, by rw [hs, if_neg (by rintro rfl; omega)]; omega⟩
    · rw [if_neg e] at hx
      obtain ⟨y, hy⟩ := h.low x k hx
      exact ⟨y, by rw [hs, if_neg (by rintro rfl; omega)]; exact hy⟩
  · intro x hx h1 y hy hr
    rw [hs] at hx h1 ⊢
    by_cases e : x = j
    · rw [if_pos e] at h1; omega
    · rw [if_neg e] at hx h1
      by_cases e2 : y = j
      · rw [if_pos e2]; omega
      · rw [if_neg e2]; exact h.done x hx h1 y hy hr
  · intro hi y hy hr
    rw [hs] at hi ⊢
    by_cases e2 : y = j
    · rw [if_pos e2]; omega
    · rw [if_neg e2]
      exact h.cur hd y (by omega) hr
theorem DInv.next {g : G} {t i j : Nat} {d : List Int} (h : DInv g t i j d) (he : dAt d i ≠ t ∨ j = g.objs.length) : DInv g t (i + 1) 0 d := by
  refine ⟨h.len, h.sound, h.roots, h.low, ?_, fun _ y hy => absurd hy (Nat.not_lt_zero _)⟩
  intro x hx h1 y hy hr
  by_cases h2 : dAt d x < t ∨ dAt d x = t ∧ x < i
  · exact h.done x hx h2 y hy hr
  · obtain rfl : x = i := by omega
    rcases he with h3 | h3
    · omega
    · exact h.cur (by omega) y (by omega) hr
theorem DInv.turn {g : G} {t j : Nat} {d : List Int} (h : DInv g t g.objs.length j d) : DInv g (t + 1) 0 0 d := by
  refine ⟨h.len, h.sound, h.roots, h.low, ?_, fun _ y hy => absurd hy (Nat.not_lt_zero _)⟩
  intro x hx h1 y hy hr
  have := dAt_lt hx
  rw [h.len] at this
  exact h.done x hx (by omega) y hy hr
theorem DInv.chain {g : G} {t i j : Nat} {d : List Int} (h : DInv g t i j d) : ∀ (k x : Nat), dAt d x = (k : Int) → ∀ m, m ≤ k → (m : Int) ∈ d
  | 0, x, hx, m, hm => by
    obtain rfl : m = 0 := by omega
    rw [← hx]; exact dAt_mem (by omega)
  | k + 1, x, hx, m, hm => by
    rcases Nat.lt_or_ge k m with h1 | h1
    · obtain rfl : m = k + 1 := by omega
      rw [← hx]; exact dAt_mem (by omega)
    · obtain ⟨y, hy⟩ := h.low x k (by rw [hx]; omega)
      exact h.chain k y hy m h1
theorem range_mem_len : ∀ (n : Nat) (l : List Int), (∀ m, m < n → (m : Int) ∈ l) → n ≤ l.length
  | 0, _, _ => Nat.zero_le _
  | n + 1, l, h => by
    have h1 := h n (Nat.lt_succ_self n)
    have h2 := range_mem_len n (l.erase (n : Int)) (fun m hm => (List.mem_erase_of_ne (by omega)).2 (h m (by omega)))
    rw [List.length_erase_of_mem h1] at h2
    have := List.length_pos_of_mem h1
    omega
/-- What ragpickerref.Dist hands back. -/
structure DistR (g : G) (d : List Int) : Prop where
  len : d.length = g.objs.length
  sound : ∀ x, 0 ≤ dAt d x → ∀ S, ClosedN g S → S x
  closed : ClosedN g (fun x => 0 ≤ dAt d x)
  high : ∀ x, dAt d x < g.objs.length
theorem DInv.fin {g : G} {d : List Int} (h : DInv g g.objs.length 0 0 d) : DistR g d := by
  have hh : ∀ x, dAt d x < g.objs.length := by
    intro x
    rcases Int.lt_or_le (dAt d x) 0 with h1 | h1
    · omega
    · obtain ⟨k, hk⟩ : ∃ k : Nat, dAt d x = (k : Int) := ⟨(dAt d x).toNat, by omega⟩
      have := range_mem_len (k + 1) d (fun m hm => h.chain k x hk m (by omega))
      rw [h.len] at this
      omega
  exact ⟨h.len, h.sound, ⟨h.roots, fun i j _ hj hi hr => h.done i hi (Or.inl (hh i)) j hj hr⟩, hh⟩
end Go.Proofs.Ytnpbdabboecpaaa
