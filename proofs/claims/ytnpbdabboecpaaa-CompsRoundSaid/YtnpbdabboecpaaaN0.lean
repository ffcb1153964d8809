/- Components: the search in depth that keeps a stack, as data. Plain, over any edges. -/
import Derived.Test.YtnpbdabboecpaaaRows
namespace Go.Proofs.Ytnpbdabboecpaaa
namespace Tarj
/-- To come from one to another, by any number of steps. -/
inductive Lead (E : Int → Int → Prop) : Int → Int → Prop
  | here (x : Int) : Lead E x x
  | step {x y z : Int} : E x y → Lead E y z → Lead E x z
theorem Lead.trans {E : Int → Int → Prop} {x y z : Int} (h : Lead E x y) (h2 : Lead E y z) : Lead E x z := by
  induction h with
  | here => exact h2
  | step e _ ih => exact .step e (ih h2)
theorem Lead.one {E : Int → Int → Prop} {x y : Int} (h : E x y) : Lead E x y := .step h (.here y)

def upd (f : Int → Int) (i v : Int) : Int → Int := fun x => if x = i then v else f x
theorem upd_same (f : Int → Int) (i v : Int) : upd f i v i = v := by simp [upd]
theorem upd_ne (f : Int → Int) {i x : Int} (v : Int) (h : x ≠ i) : upd f i v x = f x := by simp [upd, h]
/-- How many of the first n are at 0. -/
def zer (f : Int → Int) : Nat → Nat
  | 0 => 0
  | n + 1 => zer f n + if f (n : Int) = 0 then 1 else 0
theorem zer_mono {f g : Int → Int} (h : ∀ x, f x ≠ 0 → g x ≠ 0) : ∀ n, zer g n ≤ zer f n := by
  intro n
  induction n with
  | zero => exact Nat.le_refl _
  | succ n ih =>
    simp only [zer]
    have := h n
    by_cases h1 : f (n : Int) = 0
    · rw [if_pos h1]; split <;> omega
    · rw [if_neg h1, if_neg (this h1)]; omega
theorem zer_same {f g : Int → Int} : ∀ n : Nat, (∀ x : Int, 0 ≤ x → x < n → f x = g x) → zer f n = zer g n := by
  intro n
  induction n with
  | zero => intro _; rfl
  | succ n ih =>
    intro h
    simp only [zer]
    rw [ih (fun x h0 h1 => h x h0 (by omega)), h n (by omega) (by omega)]
theorem zer_upd {f : Int → Int} {i v : Int} (hf : f i = 0) (hv : v ≠ 0) : ∀ n : Nat, 0 ≤ i → i < n → zer (upd f i v) n + 1 = zer f n := by
  intro n
  induction n with
  | zero => intro h0 h1; omega
  | succ n ih =>
    intro h0 h1
    simp only [zer]
    by_cases e : i = (n : Int)
    · subst e
      rw [upd_same, hf, if_neg hv, if_pos rfl, zer_same n (g := f) (fun x _ h1 => upd_ne _ _ (by omega))]
    · rw [upd_ne _ _ (fun h => e h.symm)]
      have := ih h0 (by omega)
      omega

structure TS where
  at_ : Int → Int
  low : Int → Int
  comp : Int → Int
  stack : List Int
  all : List (List Int)

structure TInv (E : Int → Int → Prop) (n : Nat) (s : TS) (gray : Int → Prop) : Prop where
  rng : ∀ x, s.at_ x ≠ 0 → 0 ≤ x ∧ x < n
  pos : ∀ x, 0 ≤ s.at_ x
  bound : ∀ x, s.at_ x + (zer s.at_ n : Nat) ≤ n
  mem : ∀ x, x ∈ s.stack ↔ s.at_ x ≠ 0 ∧ s.comp x < 0
  seen : ∀ x, 0 ≤ s.comp x → s.at_ x ≠ 0
  sorted : s.stack.Pairwise (fun x y => s.at_ x < s.at_ y)
  gsub : ∀ x, gray x → x ∈ s.stack
  down : ∀ y ∈ s.stack, ∃ x, gray x ∧ s.at_ x ≤ s.at_ y ∧ Lead E y x
  up : ∀ x, gray x → ∀ y ∈ s.stack, s.at_ x ≤ s.at_ y → Lead E x y
  black : ∀ x, s.at_ x ≠ 0 → ¬ gray x → ∀ y, E x y → s.at_ y ≠ 0
  done : ∀ x y, 0 ≤ s.comp x → E x y → 0 ≤ s.comp y ∧ s.comp y ≤ s.comp x
  cls : ∀ (k : Nat) (c : List Int), s.all[k]? = some c → c ≠ [] ∧ c.Pairwise (· < ·) ∧ ∀ x, x ∈ c ↔ s.comp x = (k : Int)
  ltl : ∀ x, s.comp x < s.all.length
  same : ∀ x y, 0 ≤ s.comp x → s.comp x = s.comp y → Lead E x y
  room : s.all.length + s.stack.length + zer s.at_ n ≤ n

/-- What a walk from i does. -/
structure Walked (E : Int → Int → Prop) (n : Nat) (s s' : TS) (gray : Int → Prop) (i : Int) : Prop where
  inv : TInv E n s' gray
  at_ : ∀ x, s.at_ x ≠ 0 → s'.at_ x = s.at_ x
  low : ∀ x, s.at_ x ≠ 0 → s'.low x = s.low x
  comp : ∀ x, 0 ≤ s.comp x → s'.comp x = s.comp x
  here : s'.at_ i ≠ 0
  ex : ∃ new, s'.stack = s.stack ++ new ∧ ∀ x ∈ new, ∀ z ∈ s.stack, E x z → s'.low i ≤ s.at_ z
  res : (0 ≤ s'.comp i ∧ s'.low i = s'.at_ i) ∨ ∃ y ∈ s.stack, s.at_ y = s'.low i ∧ Lead E i y
  newer : ∀ x, s.at_ x ≠ 0 → s.at_ x < s'.at_ i

/-- In the midst of a walk from i. -/
structure Amid (E : Int → Int → Prop) (n : Nat) (s s1 : TS) (gray : Int → Prop) (i : Int) (pre : List Int) : Prop where
  old : TInv E n s gray
  inv : TInv E n s1 (fun x => gray x ∨ x = i)
  at_ : ∀ x, s.at_ x ≠ 0 → s1.at_ x = s.at_ x
  low : ∀ x, s.at_ x ≠ 0 → s1.low x = s.low x
  comp : ∀ x, 0 ≤ s.comp x → s1.comp x = s.comp x
  fresh : s.at_ i = 0
  here : s1.at_ i ≠ 0
  ex : ∃ new, s1.stack = s.stack ++ i :: new ∧ ∀ x ∈ new, ∀ z ∈ s.stack, E x z → s1.low i ≤ s.at_ z
  pre : ∀ j ∈ pre, s1.at_ j ≠ 0 ∧ (j ∈ s.stack → s1.low i ≤ s.at_ j)
  res : ∃ y ∈ s1.stack, s1.at_ y = s1.low i ∧ Lead E i y
  le : s1.low i ≤ s1.at_ i
  newer : ∀ x, s.at_ x ≠ 0 → s.at_ x < s1.at_ i

section
variable {E : Int → Int → Prop} {n : Nat} {s s1 s2 : TS} {gray : Int → Prop} {i j : Int} {pre : List Int}

def push (s : TS) (i t : Int) : TS := ⟨upd s.at_ i t, upd s.low i t, s.comp, s.stack ++ [i], s.all⟩
theorem TInv.off (h : TInv E n s gray) (hi : s.at_ i = 0) : s.comp i < 0 ∧ i ∉ s.stack := by
  refine ⟨?_, fun hm => ((h.mem i).1 hm).1 hi⟩
  rcases Int.lt_or_le (s.comp i) 0 with h1 | h1
  · exact h1
  · exact absurd hi (h.seen i h1)
theorem Amid.start (h : TInv E n s gray) (h0 : 0 ≤ i) (hn : i < n) (hi : s.at_ i = 0) (hg : ∀ x, gray x → Lead E x i) {t : Int} (ht : ∀ x, s.at_ x < t) (hb : t + (zer s.at_ n : Nat) ≤ n + 1) :
    Amid E n s (push s i t) gray i [] := by
  have h1 : 0 < t := by have := ht i; have := h.pos i; omega
  obtain ⟨hc, hns⟩ := h.off hi
  have hz : zer (upd s.at_ i t) n + 1 = zer s.at_ n := zer_upd hi (by omega) n h0 hn
  have hne : ∀ x ∈ s.stack, x ≠ i := fun x hx e => hns (e ▸ hx)
  have hat : ∀ x, s.at_ x ≠ 0 → upd s.at_ i t x = s.at_ x := fun x hx => upd_ne _ _ (fun e => hx (e ▸ hi))
  have hats : ∀ x ∈ s.stack, upd s.at_ i t x = s.at_ x := fun x hx => upd_ne _ _ (hne x hx)
  refine ⟨h, ⟨?_, ?_, ?_, ?_, ?_, ?_, ?_, ?_, ?_, ?_, h.done, h.cls, h.ltl, h.same, ?_⟩, hat, fun x hx => upd_ne _ _ (fun e => hx (e ▸ hi)), fun _ _ => rfl, hi, ?_, ⟨[], rfl, by simp⟩, by simp, ⟨i, by simp [push], ?_, .here i⟩, ?_, ?_⟩
  · intro x hx
    by_cases e : x = i
    · subst e; exact ⟨h0, hn⟩
    · exact h.rng x (by simpa [push, upd, e] using hx)
  · intro x
    by_cases e : x = i
    · simp [push, upd, e]; omega
    · simp [push, upd, e]; exact h.pos x
  · intro x
    have := h.bound x
    simp only [push]
    by_cases e : x = i
    · subst e; rw [upd_same]; omega
    · rw [upd_ne _ _ e]; omega
  · intro x
    simp only [push, List.mem_append, List.mem_singleton]
    by_cases e : x = i
    · subst e; rw [upd_same]; simp [hc]; omega
    · rw [upd_ne _ _ e, h.mem]; simp [e]
  · intro x hx
    have := h.seen x hx
    simp only [push]
    rw [hat x this]; exact this
  · simp only [push]
    rw [List.pairwise_append]
    refine ⟨h.sorted.imp_of_mem fun ha hb hab => by rw [hats _ ha, hats _ hb]; exact hab, by simp, ?_⟩
    intro a ha b hb
    rw [List.mem_singleton.1 hb, upd_same, hats _ ha]
    exact ht a
  · rintro x (hx | rfl)
    · exact List.mem_append_left _ (h.gsub x hx)
    · simp [push]
  · intro y hy
    simp only [push, List.mem_append, List.mem_singleton] at hy ⊢
    rcases hy with hy | rfl
    · obtain ⟨x, hx, hle, hl⟩ := h.down y hy
      exact ⟨x, .inl hx, by rw [hats _ hy, hats _ (h.gsub x hx)]; exact hle, hl⟩
    · exact ⟨y, .inr rfl, Int.le_refl _, .here _⟩
  · intro x hx y hy hle
    simp only [push, List.mem_append, List.mem_singleton] at hy hle
    rcases hx with hx | rfl
    · rcases hy with hy | rfl
      · rw [hats _ hy, hats _ (h.gsub x hx)] at hle
        exact h.up x hx y hy hle
      · exact hg x hx
    · rcases hy with hy | rfl
      · rw [upd_same, hats _ hy] at hle
        have := ht y; omega
      · exact .here _
  · intro x hx hng y hxy
    have e : x ≠ i := fun e => hng (.inr e)
    simp only [push] at hx ⊢
    rw [upd_ne _ _ e] at hx
    have := h.black x hx (fun hgx => hng (.inl hgx)) y hxy
    rw [hat y this]; exact this
  · simp only [push, List.length_append, List.length_singleton]
    have := h.room; omega
  · simp [push, upd]; omega
  · simp [push, upd]
  · simp [push, upd]
  · intro x _; simp only [push]; rw [upd_same]; exact ht x

/-- The least that i comes back to is made known. -/
def setLow (s : TS) (i v : Int) : TS := ⟨s.at_, upd s.low i v, s.comp, s.stack, s.all⟩
theorem TInv.setLow (h : TInv E n s gray) (i v : Int) : TInv E n (setLow s i v) gray :=
  ⟨h.rng, h.pos, h.bound, h.mem, h.seen, h.sorted, h.gsub, h.down, h.up, h.black, h.done, h.cls, h.ltl, h.same, h.room⟩

/-- A target that is in a component already. -/
theorem Amid.skip (h : Amid E n s s1 gray i pre) (hj : 0 ≤ s1.comp j) : Amid E n s s1 gray i (pre ++ [j]) := by
  refine ⟨h.old, h.inv, h.at_, h.low, h.comp, h.fresh, h.here, h.ex, ?_, h.res, h.le, h.newer⟩
  intro x hx
  rcases List.mem_append.1 hx with hx | hx
  · exact h.pre x hx
  · rw [List.mem_singleton.1 hx]
    refine ⟨h.inv.seen j hj, fun hs => ?_⟩
    obtain ⟨new, he, _⟩ := h.ex
    have := ((h.inv.mem j).1 (by rw [he]; exact List.mem_append_left _ hs)).2
    omega
/-- A target on the stack. -/
theorem Amid.again (h : Amid E n s s1 gray i pre) (hE : E i j) (h1 : s1.at_ j ≠ 0) (hj : s1.comp j < 0) : Amid E n s (setLow s1 i (min (s1.low i) (s1.at_ j))) gray i (pre ++ [j]) := by
  have hjs : j ∈ s1.stack := (h.inv.mem j).2 ⟨h1, hj⟩
  refine ⟨h.old, h.inv.setLow _ _, h.at_, ?_, h.comp, h.fresh, h.here, ?_, ?_, ?_, ?_, h.newer⟩
  · intro x hx
    have e : x ≠ i := fun e => hx (e ▸ h.fresh)
    simp only [setLow]
    rw [upd_ne _ _ e]; exact h.low x hx
  · obtain ⟨new, he, hz⟩ := h.ex
    refine ⟨new, he, fun x hx z hz1 hxz => ?_⟩
    have := hz x hx z hz1 hxz
    simp only [setLow]
    rw [upd_same]; omega
  · intro x hx
    simp only [setLow]
    rw [upd_same]
    rcases List.mem_append.1 hx with hx | hx
    · have := h.pre x hx
      exact ⟨this.1, fun hs => by have := this.2 hs; omega⟩
    · rw [List.mem_singleton.1 hx]
      refine ⟨h1, fun hs => ?_⟩
      rw [← h.at_ j ((h.old.mem j).1 hs).1]; omega
  · simp only [setLow]
    rw [upd_same]
    rcases Int.le_total (s1.low i) (s1.at_ j) with hle | hle
    · rw [Int.min_eq_left hle]; exact h.res
    · rw [Int.min_eq_right hle]; exact ⟨j, hjs, rfl, .one hE⟩
  · simp only [setLow]
    rw [upd_same]
    have := h.le; omega
/-- A target that was new. -/
theorem Amid.new (h : Amid E n s s1 gray i pre) (hE : E i j) (hj : s1.at_ j = 0) (h2 : Walked E n s1 s2 (fun x => gray x ∨ x = i) j) :
    Amid E n s (setLow s2 i (min (s2.low i) (s2.low j))) gray i (pre ++ [j]) := by
  have hat : ∀ x, s.at_ x ≠ 0 → s1.at_ x ≠ 0 := fun x hx => by rw [h.at_ x hx]; exact hx
  have hcp : ∀ x, 0 ≤ s.comp x → 0 ≤ s1.comp x := fun x hx => by rw [h.comp x hx]; exact hx
  have hli := h2.low i h.here
  have hai := h2.at_ i h.here
  have hle := h.le
  obtain ⟨new, he, hz⟩ := h.ex
  obtain ⟨new2, he2, hz2⟩ := h2.ex
  have hnj := h2.newer i h.here
  refine ⟨h.old, h2.inv.setLow _ _, fun x hx => by rw [setLow, h2.at_ x (hat x hx), h.at_ x hx], ?_, fun x hx => by rw [setLow, h2.comp x (hcp x hx), h.comp x hx], h.fresh, ?_, ?_, ?_, ?_, ?_, ?_⟩
  · intro x hx
    have e : x ≠ i := fun e => hx (e ▸ h.fresh)
    simp only [setLow]
    rw [upd_ne _ _ e, h2.low x (hat x hx)]; exact h.low x hx
  · simp only [setLow]; rw [hai]; exact h.here
  · refine ⟨new ++ new2, by simp [setLow, he2, he], fun x hx z hzs hxz => ?_⟩
    simp only [setLow]
    rw [upd_same]
    have hz1 : z ∈ s1.stack := by rw [he]; exact List.mem_append_left _ hzs
    have hzat := h.at_ z ((h.old.mem z).1 hzs).1
    rcases List.mem_append.1 hx with hx | hx
    · have := hz x hx z hzs hxz; omega
    · have := hz2 x hx z hz1 hxz; omega
  · intro x hx
    simp only [setLow]
    rw [upd_same]
    rcases List.mem_append.1 hx with hx | hx
    · have := h.pre x hx
      exact ⟨by rw [h2.at_ x this.1]; exact this.1, fun hs => by have := this.2 hs; omega⟩
    · rw [List.mem_singleton.1 hx]
      exact ⟨h2.here, fun hs => absurd hj (hat j ((h.old.mem j).1 hs).1)⟩
  · simp only [setLow]
    rw [upd_same]
    rcases Int.le_total (s2.low i) (s2.low j) with hl | hl
    · rw [Int.min_eq_left hl, hli]
      obtain ⟨y, hy, hy1, hy2⟩ := h.res
      exact ⟨y, by rw [he2]; exact List.mem_append_left _ hy, by rw [h2.at_ y ((h.inv.mem y).1 hy).1]; exact hy1, hy2⟩
    · rw [Int.min_eq_right hl]
      rcases h2.res with ⟨_, h4⟩ | ⟨y, hy, h4, h5⟩
      · omega
      · exact ⟨y, by rw [he2]; exact List.mem_append_left _ hy, by rw [h2.at_ y ((h.inv.mem y).1 hy).1]; exact h4, .step hE h5⟩
  · simp only [setLow]
    rw [upd_same, hai]; omega
  · intro x hx
    simp only [setLow]
    rw [hai]; exact h.newer x hx
theorem Amid.split (h : Amid E n s s1 gray i pre) : ∀ x, s1.at_ x < s1.at_ i → x ∈ s1.stack → x ∈ s.stack := by
  intro x hx hm
  obtain ⟨new, he, _⟩ := h.ex
  have hs := h.inv.sorted
  rw [he] at hm hs
  rcases List.mem_append.1 hm with hm | hm
  · exact hm
  · rcases List.mem_cons.1 hm with rfl | hm
    · omega
    · have := (List.pairwise_cons.1 (List.pairwise_append.1 hs).2.1).1 x hm
      omega
theorem Amid.atOld (h : Amid E n s s1 gray i pre) : ∀ x ∈ s.stack, s1.at_ x = s.at_ x ∧ s1.at_ x < s1.at_ i := fun x hx => by
  have h0 := ((h.old.mem x).1 hx).1
  have h1 := h.at_ x h0
  have h2 := h.newer x h0
  exact ⟨h1, by omega⟩
/-- It comes back to what is older: all stay on the stack. -/
theorem Amid.stay (h : Amid E n s s1 gray i pre) (hne : s1.low i ≠ s1.at_ i) (hall : ∀ j, E i j → j ∈ pre) : Walked E n s s1 gray i := by
  have hle := h.le
  obtain ⟨y0, hy0, hy1, hy2⟩ := h.res
  have hyo : y0 ∈ s.stack := h.split y0 (by omega) hy0
  obtain ⟨new, he, hz⟩ := h.ex
  refine ⟨⟨h.inv.rng, h.inv.pos, h.inv.bound, h.inv.mem, h.inv.seen, h.inv.sorted, fun x hx => h.inv.gsub x (.inl hx), ?_, fun x hx => h.inv.up x (.inl hx), ?_, h.inv.done, h.inv.cls, h.inv.ltl, h.inv.same, h.inv.room⟩,
    h.at_, h.low, h.comp, h.here, ⟨i :: new, he, ?_⟩, .inr ⟨y0, hyo, by rw [← (h.atOld y0 hyo).1]; exact hy1, hy2⟩, h.newer⟩
  · intro y hy
    obtain ⟨x, hx, hxle, hl⟩ := h.inv.down y hy
    rcases hx with hx | rfl
    · exact ⟨x, hx, hxle, hl⟩
    · obtain ⟨x', hx', hxle', hl'⟩ := h.old.down y0 hyo
      refine ⟨x', hx', ?_, (hl.trans hy2).trans hl'⟩
      have h3 := (h.atOld x' (h.old.gsub x' hx')).1
      have h4 := (h.atOld y0 hyo).1
      omega
  · intro x hx hng y hxy
    by_cases e : x = i
    · subst e; exact (h.pre y (hall y hxy)).1
    · exact h.inv.black x hx (fun hg => hg.elim hng e) y hxy
  · intro x hx z hzs hxz
    rcases List.mem_cons.1 hx with rfl | hx
    · exact (h.pre z (hall z hxz)).2 hzs
    · exact hz x hx z hzs hxz
/-- What is left above is a component. -/
def popped (s : TS) (k : Nat) (c : List Int) : TS := ⟨s.at_, s.low, fun x => if x ∈ c then s.all.length else s.comp x, s.stack.take k, s.all ++ [c]⟩
theorem Amid.pop (h : Amid E n s s1 gray i pre) (heq : s1.low i = s1.at_ i) (hall : ∀ j, E i j → j ∈ pre) {c : List Int} (hc : ∀ x, x ∈ c ↔ x ∈ s1.stack.drop s.stack.length) (hr : c.Pairwise (· < ·)) :
    Walked E n s (popped s1 s.stack.length c) gray i := by
  obtain ⟨new, he, hz⟩ := h.ex
  have htk : s1.stack.take s.stack.length = s.stack := by rw [he]; simp
  have hdr : s1.stack.drop s.stack.length = i :: new := by rw [he]; simp
  rw [hdr] at hc
  have hci : i ∈ c := (hc i).2 List.mem_cons_self
  have hsort := h.inv.sorted
  rw [he] at hsort
  have hapart : ∀ x ∈ s.stack, x ∉ c := fun x hx hxc => by
    have := (List.pairwise_append.1 hsort).2.2 x hx x ((hc x).1 hxc); omega
  have hcs : ∀ x ∈ c, x ∈ s1.stack := fun x hx => by rw [he]; exact List.mem_append_right _ ((hc x).1 hx)
  have hst : ∀ x, x ∈ s1.stack ↔ x ∈ s.stack ∨ x ∈ c := fun x => by rw [he, List.mem_append, hc]
  have hcomp : ∀ x, x ∉ c → (popped s1 s.stack.length c).comp x = s1.comp x := fun x hx => by simp [popped, hx]
  have hcompc : ∀ x, x ∈ c → (popped s1 s.stack.length c).comp x = s1.all.length := fun x hx => by simp [popped, hx]
  have hold : ∀ x, 0 ≤ s1.comp x → x ∉ c := fun x hx hxc => by have := ((h.inv.mem x).1 (hcs x hxc)).2; omega
  have hgc : ∀ x, gray x → x ∉ c := fun x hx => hapart x (h.old.gsub x hx)
  have hsee : ∀ x ∈ c, ∀ y, E x y → s1.at_ y ≠ 0 := fun x hx y hxy => by
    rcases List.mem_cons.1 ((hc x).1 hx) with rfl | hx2
    · exact (h.pre y (hall y hxy)).1
    · refine h.inv.black x ((h.inv.mem x).1 (hcs x hx)).1 ?_ y hxy
      rintro (hg | rfl)
      · exact hgc x hg hx
      · have := (List.pairwise_cons.1 (List.pairwise_append.1 hsort).2.1).1 x hx2; omega
  have hin : ∀ x ∈ c, ∀ y, E x y → y ∉ s.stack := fun x hx y hxy hys => by
    have h1 := h.atOld y hys
    rcases List.mem_cons.1 ((hc x).1 hx) with rfl | hx2
    · have := (h.pre y (hall y hxy)).2 hys; omega
    · have := hz x hx2 y hys hxy; omega
  have hlead : ∀ x ∈ c, Lead E x i := fun x hx => by
    obtain ⟨x', hx', _, hl⟩ := h.inv.down x (hcs x hx)
    rcases hx' with hx' | rfl
    · refine hl.trans (h.inv.up x' (.inl hx') i (hcs i hci) ?_)
      have := (h.atOld x' (h.old.gsub x' hx')).2; omega
    · exact hl
  have hback : ∀ x ∈ c, Lead E i x := fun x hx => by
    refine h.inv.up i (.inr rfl) x (hcs x hx) ?_
    rcases List.mem_cons.1 ((hc x).1 hx) with rfl | hx2
    · exact Int.le_refl _
    · have := (List.pairwise_cons.1 (List.pairwise_append.1 hsort).2.1).1 x hx2; omega
  refine ⟨⟨h.inv.rng, h.inv.pos, h.inv.bound, ?_, ?_, ?_, ?_, ?_, ?_, ?_, ?_, ?_, ?_, ?_, ?_⟩, h.at_, h.low, ?_, h.here, ⟨[], by simp [popped, htk], by simp⟩, .inl ⟨by rw [hcompc i hci]; omega, heq⟩, h.newer⟩
  · intro x
    show x ∈ s1.stack.take s.stack.length ↔ s1.at_ x ≠ 0 ∧ _
    rw [htk]
    constructor
    · intro hx
      have := (h.inv.mem x).1 ((hst x).2 (.inl hx))
      rw [hcomp x (hapart x hx)]; exact this
    · rintro ⟨h1, h2⟩
      by_cases hxc : x ∈ c
      · rw [hcompc x hxc] at h2; omega
      · rw [hcomp x hxc] at h2
        rcases (hst x).1 ((h.inv.mem x).2 ⟨h1, h2⟩) with h3 | h3
        · exact h3
        · exact absurd h3 hxc
  · intro x hx
    show s1.at_ x ≠ 0
    by_cases hxc : x ∈ c
    · exact ((h.inv.mem x).1 (hcs x hxc)).1
    · rw [hcomp x hxc] at hx; exact h.inv.seen x hx
  · show (s1.stack.take s.stack.length).Pairwise _
    rw [htk]; exact (List.pairwise_append.1 hsort).1
  · intro x hx
    show x ∈ s1.stack.take s.stack.length
    rw [htk]; exact h.old.gsub x hx
  · intro y hy
    have hy2 : y ∈ s.stack := by rw [← htk]; exact hy
    obtain ⟨x, hx, hle, hl⟩ := h.old.down y hy2
    refine ⟨x, hx, ?_, hl⟩
    show s1.at_ x ≤ s1.at_ y
    rw [(h.atOld y hy2).1, (h.atOld x (h.old.gsub x hx)).1]; exact hle
  · intro x hx y hy hle
    have hy2 : y ∈ s.stack := by rw [← htk]; exact hy
    exact h.inv.up x (.inl hx) y ((hst y).2 (.inl hy2)) hle
  · intro x hx hng y hxy
    by_cases hxc : x ∈ c
    · exact hsee x hxc y hxy
    · refine h.inv.black x hx ?_ y hxy
      rintro (hg | rfl)
      · exact hng hg
      · exact hxc hci
  · intro x y hx hxy
    by_cases hxc : x ∈ c
    · rw [hcompc x hxc]
      have hy1 := hsee x hxc y hxy
      have hy2 := hin x hxc y hxy
      by_cases hyc : y ∈ c
      · rw [hcompc y hyc]; omega
      · rw [hcomp y hyc]
        have h3 : ¬ s1.comp y < 0 := fun h4 => by
          rcases (hst y).1 ((h.inv.mem y).2 ⟨hy1, h4⟩) with h5 | h5
          · exact hy2 h5
          · exact hyc h5
        have h4 := h.inv.ltl y
        omega
    · rw [hcomp x hxc] at hx ⊢
      obtain ⟨h1, h2⟩ := h.inv.done x y hx hxy
      rw [hcomp y (hold y h1)]
      exact ⟨h1, h2⟩
  · intro k d hk
    have hk2 : (s1.all ++ [c])[k]? = some d := hk
    rcases Nat.lt_or_ge k s1.all.length with hlt | hge
    · rw [List.getElem?_append_left hlt] at hk2
      obtain ⟨h1, h2, h3⟩ := h.inv.cls k d hk2
      refine ⟨h1, h2, fun x => ?_⟩
      rw [h3 x]
      by_cases hxc : x ∈ c
      · rw [hcompc x hxc]
        have := ((h.inv.mem x).1 (hcs x hxc)).2
        omega
      · rw [hcomp x hxc]
    · rw [List.getElem?_append_right hge] at hk2
      have hk3 : k = s1.all.length := by
        have h1 := (List.getElem?_eq_some_iff.1 hk2).1
        simp at h1; omega
      subst hk3
      simp at hk2
      subst hk2
      refine ⟨fun e => (by rw [e] at hci; cases hci), hr, fun x => ?_⟩
      by_cases hxc : x ∈ c
      · rw [hcompc x hxc]; simp [hxc]
      · rw [hcomp x hxc]
        have := h.inv.ltl x
        simp only [hxc, false_iff]
        omega
  · intro x
    show _ < ((s1.all ++ [c]).length : Int)
    rw [List.length_append, List.length_singleton]
    by_cases hxc : x ∈ c
    · rw [hcompc x hxc]; omega
    · rw [hcomp x hxc]; have := h.inv.ltl x; omega
  · intro x y hx hxy
    by_cases hxc : x ∈ c
    · by_cases hyc : y ∈ c
      · exact (hlead x hxc).trans (hback y hyc)
      · rw [hcompc x hxc, hcomp y hyc] at hxy
        have := h.inv.ltl y; omega
    · rw [hcomp x hxc] at hx hxy
      by_cases hyc : y ∈ c
      · rw [hcompc y hyc] at hxy
        have := h.inv.ltl x; omega
      · rw [hcomp y hyc] at hxy
        exact h.inv.same x y hx hxy
  · show (s1.all ++ [c]).length + (s1.stack.take s.stack.length).length + zer s1.at_ n ≤ n
    rw [htk, List.length_append, List.length_singleton]
    have := h.inv.room
    rw [he, List.length_append, List.length_cons] at this
    omega
  · intro x hx
    have h1 := h.comp x hx
    rw [hcomp x (hold x (by omega))]; exact h1
end
end Tarj
end Go.Proofs.Ytnpbdabboecpaaa
