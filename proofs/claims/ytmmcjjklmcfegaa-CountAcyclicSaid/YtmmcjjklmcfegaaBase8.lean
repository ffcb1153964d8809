/- Texts N2 N0 N1 D9r Ty Li N3 Sor N4 D6 N5 D0 N7 in one. -/
import Derived.Test.YtmmcjjklmcfegaaBase1
import Derived.Test.YtmmcjjklmcfegaaSh
import Derived.Test.YtmmcjjklmcfegaaRows
import Derived.Test.YtmmcjjklmcfegaaBase3
import Derived.OwnWalkIn
import Derived.Sort.Grow
import Derived.Sort.OwnSortedInts
import Derived.Deep.RegionHeld3
import Derived.Deep.DeepCutAuto
import Derived.Deep.CutRange
import Derived.Deep.LoopGhost
import Derived.StillTailTactics
import Derived.Deep.QuietTactic
import Derived.BigQuiet
import Derived.Test.YtmmcjjklmcfegaaBase9
import Derived.Test.YtmmcjjklmcfegaaBcx
import Derived.Test.YtmmcjjklmcfegaaMx
import Derived.Test.YtmmcjjklmcfegaaBase2
/- slices.Max, slices.Index, slices.Clone of ints, in plain words. -/
namespace Go.Proofs.Ytmmcjjklmcfegaa
open Go.RowKit Go.Shelf

set_option maxRecDepth 100000 in
set_option maxHeartbeats 1000000 in
theorem max_any (w : World) (v : Value) (l : List Int) (hl : IsInts w v l) (h0 : 0 < l.length) :
    Calls Try.prog 94 #[v] w fun e w' => ∃ m, e = .returned (.int .i64 m) ∧ m ∈ l ∧ (∀ x ∈ l, x ≤ m) ∧ w' = w := by
  obtain ⟨a, cap, rfl, hc⟩ := hl.slice
  have Hl := Lib.hid hl
  clear hl
  obtain ⟨x0, hx0⟩ := get_some l 0 h0
  obtain ⟨bl, off, cap2, hv, hb, hn, c1, hi⟩ := Hl.out.at (Below.refl _ _) hx0
  cases hv
  have h1 : (1 : Int) ≤ (l.length : Int) := by omega
  have h2 : ¬ (l.length : Int) < 1 := by omega
  rw [Nat.add_zero] at c1
  have Hx0 := Lib.hid hx0
  clear hx0
  go_enter Try.func94, Try.ntmps94
  go_wp2
  go_loop [3, 4] (fun m i => ∃ (k : Nat) (x : Int), 1 ≤ k ∧ k ≤ l.length ∧ i = .int .i64 k ∧ m = .int .i64 x ∧ Hid (x ∈ l ∧ ∀ y ∈ l.take k, y ≤ x)) (fun _ i => l.length - (intOf i).toNat)
  case atStart =>
    refine ⟨1, x0, by omega, by omega, rfl, rfl, Lib.hid ⟨List.mem_of_getElem? Hx0.out, ?_⟩⟩
    intro y hy
    rw [take_succ_some l 0 x0 Hx0.out] at hy
    simp at hy
    omega
  case round =>
    obtain ⟨k, x, hk1, hk, rfl, rfl, hm⟩ := hrel
    by_cases hlt : k < l.length
    · obtain ⟨y, hy⟩ := get_some _ _ hlt
      obtain ⟨bl2, off2, cap3, hv, hb, hn, c2, hi2⟩ := Hl.out.at (Below.refl _ _) hy
      cases hv
      have Hn : Hid (max x y ∈ l ∧ ∀ z ∈ l.take (k + 1), z ≤ max x y) := Lib.hid (by
        refine ⟨?_, ?_⟩
        · rcases Int.le_total x y with h | h
          · rw [Int.max_eq_right h]; exact List.mem_of_getElem? hy
          · rw [Int.max_eq_left h]; exact hm.out.1
        · rw [take_succ_some _ _ _ hy]
          intro z hz
          rcases List.mem_append.1 hz with hz | hz
          · have := hm.out.2 z hz; omega
          · rw [List.mem_singleton.1 hz]; omega)
      have hkn : (k : Int) < (l.length : Int) := by omega
      clear hy hm
      go_wp2
      go_round
      case rel => exact ⟨k + 1, max x y, by omega, by omega, by go_num, by first | rfl | (simp; done) | (simp [Int.max_def]; done), Hn⟩
      case measure => simp [intOf]; omega
    · obtain rfl : k = l.length := by omega
      have Hm : Hid (x ∈ l ∧ ∀ y ∈ l, y ≤ x) := Lib.hid ⟨hm.out.1, fun y hy => hm.out.2 y (by rw [List.take_length]; exact hy)⟩
      go_wp2
      go_ret
      exact ⟨x, rfl, Hm.out.1, Hm.out.2, rfl⟩

set_option maxRecDepth 100000 in
set_option maxHeartbeats 1000000 in
theorem index_any (w : World) (v : Value) (pre suf : List Int) (x : Int) (hl : IsInts w v (pre ++ x :: suf)) (hx : x ∉ pre) :
    Calls Try.prog 95 #[v, .int .i64 x] w fun e w' => e = .returned (.int .i64 (pre.length : Int)) ∧ w' = w := by
  obtain ⟨l, hle⟩ : ∃ l, pre ++ x :: suf = l := ⟨_, rfl⟩
  have hpl : pre.length < l.length := by rw [← hle]; simp
  have hxl : l[pre.length]? = some x := by rw [← hle]; simp
  have hne : ∀ k y, k < pre.length → l[k]? = some y → y ≠ x := by
    intro k y hk hy e
    rw [← hle, List.getElem?_append_left hk] at hy
    exact hx (e ▸ List.mem_of_getElem? hy)
  rw [hle] at hl
  clear hle hx
  obtain ⟨a, cap, rfl, hc⟩ := hl.slice
  have Hl := Lib.hid hl
  have Hxl := Lib.hid hxl
  have Hne := Lib.hid hne
  clear hl hxl hne
  go_enter Try.func95, Try.ntmps95
  go_wp2
  go_loop [8] (fun i => ∃ k : Nat, k ≤ pre.length ∧ i = .int .i64 k) (fun i => l.length - (intOf i).toNat)
  case atStart => exact ⟨0, Nat.zero_le _, rfl⟩
  case round =>
    obtain ⟨k, hk, rfl⟩ := hrel
    have hlt : k < l.length := by omega
    obtain ⟨y, hy⟩ := get_some _ _ hlt
    obtain ⟨bl2, off2, cap3, hv, hb, hn, c2, hi2⟩ := Hl.out.at (Below.refl _ _) hy
    cases hv
    by_cases he : k = pre.length
    · subst he
      have h9 := Hxl.out
      rw [hy] at h9
      cases h9
      clear hy
      go_wp2
      go_ret
      exact ⟨rfl, rfl⟩
    · have hyx : ¬ x = y := fun e => Hne.out k y (by omega) hy e.symm
      clear hy
      go_wp2
      go_round
      case rel => exact ⟨k + 1, by omega, by go_num⟩
      case measure => simp [intOf]; omega

/-- slices.Clone of ints that lie anywhere. -/
theorem clone_any (w : World) (b off n c : Nat) (l : List Int) (hl : l.length = n) (hn : n ≤ 1000000) (hc : ∀ j x, l[j]? = some x → w.cell? ⟨b, off + j, none⟩ = some (.int .i64 x)) :
    Calls Try.prog 96 #[.slice (some ⟨b, off, none⟩) n c] w fun e w' => ∃ v', e = .returned v' ∧ Mem w.heap.size w w' [rowI 3 v' l] := by
  obtain ⟨i, hi, hz, hs, hb⟩ := (show Elem Try.prog 39 3 1 8 (.int .i64 0) from elemInts).info
  subst hl
  refine (Try.slices_Clone i _ 1 8 hi hz hs hb rfl (by decide) (by intro w; kernel_rfl) b off l.length c (l.map (.int .i64)) w (by simp) (by simp only [maxLen]; omega) (by omega) ?_ ?_).mono ?_
  · intro j u hu
    rw [List.getElem?_map] at hu
    obtain ⟨x, hx, rfl⟩ := Option.map_eq_some_iff.1 hu
    exact hc j x hx
  · intro u hu
    obtain ⟨x, _, rfl⟩ := List.mem_map.1 hu
    rfl
  · rintro e w' ⟨v', rfl, hr, _, hb⟩
    exact ⟨v', rfl, ((Mem.start w).callRow hb hr).cast (by simp [rowI])⟩
end Go.Proofs.Ytmmcjjklmcfegaa

/- Components: the search in depth that keeps a stack, as data. Plain, over any edges. -/
namespace Go.Proofs.Ytmmcjjklmcfegaa
namespace Tarj
/-- To come from one to another, by any number of steps. -/
inductive Lead (E : Int → Int → Prop) : Int → Int → Prop
  | here (x : Int) : Lead E x x
  | step {x y z : Int} : E x y → Lead E y z → Lead E x z
theorem Lead.trans {E : Int → Int → Prop} {x y z : Int} (h : Lead E x y) (h2 : Lead E y z) : Lead E x z := by
  induction h with
  | here => exact h2
  | step e _ ih => exact .step e (ih h2)
theorem Lead.one {E : Int → Int → Prop} {x y : Int} (h : E x y) : Lead E x y := .step h (.here y)

def upd (f : Int → Int) (i v : Int) : Int → Int := fun x => if x = i then v else f x
theorem upd_same (f : Int → Int) (i v : Int) : upd f i v i = v := by simp [upd]
theorem upd_ne (f : Int → Int) {i x : Int} (v : Int) (h : x ≠ i) : upd f i v x = f x := by simp [upd, h]
/-- How many of the first n are at 0. -/
def zer (f : Int → Int) : Nat → Nat
  | 0 => 0
  | n + 1 => zer f n + if f (n : Int) = 0 then 1 else 0
theorem zer_mono {f g : Int → Int} (h : ∀ x, f x ≠ 0 → g x ≠ 0) : ∀ n, zer g n ≤ zer f n := by
  intro n
  induction n with
  | zero => exact Nat.le_refl _
  | succ n ih =>
    simp only [zer]
    have := h n
    by_cases h1 : f (n : Int) = 0
    · rw [if_pos h1]; split <;> omega
    · rw [if_neg h1, if_neg (this h1)]; omega
theorem zer_same {f g : Int → Int} : ∀ n : Nat, (∀ x : Int, 0 ≤ x → x < n → f x = g x) → zer f n = zer g n := by
  intro n
  induction n with
  | zero => intro _; rfl
  | succ n ih =>
    intro h
    simp only [zer]
    rw [ih (fun x h0 h1 => h x h0 (by omega)), h n (by omega) (by omega)]
theorem zer_upd {f : Int → Int} {i v : Int} (hf : f i = 0) (hv : v ≠ 0) : ∀ n : Nat, 0 ≤ i → i < n → zer (upd f i v) n + 1 = zer f n := by
  intro n
  induction n with
  | zero => intro h0 h1; omega
  | succ n ih =>
    intro h0 h1
    simp only [zer]
    by_cases e : i = (n : Int)
    · subst e
      rw [upd_same, hf, if_neg hv, if_pos rfl, zer_same n (g := f) (fun x _ h1 => upd_ne _ _ (by omega))]
    · rw [upd_ne _ _ (fun h => e h.symm)]
      have := ih h0 (by omega)
      omega

structure TS where
  at_ : Int → Int
  low : Int → Int
  comp : Int → Int
  stack : List Int
  all : List (List Int)

structure TInv (E : Int → Int → Prop) (n : Nat) (s : TS) (gray : Int → Prop) : Prop where
  rng : ∀ x, s.at_ x ≠ 0 → 0 ≤ x ∧ x < n
  pos : ∀ x, 0 ≤ s.at_ x
  bound : ∀ x, s.at_ x + (zer s.at_ n : Nat) ≤ n
  mem : ∀ x, x ∈ s.stack ↔ s.at_ x ≠ 0 ∧ s.comp x < 0
  seen : ∀ x, 0 ≤ s.comp x → s.at_ x ≠ 0
  sorted : s.stack.Pairwise (fun x y => s.at_ x < s.at_ y)
  gsub : ∀ x, gray x → x ∈ s.stack
  down : ∀ y ∈ s.stack, ∃ x, gray x ∧ s.at_ x ≤ s.at_ y ∧ Lead E y x
  up : ∀ x, gray x → ∀ y ∈ s.stack, s.at_ x ≤ s.at_ y → Lead E x y
  black : ∀ x, s.at_ x ≠ 0 → ¬ gray x → ∀ y, E x y → s.at_ y ≠ 0
  done : ∀ x y, 0 ≤ s.comp x → E x y → 0 ≤ s.comp y ∧ s.comp y ≤ s.comp x
  cls : ∀ (k : Nat) (c : List Int), s.all[k]? = some c → c ≠ [] ∧ c.Pairwise (· < ·) ∧ ∀ x, x ∈ c ↔ s.comp x = (k : Int)
  ltl : ∀ x, s.comp x < s.all.length
  same : ∀ x y, 0 ≤ s.comp x → s.comp x = s.comp y → Lead E x y
  room : s.all.length + s.stack.length + zer s.at_ n ≤ n

/-- What a walk from i does. -/
structure Walked (E : Int → Int → Prop) (n : Nat) (s s' : TS) (gray : Int → Prop) (i : Int) : Prop where
  inv : TInv E n s' gray
  at_ : ∀ x, s.at_ x ≠ 0 → s'.at_ x = s.at_ x
  low : ∀ x, s.at_ x ≠ 0 → s'.low x = s.low x
  comp : ∀ x, 0 ≤ s.comp x → s'.comp x = s.comp x
  here : s'.at_ i ≠ 0
  ex : ∃ new, s'.stack = s.stack ++ new ∧ ∀ x ∈ new, ∀ z ∈ s.stack, E x z → s'.low i ≤ s.at_ z
  res : (0 ≤ s'.comp i ∧ s'.low i = s'.at_ i) ∨ ∃ y ∈ s.stack, s.at_ y = s'.low i ∧ Lead E i y
  newer : ∀ x, s.at_ x ≠ 0 → s.at_ x < s'.at_ i

/-- In the midst of a walk from i. -/
structure Amid (E : Int → Int → Prop) (n : Nat) (s s1 : TS) (gray : Int → Prop) (i : Int) (pre : List Int) : Prop where
  old : TInv E n s gray
  inv : TInv E n s1 (fun x => gray x ∨ x = i)
  at_ : ∀ x, s.at_ x ≠ 0 → s1.at_ x = s.at_ x
  low : ∀ x, s.at_ x ≠ 0 → s1.low x = s.low x
  comp : ∀ x, 0 ≤ s.comp x → s1.comp x = s.comp x
  fresh : s.at_ i = 0
  here : s1.at_ i ≠ 0
  ex : ∃ new, s1.stack = s.stack ++ i :: new ∧ ∀ x ∈ new, ∀ z ∈ s.stack, E x z → s1.low i ≤ s.at_ z
  pre : ∀ j ∈ pre, s1.at_ j ≠ 0 ∧ (j ∈ s.stack → s1.low i ≤ s.at_ j)
  res : ∃ y ∈ s1.stack, s1.at_ y = s1.low i ∧ Lead E i y
  le : s1.low i ≤ s1.at_ i
  newer : ∀ x, s.at_ x ≠ 0 → s.at_ x < s1.at_ i

section
variable {E : Int → Int → Prop} {n : Nat} {s s1 s2 : TS} {gray : Int → Prop} {i j : Int} {pre : List Int}

def push (s : TS) (i t : Int) : TS := ⟨upd s.at_ i t, upd s.low i t, s.comp, s.stack ++ [i], s.all⟩
theorem TInv.off (h : TInv E n s gray) (hi : s.at_ i = 0) : s.comp i < 0 ∧ i ∉ s.stack := by
  refine ⟨?_, fun hm => ((h.mem i).1 hm).1 hi⟩
  rcases Int.lt_or_le (s.comp i) 0 with h1 | h1
  · exact h1
  · exact absurd hi (h.seen i h1)
theorem Amid.start (h : TInv E n s gray) (h0 : 0 ≤ i) (hn : i < n) (hi : s.at_ i = 0) (hg : ∀ x, gray x → Lead E x i) {t : Int} (ht : ∀ x, s.at_ x < t) (hb : t + (zer s.at_ n : Nat) ≤ n + 1) :
    Amid E n s (push s i t) gray i [] := by
  have h1 : 0 < t := by have := ht i; have := h.pos i; omega
  obtain ⟨hc, hns⟩ := h.off hi
  have hz : zer (upd s.at_ i t) n + 1 = zer s.at_ n := zer_upd hi (by omega) n h0 hn
  have hne : ∀ x ∈ s.stack, x ≠ i := fun x hx e => hns (e ▸ hx)
  have hat : ∀ x, s.at_ x ≠ 0 → upd s.at_ i t x = s.at_ x := fun x hx => upd_ne _ _ (fun e => hx (e ▸ hi))
  have hats : ∀ x ∈ s.stack, upd s.at_ i t x = s.at_ x := fun x hx => upd_ne _ _ (hne x hx)
  refine ⟨h, ⟨?_, ?_, ?_, ?_, ?_, ?_, ?_, ?_, ?_, ?_, h.done, h.cls, h.ltl, h.same, ?_⟩, hat, fun x hx => upd_ne _ _ (fun e => hx (e ▸ hi)), fun _ _ => rfl, hi, ?_, ⟨[], rfl, by simp⟩, by simp, ⟨i, by simp [push], ?_, .here i⟩, ?_, ?_⟩
  · intro x hx
    by_cases e : x = i
    · subst e; exact ⟨h0, hn⟩
    · exact h.rng x (by simpa [push, upd, e] using hx)
  · intro x
    by_cases e : x = i
    · simp [push, upd, e]; omega
    · simp [push, upd, e]; exact h.pos x
  · intro x
    have := h.bound x
    simp only [push]
    by_cases e : x = i
    · subst e; rw [upd_same]; omega
    · rw [upd_ne _ _ e]; omega
  · intro x
    simp only [push, List.mem_append, List.mem_singleton]
    by_cases e : x = i
    · subst e; rw [upd_same]; simp [hc]; omega
    · rw [upd_ne _ _ e, h.mem]; simp [e]
  · intro x hx
    have := h.seen x hx
    simp only [push]
    rw [hat x this]; exact this
  · simp only [push]
    rw [List.pairwise_append]
    refine ⟨h.sorted.imp_of_mem fun ha hb hab => by rw [hats _ ha, hats _ hb]; exact hab, by simp, ?_⟩
    intro a ha b hb
    rw [List.mem_singleton.1 hb, upd_same, hats _ ha]
    exact ht a
  · rintro x (hx | rfl)
    · exact List.mem_append_left _ (h.gsub x hx)
    · simp [push]
  · intro y hy
    simp only [push, List.mem_append, List.mem_singleton] at hy ⊢
    rcases hy with hy | rfl
    · obtain ⟨x, hx, hle, hl⟩ := h.down y hy
      exact ⟨x, .inl hx, by rw [hats _ hy, hats _ (h.gsub x hx)]; exact hle, hl⟩
    · exact ⟨y, .inr rfl, Int.le_refl _, .here _⟩
  · intro x hx y hy hle
    simp only [push, List.mem_append, List.mem_singleton] at hy hle
    rcases hx with hx | rfl
    · rcases hy with hy | rfl
      · rw [hats _ hy, hats _ (h.gsub x hx)] at hle
        exact h.up x hx y hy hle
      · exact hg x hx
    · rcases hy with hy | rfl
      · rw [upd_same, hats _ hy] at hle
        have := ht y; omega
      · exact .here _
  · intro x hx hng y hxy
    have e : x ≠ i := fun e => hng (.inr e)
    simp only [push] at hx ⊢
    rw [upd_ne _ _ e] at hx
    have := h.black x hx (fun hgx => hng (.inl hgx)) y hxy
    rw [hat y this]; exact this
  · simp only [push, List.length_append, List.length_singleton]
    have := h.room; omega
  · simp [push, upd]; omega
  · simp [push, upd]
  · simp [push, upd]
  · intro x _; simp only [push]; rw [upd_same]; exact ht x

/-- The least that i comes back to is made known. -/
def setLow (s : TS) (i v : Int) : TS := ⟨s.at_, upd s.low i v, s.comp, s.stack, s.all⟩
theorem TInv.setLow (h : TInv E n s gray) (i v : Int) : TInv E n (setLow s i v) gray :=
  ⟨h.rng, h.pos, h.bound, h.mem, h.seen, h.sorted, h.gsub, h.down, h.up, h.black, h.done, h.cls, h.ltl, h.same, h.room⟩

/-- A target that is in a component already. -/
theorem Amid.skip (h : Amid E n s s1 gray i pre) (hj : 0 ≤ s1.comp j) : Amid E n s s1 gray i (pre ++ [j]) := by
  refine ⟨h.old, h.inv, h.at_, h.low, h.comp, h.fresh, h.here, h.ex, ?_, h.res, h.le, h.newer⟩
  intro x hx
  rcases List.mem_append.1 hx with hx | hx
  · exact h.pre x hx
  · rw [List.mem_singleton.1 hx]
    refine ⟨h.inv.seen j hj, fun hs => ?_⟩
    obtain ⟨new, he, _⟩ := h.ex
    have := ((h.inv.mem j).1 (by rw [he]; exact List.mem_append_left _ hs)).2
    omega
/-- A target on the stack. -/
theorem Amid.again (h : Amid E n s s1 gray i pre) (hE : E i j) (h1 : s1.at_ j ≠ 0) (hj : s1.comp j < 0) : Amid E n s (setLow s1 i (min (s1.low i) (s1.at_ j))) gray i (pre ++ [j]) := by
  have hjs : j ∈ s1.stack := (h.inv.mem j).2 ⟨h1, hj⟩
  refine ⟨h.old, h.inv.setLow _ _, h.at_, ?_, h.comp, h.fresh, h.here, ?_, ?_, ?_, ?_, h.newer⟩
  · intro x hx
    have e : x ≠ i := fun e => hx (e ▸ h.fresh)
    simp only [setLow]
    rw [upd_ne _ _ e]; exact h.low x hx
  · obtain ⟨new, he, hz⟩ := h.ex
    refine ⟨new, he, fun x hx z hz1 hxz => ?_⟩
    have := hz x hx z hz1 hxz
    simp only [setLow]
    rw [upd_same]; omega
  · intro x hx
    simp only [setLow]
    rw [upd_same]
    rcases List.mem_append.1 hx with hx | hx
    · have := h.pre x hx
      exact ⟨this.1, fun hs => by have := this.2 hs; omega⟩
    · rw [List.mem_singleton.1 hx]
      refine ⟨h1, fun hs => ?_⟩
      rw [← h.at_ j ((h.old.mem j).1 hs).1]; omega
  · simp only [setLow]
    rw [upd_same]
    rcases Int.le_total (s1.low i) (s1.at_ j) with hle | hle
    · rw [Int.min_eq_left hle]; exact h.res
    · rw [Int.min_eq_right hle]; exact ⟨j, hjs, rfl, .one hE⟩
  · simp only [setLow]
    rw [upd_same]
    have := h.le; omega
/-- A target that was new. -/
theorem Amid.new (h : Amid E n s s1 gray i pre) (hE : E i j) (hj : s1.at_ j = 0) (h2 : Walked E n s1 s2 (fun x => gray x ∨ x = i) j) :
    Amid E n s (setLow s2 i (min (s2.low i) (s2.low j))) gray i (pre ++ [j]) := by
  have hat : ∀ x, s.at_ x ≠ 0 → s1.at_ x ≠ 0 := fun x hx => by rw [h.at_ x hx]; exact hx
  have hcp : ∀ x, 0 ≤ s.comp x → 0 ≤ s1.comp x := fun x hx => by rw [h.comp x hx]; exact hx
  have hli := h2.low i h.here
  have hai := h2.at_ i h.here
  have hle := h.le
  obtain ⟨new, he, hz⟩ := h.ex
  obtain ⟨new2, he2, hz2⟩ := h2.ex
  have hnj := h2.newer i h.here
  refine ⟨h.old, h2.inv.setLow _ _, fun x hx => by rw [setLow, h2.at_ x (hat x hx), h.at_ x hx], ?_, fun x hx => by rw [setLow, h2.comp x (hcp x hx), h.comp x hx], h.fresh, ?_, ?_, ?_, ?_, ?_, ?_⟩
  · intro x hx
    have e : x ≠ i := fun e => hx (e ▸ h.fresh)
    simp only [setLow]
    rw [upd_ne _ _ e, h2.low x (hat x hx)]; exact h.low x hx
  · simp only [setLow]; rw [hai]; exact h.here
  · refine ⟨new ++ new2, by simp [setLow, he2, he], fun x hx z hzs hxz => ?_⟩
    simp only [setLow]
    rw [upd_same]
    have hz1 : z ∈ s1.stack := by rw [he]; exact List.mem_append_left _ hzs
    have hzat := h.at_ z ((h.old.mem z).1 hzs).1
    rcases List.mem_append.1 hx with hx | hx
    · have := hz x hx z hzs hxz; omega
    · have := hz2 x hx z hz1 hxz; omega
  · intro x hx
    simp only [setLow]
    rw [upd_same]
    rcases List.mem_append.1 hx with hx | hx
    · have := h.pre x hx
      exact ⟨by rw [h2.at_ x this.1]; exact this.1, fun hs => by have := this.2 hs; omega⟩
    · rw [List.mem_singleton.1 hx]
      exact ⟨h2.here, fun hs => absurd hj (hat j ((h.old.mem j).1 hs).1)⟩
  · simp only [setLow]
    rw [upd_same]
    rcases Int.le_total (s2.low i) (s2.low j) with hl | hl
    · rw [Int.min_eq_left hl, hli]
      obtain ⟨y, hy, hy1, hy2⟩ := h.res
      exact ⟨y, by rw [he2]; exact List.mem_append_left _ hy, by rw [h2.at_ y ((h.inv.mem y).1 hy).1]; exact hy1, hy2⟩
    · rw [Int.min_eq_right hl]
      rcases h2.res with ⟨_, h4⟩ | ⟨y, hy, h4, h5⟩
      · omega
      · exact ⟨y, by rw [he2]; exact List.mem_append_left _ hy, by rw [h2.at_ y ((h.inv.mem y).1 hy).1]; exact h4, .step hE h5⟩
  · simp only [setLow]
    rw [upd_same, hai]; omega
  · intro x hx
    simp only [setLow]
    rw [hai]; exact h.newer x hx
theorem Amid.split (h : Amid E n s s1 gray i pre) : ∀ x, s1.at_ x < s1.at_ i → x ∈ s1.stack → x ∈ s.stack := by
  intro x hx hm
  obtain ⟨new, he, _⟩ := h.ex
  have hs := h.inv.sorted
  rw [he] at hm hs
  rcases List.mem_append.1 hm with hm | hm
  · exact hm
  · rcases List.mem_cons.1 hm with rfl | hm
    · omega
    · have := (List.pairwise_cons.1 (List.pairwise_append.1 hs).2.1).1 x hm
      omega
theorem Amid.atOld (h : Amid E n s s1 gray i pre) : ∀ x ∈ s.stack, s1.at_ x = s.at_ x ∧ s1.at_ x < s1.at_ i := fun x hx => by
  have h0 := ((h.old.mem x).1 hx).1
  have h1 := h.at_ x h0
  have h2 := h.newer x h0
  exact ⟨h1, by omega⟩
/-- It comes back to what is older: all stay on the stack. -/
theorem Amid.stay (h : Amid E n s s1 gray i pre) (hne : s1.low i ≠ s1.at_ i) (hall : ∀ j, E i j → j ∈ pre) : Walked E n s s1 gray i := by
  have hle := h.le
  obtain ⟨y0, hy0, hy1, hy2⟩ := h.res
  have hyo : y0 ∈ s.stack := h.split y0 (by omega) hy0
  obtain ⟨new, he, hz⟩ := h.ex
  refine ⟨⟨h.inv.rng, h.inv.pos, h.inv.bound, h.inv.mem, h.inv.seen, h.inv.sorted, fun x hx => h.inv.gsub x (.inl hx), ?_, fun x hx => h.inv.up x (.inl hx), ?_, h.inv.done, h.inv.cls, h.inv.ltl, h.inv.same, h.inv.room⟩,
    h.at_, h.low, h.comp, h.here, ⟨i :: new, he, ?_⟩, .inr ⟨y0, hyo, by rw [← (h.atOld y0 hyo).1]; exact hy1, hy2⟩, h.newer⟩
  · intro y hy
    obtain ⟨x, hx, hxle, hl⟩ := h.inv.down y hy
    rcases hx with hx | rfl
    · exact ⟨x, hx, hxle, hl⟩
    · obtain ⟨x', hx', hxle', hl'⟩ := h.old.down y0 hyo
      refine ⟨x', hx', ?_, (hl.trans hy2).trans hl'⟩
      have h3 := (h.atOld x' (h.old.gsub x' hx')).1
      have h4 := (h.atOld y0 hyo).1
      omega
  · intro x hx hng y hxy
    by_cases e : x = i
    · subst e; exact (h.pre y (hall y hxy)).1
    · exact h.inv.black x hx (fun hg => hg.elim hng e) y hxy
  · intro x hx z hzs hxz
    rcases List.mem_cons.1 hx with rfl | hx
    · exact (h.pre z (hall z hxz)).2 hzs
    · exact hz x hx z hzs hxz
/-- What is left above is a component. -/
def popped (s : TS) (k : Nat) (c : List Int) : TS := ⟨s.at_, s.low, fun x => if x ∈ c then s.all.length else s.comp x, s.stack.take k, s.all ++ [c]⟩
theorem Amid.pop (h : Amid E n s s1 gray i pre) (heq : s1.low i = s1.at_ i) (hall : ∀ j, E i j → j ∈ pre) {c : List Int} (hc : ∀ x, x ∈ c ↔ x ∈ s1.stack.drop s.stack.length) (hr : c.Pairwise (· < ·)) :
    Walked E n s (popped s1 s.stack.length c) gray i := by
  obtain ⟨new, he, hz⟩ := h.ex
  have htk : s1.stack.take s.stack.length = s.stack := by rw [he]; simp
  have hdr : s1.stack.drop s.stack.length = i :: new := by rw [he]; simp
  rw [hdr] at hc
  have hci : i ∈ c := (hc i).2 List.mem_cons_self
  have hsort := h.inv.sorted
  rw [he] at hsort
  have hapart : ∀ x ∈ s.stack, x ∉ c := fun x hx hxc => by
    have := (List.pairwise_append.1 hsort).2.2 x hx x ((hc x).1 hxc); omega
  have hcs : ∀ x ∈ c, x ∈ s1.stack := fun x hx => by rw [he]; exact List.mem_append_right _ ((hc x).1 hx)
  have hst : ∀ x, x ∈ s1.stack ↔ x ∈ s.stack ∨ x ∈ c := fun x => by rw [he, List.mem_append, hc]
  have hcomp : ∀ x, x ∉ c → (popped s1 s.stack.length c).comp x = s1.comp x := fun x hx => by simp [popped, hx]
  have hcompc : ∀ x, x ∈ c → (popped s1 s.stack.length c).comp x = s1.all.length := fun x hx => by simp [popped, hx]
  have hold : ∀ x, 0 ≤ s1.comp x → x ∉ c := fun x hx hxc => by have := ((h.inv.mem x).1 (hcs x hxc)).2; omega
  have hgc : ∀ x, gray x → x ∉ c := fun x hx => hapart x (h.old.gsub x hx)
  have hsee : ∀ x ∈ c, ∀ y, E x y → s1.at_ y ≠ 0 := fun x hx y hxy => by
    rcases List.mem_cons.1 ((hc x).1 hx) with rfl | hx2
    · exact (h.pre y (hall y hxy)).1
    · refine h.inv.black x ((h.inv.mem x).1 (hcs x hx)).1 ?_ y hxy
      rintro (hg | rfl)
      · exact hgc x hg hx
      · have := (List.pairwise_cons.1 (List.pairwise_append.1 hsort).2.1).1 x hx2; omega
  have hin : ∀ x ∈ c, ∀ y, E x y → y ∉ s.stack := fun x hx y hxy hys => by
    have h1 := h.atOld y hys
    rcases List.mem_cons.1 ((hc x).1 hx) with rfl | hx2
    · have := (h.pre y (hall y hxy)).2 hys; omega
    · have := hz x hx2 y hys hxy; omega
  have hlead : ∀ x ∈ c, Lead E x i := fun x hx => by
    obtain ⟨x', hx', _, hl⟩ := h.inv.down x (hcs x hx)
    rcases hx' with hx' | rfl
    · refine hl.trans (h.inv.up x' (.inl hx') i (hcs i hci) ?_)
      have := (h.atOld x' (h.old.gsub x' hx')).2; omega
    · exact hl
  have hback : ∀ x ∈ c, Lead E i x := fun x hx => by
    refine h.inv.up i (.inr rfl) x (hcs x hx) ?_
    rcases List.mem_cons.1 ((hc x).1 hx) with rfl | hx2
    · exact Int.le_refl _
    · have := (List.pairwise_cons.1 (List.pairwise_append.1 hsort).2.1).1 x hx2; omega
  refine ⟨⟨h.inv.rng, h.inv.pos, h.inv.bound, ?_, ?_, ?_, ?_, ?_, ?_, ?_, ?_, ?_, ?_, ?_, ?_⟩, h.at_, h.low, ?_, h.here, ⟨[], by simp [popped, htk], by simp⟩, .inl ⟨by rw [hcompc i hci]; omega, heq⟩, h.newer⟩
  · intro x
    show x ∈ s1.stack.take s.stack.length ↔ s1.at_ x ≠ 0 ∧ _
    rw [htk]
    constructor
    · intro hx
      have := (h.inv.mem x).1 ((hst x).2 (.inl hx))
      rw [hcomp x (hapart x hx)]; exact this
    · rintro ⟨h1, h2⟩
      by_cases hxc : x ∈ c
      · rw [hcompc x hxc] at h2; omega
      · rw [hcomp x hxc] at h2
        rcases (hst x).1 ((h.inv.mem x).2 ⟨h1, h2⟩) with h3 | h3
        · exact h3
        · exact absurd h3 hxc
  · intro x hx
    show s1.at_ x ≠ 0
    by_cases hxc : x ∈ c
    · exact ((h.inv.mem x).1 (hcs x hxc)).1
    · rw [hcomp x hxc] at hx; exact h.inv.seen x hx
  · show (s1.stack.take s.stack.length).Pairwise _
    rw [htk]; exact (List.pairwise_append.1 hsort).1
  · intro x hx
    show x ∈ s1.stack.take s.stack.length
    rw [htk]; exact h.old.gsub x hx
  · intro y hy
    have hy2 : y ∈ s.stack := by rw [← htk]; exact hy
    obtain ⟨x, hx, hle, hl⟩ := h.old.down y hy2
    refine ⟨x, hx, ?_, hl⟩
    show s1.at_ x ≤ s1.at_ y
    rw [(h.atOld y hy2).1, (h.atOld x (h.old.gsub x hx)).1]; exact hle
  · intro x hx y hy hle
    have hy2 : y ∈ s.stack := by rw [← htk]; exact hy
    exact h.inv.up x (.inl hx) y ((hst y).2 (.inl hy2)) hle
  · intro x hx hng y hxy
    by_cases hxc : x ∈ c
    · exact hsee x hxc y hxy
    · refine h.inv.black x hx ?_ y hxy
      rintro (hg | rfl)
      · exact hng hg
      · exact hxc hci
  · intro x y hx hxy
    by_cases hxc : x ∈ c
    · rw [hcompc x hxc]
      have hy1 := hsee x hxc y hxy
      have hy2 := hin x hxc y hxy
      by_cases hyc : y ∈ c
      · rw [hcompc y hyc]; omega
      · rw [hcomp y hyc]
        have h3 : ¬ s1.comp y < 0 := fun h4 => by
          rcases (hst y).1 ((h.inv.mem y).2 ⟨hy1, h4⟩) with h5 | h5
          · exact hy2 h5
          · exact hyc h5
        have h4 := h.inv.ltl y
        omega
    · rw [hcomp x hxc] at hx ⊢
      obtain ⟨h1, h2⟩ := h.inv.done x y hx hxy
      rw [hcomp y (hold y h1)]
      exact ⟨h1, h2⟩
  · intro k d hk
    have hk2 : (s1.all ++ [c])[k]? = some d := hk
    rcases Nat.lt_or_ge k s1.all.length with hlt | hge
    · rw [List.getElem?_append_left hlt] at hk2
      obtain ⟨h1, h2, h3⟩ := h.inv.cls k d hk2
      refine ⟨h1, h2, fun x => ?_⟩
      rw [h3 x]
      by_cases hxc : x ∈ c
      · rw [hcompc x hxc]
        have := ((h.inv.mem x).1 (hcs x hxc)).2
        omega
      · rw [hcomp x hxc]
    · rw [List.getElem?_append_right hge] at hk2
      have hk3 : k = s1.all.length := by
        have h1 := (List.getElem?_eq_some_iff.1 hk2).1
        simp at h1; omega
      subst hk3
      simp at hk2
      subst hk2
      refine ⟨fun e => (by rw [e] at hci; cases hci), hr, fun x => ?_⟩
      by_cases hxc : x ∈ c
      · rw [hcompc x hxc]; simp [hxc]
      · rw [hcomp x hxc]
        have := h.inv.ltl x
        simp only [hxc, false_iff]
        omega
  · intro x
    show _ < ((s1.all ++ [c]).length : Int)
    rw [List.length_append, List.length_singleton]
    by_cases hxc : x ∈ c
    · rw [hcompc x hxc]; omega
    · rw [hcomp x hxc]; have := h.inv.ltl x; omega
  · intro x y hx hxy
    by_cases hxc : x ∈ c
    · by_cases hyc : y ∈ c
      · exact (hlead x hxc).trans (hback y hyc)
      · rw [hcompc x hxc, hcomp y hyc] at hxy
        have := h.inv.ltl y; omega
    · rw [hcomp x hxc] at hx hxy
      by_cases hyc : y ∈ c
      · rw [hcompc y hyc] at hxy
        have := h.inv.ltl x; omega
      · rw [hcomp y hyc] at hxy
        exact h.inv.same x y hx hxy
  · show (s1.all ++ [c]).length + (s1.stack.take s.stack.length).length + zer s1.at_ n ≤ n
    rw [htk, List.length_append, List.length_singleton]
    have := h.inv.room
    rw [he, List.length_append, List.length_cons] at this
    omega
  · intro x hx
    have h1 := h.comp x hx
    rw [hcomp x (hold x (by omega))]; exact h1
end
end Tarj
end Go.Proofs.Ytmmcjjklmcfegaa

/- Components: what is found in the end; what goes round. Plain. -/
namespace Go.Proofs.Ytmmcjjklmcfegaa
namespace Tarj
section
variable {E : Int → Int → Prop} {n : Nat}
/-- What has been found in the end. -/
structure Res (E : Int → Int → Prop) (n : Nat) (comp : Int → Int) (all : List (List Int)) : Prop where
  rng : ∀ x : Int, 0 ≤ x → x < n → 0 ≤ comp x
  out : ∀ x, 0 ≤ comp x → 0 ≤ x ∧ x < n
  done : ∀ x y, 0 ≤ comp x → E x y → 0 ≤ comp y ∧ comp y ≤ comp x
  cls : ∀ (k : Nat) (c : List Int), all[k]? = some c → c ≠ [] ∧ c.Pairwise (· < ·) ∧ ∀ x, x ∈ c ↔ comp x = (k : Int)
  ltl : ∀ x, comp x < all.length
  same : ∀ x y, 0 ≤ comp x → comp x = comp y → Lead E x y
  room : all.length ≤ n
def start : TS := ⟨fun _ => 0, fun _ => 0, fun _ => -1, [], []⟩
theorem zer_le (f : Int → Int) : ∀ m, zer f m ≤ m := by
  intro m
  induction m with
  | zero => exact Nat.le_refl _
  | succ m ih => simp only [zer]; split <;> omega
theorem TInv.start : TInv E n start (fun _ => False) := by
  refine ⟨by simp [Tarj.start], by simp [Tarj.start], ?_, by simp [Tarj.start], by simp [Tarj.start], by simp [Tarj.start], by simp, by simp [Tarj.start], by simp, by simp [Tarj.start], by simp [Tarj.start], by simp [Tarj.start], by simp [Tarj.start], by simp [Tarj.start], ?_⟩
  · intro x
    have := zer_le (fun _ => 0) n
    simp only [Tarj.start]; omega
  · have := zer_le (fun _ => 0) n
    simp only [Tarj.start, List.length_nil]; omega
theorem TInv.end_ {s : TS} (h : TInv E n s (fun _ => False)) (hall : ∀ x : Int, 0 ≤ x → x < n → s.at_ x ≠ 0) : Res E n s.comp s.all := by
  have hst : ∀ x, x ∉ s.stack := fun x hx => by
    obtain ⟨_, hg, _⟩ := h.down x hx
    exact hg
  refine ⟨?_, fun x hx => h.rng x (h.seen x hx), h.done, h.cls, h.ltl, h.same, by have := h.room; omega⟩
  intro x h0 h1
  rcases Int.lt_or_le (s.comp x) 0 with h2 | h2
  · exact absurd ((h.mem x).2 ⟨hall x h0 h1, h2⟩) (hst x)
  · exact h2
variable {comp : Int → Int} {all : List (List Int)}
theorem Res.lead (h : Res E n comp all) {x y : Int} (hx : 0 ≤ comp x) (hl : Lead E x y) : 0 ≤ comp y ∧ comp y ≤ comp x := by
  induction hl with
  | here => exact ⟨hx, Int.le_refl _⟩
  | step e _ ih =>
    obtain ⟨h1, h2⟩ := h.done _ _ hx e
    obtain ⟨h3, h4⟩ := ih h1
    exact ⟨h3, by omega⟩
theorem Res.mutual (h : Res E n comp all) {x y : Int} (hx : 0 ≤ comp x) (hy : 0 ≤ comp y) : comp x = comp y ↔ Lead E x y ∧ Lead E y x := by
  constructor
  · intro e; exact ⟨h.same x y hx e, h.same y x hy e.symm⟩
  · rintro ⟨h1, h2⟩
    have h3 := (h.lead hx h1).2
    have h4 := (h.lead hy h2).2
    omega
/-- To lead to oneself, by at least one step. -/
def Rnd (E : Int → Int → Prop) (x : Int) : Prop := ∃ j, E x j ∧ Lead E j x
theorem Res.round (h : Res E n comp all) {x : Int} {k : Nat} {c : List Int} (hk : comp x = k) (hc : all[k]? = some c) : Rnd E x ↔ 1 < c.length ∨ E x x := by
  obtain ⟨_, hr, hm⟩ := h.cls k c hc
  have hnd : c.Nodup := hr.imp (fun h => by omega)
  have hx : 0 ≤ comp x := by omega
  have hxc : x ∈ c := (hm x).2 hk
  constructor
  · rintro ⟨j, h1, h2⟩
    by_cases e : j = x
    · subst e; exact .inr h1
    · left
      have h3 := h.done x j hx h1
      have h4 := (h.lead h3.1 h2).2
      have hj : j ∈ c := (hm j).2 (by omega)
      have := (List.nodup_cons.2 ⟨by simpa using e, by simp⟩ : [j, x].Nodup).length_le_of_subset (l₂ := c) (by
        intro y hy
        rcases List.mem_cons.1 hy with rfl | hy
        · exact hj
        · rw [List.mem_singleton.1 hy]; exact hxc)
      simp at this; omega
  · rintro (h1 | h1)
    · obtain ⟨y, hy, hne⟩ : ∃ y ∈ c, y ≠ x := by
        apply Classical.byContradiction
        intro hno
        have h2 : ∀ y ∈ c, y = x := fun y hy => Classical.byContradiction fun e => hno ⟨y, hy, e⟩
        have := hnd.length_le_of_subset (l₂ := [x]) (fun y hy => by rw [h2 y hy]; simp)
        simp at this; omega
      have h2 := h.same x y hx (by rw [hk, (hm y).1 hy])
      have h3 := h.same y x (by rw [(hm y).1 hy]; omega) (by rw [hk, (hm y).1 hy])
      cases h2 with
      | here => exact absurd rfl hne
      | step e hl => exact ⟨_, e, hl.trans h3⟩
    · exact ⟨x, h1, .here x⟩
end
end Tarj
end Go.Proofs.Ytmmcjjklmcfegaa

/- Rows of rows of ints. -/
namespace Go.Proofs.Ytmmcjjklmcfegaa
open Go.RowKit Go.Shelf

def rowsI (fs : List (Value × List Int)) : List Ent := fs.map fun r => rowI 3 r.1 r.2
theorem rowsI_len (fs : List (Value × List Int)) : (rowsI fs).length = fs.length := by simp [rowsI]
theorem rowsI_get {fs : List (Value × List Int)} {i : Nat} {r : Value × List Int} (h : fs[i]? = some r) : (rowsI fs)[i]? = some (rowI 3 r.1 r.2) := by simp [rowsI, h]
theorem rowsI_set (fs : List (Value × List Int)) (i : Nat) (r : Value × List Int) : (rowsI fs).set i (rowI 3 r.1 r.2) = rowsI (fs.set i r) := by simp [rowsI, List.map_set]
theorem rowsI_calm (B : Nat) (fs : List (Value × List Int)) : ∀ x ∈ rowsI fs, x.Calm B := by
  intro x hx
  obtain ⟨r, _, rfl⟩ := List.mem_map.1 hx
  exact rowI_calm _ _ _ _
theorem elemRows : Elem Try.prog 107 39 1 24 (.slice none 0 0) := ⟨by kernel_rfl, info_parts (by kernel_rfl), rfl, by decide⟩
def rowR (v : Value) (vs : List Value) : Ent := erow 39 1 v vs.length vs
theorem rowR_calm (B : Nat) (v : Value) (vs : List Value) : (rowR v vs).Calm B := erow_calm B _ 1 v _ _
section
variable {F : Fence} {n : Nat} {P : Program} {B : Nat} {w0 w : World} {L : List Ent}
theorem Mem.make_rows (h : Mem B w0 w L) {w' : World} {v : Value} {m : Nat} (hown : w'.ownsRow w.heap.size 39 1 v m (madeCells #[.slice none 0 0] (m * 1)).toList) (hg : w.grownBy w' none) : Mem B w0 w' (rowR v (List.replicate m (.slice none 0 0)) :: L) := by
  rw [Nat.mul_one, toList_madeCells_one] at hown
  exact (h.callRow (grown_below hg) hown).cast (by simp [rowR])
theorem Mem.in_makeR (T : Elem P 107 39 1 24 (.slice none 0 0)) {ops : Array Oper} {rest : List Oper} {o : Oper} {a : Act} {Q : Exit → Act → World → Prop} (hgd : o.guard = none) (l c : Operand) (hop : o.op = Op.makeSlice 107 l c)
    (h : Mem B w0 w L) (m : Nat) (hl : a.eval l = .int .i64 (m : Int)) (hc : a.eval c = .int .i64 (m : Int)) (hm : m ≤ 1000)
    (hK : ∀ w', Mem B w0 w' (rowR (.slice (some ⟨w.heap.size, 0, none⟩) m m) (List.replicate m (.slice none 0 0)) :: L) → Below w.heap.size w w' → wpListIn F n P ops Q rest (a.put o.dst (.slice (some ⟨w.heap.size, 0, none⟩) m m)) w') :
    wpListIn F n P ops Q (o :: rest) a w := by
  obtain ⟨i, hi, hz, hs, hb⟩ := T.info
  refine wpListIn_plain hgd fun K hK' => ?_
  obtain ⟨w', hrun, r1, r2⟩ := run_make_full (P := P) w w.heap.size 107 39 i _ 1 T.under hi hz hs .i64 .i64 m (by rw [hb]; omega) (by simp [maxLen]; omega) (Nat.le_refl _)
  unfold Oper.wpIn
  refine ⟨?_, ?_⟩
  · simp [Oper.about, hop]
  · rw [Oper.semAt_plain F _ _ (by rw [hop]; intro c hc'; cases hc')]
    simp [execOp, hop, hl, hc, hrun, Result.andThen]
    exact hK' _ _ (hK w' (h.make_rows r1 r2) (grown_below r2))
theorem Mem.nils (h : Mem B w0 w L) : ∀ m : Nat, Mem B w0 w (rowsI (List.replicate m (.slice none 0 0, [])) ++ L)
  | 0 => h
  | m + 1 => by
    have h2 := (Mem.nils h m).nilI 3
    exact h2.cast (by simp [rowsI, List.replicate_succ])
/-- The cell of a row of rows. -/
theorem Mem.rowCell (h : Mem B w0 w L) (k : Nat) {b m cap : Nat} {vs : List Value} (hk : L[k]? = some (rowR (.slice (some ⟨b, 0, none⟩) m cap) vs)) {j : Nat} {x : Value} (hx : vs[j]? = some x) :
    w.cell? ⟨b, j, none⟩ = some x ∧ w.frozen? ⟨b, j, none⟩ = false ∧ b < w.heap.size := by
  have hr : w.ownsRow B 39 1 (.slice (some ⟨b, 0, none⟩) m cap) vs.length vs := h.row k hk
  have hj : j < vs.length := (List.getElem?_eq_some_iff.1 hx).1
  rcases hr.2 with ⟨h1, _⟩ | ⟨g, cap', cur, hv, hB, hg, _⟩
  · cases h1
  · cases hv
    refine ⟨?_, hr.frozenAt j, (Array.getElem?_eq_some_iff.1 hg).1⟩
    rw [hr.cellAt j (by omega)]
    exact hx
theorem Mem.setR (h : Mem B w0 w L) (k : Nat) {b m cap : Nat} {vs : List Value} (hk : L[k]? = some (rowR (.slice (some ⟨b, 0, none⟩) m cap) vs)) (hm : vs.length = m) (j : Nat) (x : Value) :
    Mem B w0 (w.setCell ⟨b, j, none⟩ x) (L.set k (rowR (.slice (some ⟨b, 0, none⟩) m cap) (vs.set j x))) := by
  subst hm
  exact (h.setRow k hk j x).cast (by simp [rowR])
end
end Go.Proofs.Ytmmcjjklmcfegaa

/- What a range over a function keeps; marks at a return; a new empty row. (Parted out of Tz.) -/
namespace Go.Proofs.Ytmmcjjklmcfegaa
open Go.RowKit Go.Shelf

attribute [local go_sem] Oper.semAt_some

theorem ownFrom_and {β : Type} {B : Nat} {p : β → Prop} {I : β → World → Prop} (h : OwnFrom B I) : OwnFrom B (fun s W => p s ∧ I s W) :=
  fun s W W' row ⟨hp, hs⟩ hg hr => ⟨hp, h s W W' row hs hg hr⟩
theorem calm_of {B : Nat} {w0 w : World} {L : List Ent} (h : Mem B w0 w L) {L' : List Ent} (hs : ∀ x ∈ L', x ∈ L) : ∀ x ∈ L', x.Calm w.heap.size :=
  fun x hx _ _ _ b hb => .inl (h.lt (hs x hx) b hb).2
theorem mem_of_target {l : List V} {n : Int} (h : n ∈ targets l) : (⟨true, n⟩ : V) ∈ l := by
  unfold targets at h
  simp only [List.mem_map, List.mem_filter] at h
  obtain ⟨v, ⟨hv, hr⟩, rfl⟩ := h
  obtain ⟨r, m⟩ := v
  simp only at hr
  subst hr; exact hv
theorem ref_in' {g : G} (hG : Good g) {n : Int} (hv : (⟨true, n⟩ : V) ∈ allV g) : 0 ≤ n ∧ n < g.objs.length := by
  have hb := hG.vals _ hv
  simp [badC] at hb
  omega
theorem ownFrom_keeps {β : Type} {B : Nat} {w : World} (h : w.heap.size ≤ B) : OwnFrom B (fun (_ : β) W => KeepsOthers w W) := by
  intro s W W' row hs hg hr
  refine ⟨Nat.le_trans hs.size hg.size, fun k o hk ho => ?_⟩
  have h1 := hs.same k o hk ho
  refine (hg.block k (Array.getElem?_eq_some_iff.1 h1).1 ?_).trans h1
  intro e
  have h2 := (hr k e.symm).1
  have h3 := (Array.getElem?_eq_some_iff.1 hk).1
  omega
theorem keepsOthers_put {w W : World} {D : Nat} {o : Obj} (h : KeepsOthers w W) (hD : w.heap.size ≤ D) : KeepsOthers w (W.putObj D o) := by
  refine ⟨by simpa [World.putObj] using h.size, fun k o' hk ho => ?_⟩
  have h3 := (Array.getElem?_eq_some_iff.1 hk).1
  rw [World.putObj_heap_other (by omega)]
  exact h.same k o' hk ho
/-- At the function's return the marks are taken; what lay ahead of the call is kept. -/
theorem leaves_marks2 {F : Fence} {n : Nat} {P : Program} {fn : Func} {tmps : Array Value} {R : Ending → World → Prop} {B : Nat} {w0 w : World} {L : List Ent} {v : Value} :
    ∀ (Ds : List Nat) (W : World), Mem B w0 W (Ds.map edef ++ L) → KeepsOthers w W → (∀ D ∈ Ds, w.heap.size ≤ D) → (∀ W', Mem B w0 W' L → KeepsOthers w W' → (results fn tmps).run P W' = .ok v W' ∧ R (.returned v) W') →
      LeavesInM F n P fn tmps R (Ds.map fun D => { target := .collected D, args := #[] }) .returning W
  | [], W, h, hk, _, fin => ⟨v, (fin W h hk).1, (fin W h hk).2⟩
  | D :: Ds, W, h, hk, hD0, fin => by
    have hD : W.heap[D]? = some (.deferred (some [])) := by
      obtain ⟨_, x, hx, rfl⟩ := h.ok (edef D) (by simp)
      exact hx
    exact ⟨by simp, .inl ⟨D, _, rfl, run_takeDeferred hD, leaves_marks2 Ds _ (h.putDef _) (keepsOthers_put hk (hD0 D (by simp))) (fun D hD => hD0 D (List.mem_cons_of_mem _ hD)) fin⟩⟩
theorem Mem.fresh0 {B : Nat} {w0 w : World} {L : List Ent} (h : Mem B w0 w L) (e : TypeId) : Mem B w0 (w.alloc (.cells #[] e)) (rowI e (.slice (some ⟨w.heap.size, 0, none⟩) 0 0) [] :: L) := by
  refine (h.alloc_ _).cons _ ⟨?_, ?_⟩ ?_
  · intro b e; cases e; exact ⟨h.base, by simp⟩
  · exact ⟨rfl, .inr ⟨w.heap.size, 0, #[], rfl, heap_alloc_new w _, Nat.le_refl _, Nat.zero_le _, rfl, rfl⟩⟩
  · intro y hy b e e'
    cases e
    exact absurd (h.lt hy _ e').2 (Nat.lt_irrefl _)
end Go.Proofs.Ytmmcjjklmcfegaa

/- A law on one operation of a list, carried into a fence (a round, or a function whose rounds range over functions). -/
namespace Go.Proofs.Ytmmcjjklmcfegaa
open Go.RowKit Go.Shelf

def Freed (F : Fence) : Prop := F = Fence.wide ∨ ∃ r, F = Fence.wide.inRound r
theorem freed_wide : Freed Fence.wide := .inl rfl
theorem freed_round (r : Nat) : Freed (Fence.wide.inRound r) := .inr ⟨r, rfl⟩

section
variable {F : Fence} {n : Nat} {P : Program} {ops : Array Oper} {Q : Exit → Act → World → Prop} {a : Act} {w : World} {rest : List Oper} {o : Oper}
theorem oper_free (hF : Freed F) (hd : ∀ c, o.op ≠ .defer c) {K : Act → World → Prop} {Qs : Exit → Act → World → Prop} (hQs : ∀ e a w, e ≠ .normal → ¬ Qs e a w) (h : o.wp P a w K Qs) : o.wpIn F n P a w K Q := by
  have hfn : ∀ f, F.fn f := by rcases hF with rfl | ⟨r, rfl⟩ <;> exact fun _ => trivial
  have hcalls : ∀ {f : FuncId} {args : Array Value} {w : World} {R : Ending → World → Prop}, Calls P f args w R → CallsIn F (n - 1) P f args w R := by
    rcases hF with rfl | ⟨r, rfl⟩
    · exact fun h => (callsIn_wide (n := n - 1)).2 h
    · exact fun h => (callsIn_wide (n := n - 1)).2 h
  have hsteps : F.depth.isSome = true → 1 ≤ n := by rcases hF with rfl | ⟨r, rfl⟩ <;> exact fun h => by cases h
  refine ⟨fun f _ => hfn f, ?_⟩
  rw [Oper.semAt_eq _ _ _ hd]
  unfold Oper.wp at h
  generalize (execOp a.eval o).run P w = res at *
  cases res with
  | ok x w' =>
    cases x with
    | enter f args =>
      refine ⟨hsteps, hcalls (Calls.mono h ?_)⟩
      intro e w2 hq
      cases e with
      | returned v => exact hq
      | panicked c => exact (hQs _ _ _ (by simp) hq).elim
      | outgrown => obtain ⟨a3, w3, h3⟩ := hq; exact (hQs _ _ _ (by simp) h3).elim
    | row f args =>
      rcases hF with rfl | ⟨r, rfl⟩
      · exact ⟨hsteps, fun c cs _ => let ⟨v, w', h1, h2⟩ := h c cs; ⟨v, w', h1, stepsIn_wide.2 h2⟩⟩
      · exact ⟨hsteps, fun c cs _ => let ⟨v, w', h1, h2⟩ := h c cs; ⟨v, w', h1, stepsIn_wide.2 h2⟩⟩
    | round l f tmps assign body => exact h.elim
    | _ => exact h
  | halt x w' => cases x <;> first | exact (hQs _ _ _ (by simp) h).elim | exact h.elim

/-- One operation by its law outside. -/
theorem list_in (hF : Freed F) (hg : o.guard = none) (hd : ∀ c, o.op ≠ .defer c) (h : wpList P ops (fun e a' w' => e = .normal ∧ wpListIn F n P ops Q rest a' w') [o] a w) : wpListIn F n P ops Q (o :: rest) a w := by
  refine wpListIn_plain hg fun K hK => ?_
  unfold wpList at h
  have hw : Region.wanted o (yielded ops a.tmps) = true := by simp [Region.wanted, hg]
  rw [if_pos hw] at h
  replace h := h.resolve_right (fun h => by obtain ⟨_, a, w, h, _⟩ := h; cases h)
  refine Oper.wpIn_mono (K := fun a w => wpList P ops (fun e a' w' => e = .normal ∧ wpListIn F n P ops Q rest a' w') [] a w) ?_ (oper_free hF hd ?_ h)
  · intro a w h; exact hK _ _ h.2
  · intro e a w hne h; exact hne h.1
end
end Go.Proofs.Ytmmcjjklmcfegaa

/- What the search for components holds, as lists. Plain. -/
namespace Go.Proofs.Ytmmcjjklmcfegaa
open Go.RowKit

namespace Tarj
def rd (l : List Int) (d : Int) : Int → Int := fun x => if 0 ≤ x then l.getD x.toNat d else d
theorem rd_nat (l : List Int) (d : Int) (i : Nat) : rd l d (i : Int) = l.getD i d := by unfold rd; rw [if_pos (by omega), Int.toNat_natCast]
theorem rd_some {l : List Int} {d : Int} {i : Nat} {x : Int} (h : l[i]? = some x) : rd l d (i : Int) = x := by rw [rd_nat, List.getD_eq_getElem?_getD, h]; rfl
theorem rd_set (l : List Int) (d v : Int) {i : Nat} (hi : i < l.length) : rd (l.set i v) d = upd (rd l d) (i : Int) v := by
  funext x
  unfold upd
  by_cases e : x = (i : Int)
  · subst e
    rw [if_pos rfl, rd_nat, List.getD_eq_getElem?_getD, List.getElem?_set_self hi]; rfl
  · rw [if_neg e]
    unfold rd
    split
    · rw [List.getD_eq_getElem?_getD, List.getD_eq_getElem?_getD, List.getElem?_set_ne (by omega)]
    · rfl
theorem rd_out {l : List Int} {d x : Int} (h : rd l d x ≠ d) : 0 ≤ x ∧ x < l.length := by
  unfold rd at h
  split at h
  · rename_i h0
    refine ⟨h0, ?_⟩
    rcases Nat.lt_or_ge x.toNat l.length with h1 | h1
    · omega
    · rw [List.getD_eq_getElem?_getD, List.getElem?_eq_none h1] at h; exact absurd rfl h
  · exact absurd rfl h
theorem rd_mem {l : List Int} {d x : Int} (h : 0 ≤ x ∧ x < l.length) : rd l d x ∈ l := by
  unfold rd
  rw [if_pos h.1]
  have : x.toNat < l.length := by omega
  rw [List.getD_eq_getElem?_getD, List.getElem?_eq_getElem this]
  exact List.getElem_mem this
theorem rd_rep (n : Nat) (d e : Int) (h : d = e) : rd (List.replicate n d) e = fun _ => e := by
  subst h
  funext x
  unfold rd
  split
  · rw [List.getD_eq_getElem?_getD, List.getElem?_replicate]; split <;> rfl
  · rfl

structure CS where
  low : List Int
  at_ : List Int
  comp : List Int
  stack : List Int
  vst : Value
  va : Value
  fs : List (Value × List Int)
def CS.ts (s : CS) : TS := ⟨rd s.at_ 0, rd s.low 0, rd s.comp (-1), s.stack, s.fs.map (·.2)⟩
structure CS.Ok (n : Nat) (s : CS) : Prop where
  low : s.low.length = n
  at_ : s.at_.length = n
  comp : s.comp.length = n
def EG (g : G) (x y : Int) : Prop := 0 ≤ x ∧ y ∈ targets (fieldsAt g x)
/-- All of a list are given one number. -/
def setAll (comp : List Int) (c : List Int) (v : Int) : List Int := c.foldl (fun l j => l.set j.toNat v) comp
theorem setAll_len (c : List Int) (v : Int) : ∀ comp : List Int, (setAll comp c v).length = comp.length := by
  induction c with
  | nil => intro _; rfl
  | cons a c ih => intro comp; unfold setAll; rw [List.foldl_cons]; exact (ih _).trans (by simp)
theorem setAll_snoc (comp c : List Int) (x v : Int) : setAll comp (c ++ [x]) v = (setAll comp c v).set x.toNat v := by simp [setAll]
theorem setAll_rd (v d : Int) : ∀ (c comp : List Int), (∀ x ∈ c, 0 ≤ x ∧ x < comp.length) → rd (setAll comp c v) d = fun x => if x ∈ c then v else rd comp d x := by
  intro c
  induction c with
  | nil => intro comp _; funext x; simp [setAll]
  | cons a c ih =>
    intro comp h
    have ha := h a List.mem_cons_self
    have e : (a.toNat : Int) = a := by omega
    have h2 : setAll comp (a :: c) v = setAll (comp.set a.toNat v) c v := rfl
    rw [h2, ih _ (fun x hx => by rw [List.length_set]; exact h x (List.mem_cons_of_mem _ hx)), rd_set comp d v (by omega), e]
    funext x
    unfold upd
    by_cases hxc : x ∈ c
    · rw [if_pos hxc, if_pos (List.mem_cons_of_mem _ hxc)]
    · rw [if_neg hxc]
      by_cases hxa : x = a
      · subst hxa; rw [if_pos rfl, if_pos List.mem_cons_self]
      · rw [if_neg hxa, if_neg (by simp [hxa, hxc])]
theorem ts_popped (s : CS) (k : Nat) (c : List Int) (vst va vc : Value) (hc : ∀ x ∈ c, 0 ≤ x ∧ x < s.comp.length) :
    (⟨s.low, s.at_, setAll s.comp c (s.fs.length : Int), s.stack.take k, vst, va, s.fs ++ [(vc, c)]⟩ : CS).ts = popped s.ts k c := by
  unfold CS.ts popped
  simp only [TS.mk.injEq, List.map_append, List.map_cons, List.map_nil, true_and]
  refine ⟨?_, trivial⟩
  rw [setAll_rd _ _ _ _ hc]
  funext x
  simp
theorem ts_push (s : CS) (i : Nat) (t : Int) (vst : Value) (hi : i < s.at_.length) (hi2 : i < s.low.length) :
    (⟨s.low.set i t, s.at_.set i t, s.comp, s.stack ++ [(i : Int)], vst, s.va, s.fs⟩ : CS).ts = push s.ts (i : Int) t := by
  unfold CS.ts push
  rw [rd_set _ _ _ hi, rd_set _ _ _ hi2]
theorem ts_setLow (s : CS) (i : Nat) (t : Int) (hi2 : i < s.low.length) :
    (⟨s.low.set i t, s.at_, s.comp, s.stack, s.vst, s.va, s.fs⟩ : CS).ts = setLow s.ts (i : Int) t := by
  unfold CS.ts setLow
  rw [rd_set _ _ _ hi2]
end Tarj

/-- What stands around the search. -/
structure CompEnv where
  g : G
  w0 : World
  vo : Value
  vr : Value
  Bs : Nat
  gL : Nat
  gA : Nat
  gC : Nat
  cC : Nat
structure CompEnv.Ok (E : CompEnv) : Prop where
  good : Good E.g
  objs : IsObjs E.w0 E.vo E.g.objs
@[reducible] def CompEnv.vL (E : CompEnv) : Value := .slice (some ⟨E.gL, 0, none⟩) E.g.objs.length E.g.objs.length
@[reducible] def CompEnv.vA (E : CompEnv) : Value := .slice (some ⟨E.gA, 0, none⟩) E.g.objs.length E.g.objs.length
@[reducible] def CompEnv.vC (E : CompEnv) : Value := .slice (some ⟨E.gC, 0, none⟩) E.g.objs.length E.cC
@[reducible] def CompEnv.own (E : CompEnv) (s : Tarj.CS) (L' : List Ent) : List Ent :=
  ebox E.Bs #[E.vo, E.vr, E.vL, E.vA, s.vst, E.vC, s.va] 109 :: rowI 3 E.vL s.low :: rowI 3 E.vA s.at_ :: rowI 3 E.vC s.comp :: rowI 3 s.vst s.stack :: rowR s.va (s.fs.map (·.1)) :: (L' ++ rowsI s.fs)
def WalkSays (E : CompEnv) (s : Tarj.CS) (i : Int) (gray : Int → Prop) (L' : List Ent) (w w' : World) (e : Ending) : Prop :=
  ∃ s', e = .returned (.tuple #[]) ∧ Tarj.Walked (Tarj.EG E.g) E.g.objs.length s.ts s'.ts gray i ∧ s'.Ok E.g.objs.length ∧ Mem E.w0.heap.size E.w0 w' (E.own s' L') ∧ KeepsOthers w w'
def WalkC (E : CompEnv) (m : Nat) : Prop := ∀ (s : Tarj.CS) (i : Nat) (gray : Int → Prop) (w : World) (L' : List Ent), s.Ok E.g.objs.length → Tarj.TInv (Tarj.EG E.g) E.g.objs.length s.ts gray → s.at_[i]? = some 0 →
  (∀ x, gray x → Tarj.Lead (Tarj.EG E.g) x (i : Int)) → Tarj.zer s.ts.at_ E.g.objs.length ≤ m →
  Mem E.w0.heap.size E.w0 w (E.own s L') → CallsIn Fence.wide 10 Try.prog 75 #[.pointer (some ⟨E.Bs, 0, none⟩), .int .i64 (i : Int)] w fun e w' => WalkSays E s (i : Int) gray L' w w' e
end Go.Proofs.Ytmmcjjklmcfegaa

/- slices.Sort on a slice of the call's own; graph.Reach. -/
namespace Go.Proofs.Ytmmcjjklmcfegaa
open Go.RowKit Go.Shelf Go.Sort

def sorted (l : List Int) : List Int := l.mergeSort fun x y => decide (x ≤ y)
theorem length_sorted (l : List Int) : (sorted l).length = l.length := List.length_mergeSort l
theorem mem_sorted {l : List Int} {x : Int} : x ∈ sorted l ↔ x ∈ l := List.mem_mergeSort

theorem sort_own (B : Nat) (w0 w : World) (L : List Ent) (hM : Mem B w0 w L) (k : Nat) (e : TypeId) (v : Value) (l : List Int) (hk : L[k]? = some (rowI e v l)) (hl : l.length ≤ 1000000) :
    Calls Try.prog 97 #[v] w fun e' w' => e' = .returned (.tuple #[]) ∧ Mem B w0 w' (L.set k (rowI e v (sorted l))) := by
  have hown := hM.ownI k hk
  have hget := hM.get k hk
  rcases hown.2 with ⟨rfl, h0⟩ | ⟨g, cap, cur, rfl, hB, hg, hn, hcap, hcs, htk⟩
  · have h1 : l = [] := List.eq_nil_of_length_eq_zero h0
    subst h1
    refine (Try.slices_Sort_int_none none 0 w).mono ?_
    rintro e' w' ⟨rfl, rfl⟩
    refine ⟨rfl, hM.cast ?_⟩
    rw [show sorted [] = [] by simp [sorted]]
    have hkl := (List.getElem?_eq_some_iff.1 hk)
    obtain ⟨h1, h2⟩ := hkl
    rw [← h2, List.set_getElem_self]
  · rw [Nat.mul_one] at htk
    refine (Try.slices_Sort_int g 0 cap l w (holds_of_blockI hg htk) (Array.getElem?_eq_some_iff.1 hg).1 (by omega)).mono ?_
    rintro e' w' ⟨rfl, n, os, rfl⟩
    have hs := ownsRow_sortedI (n := n) (os := os) (e := e) (base := B) (ts := sorted l) (ss := l) (length_sorted l) hB hg hn hcap hcs
    refine ⟨rfl, hM.turn k hk (grownBy_sortedI _) ?_ (fun b hb => .inl hb)⟩
    have hrow := row_ok.2 hs
    unfold rowI
    rw [length_sorted]
    exact hrow
end Go.Proofs.Ytmmcjjklmcfegaa

/- The search for components, walked. -/
namespace Go.Proofs.Ytmmcjjklmcfegaa
open Go.RowKit Go.Shelf Tarj

attribute [local go_sem] Oper.semAt_some
def ldSt : Op := Op.load 39 (Operand.tmp 12)
theorem ldSt_eq : Op.load 39 (Operand.tmp 12) = ldSt := rfl
attribute [local go_sem] ldSt
def ldAll : Op := Op.load 107 (Operand.tmp 178)
theorem ldAll_eq : Op.load 107 (Operand.tmp 178) = ldAll := rfl
attribute [local go_sem] ldAll

theorem own_calm (E : CompEnv) (s : CS) (T : List Ent) (B : Nat) (h : ∀ x ∈ T, x.Calm B) : ∀ x ∈ E.own s T, x.Calm B := by
  refine calm_cons (ebox_calm _ _ _ _) (calm_cons (rowI_calm _ _ _ _) (calm_cons (rowI_calm _ _ _ _) (calm_cons (rowI_calm _ _ _ _) (calm_cons (rowI_calm _ _ _ _) (calm_cons (rowR_calm _ _ _) ?_)))))
  intro x hx
  rcases List.mem_append.1 hx with hx | hx
  · exact h x hx
  · exact rowsI_calm B s.fs x hx

theorem sort_keeps (B : Nat) (w0 w : World) (L : List Ent) (hM : Mem B w0 w L) (k : Nat) (e : TypeId) (v : Value) (l : List Int) (hk : L[k]? = some (rowI e v l)) (hl : l.length ≤ 1000000) :
    Calls Try.prog 97 #[v] w fun e' w' => e' = .returned (.tuple #[]) ∧ Mem B w0 w' (L.set k (rowI e v (sorted l))) ∧ KeepsOthers w w' := by
  have hown := hM.ownI k hk
  have hget := hM.get k hk
  rcases hown.2 with ⟨rfl, h0⟩ | ⟨g, cap, cur, rfl, hB, hg, hn, hcap, hcs, htk⟩
  · have h1 : l = [] := List.eq_nil_of_length_eq_zero h0
    subst h1
    refine (Try.slices_Sort_int_none none 0 w).mono ?_
    rintro e' w' ⟨rfl, rfl⟩
    refine ⟨rfl, hM.cast ?_, KeepsOthers.refl _⟩
    rw [show sorted [] = [] by simp [sorted]]
    have hkl := (List.getElem?_eq_some_iff.1 hk)
    obtain ⟨h1, h2⟩ := hkl
    rw [← h2, List.set_getElem_self]
  · rw [Nat.mul_one] at htk
    refine (Try.slices_Sort_int g 0 cap l w (holds_of_blockI hg htk) (Array.getElem?_eq_some_iff.1 hg).1 (by omega)).mono ?_
    rintro e' w' ⟨rfl, n, os, rfl⟩
    have hs := ownsRow_sortedI (n := n) (os := os) (e := e) (base := B) (ts := sorted l) (ss := l) (length_sorted l) hB hg hn hcap hcs
    refine ⟨rfl, hM.turn k hk (grownBy_sortedI _) ?_ (fun b hb => .inl hb), KeepsOthers.of_grownBy (grownBy_sortedI _) (by intro j o hj ho; cases hj; rw [hg] at ho; cases ho; rfl)⟩
    have hrow := row_ok.2 hs
    unfold rowI
    rw [length_sorted]
    exact hrow
/-- A shorter part of a slice of ints. -/
theorem Mem.shrinkI' {B : Nat} {w0 w : World} {L : List Ent} (h : Mem B w0 w L) (k : Nat) {e : TypeId} {b n cap : Nat} {l l' : List Int} (hk : L[k]? = some (rowI e (.slice (some ⟨b, 0, none⟩) n cap) l)) (hl : l'.length ≤ l.length) (hp : l' <+: l) (hn : l.length = n) :
    Mem B w0 w (L.set k (rowI e (.slice (some ⟨b, 0, none⟩) l'.length cap) l')) := by
  have hr := h.row k hk
  refine h.turn k hk ⟨rfl, rfl, rfl, Nat.le_refl _, fun i _ _ => rfl⟩ (row_ok.2 ?_) fun b' e => .inl e
  refine ⟨by simp, .inr ?_⟩
  rcases hr.2 with ⟨h1, _⟩ | ⟨g, cap', cur, hv, hB, hg, h1, h2, h3, h4⟩
  · cases h1
  · cases hv
    refine ⟨_, _, cur, rfl, hB, hg, by omega, h2, h3, ?_⟩
    obtain ⟨t, rfl⟩ := hp
    have h5 := congrArg (List.take l'.length) h4
    rw [List.take_take, List.map_append, List.take_left' (by simp)] at h5
    rw [Nat.mul_one] at h5 ⊢
    rwa [Nat.min_eq_left (by omega)] at h5
theorem Mem.rowRSlice {B : Nat} {w0 w : World} {L : List Ent} (h : Mem B w0 w L) (k : Nat) {v : Value} {vs : List Value} (hk : L[k]? = some (rowR v vs)) : ∃ a c, v = .slice a vs.length c := by
  have hr : w.ownsRow B 39 1 v vs.length vs := h.row k hk
  rcases hr.2 with ⟨rfl, h0⟩ | ⟨g, cap, cur, rfl, _⟩
  · exact ⟨none, 0, by rw [h0]⟩
  · exact ⟨_, _, rfl⟩
theorem Mem.step_appR' {P : Program} {B : Nat} {w0 w : World} {L : List Ent} {t e : TypeId} {bytes : Nat} {z : Value} (T : Elem P t e 1 bytes z) {ops : Array Oper} {o : Oper} {ac : Act} {K : Act → World → Prop} {Q : Exit → Act → World → Prop} {E : Prop} (hgd : o.guard = none) (s x : Operand)
    (ho : o.op = .call { callee := .builtin .append, args := #[s, x], argTypes := #[t, t] }) (h : Mem B w0 w L) (k : Nat) {v : Value} {n : Nat} {xs : List Value} (hk : L[k]? = some (erow e 1 v n xs))
    (hs : ac.eval s = v) (bl c : Nat) (y : Value) (hx : ac.eval x = .slice (some ⟨bl, 0, none⟩) 1 c) (hc : w.cell? ⟨bl, 0, none⟩ = some y) (h1 : y.oneCell' = true) (hb : bytes ≤ 1000) (hn : n ≤ 1000000)
    (hh : ∀ ad cap w', Mem B w0 w' (L.set k (erow e 1 (.slice ad (n + 1) cap) (n + 1) (xs ++ [y]))) → w.heap.size ≤ w'.heap.size →
      (∀ b, b < w.heap.size → v.ownBlock ≠ some b → w'.heap[b]? = w.heap[b]?) → K (ac.put o.dst (.slice ad (n + 1) cap)) w') :
    if Region.wanted o (yielded ops ac.tmps) = true then Oper.wp P o ac w K Q else E := by
  obtain ⟨v', w', hr, h2, h3, h4, h5, ad, cap, rfl⟩ := h.run_append T o.type k hk ⟨bl, 0, none⟩ 1 c [y] rfl (by
    intro j u hj
    cases j with
    | zero => simp at hj; subst hj; simpa [Addr.add] using hc
    | succ j => simp at hj) (fun u hu => by simp at hu; subst hu; exact h1) (by simp only [maxLen]; omega) (by
    have := Nat.mul_le_mul (show n + 1 ≤ 1000001 by omega) hb
    omega)
  exact step_append_eq' hgd s x t ho hs hx hr (hh ad cap w' h2 h3 h4)
theorem fin_perm {B : Nat} {w0 w : World} {A L' R : List Ent} {r b1 b2 d : Ent} (h : Mem B w0 w (r :: (A ++ (b1 :: b2 :: d :: (L' ++ R))))) : Mem B w0 w (d :: (A ++ (L' ++ (R ++ [r])))) := by
  have h1 : Mem B w0 w (r :: (A ++ (d :: (L' ++ R)))) := h.drop (.cons_cons _ (List.Sublist.append_left (.cons _ (.cons _ (.refl _))) A))
  refine h1.perm ?_
  have e1 : (A ++ (d :: (L' ++ R))).Perm (d :: (A ++ (L' ++ R))) := List.perm_middle
  have e2 : d :: (A ++ (L' ++ (R ++ [r]))) = (d :: (A ++ (L' ++ R))) ++ [r] := by simp
  rw [e2]
  exact (List.perm_append_comm (l₁ := _) (l₂ := [r])).trans (List.Perm.cons r e1.symm)
theorem own_end {E : CompEnv} {s : CS} {x y d : Ent} {L' : List Ent} {B : Nat} {w0 W : World} (h : Mem B w0 W (E.own s (x :: y :: d :: L'))) : Mem B w0 W (d :: E.own s L') := by
  have h2 : Mem B w0 W (E.own s (d :: L')) := by
    refine h.drop ?_
    refine List.Sublist.cons_cons _ (List.Sublist.cons_cons _ (List.Sublist.cons_cons _ (List.Sublist.cons_cons _ (List.Sublist.cons_cons _ (List.Sublist.cons_cons _ ?_)))))
    exact List.Sublist.cons _ (List.Sublist.cons _ (List.Sublist.refl _))
  exact h2.perm (List.perm_middle (l₁ := [_, _, _, _, _, _]) (l₂ := L' ++ rowsI s.fs)).symm

set_option maxRecDepth 100000 in
set_option maxHeartbeats 4000000 in
theorem walk_step (E : CompEnv) (hE : E.Ok) (m : Nat) (ih : ∀ m', m' < m → WalkC E m') : WalkC E m := by
  intro s i gray w L' hok hinv hi0 hgl hm hM
  have hn := hE.good.objs
  have hil : i < E.g.objs.length := by rw [← hok.at_]; exact (List.getElem?_eq_some_iff.1 hi0).1
  have hM0 := (hM.alloc #[.pointer (some ⟨E.Bs, 0, none⟩)] 105).allocAt (w.heap.size + 1) (by simp) #[.int .i64 (i : Int)] 3
  have hk0 : KeepsOthers w ((w.alloc (.cells #[.pointer (some ⟨E.Bs, 0, none⟩)] 105)).alloc (.cells #[.int .i64 (i : Int)] 3)) := (KeepsOthers.alloc _ _).trans (KeepsOthers.alloc _ _)
  have hM1 : Mem E.w0.heap.size E.w0 _ (E.own s (ebox (w.heap.size + 1) #[.int .i64 (i : Int)] 3 :: ebox w.heap.size #[.pointer (some ⟨E.Bs, 0, none⟩)] 105 :: L')) :=
    hM0.perm (List.perm_append_comm (l₁ := [_, _, _, _, _, _]) (l₂ := [_, _]) |>.append_right (L' ++ rowsI s.fs))
  obtain ⟨W, hW⟩ : ∃ W, (w.alloc (.cells #[.pointer (some ⟨E.Bs, 0, none⟩)] 105)).alloc (.cells #[.int .i64 (i : Int)] 3) = W := ⟨_, rfl⟩
  rw [hW] at hM1 hk0
  obtain ⟨bp, hbp⟩ : ∃ bp, w.heap.size = bp := ⟨_, rfl⟩
  rw [hbp] at hM1
  have HE := Lib.hid hE
  have Hih := Lib.hid ih
  have Hok := Lib.hid hok
  have Hinv := Lib.hid hinv
  have Hgl := Lib.hid hgl
  have Hi0 := Lib.hid hi0
  have Hm := Lib.hid hm
  have Hk0 := Lib.hid hk0
  have HW := Lib.hid hW
  have Hbp := Lib.hid hbp
  clear hE ih hok hinv hgl hi0 hm hM0 hk0 hM hW hbp
  refine callsIn_of_wp_marks Try.func75 rfl trivial ?_ rfl
  simp only [Try.ntmps75, List.size_toArray, List.length_cons, List.length_nil, Nat.reduceAdd, Nat.reduceSub, Array.replicate_succ, Array.replicate_zero, List.push_toArray, List.append_toArray, List.nil_append, List.cons_append]
  gi_wp2_with fail
  rw [HW.out, Hbp.out]
  obtain ⟨asl, csl, hvs⟩ := hM1.intsSlice 4 rfl
  obtain ⟨m0, hm0⟩ : ∃ m0, s.stack.length = m0 := ⟨_, rfl⟩
  have hm24 : m0 ≤ 24 := by have := Hinv.out.room; simp only [CS.ts] at this; omega
  have Hvs := Lib.hid hvs
  have Hm0 := Lib.hid hm0
  clear hvs hm0
  have p0 : W.cell? ⟨bp, 0, none⟩ = some (.pointer (some ⟨E.Bs, 0, none⟩)) := by have := hM1.cell 7 rfl 0; simpa using this
  have p1 : W.cell? ⟨bp + 1, 0, none⟩ = some (.int .i64 (i : Int)) := by have := hM1.cell 6 rfl 0; simpa using this
  have p2 : W.cell? ⟨E.Bs, 4, none⟩ = some (.slice asl m0 csl) := by have := hM1.cell 0 rfl 4; rw [Hvs.out, Hm0.out] at this; simpa using this
  refine wpIn_wide.2 ?_
  go_cut [2] from 9 to 18 (fun s2 W1 => s2 = .pointer (some ⟨bp, 0, none⟩) ∧ ∃ vst, Mem E.w0.heap.size E.w0 W1 (E.own ⟨s.low, s.at_, s.comp, s.stack ++ [(i : Int)], vst, s.va, s.fs⟩ (ebox (bp + 1) #[.int .i64 (i : Int)] 3 :: ebox bp #[.pointer (some ⟨E.Bs, 0, none⟩)] 105 :: L')) ∧ KeepsOthers W W1)
  case first =>
    have hN0 := hM1
    rw [CompEnv.own, Hvs.out, Hm0.out] at hN0
    have hN := hN0.drew
    have HNa := Lib.hid hN0
    have HN := Lib.hid hN
    clear hN0
    clear hN
    have z0 : bp < W.heap.size := by have := (HN.out.box 7 rfl).2.1; simpa using this
    have z1 : bp + 1 < W.heap.size := by have := (HN.out.box 6 rfl).2.1; simpa using this
    have z2 : E.Bs < W.heap.size := by have := (HN.out.box 0 rfl).2.1; simpa using this
    have p2 : W.drew.cell? ⟨E.Bs, 4, none⟩ = some (.slice asl m0 csl) := by have := HN.out.cell 0 rfl 4; simpa using this
    have p0 : W.drew.cell? ⟨bp, 0, none⟩ = some (.pointer (some ⟨E.Bs, 0, none⟩)) := by have := HN.out.cell 7 rfl 0; simpa using this
    have p1 : W.drew.cell? ⟨bp + 1, 0, none⟩ = some (.int .i64 (i : Int)) := by have := HN.out.cell 6 rfl 0; simpa using this
    rw [ldSt_eq]
    go_region_held3 (fun X => X.cell? ⟨bp, 0, none⟩ = some (.pointer (some ⟨E.Bs, 0, none⟩)) ∧ X.cell? ⟨bp + 1, 0, none⟩ = some (.int .i64 (i : Int)))
      (first | exact ⟨p0, p1⟩ | exact ⟨(HNa.out.alloc_ (.cells #[.int .i64 (i : Int)] 3)).drew.cell 7 rfl 0, (HNa.out.alloc_ (.cells #[.int .i64 (i : Int)] 3)).drew.cell 6 rfl 0⟩ | exact ⟨u2, u3⟩ | exact ⟨u4, u5⟩ | fail)
      (first
        | (refine Mem.step_appI' elemInts rfl (.tmp 13) (.tmp 15) rfl (HN.out.alloc_ _) 4 rfl rfl _ 1 (i : Int) rfl (by simp) (by rw [Hm0.out]; omega) ?_
           intro ad n1 cp W1 hM2 hs1 hk1
           have u0 : W1.cell? ⟨E.Bs, 4, none⟩ = some (.slice asl m0 csl) := (by have := hM2.cell 0 rfl 4; simpa using this)
           have u1 : W1.frozen? ⟨E.Bs, 4, none⟩ = false := hM2.free 0 rfl 4
           have u2 : W1.cell? ⟨bp, 0, none⟩ = some (.pointer (some ⟨E.Bs, 0, none⟩)) := (by have := hM2.cell 7 rfl 0; simpa using this)
           have u3 : W1.cell? ⟨bp + 1, 0, none⟩ = some (.int .i64 (i : Int)) := (by have := hM2.cell 6 rfl 0; simpa using this)
           have HM5 := Lib.hid (hM2.setBox 0 rfl 4 (.slice ad n1 cp))
           have u4 : (W1.setCell ⟨E.Bs, 4, none⟩ (.slice ad n1 cp)).cell? ⟨bp, 0, none⟩ = some (.pointer (some ⟨E.Bs, 0, none⟩)) := (by have := HM5.out.cell 7 rfl 0; simpa using this)
           have u5 : (W1.setCell ⟨E.Bs, 4, none⟩ (.slice ad n1 cp)).cell? ⟨bp + 1, 0, none⟩ = some (.int .i64 (i : Int)) := (by have := HM5.out.cell 6 rfl 0; simpa using this)
           have hk2 : KeepsOthers W (W1.setCell ⟨E.Bs, 4, none⟩ (.slice ad n1 cp)) := (((KeepsOthers.drew _).trans (KeepsOthers.alloc _ _)).trans ⟨hs1, (HN.out.alloc_ _).keeps 4 rfl hs1 hk1⟩).trans (KeepsOthers.setCell W1 _ _)
           clear hM2 hs1 hk1)
        | fail)
    all_goals
      go_wp2_with fail
      go_meet
      exact ⟨rfl, .slice ad n1 cp, HM5.out.cast (by simp), hk2⟩
  case rest =>
    obtain ⟨rfl, vst, hM3, hk2⟩ := hcut
    replace hk2 := Hk0.out.trans hk2
    clear hM1 p0 p1 p2 Hk0 HW Hbp Hvs Hm0 hm24
    obtain ⟨W2, hW2⟩ : ∃ W2, wc = W2 := ⟨_, rfl⟩
    subst hW2
    have hav : ∀ x ∈ s.at_, 0 ≤ x ∧ x ≤ 24 := by
      intro x hx
      obtain ⟨k, hk⟩ := List.mem_iff_getElem?.1 hx
      have h1 := Hinv.out.bound (k : Int)
      have h2 := Hinv.out.pos (k : Int)
      simp only [CS.ts] at h1 h2
      rw [rd_some hk] at h1 h2
      exact ⟨h2, by omega⟩
    have iA := isInts_of_own (hM3.ownI 2 rfl) (by have := Hok.out.at_; simp only; omega) (fun x hx => by have := hav x hx; exact ⟨by omega, by omega⟩)
    have p0 : wc.cell? ⟨bp, 0, none⟩ = some (.pointer (some ⟨E.Bs, 0, none⟩)) := by have := hM3.cell 7 rfl 0; simpa using this
    have p1 : wc.cell? ⟨bp + 1, 0, none⟩ = some (.int .i64 (i : Int)) := by have := hM3.cell 6 rfl 0; simpa using this
    have p2 : wc.cell? ⟨E.Bs, 3, none⟩ = some E.vA := by have := hM3.cell 0 rfl 3; simpa using this
    obtain ⟨p3, p4⟩ := hM3.intAt 2 rfl Hi0.out
    have hi1 : (0 : Int) ≤ (i : Int) := by omega
    have hi2 : (i : Int) < (E.g.objs.length : Int) := by omega
    have hmax := max_any wc.drew E.vA s.at_ (iA.later (Below.refl _ _).drew) (by have := Hok.out.at_; omega)
    have Hmax := Lib.hid hmax
    have HM3 := Lib.hid hM3
    have Hav := Lib.hid hav
    have Hk2 := Lib.hid hk2
    clear hM3 iA hav hmax hk2
    gi_wp2_with fail
    refine wpIn_wide.2 ?_
    have HMs : Hid (∀ t : Int, Mem E.w0.heap.size E.w0 (wc.setCell ⟨E.gA, i, none⟩ (.int .i64 t)).drew (E.own ⟨s.low, s.at_.set i t, s.comp, s.stack ++ [(i : Int)], vst, s.va, s.fs⟩ (ebox (bp + 1) #[.int .i64 (i : Int)] 3 :: ebox bp #[.pointer (some ⟨E.Bs, 0, none⟩)] 105 :: L'))) :=
      Lib.hid (fun t => ((HM3.out.setI 2 rfl Hok.out.at_ i t).drew).cast (by simp))
    go_cut [28] from 19 to 30 (fun s28 W3 => ∃ t, Hid ((∀ x ∈ s.at_, x < t) ∧ ∃ mx ∈ s.at_, 1 + mx = t) ∧ Mem E.w0.heap.size E.w0 W3 (E.own ⟨s.low, s.at_.set i t, s.comp, s.stack ++ [(i : Int)], vst, s.va, s.fs⟩ (ebox (bp + 1) #[.int .i64 (i : Int)] 3 :: ebox bp #[.pointer (some ⟨E.Bs, 0, none⟩)] 105 :: L')) ∧ KeepsOthers wc W3)
    case first =>
      go_region_held3 (fun X => X.cell? ⟨bp, 0, none⟩ = some (.pointer (some ⟨E.Bs, 0, none⟩)) ∧ X.cell? ⟨bp + 1, 0, none⟩ = some (.int .i64 (i : Int)) ∧ X.cell? ⟨E.Bs, 3, none⟩ = some E.vA)
        (first | exact ⟨by simpa using p0, by simpa using p1, by simpa using p2⟩ | exact ⟨(HMs.out _).cell 7 rfl 0, (HMs.out _).cell 6 rfl 0, (HMs.out _).cell 0 rfl 3⟩ | fail)
        (first
          | (go_at_call 94
             refine Hmax.out.mono ?_
             rintro e W3 ⟨mx, rfl, hmem, hle, rfl⟩)
          | fail)
      all_goals
        go_wp2_with fail
        go_meet
        have hmx := Hav.out mx hmem
        have hwr : IntKind.i64.wrap (1 + mx) = 1 + mx := by rw [IntKind.wrap_i64]; omega
        rw [hwr]
        exact ⟨1 + mx, Lib.hid ⟨fun x hx => by have := hle x hx; omega, mx, hmem, rfl⟩, HMs.out _, (KeepsOthers.setCell wc _ _).trans (KeepsOthers.drew _)⟩
    case rest =>
      obtain ⟨t, Ht, hM4, hk4⟩ := hcut
      have Hk4 := Lib.hid (Hk2.out.trans hk4)
      clear HM3 HMs Hmax p0 p1 p2 p3 p4 hk4 Hk2
      have hmx : t ≤ 25 ∧ 1 ≤ t := by
        obtain ⟨_, mx, h1, h2⟩ := Ht.out
        have := Hav.out mx h1; omega
      have hlo : s.low.length = E.g.objs.length := Hok.out.low
      have hao : (s.at_.set i t).length = E.g.objs.length := by rw [List.length_set]; exact Hok.out.at_
      obtain ⟨y0, hy0⟩ := get_some s.low i (by omega)
      have hti : (s.at_.set i t)[i]? = some t := List.getElem?_set_self (by rw [Hok.out.at_]; exact hil)
      have p0 : wc.cell? ⟨bp, 0, none⟩ = some (.pointer (some ⟨E.Bs, 0, none⟩)) := by have := hM4.cell 7 rfl 0; simpa using this
      have p1 : wc.cell? ⟨bp + 1, 0, none⟩ = some (.int .i64 (i : Int)) := by have := hM4.cell 6 rfl 0; simpa using this
      have p2 : wc.cell? ⟨E.Bs, 3, none⟩ = some E.vA := by have := hM4.cell 0 rfl 3; simpa using this
      have p3 : wc.cell? ⟨E.Bs, 2, none⟩ = some E.vL := by have := hM4.cell 0 rfl 2; simpa using this
      obtain ⟨p4, _⟩ := hM4.intAt 2 rfl hti
      obtain ⟨p5, p6⟩ := hM4.intAt 1 rfl hy0
      have hM5 : Mem E.w0.heap.size E.w0 (wc.drew.setCell ⟨E.gL, i, none⟩ (.int .i64 t)) (E.own ⟨s.low.set i t, s.at_.set i t, s.comp, s.stack ++ [(i : Int)], vst, s.va, s.fs⟩ (ebox (bp + 1) #[.int .i64 (i : Int)] 3 :: ebox bp #[.pointer (some ⟨E.Bs, 0, none⟩)] 105 :: L')) :=
        (hM4.drew.setI 1 rfl hlo i t).cast (by simp)
      obtain ⟨W3, hW3⟩ : ∃ W3, wc.drew.setCell ⟨E.gL, i, none⟩ (.int .i64 t) = W3 := ⟨_, rfl⟩
      have hW3b : (wc.setCell ⟨E.gL, i, none⟩ (.int .i64 t)).drew = W3 := hW3
      have hk5 : KeepsOthers w W3 := by rw [← hW3]; exact (Hk4.out.trans (KeepsOthers.drew _)).trans (KeepsOthers.setCell _ _ _)
      rw [hW3] at hM5
      have HM5 := Lib.hid hM5
      have HW3 := Lib.hid hW3
      have HW3b := Lib.hid hW3b
      have Hk5 := Lib.hid hk5
      clear hM4 hM5 hW3 hW3b hk5 Hk4 hti hy0 hlo hao
      gi_wp2_with fail
      refine wpIn_wide.2 ?_
      go_still_tail 13, (by kernel_rfl)
      go_wp2_with fail
      have p0 : W3.cell? ⟨bp, 0, none⟩ = some (.pointer (some ⟨E.Bs, 0, none⟩)) := by have := HM5.out.cell 7 rfl 0; simpa using this
      have p1 : W3.cell? ⟨bp + 1, 0, none⟩ = some (.int .i64 (i : Int)) := by have := HM5.out.cell 6 rfl 0; simpa using this
      have p2 : W3.cell? ⟨E.Bs, 0, none⟩ = some E.vo := by have := HM5.out.cell 0 rfl 0; simpa using this
      obtain ⟨ob, hob⟩ := get_some _ _ hil
      obtain ⟨b, off, cap2, uo, hv, hb, hb2, d1, huo⟩ := HE.out.objs.at HM5.out.below hob
      obtain ⟨au, cu, rfl, hlu⟩ := huo.slice
      rw [hv] at p2
      have Huo := Lib.hid huo
      have hE2 := Lib.hid (show ob.length ≤ 4 from HE.out.good.fields ob (List.mem_of_getElem? hob))
      have Hob : Hid (fieldsAt E.g (i : Int) = ob) := Lib.hid (by unfold fieldsAt; rw [Int.toNat_natCast, List.getD_eq_getElem?_getD, hob]; rfl)
      have hobl := hE2.out
      have hEG : ∀ j : Int, EG E.g (i : Int) j ↔ j ∈ targets ob := fun j => by unfold EG; rw [Hob.out]; exact ⟨fun h => h.2, fun h => ⟨by omega, h⟩⟩
      have HEG := Lib.hid hEG
      have hpush : Amid (EG E.g) E.g.objs.length s.ts (CS.ts ⟨s.low.set i t, s.at_.set i t, s.comp, s.stack ++ [(i : Int)], vst, s.va, s.fs⟩) gray (i : Int) [] := by
        rw [ts_push s i t vst (by rw [Hok.out.at_]; exact hil) (by rw [Hok.out.low]; exact hil)]
        refine Amid.start Hinv.out (by omega) (by omega) (by show rd s.at_ 0 (i : Int) = 0; exact rd_some Hi0.out) Hgl.out ?_ ?_
        · intro x
          by_cases h0 : s.ts.at_ x = 0
          · omega
          · exact Ht.out.1 _ (rd_mem (rd_out h0))
        · obtain ⟨_, mx, h1, h2⟩ := Ht.out
          obtain ⟨k, hk⟩ := List.mem_iff_getElem?.1 h1
          have h3 := Hinv.out.bound (k : Int)
          have h4 : s.ts.at_ (k : Int) = mx := (by show rd s.at_ 0 (k : Int) = mx; exact rd_some hk)
          omega
      have hok1 : (CS.mk (s.low.set i t) (s.at_.set i t) s.comp (s.stack ++ [(i : Int)]) vst s.va s.fs).Ok E.g.objs.length := ⟨by rw [List.length_set]; exact Hok.out.low, by rw [List.length_set]; exact Hok.out.at_, Hok.out.comp⟩
      have Hpush := Lib.hid hpush
      have Hok1 := Lib.hid hok1
      clear hob huo hEG hpush hok1
      gi_wp2_with fail
      rw [HW3b.out]
      refine wpIn_wide.2 ?_
      go_still_tail 9, (by kernel_rfl)
      go_wp2_with fail
      refine (callsIn_wide.1 (targets_opaque 10 _ _ _ _)).mono ?_
      rintro e w4 ⟨Bt, rfl, hb4, hBt, hct⟩
      have hM6 := HM5.out.drew.call hb4
      have hko4 := (Hk5.out.trans (KeepsOthers.drew _)).trans (show KeepsOthers W3.drew w4 from ⟨hb4.size, fun k _ hk _ => (hb4.block k (Array.getElem?_eq_some_iff.1 hk).1).trans hk⟩)
      have Hko4 := Lib.hid hko4
      obtain ⟨T, hT⟩ : ∃ T, (ebox (bp + 1) #[.int .i64 (i : Int)] 3 :: ebox bp #[.pointer (some ⟨E.Bs, 0, none⟩)] 105 :: L') = T := ⟨_, rfl⟩
      rw [hT] at hM6
      have hcalm : ∀ x ∈ T, x.Calm w4.heap.size := by
        have := calm_of hM6 (L' := T) (fun x hx => List.mem_cons_of_mem _ (List.mem_cons_of_mem _ (List.mem_cons_of_mem _ (List.mem_cons_of_mem _ (List.mem_cons_of_mem _ (List.mem_cons_of_mem _ (List.mem_append_left _ hx)))))))
        exact this
      have HT := Lib.hid hT
      clear hb4 hko4 HM5 hT p0 p1 p2 hv
      go_wp2_with fail
      gi_wp2_with fail
      refine range_slot (by omega) (gf := 114) (lb := #[.pointer (some ⟨Bt, 0, none⟩)]) rfl (enters_of Try.func114 (by kernel_rfl) rfl)
        (targets_stops _ (by omega) Bt ob _ E.w0 Huo.out w4 hM6.below hBt hct) hM6.base
        (fun pre W => ∃ s1 : CS, (Amid (EG E.g) E.g.objs.length s.ts s1.ts gray (i : Int) (pre.map (·.1)) ∧ s1.Ok E.g.objs.length) ∧ KeepsOthers w W ∧ Mem E.w0.heap.size E.w0 W (E.own s1 T))
        (fun _ _ _ => False) ?own (fun _ => ownFrom_false _) ⟨_, ⟨Hpush.out, Hok1.out⟩, Hko4.out, hM6⟩ 4 (fun x => .int .i64 x.1) ?assign ?body ?done ?stop
      case own =>
        refine ownFrom_ex fun s1 => ownFrom_and (p := fun pre : List (Tg ob) => Amid (EG E.g) E.g.objs.length s.ts s1.ts gray (i : Int) (pre.map (·.1)) ∧ s1.Ok E.g.objs.length) ?_
        intro sx W W' row hs hg hr
        refine ⟨ownFrom_keeps (β := Unit) (B := w4.heap.size) Hko4.out.size () W W' row hs.1 hg hr, ?_⟩
        exact ownFrom_mem (β := Unit) (fun _ => E.own s1 T) hM6.base (fun _ => own_calm E s1 T _ hcalm) () W W' row hs.2 hg hr
      case assign =>
        intro l x W Kk hK
        simp only [laid]
        gi_wp2
        exact hK
      case stop => rintro D c pre W hD hpre hf hK; exact hf.elim
      case done =>
        rintro D1 xs W hD1 hxs ⟨s1, ⟨hA, hk1⟩, hko, hM⟩ hK1
        rw [hxs] at hA
        have hbig : w.heap.size ≤ D1 := Nat.le_trans Hko4.out.size hD1
        have hcalm2 : ∀ x ∈ T, x.Calm D1 := fun x hx => fun W' B0 hok b hb => by
          rcases hcalm x hx W' B0 hok b hb with h1 | h1
          · exact .inl (Nat.lt_of_lt_of_le h1 hD1)
          · exact .inr h1
        have hM7 := hM.addDef' (D := D1) (Nat.le_trans hM6.base hD1) hK1 (own_calm E s1 T D1 hcalm2)
        rw [← HT.out] at hM7
        replace hM7 : Mem E.w0.heap.size E.w0 W (E.own s1 (ebox (bp + 1) #[.int .i64 (i : Int)] 3 :: ebox bp #[.pointer (some ⟨E.Bs, 0, none⟩)] 105 :: edef D1 :: L')) :=
          Mem.tailDef (A := [_, _, _, _, _, _, _, _]) hM7
        obtain ⟨ai, hai⟩ := get_some s1.at_ i (by rw [hk1.at_]; exact hil)
        obtain ⟨li, hli⟩ := get_some s1.low i (by rw [hk1.low]; exact hil)
        have p0 : W.cell? ⟨bp, 0, none⟩ = some (.pointer (some ⟨E.Bs, 0, none⟩)) := by have := hM7.cell 7 rfl 0; simpa using this
        have p1 : W.cell? ⟨bp + 1, 0, none⟩ = some (.int .i64 (i : Int)) := by have := hM7.cell 6 rfl 0; simpa using this
        have p2 : W.cell? ⟨E.Bs, 3, none⟩ = some E.vA := by have := hM7.cell 0 rfl 3; simpa using this
        have p3 : W.cell? ⟨E.Bs, 2, none⟩ = some E.vL := by have := hM7.cell 0 rfl 2; simpa using this
        obtain ⟨p4, _⟩ := hM7.intAt 2 rfl hai
        obtain ⟨p5, _⟩ := hM7.intAt 1 rfl hli
        have e1 : s1.ts.low (i : Int) = li := by show rd s1.low 0 (i : Int) = li; exact rd_some hli
        have e2 : s1.ts.at_ (i : Int) = ai := by show rd s1.at_ 0 (i : Int) = ai; exact rd_some hai
        have hall : ∀ j, EG E.g (i : Int) j → j ∈ targets ob := fun j hj => (HEG.out j).1 hj
        have HA := Lib.hid hA
        have Hk1 := Lib.hid hk1
        have Hko := Lib.hid hko
        have HM7 := Lib.hid hM7
        have Hbig := Lib.hid hbig
        have Hall := Lib.hid hall
        have E1 := Lib.hid e1
        have E2 := Lib.hid e2
        clear hA hk1 hko hM7 hM hbig hall e1 e2 hK1 hxs hai hli hcalm2 hM6 hcalm
        gi_wp2_with fail
        refine wpIn_wide.2 ?_
        by_cases hne : li = ai
        · subst hne
          go_quiet (fail)
          go_wp2_with fail
          obtain ⟨new, hnew, hnz⟩ := HA.out.ex
          have hns : (i : Int) ∉ s.stack := fun hm => ((Hinv.out.mem _).1 hm).1 (by show rd s.at_ 0 (i : Int) = 0; exact rd_some Hi0.out)
          have hst : s1.stack = s.stack ++ (i : Int) :: new := hnew
          have hroom : s1.stack.length ≤ 24 := by have := HA.out.inv.room; simp only [CS.ts] at this; omega
          have hin : ∀ x ∈ s1.stack, 0 ≤ x ∧ x < E.g.objs.length := fun x hx => HA.out.inv.rng x ((HA.out.inv.mem x).1 hx).1
          have HMq := Lib.hid (HM7.out.drewN nq)
          have hkq : KeepsOthers W (W.drewN nq) := ⟨Nat.le_refl _, fun k _ hk _ => hk⟩
          have Hkq := Lib.hid (Hko.out.trans hkq)
          obtain ⟨Wq, hWq⟩ : ∃ Wq, W.drewN nq = Wq := ⟨_, rfl⟩
          rw [hWq] at HMq Hkq ⊢
          clear p0 p1 p2 p3 p4 p5 hWq hkq HM7 Hko
          obtain ⟨gS, cS, hvS, h9⟩ := HMq.out.intsAt 4 rfl (by rw [hst]; intro e; simp at e)
          have p0 : Wq.cell? ⟨bp, 0, none⟩ = some (.pointer (some ⟨E.Bs, 0, none⟩)) := by have := HMq.out.cell 7 rfl 0; simpa using this
          have p1 : Wq.cell? ⟨bp + 1, 0, none⟩ = some (.int .i64 (i : Int)) := by have := HMq.out.cell 6 rfl 0; simpa using this
          have p2 : Wq.cell? ⟨E.Bs, 4, none⟩ = some s1.vst := by have := HMq.out.cell 0 rfl 4; simpa using this
          obtain ⟨nS, hnS⟩ : ∃ nS, s1.stack.length = nS := ⟨_, rfl⟩
          obtain ⟨kS, hkS⟩ : ∃ kS, s.stack.length = kS := ⟨_, rfl⟩
          have hkn : kS < nS := by rw [← hnS, ← hkS, hst]; simp
          have hn24 : nS ≤ 24 := by rw [← hnS]; exact hroom
          have hcap : nS ≤ cS ∧ cS ≤ 9223372036854775807 := by
            have hr := HMq.out.ownI 4 rfl
            rcases hr.2 with ⟨h1, _⟩ | ⟨g, cap, cur, h1, _, _, h2, h3, _⟩
            · rw [hvS] at h1; cases h1
            · rw [hvS] at h1; cases h1; rw [hnS] at h2; simp only [maxLen] at h3; exact ⟨h2, h3⟩
          rw [hnS] at hvS
          rw [hvS] at p2
          have iS := isInts_of_own (HMq.out.drew.ownI 4 rfl) (by omega) (fun x hx => by have := hin x hx; exact ⟨by omega, by omega⟩)
          rw [hvS] at iS
          have hcS : ∀ j x, (s1.stack.drop kS)[j]? = some x → Wq.drew.cell? ⟨gS, kS + j, none⟩ = some (.int .i64 x) := by
            intro j x hx
            rw [List.getElem?_drop] at hx
            exact h9.2.2.1 (kS + j) x hx
          simp only [hst] at iS
          have HIdx := Lib.hid (index_any Wq.drew _ s.stack new (i : Int) iS hns)
          have HcS := Lib.hid hcS
          have Hst := Lib.hid hst
          have HnS := Lib.hid hnS
          have HkS := Lib.hid hkS
          have HvS := Lib.hid hvS
          have Hin := Lib.hid hin
          have Hnz := Lib.hid hnz
          have zS := h9.2.1
          clear hnew hst hnS hkS hvS hin hnz h9 iS hcS hroom hns
          gi_wp2_with fail
          refine wpIn_wide.2 ?_
          go_still_tail 5, (by kernel_rfl)
          go_wp2_with fail
          refine HIdx.out.mono ?_
          rintro e w5 ⟨rfl, rfl⟩
          rw [HkS.out]
          have hk1' : (0 : Int) ≤ (kS : Int) := by omega
          have hk2' : (kS : Int) ≤ (nS : Int) := by omega
          have hk3' : (nS : Int) ≤ (cS : Int) := by omega
          have hk4' : kS ≤ nS := by omega
          have hk5' : nS ≤ cS := by omega
          have hk6' : ¬ cS = kS := by omega
          have hk7' : kS ≤ cS := by omega
          have hk8' : (kS : Int) ≤ (cS : Int) := by omega
          go_wp2_with fail
          gi_wp2_with fail
          refine ⟨trivial, (callsIn_wide.2 (clone_any Wq.drew gS kS (nS - kS) (cS - kS) (s1.stack.drop kS) (by rw [List.length_drop, HnS.out]) (by omega) HcS.out)).mono ?_⟩
          rintro e w6 ⟨vc, rfl, hMc⟩
          have hM8 := HMq.out.drew.callMem hMc
          have hk6 := (Hkq.out.trans (KeepsOthers.drew _)).trans (show KeepsOthers Wq.drew w6 from ⟨hMc.below.size, fun k _ hk _ => (hMc.below.block k (Array.getElem?_eq_some_iff.1 hk).1).trans hk⟩)
          have p0 : w6.cell? ⟨bp, 0, none⟩ = some (.pointer (some ⟨E.Bs, 0, none⟩)) := by have := hM8.cell 8 rfl 0; simpa using this
          have p1 : w6.cell? ⟨bp + 1, 0, none⟩ = some (.int .i64 (i : Int)) := by have := hM8.cell 7 rfl 0; simpa using this
          have p2 : w6.cell? ⟨E.Bs, 4, none⟩ = some (.slice (some ⟨gS, 0, none⟩) nS cS) := by have := hM8.cell 1 rfl 4; rw [HvS.out] at this; simpa using this
          have p2b : w6.frozen? ⟨E.Bs, 4, none⟩ = false := hM8.free 1 rfl 4
          have hM9 : Mem E.w0.heap.size E.w0 (w6.setCell ⟨E.Bs, 4, none⟩ (.slice (some ⟨gS, 0, none⟩) kS cS)).drew (rowI 3 vc (s1.stack.drop kS) :: E.own ⟨s1.low, s1.at_, s1.comp, s.stack, .slice (some ⟨gS, 0, none⟩) kS cS, s1.va, s1.fs⟩ (ebox (bp + 1) #[.int .i64 (i : Int)] 3 :: ebox bp #[.pointer (some ⟨E.Bs, 0, none⟩)] 105 :: edef D1 :: L')) := by
            have h := hM8
            simp only [CompEnv.own, List.cons_append, List.nil_append] at h
            rw [HvS.out] at h
            have h2 := (h.shrinkI' 5 rfl (l' := s.stack) (by rw [Hst.out]; simp) ⟨_, Hst.out.symm⟩ HnS.out).setBox 1 rfl 4 (.slice (some ⟨gS, 0, none⟩) kS cS)
            rw [HkS.out] at h2
            exact h2.drew.cast (by simp)
          obtain ⟨ac, nc, cc, rfl⟩ := own_slice (hM9.ownI 0 rfl)
          have HM9 := Lib.hid hM9
          have Hk6 := Lib.hid hk6
          clear hM9 hk6 hM8 hMc HcS HIdx HMq Hkq
          gi_wp2_with fail
          refine wpIn_wide.2 ?_
          go_still_tail 9, (by kernel_rfl)
          go_wp2_with fail
          gi_wp2_with fail
          obtain ⟨W7, hW7⟩ : ∃ W7, (w6.setCell ⟨E.Bs, 4, none⟩ (.slice (some ⟨gS, 0, none⟩) kS cS)).drew = W7 := ⟨_, rfl⟩
          have HM7 := HM9.out
          have hk7 := (Hk6.out.trans (KeepsOthers.setCell w6 ⟨E.Bs, 4, none⟩ (.slice (some ⟨gS, 0, none⟩) kS cS))).trans (KeepsOthers.drew _)
          rw [hW7] at HM7 hk7 ⊢
          have Hk7 := Lib.hid hk7
          clear HM9 Hk6 p0 p1 p2 p2b hW7 hk7
          refine ⟨trivial, (callsIn_wide.2 (sort_keeps _ _ W7 _ HM7 0 3 _ _ rfl (by rw [List.length_drop, HnS.out]; omega))).mono ?_⟩
          rintro e w8 ⟨rfl, hM8, hko8⟩
          obtain ⟨c, hce⟩ : ∃ c, sorted (s1.stack.drop kS) = c := ⟨_, rfl⟩
          simp only [List.set_cons_zero, hce] at hM8
          have hcm : ∀ x, x ∈ c ↔ x ∈ s1.stack.drop s.stack.length := fun x => by rw [← hce, mem_sorted, HkS.out]
          have hcr : c.Pairwise (· < ·) := by
            have h1 : (s1.stack.drop kS).Nodup := (List.Sublist.nodup (List.drop_sublist _ _) (HA.out.inv.sorted.imp (fun h e => by rw [e] at h; omega)))
            have h2 : c.Nodup := by rw [← hce]; exact (List.mergeSort_perm _ _).nodup_iff.2 h1
            have h3 : c.Pairwise (fun x y => x ≤ y) := by
              rw [← hce]
              have := List.pairwise_mergeSort (le := fun x y : Int => decide (x ≤ y)) (by intro a b c h1 h2; simp at *; omega) (by intro a b; simp; omega) (s1.stack.drop kS)
              exact this.imp (fun h => by simpa using h)
            exact (List.Pairwise.and h3 h2).imp (fun h => by obtain ⟨h1, h2⟩ := h; omega)
          have hcin : ∀ x ∈ c, 0 ≤ x ∧ x < E.g.objs.length := fun x hx => Hin.out x (List.mem_of_mem_drop ((hcm x).1 hx))
          have hcl : c.length ≤ 24 := by rw [← hce, length_sorted, List.length_drop, HnS.out]; omega
          obtain ⟨aA, cA, hva⟩ := hM8.rowRSlice 6 rfl
          rw [List.length_map] at hva
          obtain ⟨nA, hnA⟩ : ∃ nA, s1.fs.length = nA := ⟨_, rfl⟩
          rw [hnA] at hva
          have hnA24 : nA ≤ 24 := by have := HA.out.inv.room; simp only [CS.ts, List.length_map] at this; omega
          have hn9 : c.length = nc := by
            rcases (hM8.ownI 0 rfl).2 with ⟨h1, h2⟩ | ⟨g, cap, cur, h1, _⟩
            · cases h1; exact h2
            · cases h1; rfl
          have hnc24 : nc ≤ 24 := by rw [← hn9]; exact hcl
          have Hk8 := Lib.hid (Hk7.out.trans hko8)
          have HM8 := Lib.hid hM8
          have Hcm := Lib.hid hcm
          have Hcr := Lib.hid hcr
          have Hcin := Lib.hid hcin
          have Hva := Lib.hid hva
          have HnA := Lib.hid hnA
          have Hn9 := Lib.hid hn9
          clear hM8 hko8 Hk7 HM7 hcm hcr hcin hva hnA hn9 hce
          gi_wp2_with fail
          refine wpIn_wide.2 ?_
          go_loopw [8, 159] (fun s8 s159 wr => ∃ k : Nat, k ≤ nc ∧ s159 = .int .i64 (k : Int) ∧ Mem E.w0.heap.size E.w0 wr (rowI 3 (.slice ac nc cc) c :: E.own ⟨s1.low, s1.at_, Tarj.setAll s1.comp (c.take k) (nA : Int), s.stack, .slice (some ⟨gS, 0, none⟩) kS cS, .slice aA nA cA, s1.fs⟩ (ebox (bp + 1) #[.int .i64 (i : Int)] 3 :: ebox bp #[.pointer (some ⟨E.Bs, 0, none⟩)] 105 :: edef D1 :: L')) ∧ KeepsOthers w wr) (fun _ i _ => nc - (intOf i).toNat)
          case atStart => 
            refine ⟨0, Nat.zero_le _, rfl, ?_, Hk8.out⟩
            have h := HM8.out
            rw [Hva.out] at h
            exact h
          case round =>
            obtain ⟨k, hk, rfl, hM, hko⟩ := hrel
            by_cases hlt : k < nc
            · obtain ⟨y, hy⟩ := get_some c k (by rw [Hn9.out]; exact hlt)
              have hyin := Hcin.out y (List.mem_of_getElem? hy)
              obtain ⟨j, rfl⟩ : ∃ j : Nat, y = (j : Int) := ⟨y.toNat, by omega⟩
              have hj : j < E.g.objs.length := by omega
              have iC := isInts_of_own (hM.ownI 0 rfl) (by rw [Hn9.out]; omega) (fun x hx => by have := Hcin.out x hx; exact ⟨by omega, by omega⟩)
              obtain ⟨b9, off9, cap9, hv9, hb9, hb10, c9, _⟩ := iC.at (Below.refl _ _) hy
              rw [Hn9.out] at hv9
              cases hv9
              have hcl2 : (Tarj.setAll s1.comp (c.take k) (nA : Int)).length = E.g.objs.length := by rw [setAll_len]; exact Hk1.out.comp
              obtain ⟨cj, hcj⟩ := get_some (Tarj.setAll s1.comp (c.take k) (nA : Int)) j (by rw [hcl2]; exact hj)
              have q0 : wr.cell? ⟨bp, 0, none⟩ = some (.pointer (some ⟨E.Bs, 0, none⟩)) := by have := hM.cell 8 rfl 0; simpa using this
              have q1 : wr.cell? ⟨E.Bs, 5, none⟩ = some E.vC := by have := hM.cell 1 rfl 5; simpa using this
              have q2 : wr.cell? ⟨E.Bs, 6, none⟩ = some (.slice aA nA cA) := by have := hM.cell 1 rfl 6; simpa using this
              obtain ⟨q3, q4⟩ := hM.intAt 4 rfl hcj
              have hM2 := hM.setI 4 rfl hcl2 j (nA : Int)
              rw [show (Tarj.setAll s1.comp (c.take k) (nA : Int)).set j (nA : Int) = Tarj.setAll s1.comp (c.take (k + 1)) (nA : Int) by rw [take_succ_some _ _ _ hy, setAll_snoc, Int.toNat_natCast]] at hM2
              have HMd := Lib.hid hM2.drew
              have Hkd := Lib.hid ((hko.trans (KeepsOthers.setCell wr ⟨E.gC, j, none⟩ (.int .i64 (nA : Int)))).trans (KeepsOthers.drew _))
              have hj1 : (0 : Int) ≤ (j : Int) := by omega
              have hj2 : (j : Int) < (E.g.objs.length : Int) := by omega
              have hkc : (k : Int) < (nc : Int) := by omega
              have hkc0 : (0 : Int) ≤ (k : Int) := by omega
              clear hM hM2 hko hy hyin iC hcl2 hcj HM8
              go_wp2_with fail
              go_still_tail 11, (by kernel_rfl)
              go_wp2_with fail
              go_roundw
              case rel => exact ⟨k + 1, by omega, by go_num, HMd.out, Hkd.out⟩
              case measure => simp [intOf]; omega
            · obtain rfl : k = nc := by omega
              rw [show c.take k = c by rw [← Hn9.out, List.take_length]] at hM
              clear HM8
              go_wp2_with fail
              gi_wp2_with fail
              have HNa := Lib.hid hM
              have HN := Lib.hid hM.drew
              have Hkw := Lib.hid hko
              clear hM hko
              have z0 : bp < wr.heap.size := by have := (HNa.out.box 8 rfl).2.1; simpa using this
              have z2 : E.Bs < wr.heap.size := by have := (HNa.out.box 1 rfl).2.1; simpa using this
              have z3 : E.Bs < wr.drew.heap.size := z2
              have p0 : wr.drew.cell? ⟨bp, 0, none⟩ = some (.pointer (some ⟨E.Bs, 0, none⟩)) := by have := HN.out.cell 8 rfl 0; simpa using this
              have p1 : wr.drew.cell? ⟨E.Bs, 6, none⟩ = some (.slice aA nA cA) := by have := HN.out.cell 1 rfl 6; simpa using this
              have p2 : wr.cell? ⟨E.Bs, 6, none⟩ = some (.slice aA nA cA) := by have := HN.out.cell 1 rfl 6; simpa using this
              refine wpIn_wide.2 ?_
              rw [ldAll_eq]
              go_region_held3 (fun X => X.cell? ⟨bp, 0, none⟩ = some (.pointer (some ⟨E.Bs, 0, none⟩)))
                (first | exact p0 | exact (HNa.out.alloc_ (.cells #[.slice ac k cc] 39)).drew.cell 8 rfl 0 | exact u2 | exact u4 | fail)
                (first
                  | (refine Mem.step_appR' elemRows rfl (.tmp 179) (.tmp 181) rfl (HN.out.alloc_ _) 6 rfl rfl _ 1 (.slice ac k cc) rfl (by simp) rfl (by decide) (by rw [List.length_map, HnA.out]; omega) ?_
                     intro ad cp W1 hM2 hs1 hk1
                     have u0 : W1.cell? ⟨E.Bs, 6, none⟩ = some (.slice aA nA cA) := (by have := hM2.cell 1 rfl 6; simpa using this)
                     have u1 : W1.frozen? ⟨E.Bs, 6, none⟩ = false := hM2.free 1 rfl 6
                     have u2 : W1.cell? ⟨bp, 0, none⟩ = some (.pointer (some ⟨E.Bs, 0, none⟩)) := (by have := hM2.cell 8 rfl 0; simpa using this)
                     have HM5 := Lib.hid (hM2.setBox 1 rfl 6 (.slice ad (s1.fs.length + 1) cp))
                     have u4 : (W1.setCell ⟨E.Bs, 6, none⟩ (.slice ad (s1.fs.length + 1) cp)).cell? ⟨bp, 0, none⟩ = some (.pointer (some ⟨E.Bs, 0, none⟩)) := (by have := HM5.out.cell 8 rfl 0; simpa using this)
                     have hk2 : KeepsOthers w (W1.setCell ⟨E.Bs, 6, none⟩ (.slice ad (s1.fs.length + 1) cp)) := (((Hkw.out.trans (KeepsOthers.drew _)).trans (KeepsOthers.alloc _ _)).trans ⟨hs1, (HN.out.alloc_ _).keeps 6 rfl hs1 hk1⟩).trans (KeepsOthers.setCell W1 _ _)
                     clear hM2 hs1 hk1)
                  | fail)
              all_goals
                go_wp2_with fail
                gi_wp2_with fail
                have hM6 := (fin_perm (A := [_, _, _, _, _, _]) HM5.out).cast (L' := edef D1 :: E.own ⟨s1.low, s1.at_, Tarj.setAll s1.comp c (nA : Int), s.stack, .slice (some ⟨gS, 0, none⟩) kS cS, .slice ad (s1.fs.length + 1) cp, s1.fs ++ [(.slice ac k cc, c)]⟩ L') (by simp [rowsI, rowR])
                have hts : (CS.mk s1.low s1.at_ (Tarj.setAll s1.comp c (nA : Int)) s.stack (.slice (some ⟨gS, 0, none⟩) kS cS) (.slice ad (s1.fs.length + 1) cp) (s1.fs ++ [(.slice ac k cc, c)])).ts = popped s1.ts s.stack.length c := by
                  have h := ts_popped s1 s.stack.length c (.slice (some ⟨gS, 0, none⟩) kS cS) (.slice ad (s1.fs.length + 1) cp) (.slice ac k cc) (fun x hx => by rw [Hk1.out.comp]; exact Hcin.out x hx)
                  rw [show s1.stack.take s.stack.length = s.stack by rw [Hst.out]; simp, HnA.out] at h
                  exact h
                have hW := HA.out.pop (by rw [E1.out, E2.out]) Hall.out Hcm.out Hcr.out
                have hW2 : Walked (EG E.g) E.g.objs.length s.ts (CS.mk s1.low s1.at_ (Tarj.setAll s1.comp c (nA : Int)) s.stack (.slice (some ⟨gS, 0, none⟩) kS cS) (.slice ad (s1.fs.length + 1) cp) (s1.fs ++ [(.slice ac k cc, c)])).ts gray (i : Int) := by rw [hts]; exact hW
                have Hk2 := Lib.hid hk2
                have HW2 := Lib.hid hW2
                have hOk2 : (CS.mk s1.low s1.at_ (Tarj.setAll s1.comp c (nA : Int)) s.stack (.slice (some ⟨gS, 0, none⟩) kS cS) (.slice ad (s1.fs.length + 1) cp) (s1.fs ++ [(.slice ac k cc, c)])).Ok E.g.objs.length := ⟨Hk1.out.low, Hk1.out.at_, by simp only; rw [setAll_len]; exact Hk1.out.comp⟩
                refine leaves_marks2 (v := .tuple #[]) [D1] _ hM6 Hk2.out (by intro D hD; simp at hD; subst hD; exact Hbig.out) ?_
                intro W' hM8 hko8
                exact ⟨by simp [results, Try.results75, go_sem], _, rfl, HW2.out, hOk2, hM8, hko8⟩
        · have Hne := Lib.hid hne
          go_quiet (fail)
          go_wp2_with fail
          gi_wp2_with fail
          have hEnd := (own_end HM7.out).drewN nq
          have HS := Lib.hid (HA.out.stay (by rw [E1.out, E2.out]; exact Hne.out) Hall.out)
          have hkq : KeepsOthers W (W.drewN nq) := ⟨Nat.le_refl _, fun k _ hk _ => hk⟩
          have Hkq := Lib.hid (Hko.out.trans hkq)
          refine leaves_marks2 (v := .tuple #[]) [D1] _ hEnd Hkq.out (by intro D hD; simp at hD; subst hD; exact Hbig.out) ?_
          intro W' hM8 hko8
          exact ⟨by simp [results, Try.results75, go_sem], s1, rfl, HS.out, Hk1.out, hM8, hko8⟩
      case body =>
        rintro lb pre ⟨x, hx⟩ W hsz ⟨s1, ⟨hA, hk1⟩, hko, hM⟩ hlen
        have hxv := mem_of_target hx
        have hxin := ref_in' HE.out.good (fields_all E.g (i : Int) _ (by rw [Hob.out]; exact hxv))
        obtain ⟨j, rfl⟩ : ∃ j : Nat, x = (j : Int) := ⟨x.toNat, by omega⟩
        have hj : j < E.g.objs.length := by omega
        obtain ⟨pl, hpl⟩ : ∃ pl : List Int, pre.map (·.1) = pl := ⟨_, rfl⟩
        rw [hpl] at hA
        have hjE : EG E.g (i : Int) (j : Int) := (HEG.out _).2 hx
        obtain ⟨aj, haj⟩ := get_some s1.at_ j (by rw [hk1.at_]; exact hj)
        obtain ⟨cj, hcj⟩ := get_some s1.comp j (by rw [hk1.comp]; exact hj)
        obtain ⟨ai, hai⟩ := get_some s1.at_ i (by rw [hk1.at_]; exact hil)
        obtain ⟨li, hli⟩ := get_some s1.low i (by rw [hk1.low]; exact hil)
        have hM' := hM
        rw [← HT.out] at hM'
        have q0 : W.cell? ⟨bp, 0, none⟩ = some (.pointer (some ⟨E.Bs, 0, none⟩)) := by have := hM'.cell 7 rfl 0; simpa using this
        have q1 : W.cell? ⟨bp + 1, 0, none⟩ = some (.int .i64 (i : Int)) := by have := hM'.cell 6 rfl 0; simpa using this
        have q2 : W.cell? ⟨E.Bs, 3, none⟩ = some E.vA := by have := hM'.cell 0 rfl 3; simpa using this
        obtain ⟨q3, _⟩ := hM'.intAt 2 rfl haj
        have hj1 : (0 : Int) ≤ (j : Int) := by omega
        have hj2 : (j : Int) < (E.g.objs.length : Int) := by omega
        have Hpl := Lib.hid hpl
        have HA := Lib.hid hA
        have Hk1 := Lib.hid hk1
        have Hko := Lib.hid hko
        have HM := Lib.hid hM
        have HjE := Lib.hid hjE
        have Haj := Lib.hid haj
        have Hcj := Lib.hid hcj
        have Hli := Lib.hid hli
        have Hx := Lib.hid hx
        simp only [laid]
        by_cases haj0 : aj = 0
        · subst haj0
          have hzl : zer s1.ts.at_ E.g.objs.length < m := by
            have h1 := hA.old
            have h2 : zer s1.ts.at_ E.g.objs.length < zer s.ts.at_ E.g.objs.length := by
              have h3 := zer_upd (f := s.ts.at_) (i := (i : Int)) (v := 1) hA.fresh (by decide) E.g.objs.length (by omega) (by omega)
              have h4 := zer_mono (f := upd s.ts.at_ (i : Int) 1) (g := s1.ts.at_) (fun x hx => by
                by_cases e : x = (i : Int)
                · subst e; exact hA.here
                · rw [upd_ne _ _ e] at hx
                  rw [hA.at_ x hx]; exact hx) E.g.objs.length
              omega
            have := Hm.out
            omega
          have hgl2 : ∀ x, (gray x ∨ x = (i : Int)) → Lead (EG E.g) x (j : Int) := by
            rintro x (h | rfl)
            · exact (Hgl.out x h).trans (.one hjE)
            · exact .one hjE
          have Hrec := Lib.hid (callsIn_wide.1 (Hih.out _ hzl s1 j _ W T hk1 hA.inv haj hgl2 (Nat.le_refl _) hM))
          clear hlen hsz hpl hA hk1 hko hM hM' hxv hxin hjE haj hcj hli hai hzl hgl2
          gi_wp2_with fail
          refine ⟨trivial, (callsIn_round Hrec.out).mono ?_⟩
          rintro e w6 ⟨s2, rfl, hS2, hk2, hM2, hko2⟩
          have hM7' := hM2
          rw [← HT.out] at hM7'
          obtain ⟨li2, hli2⟩ := get_some s2.low i (by rw [hk2.low]; exact hil)
          obtain ⟨lj2, hlj2⟩ := get_some s2.low j (by rw [hk2.low]; exact hj)
          have r0 : w6.cell? ⟨bp, 0, none⟩ = some (.pointer (some ⟨E.Bs, 0, none⟩)) := by have := hM7'.cell 7 rfl 0; simpa using this
          have r1 : w6.cell? ⟨bp + 1, 0, none⟩ = some (.int .i64 (i : Int)) := by have := hM7'.cell 6 rfl 0; simpa using this
          have r2 : w6.cell? ⟨E.Bs, 2, none⟩ = some E.vL := by have := hM7'.cell 0 rfl 2; simpa using this
          obtain ⟨r3, r4⟩ := hM7'.intAt 1 rfl hli2
          obtain ⟨r5, r6⟩ := hM7'.intAt 1 rfl hlj2
          have hM8 : Mem E.w0.heap.size E.w0 (w6.setCell ⟨E.gL, i, none⟩ (.int .i64 (min li2 lj2))).drew (E.own ⟨s2.low.set i (min li2 lj2), s2.at_, s2.comp, s2.stack, s2.vst, s2.va, s2.fs⟩ T) := by
            have := (hM7'.setI 1 rfl hk2.low i (min li2 lj2)).drew
            rw [← HT.out]
            exact this.cast (by simp)
          have hS4 : Amid (EG E.g) E.g.objs.length s.ts (CS.ts ⟨s2.low.set i (min li2 lj2), s2.at_, s2.comp, s2.stack, s2.vst, s2.va, s2.fs⟩) gray (i : Int) (pl ++ [(j : Int)]) := by
            rw [ts_setLow s2 i _ (by rw [hk2.low]; exact hil)]
            have h := HA.out.new HjE.out (by show rd s1.at_ 0 (j : Int) = 0; exact rd_some Haj.out) hS2
            have e1 : s2.ts.low (i : Int) = li2 := by show rd s2.low 0 (i : Int) = li2; exact rd_some hli2
            have e2 : s2.ts.low (j : Int) = lj2 := by show rd s2.low 0 (j : Int) = lj2; exact rd_some hlj2
            rw [e1, e2] at h; exact h
          have hk3 : (CS.mk (s2.low.set i (min li2 lj2)) s2.at_ s2.comp s2.stack s2.vst s2.va s2.fs).Ok E.g.objs.length := ⟨by rw [List.length_set]; exact hk2.low, hk2.at_, hk2.comp⟩
          have hkW : KeepsOthers W (w6.setCell ⟨E.gL, i, none⟩ (.int .i64 (min li2 lj2))).drew := (hko2.trans (KeepsOthers.setCell _ _ _)).trans (KeepsOthers.drew _)
          have HM8 := Lib.hid hM8
          have HS4 := Lib.hid hS4
          have Hk3 := Lib.hid hk3
          have HkW := Lib.hid hkW
          clear hM7' hM2 hS2 hk2 hko2 hM8 hS4 hk3 hkW hli2 hlj2
          gi_wp2
          refine region_round_tail 21 (by kernel_rfl) (by kernel_rfl) (by kernel_rfl) (by rintro ⟨a, w, h⟩; exact h) ?_
          simp only [List.take_succ_cons, List.take_zero, List.drop_succ_cons, List.drop_zero]
          repeat still_step
          try refine wpStill_nil ?_
          go_wp2_with fail
          refine ⟨HkW.out.from _, below_between HM.out.below HM8.out.below HkW.out.size, _, ⟨?_, Hk3.out⟩, Hko.out.trans HkW.out, HM8.out⟩
          rw [List.map_append, Hpl.out]
          exact HS4.out
        · have q4 : W.cell? ⟨E.Bs, 5, none⟩ = some E.vC := by have := hM'.cell 0 rfl 5; simpa using this
          obtain ⟨q5, _⟩ := hM'.intAt 3 rfl hcj
          by_cases hcj0 : cj < 0
          · have q6 : W.cell? ⟨E.Bs, 2, none⟩ = some E.vL := by have := hM'.cell 0 rfl 2; simpa using this
            obtain ⟨q7, q8⟩ := hM'.intAt 1 rfl hli
            have hM8 : Mem E.w0.heap.size E.w0 (W.setCell ⟨E.gL, i, none⟩ (.int .i64 (min li aj))).drew (E.own ⟨s1.low.set i (min li aj), s1.at_, s1.comp, s1.stack, s1.vst, s1.va, s1.fs⟩ T) := by
              have := (hM'.setI 1 rfl hk1.low i (min li aj)).drew
              rw [← HT.out]
              exact this.cast (by simp)
            have hS4 : Amid (EG E.g) E.g.objs.length s.ts (CS.ts ⟨s1.low.set i (min li aj), s1.at_, s1.comp, s1.stack, s1.vst, s1.va, s1.fs⟩) gray (i : Int) (pl ++ [(j : Int)]) := by
              rw [ts_setLow s1 i _ (by rw [hk1.low]; exact hil)]
              have e0 : s1.ts.at_ (j : Int) = aj := by show rd s1.at_ 0 (j : Int) = aj; exact rd_some haj
              have e3 : s1.ts.comp (j : Int) = cj := by show rd s1.comp (-1) (j : Int) = cj; exact rd_some hcj
              have h := hA.again hjE (by rw [e0]; exact haj0) (by rw [e3]; exact hcj0)
              have e1 : s1.ts.low (i : Int) = li := by show rd s1.low 0 (i : Int) = li; exact rd_some hli
              rw [e1, e0] at h; exact h
            have hk3 : (CS.mk (s1.low.set i (min li aj)) s1.at_ s1.comp s1.stack s1.vst s1.va s1.fs).Ok E.g.objs.length := ⟨by rw [List.length_set]; exact hk1.low, hk1.at_, hk1.comp⟩
            have hkW : KeepsOthers W (W.setCell ⟨E.gL, i, none⟩ (.int .i64 (min li aj))).drew := (KeepsOthers.setCell _ _ _).trans (KeepsOthers.drew _)
            have HM8 := Lib.hid hM8
            have HS4 := Lib.hid hS4
            have Hk3 := Lib.hid hk3
            have HkW := Lib.hid hkW
            clear hlen hsz hpl hA hk1 hko hM hM' hxv hxin hjE haj hcj hli hai hM8 hS4 hk3 hkW
            gi_wp2
            refine region_round_tail 21 (by kernel_rfl) (by kernel_rfl) (by kernel_rfl) (by rintro ⟨a, w, h⟩; exact h) ?_
            simp only [List.take_succ_cons, List.take_zero, List.drop_succ_cons, List.drop_zero]
            repeat still_step
            try refine wpStill_nil ?_
            go_wp2_with fail
            refine ⟨HkW.out.from _, below_between HM.out.below HM8.out.below HkW.out.size, _, ⟨?_, Hk3.out⟩, Hko.out.trans HkW.out, HM8.out⟩
            rw [List.map_append, Hpl.out]
            exact HS4.out
          · have HS2 := Lib.hid (hA.skip (j := (j : Int)) (by show 0 ≤ rd s1.comp (-1) (j : Int); rw [rd_some hcj]; omega))
            clear hlen hsz hpl hA hk1 hko hM hM' hxv hxin hjE haj hcj hli hai
            gi_wp2
            refine ⟨KeepsFrom.refl _ _, Below.refl _ _, s1, ⟨?_, Hk1.out⟩, Hko.out, HM.out⟩
            show Amid _ _ _ _ _ _ (List.map (·.1) (pre ++ [⟨(j : Int), hx⟩]))
            rw [List.map_append, Hpl.out]
            exact HS2.out

theorem walk_all (E : CompEnv) (hE : E.Ok) : ∀ m, WalkC E m := fun m => by
  induction m using Nat.strongRecOn with
  | _ m ih => exact walk_step E hE m ih
end Go.Proofs.Ytmmcjjklmcfegaa

/- Steps for grow: a make of ints in a drawing region; what a box holds; a drawing region in a round of a range over a function. -/
namespace Go.Proofs.Ytmmcjjklmcfegaa
open Go.RowKit Go.Shelf

section
variable {P : Program} {B : Nat} {w0 w : World} {L : List Ent} {t e : TypeId}
theorem Mem.boxInts (h : Mem B w0 w L) {b : Nat} {x : Int} {t : TypeId} (hm : ebox b #[.int .i64 x] t ∈ L) (hx : i64ok x) : IsInts w (.slice (some ⟨b, 0, none⟩) 1 1) [x] := by
  refine ⟨some ⟨b, 0, none⟩, 1, rfl, by simp, ?_⟩
  intro k y hk
  cases k with
  | zero =>
    simp at hk; subst hk
    exact ⟨b, 0, rfl, (h.lt hm _ rfl).2, h.boxCell hm 0 rfl, hx⟩
  | succ k => simp at hk
end
section
variable {P : Program} {n r : Nat}
/-- A region that draws, in a round of a range over a function: some of its loads first. -/
theorem region_round_held {id : Nat} {S : World → Prop} {Q : Exit → Act → World → Prop} {a : Act} {w : World} {l : List Oper} (hm : P.follows .mixedOrders = true) (hd : noDefer l = true) (hQ : ¬ LetsOut Q) (hS : S w.drew)
    (h : S w.drew → wpAnyH P .any l.toArray Q S l.toArray.size (Array.replicate l.toArray.size false) a w.drew) : (Code.region id l.toArray true).wpIn (Fence.wide.inRound r) n P Q a w :=
  wpIn_region_any hm (any_round hd hQ _ _ _ _ (wpAny_of_held _ _ _ _ (h hS)))
end
end Go.Proofs.Ytmmcjjklmcfegaa

/- comps.found, walked. -/
namespace Go.Proofs.Ytmmcjjklmcfegaa
open Go.RowKit Go.Shelf Tarj

attribute [local go_sem] Oper.semAt_some

theorem rep_any {B : Nat} {w0 w : World} {L : List Ent} (x : Int) (hx : i64ok x) (n : Nat) (hn : n ≤ 1000) (hM : Mem B w0 w L) (b : Nat) (hm : ebox b #[.int .i64 x] 3 ∈ L) :
    Calls Try.prog 72 #[.slice (some ⟨b, 0, none⟩) 1 1, .int .i64 (n : Int)] w fun e w' => ∃ v, e = .returned v ∧ Mem B w0 w' (rowI 3 v (List.replicate n x) :: L) := by
  refine (repeat_any _ x n (by omega) _ (hM.boxInts hm hx)).mono ?_
  rintro e wq ⟨vu, rfl, hMq⟩
  exact ⟨vu, rfl, hM.callMem hMq⟩

theorem rep_cps {B : Nat} {w0 w : World} {L : List Ent} {x : Int} {n : Nat} (hx : i64ok x) (hn : n ≤ 1000) {b : Nat} {R : Ending → World → Prop} (hM : Mem B w0 w L) (hm : ebox b #[.int .i64 x] 3 ∈ L)
    (h : ∀ v w', Mem B w0 w' (rowI 3 v (List.replicate n x) :: L) → R (.returned v) w') : Calls Try.prog 72 #[.slice (some ⟨b, 0, none⟩) 1 1, .int .i64 (n : Int)] w R := by
  refine (rep_any x hx n hn hM b hm).mono ?_
  rintro e w' ⟨v, rfl, hM2⟩
  exact h v w' hM2
def FoundC (g : G) (w w' : World) (vo vr : Value) (e : Ending) : Prop :=
  ∃ (Bs : Nat) (vL vA vst vC va : Value) (comp : List Int) (fs : List (Value × List Int)), e = .returned (.pointer (some ⟨Bs, 0, none⟩)) ∧ Res (EG g) g.objs.length (rd comp (-1)) (fs.map (·.2)) ∧ comp.length = g.objs.length ∧
    Mem w.heap.size w w' (ebox Bs #[vo, vr, vL, vA, vst, vC, va] 109 :: rowI 3 vC comp :: rowR va (fs.map (·.1)) :: rowsI fs)

set_option linter.unusedVariables false in
set_option linter.unusedSimpArgs false in
set_option maxRecDepth 100000 in
set_option maxHeartbeats 4000000 in
theorem foundC_any (g : G) (hG : Good g) (vo vr : Value) (w : World) (hg : IsGraph w (.agg #[vo, vr]) g) :
    Calls Try.prog 48 #[.agg #[vo, vr]] w fun e w' => FoundC g w w' vo vr e := by
  obtain ⟨vo1, vr1, he, ho, hr⟩ := hg
  cases he
  obtain ⟨ao, co, rfl, hlo⟩ := ho.slice
  obtain ⟨ar, cr, rfl, hlr⟩ := hr.slice
  have Ho := Lib.hid ho
  have hn := hG.objs
  have HG := Lib.hid hG
  clear ho hr hG
  have hN := (Mem.start w).alloc #[.slice ao g.objs.length co, .slice ar g.roots.length cr] 25
  go_enter Try.func48, Try.ntmps48
  go_wp2_with fail
  go_cut [4] from 9 to 18 (fun s4 W => ∃ (Bs gL gA : Nat) (vC : Value), s4 = .pointer (some ⟨Bs, 0, none⟩) ∧ Mem w.heap.size w W [ebox Bs #[.slice ao g.objs.length co, .slice ar g.roots.length cr, .slice (some ⟨gL, 0, none⟩) g.objs.length g.objs.length, .slice (some ⟨gA, 0, none⟩) g.objs.length g.objs.length, .slice none 0 0, vC, .slice none 0 0] 109, rowI 3 (.slice (some ⟨gL, 0, none⟩) g.objs.length g.objs.length) (List.replicate g.objs.length 0), rowI 3 (.slice (some ⟨gA, 0, none⟩) g.objs.length g.objs.length) (List.replicate g.objs.length 0), rowI 3 vC (List.replicate g.objs.length (-1)), ebox w.heap.size #[.slice ao g.objs.length co, .slice ar g.roots.length cr] 25])
  case first =>
    obtain ⟨Wz, hWz⟩ : ∃ Wz, w.alloc (.cells #[.slice ao g.objs.length co, .slice ar g.roots.length cr] 25) = Wz := ⟨_, rfl⟩
    rw [hWz] at hN ⊢
    clear hWz
    obtain ⟨mk, hmk, hmo⟩ := make_fun elemInts g.objs.length (by omega)
    have HK := Lib.hid (hmo w.heap.size w)
    have hi2 : i64ok (-1) := ⟨by omega, by omega⟩
    have HNz := Lib.hid hN
    clear hmo hN
    go_region_held3 (fun W => W.cell? ⟨w.heap.size, 0, none⟩ = some (.slice ao g.objs.length co) ∧ W.cell? ⟨w.heap.size, 1, none⟩ = some (.slice ar g.roots.length cr))
      (first | ((refine BoxIn.both (B := w.heap.size) (w0 := w) (t := 25) ?_; apply Exists.intro; apply And.intro; (focus (repeat (first | exact hR | exact HNz.out | with_reducible apply Mem.drew | with_reducible apply HK.out | with_reducible apply Mem.alloc))); (focus (repeat (first | exact List.mem_cons_self | refine List.mem_cons_of_mem _ ?_))))) | fail)
      (first
        | (go_at_call 72
           apply rep_cps (B := w.heap.size) (w0 := w) (x := -1) (n := g.objs.length) hi2 (by omega)
           (focus (repeat (first | exact hR | exact HNz.out | with_reducible apply Mem.drew | with_reducible apply HK.out | with_reducible apply Mem.alloc)))
           (focus (repeat (first | exact List.mem_cons_self | refine List.mem_cons_of_mem _ ?_)))
           intro vu wq hR
           obtain ⟨au2, cu2, hvu⟩ := hR.intsSlice 0 rfl
           rw [List.length_replicate] at hvu
           subst hvu)
        | fail)
    all_goals
      go_wp2_with fail
      go_meet
      apply Exists.intro; apply Exists.intro; apply Exists.intro; apply Exists.intro
      apply And.intro
      focus rfl
      apply mem_cps
      (focus (repeat (first | exact hR | exact HNz.out | with_reducible apply Mem.drew | with_reducible apply HK.out | with_reducible apply Mem.alloc)))
      intro hF
      try simp only [drew_heap, World.size_alloc] at hF
      first | exact hF.pick0 [0, 1, 2, 3, 5] (by decide) rfl | exact hF.pick0 [0, 1, 2, 4, 5] (by decide) rfl | exact hF.pick0 [0, 1, 3, 2, 5] (by decide) rfl | exact hF.pick0 [0, 1, 3, 4, 5] (by decide) rfl | exact hF.pick0 [0, 1, 4, 2, 5] (by decide) rfl | exact hF.pick0 [0, 1, 4, 3, 5] (by decide) rfl | exact hF.pick0 [0, 2, 1, 3, 5] (by decide) rfl | exact hF.pick0 [0, 2, 1, 4, 5] (by decide) rfl | exact hF.pick0 [0, 2, 3, 1, 5] (by decide) rfl | exact hF.pick0 [0, 2, 3, 4, 5] (by decide) rfl | exact hF.pick0 [0, 2, 4, 1, 5] (by decide) rfl | exact hF.pick0 [0, 2, 4, 3, 5] (by decide) rfl | exact hF.pick0 [0, 3, 1, 2, 5] (by decide) rfl | exact hF.pick0 [0, 3, 1, 4, 5] (by decide) rfl | exact hF.pick0 [0, 3, 2, 1, 5] (by decide) rfl | exact hF.pick0 [0, 3, 2, 4, 5] (by decide) rfl | exact hF.pick0 [0, 3, 4, 1, 5] (by decide) rfl | exact hF.pick0 [0, 3, 4, 2, 5] (by decide) rfl | exact hF.pick0 [0, 4, 1, 2, 5] (by decide) rfl | exact hF.pick0 [0, 4, 1, 3, 5] (by decide) rfl | exact hF.pick0 [0, 4, 2, 1, 5] (by decide) rfl | exact hF.pick0 [0, 4, 2, 3, 5] (by decide) rfl | exact hF.pick0 [0, 4, 3, 1, 5] (by decide) rfl | exact hF.pick0 [0, 4, 3, 2, 5] (by decide) rfl | fail
  case rest =>
    obtain ⟨Bs, gL, gA, vC, rfl, hM⟩ := hcut
    clear hN
    by_cases h0 : g.objs.length = 0
    · have hM2 : Mem w.heap.size w wc (ebox Bs #[.slice ao g.objs.length co, .slice ar g.roots.length cr, .slice (some ⟨gL, 0, none⟩) g.objs.length g.objs.length, .slice (some ⟨gA, 0, none⟩) g.objs.length g.objs.length, .slice none 0 0, vC, .slice none 0 0] 109 :: rowI 3 vC (List.replicate g.objs.length (-1)) :: rowR (.slice none 0 0) [] :: rowsI []) :=
        (hM.nil 39 1).pick0 [1, 4, 0] (by decide) rfl
      have hRes : Res (EG g) g.objs.length (rd (List.replicate g.objs.length (-1)) (-1)) (([] : List (Value × List Int)).map (·.2)) := by
        have h1 := (TInv.start (E := EG g) (n := g.objs.length)).end_ (fun x h1 h2 => by omega)
        have h2 : rd (List.replicate g.objs.length (-1)) (-1) = fun _ => (-1 : Int) := rd_rep _ _ _ rfl
        rw [h2]; exact h1
      have HM2 := Lib.hid hM2
      have HRes := Lib.hid hRes
      have H0 := Lib.hid h0
      clear hM hM2 hRes
      have h00 : ¬ (0 : Int) < (g.objs.length : Int) := by omega
      clear h0
      go_wp2
      go_loopw [5, 20] (fun s5 s20 wr => s20 = .int .i64 0 ∧ wr = wc) (fun _ i _ => 0)
      case atStart => exact ⟨rfl, rfl⟩
      case round =>
        obtain ⟨rfl, rfl⟩ := hrel
        go_wp2
        go_ret
        exact ⟨Bs, _, _, _, vC, _, _, [], rfl, HRes.out, by simp, HM2.out⟩
    · obtain ⟨gC, cC, rfl, _⟩ := hM.intsAt 3 rfl (by intro e; have := congrArg List.length e; rw [List.length_replicate] at this; exact h0 this)
      rw [List.length_replicate] at hM
      obtain ⟨E, hEe⟩ : ∃ E : CompEnv, E = ⟨g, w, .slice ao g.objs.length co, .slice ar g.roots.length cr, Bs, gL, gA, gC, cC⟩ := ⟨_, rfl⟩
      have hE : E.Ok := by subst hEe; exact ⟨HG.out, Ho.out⟩
      have hM2 : Mem E.w0.heap.size E.w0 wc (E.own ⟨List.replicate g.objs.length 0, List.replicate g.objs.length 0, List.replicate g.objs.length (-1), [], .slice none 0 0, .slice none 0 0, []⟩ [ebox w.heap.size #[.slice ao g.objs.length co, .slice ar g.roots.length cr] 25]) := by
        subst hEe
        exact ((hM.nil 39 1).nilI 3).pick0 [2, 3, 4, 5, 0, 1, 6] (by decide) rfl
      have hts : (CS.mk (List.replicate g.objs.length 0) (List.replicate g.objs.length 0) (List.replicate g.objs.length (-1)) [] (.slice none 0 0) (.slice none 0 0) []).ts = Tarj.start := by
        unfold CS.ts Tarj.start
        simp only [TS.mk.injEq, List.map_nil, and_true]
        exact ⟨rd_rep _ _ _ rfl, rd_rep _ _ _ rfl, rd_rep _ _ _ rfl⟩
      have e1 : E.g = g := by subst hEe; rfl
      have e2 : E.w0 = w := by subst hEe; rfl
      have e3 : E.Bs = Bs := by subst hEe; rfl
      have e4 : E.vA = .slice (some ⟨gA, 0, none⟩) g.objs.length g.objs.length := by subst hEe; rfl
      have HE := Lib.hid hE
      have HM2 := Lib.hid hM2
      have Hts := Lib.hid hts
      have HEe := Lib.hid hEe
      have E1 := Lib.hid e1
      have E2 := Lib.hid e2
      have E3 := Lib.hid e3
      have E4 := Lib.hid e4
      clear hM hM2 hts hE hEe e1 e2 e3 e4 h0
      go_wp2
      go_loopw [5, 20] (fun s5 s20 wr => ∃ (k : Nat) (s : CS), k ≤ g.objs.length ∧ s20 = .int .i64 (k : Int) ∧ s.Ok g.objs.length ∧ TInv (EG g) g.objs.length s.ts (fun _ => False) ∧ (∀ x, 0 ≤ x → x < (k : Int) → s.ts.at_ x ≠ 0) ∧ Mem E.w0.heap.size E.w0 wr (E.own s [ebox w.heap.size #[.slice ao g.objs.length co, .slice ar g.roots.length cr] 25])) (fun _ i _ => g.objs.length - (intOf i).toNat)
      case atStart => exact ⟨0, _, Nat.zero_le _, rfl, ⟨by simp, by simp, by simp⟩, by rw [Hts.out]; exact TInv.start, fun x h1 h2 => by omega, HM2.out⟩
      case round =>
        obtain ⟨k, s, hk, rfl, hok, hinv, hseen, hM⟩ := hrel
        by_cases hlt : k < g.objs.length
        · obtain ⟨a, ha⟩ := get_some s.at_ k (by rw [hok.at_]; exact hlt)
          have p0 : wr.cell? ⟨Bs, 3, none⟩ = some (.slice (some ⟨gA, 0, none⟩) g.objs.length g.objs.length) := by have := hM.cell 0 rfl 3; rw [E3.out] at this; rw [this]; show some E.vA = _; rw [E4.out]
          have hgA : E.gA = gA := by rw [HEe.out]
          obtain ⟨p1, _⟩ := hM.intAt 2 rfl ha
          rw [hgA] at p1
          have hk1 : (0 : Int) ≤ (k : Int) := by omega
          have hk2 : (k : Int) < (g.objs.length : Int) := by omega
          have hat : s.ts.at_ (k : Int) = a := by show rd s.at_ 0 (k : Int) = a; exact rd_some ha
          by_cases ha0 : a = 0
          · subst ha0
            have hcall := callsIn_wide.1 (walk_all E HE.out _ s k (fun _ => False) wr _ (by rw [E1.out]; exact hok) (by rw [E1.out]; exact hinv) ha (fun x h => h.elim) (Nat.le_refl _) hM)
            rw [E3.out] at hcall
            have Hcall := Lib.hid hcall
            have Hseen := Lib.hid hseen
            clear hM hinv hok hseen ha hcall hat hgA
            go_wp2_with fail
            refine Hcall.out.mono ?_
            rintro e w6 ⟨s2, rfl, hS2, hk3, hM2, _⟩
            rw [E1.out] at hS2 hk3
            have hseen2 : ∀ x, 0 ≤ x → x < ((k + 1 : Nat) : Int) → s2.ts.at_ x ≠ 0 := fun x h1 h2 => by
              by_cases e : x = (k : Int)
              · subst e; exact hS2.here
              · have h3 := Hseen.out x h1 (by omega)
                rw [hS2.at_ x h3]; exact h3
            have HS2 := Lib.hid hS2
            have Hk3 := Lib.hid hk3
            have HM3 := Lib.hid hM2
            have Hseen2 := Lib.hid hseen2
            clear hS2 hk3 hM2 hseen2
            go_wp2
            go_roundw
            case rel => exact ⟨k + 1, s2, by omega, by go_num, Hk3.out, HS2.out.inv, Hseen2.out, HM3.out⟩
            case measure => simp [intOf]; omega
          · have hseen2 : ∀ x, 0 ≤ x → x < ((k + 1 : Nat) : Int) → s.ts.at_ x ≠ 0 := fun x h1 h2 => by
              by_cases e : x = (k : Int)
              · subst e; rw [hat]; exact ha0
              · exact hseen x h1 (by omega)
            have Hinv := Lib.hid hinv
            have Hok := Lib.hid hok
            have HM3 := Lib.hid hM
            have Hseen2 := Lib.hid hseen2
            clear hM hinv hok hseen ha hat hgA hseen2
            go_wp2
            go_roundw
            case rel => exact ⟨k + 1, s, by omega, by go_num, Hok.out, Hinv.out, Hseen2.out, HM3.out⟩
            case measure => simp [intOf]; omega
        · obtain rfl : k = g.objs.length := by omega
          have hRes : Res (EG g) g.objs.length (rd s.comp (-1)) (s.fs.map (·.2)) := hinv.end_ hseen
          have hM4 : Mem w.heap.size w wr (ebox Bs #[.slice ao g.objs.length co, .slice ar g.roots.length cr, .slice (some ⟨gL, 0, none⟩) g.objs.length g.objs.length, .slice (some ⟨gA, 0, none⟩) g.objs.length g.objs.length, s.vst, .slice (some ⟨gC, 0, none⟩) g.objs.length cC, s.va] 109 :: rowI 3 (.slice (some ⟨gC, 0, none⟩) g.objs.length cC) s.comp :: rowR s.va (s.fs.map (·.1)) :: rowsI s.fs) := by
            have h := hM
            rw [HEe.out] at h
            exact h.drop (.cons_cons _ (.cons _ (.cons _ (.cons_cons _ (.cons _ (.cons_cons _ (.cons _ (.refl _))))))))
          have HRes := Lib.hid hRes
          have HM4 := Lib.hid hM4
          have Hok := Lib.hid hok
          clear hM hinv hok hseen hRes hM4 HM2
          go_wp2
          go_ret
          exact ⟨Bs, _, _, _, _, _, s.comp, s.fs, rfl, HRes.out, Hok.out.comp, HM4.out⟩
end Go.Proofs.Ytmmcjjklmcfegaa

/- Who keeps whom: the search in depth. Plain. -/
namespace Go.Proofs.Ytmmcjjklmcfegaa

/-- Is an object marked? -/
def sk (K : List Bool) (i : Int) : Bool := decide (0 ≤ i) && K.getD i.toNat false
theorem sk_set (K : List Bool) {i : Nat} (hi : i < K.length) (j : Int) : sk (K.set i true) j = (sk K j || decide (j = (i : Int))) := by
  unfold sk
  rw [List.getD_eq_getElem?_getD, List.getD_eq_getElem?_getD, List.getElem?_set]
  by_cases h0 : 0 ≤ j
  · by_cases h : i = j.toNat
    · have h2 : j = (i : Int) := by omega
      rw [if_pos h, if_pos (h ▸ hi)]
      simp [h2]
    · have h2 : ¬ j = (i : Int) := by omega
      rw [if_neg h]; simp [h2]
  · have h2 : ¬ j = (i : Int) := by omega
    simp [h0, h2]
/-- What can be come to without what is barred. -/
inductive Av (g : G) (bad : Int → Prop) : Int → Prop
  | root {x : V} : x ∈ g.roots → x.ref = true → ¬ bad x.n → Av g bad x.n
  | step {i : Int} {x : V} : Av g bad i → x ∈ fieldsAt g i → x.ref = true → ¬ bad x.n → Av g bad x.n
theorem Av.mono {g : G} {p q : Int → Prop} (h : ∀ x, q x → p x) {i : Int} (ha : Av g p i) : Av g q i := by
  induction ha with
  | root h1 h2 h3 => exact .root h1 h2 fun hq => h3 (h _ hq)
  | step _ h2 h3 h4 ih => exact .step ih h2 h3 fun hq => h4 (h _ hq)
theorem Av.not {g : G} {p : Int → Prop} {i : Int} (ha : Av g p i) : ¬ p i := by
  cases ha with
  | root _ _ h => exact h
  | step _ _ _ h => exact h
def Rch (g : G) (i : Int) : Prop := Av g (fun _ => False) i
theorem mem_targets_iff {l : List V} {t : Int} : t ∈ targets l ↔ ∃ x ∈ l, x.ref = true ∧ x.n = t := by
  unfold targets
  constructor
  · intro h
    obtain ⟨x, hx, rfl⟩ := List.mem_map.1 h
    obtain ⟨h1, h2⟩ := List.mem_filter.1 hx
    exact ⟨x, h1, h2, rfl⟩
  · rintro ⟨x, h1, h2, rfl⟩
    exact List.mem_map.2 ⟨x, List.mem_filter.2 ⟨h1, h2⟩, rfl⟩
/-- What a walk from some targets on does: the objects that it finds, each behind those to which it leads first. -/
structure PostS (g : G) (K K' : List Bool) (new ts : List Int) : Prop where
  len : K'.length = K.length
  mem : ∀ i, sk K' i = true ↔ sk K i = true ∨ i ∈ new
  fresh : ∀ i ∈ new, sk K i = false
  nodup : new.Nodup
  has : ∀ t ∈ ts, sk K' t = true
  closed : ∀ i ∈ new, ∀ t ∈ targets (fieldsAt g i), sk K' t = true
  least : ∀ S : Int → Prop, (∀ i t, S i → t ∈ targets (fieldsAt g i) → S t) → (∀ t ∈ ts, S t) → ∀ i ∈ new, S i
  order : ∀ (a b : List Int) (i : Int), new = a ++ i :: b → i ∈ ts ∨ ∃ j ∈ b, i ∈ targets (fieldsAt g j)
theorem PostS.nil (g : G) (K : List Bool) : PostS g K K [] [] :=
  ⟨rfl, by simp, by simp, by simp, by simp, by simp, fun _ _ _ i hi => by simp at hi, fun a b i h => by simp at h⟩
theorem PostS.skip {g : G} {K K' : List Bool} {new ts : List Int} (h : PostS g K K' new ts) {t : Int} (ht : sk K' t = true) : PostS g K K' new (ts ++ [t]) := by
  refine ⟨h.len, h.mem, h.fresh, h.nodup, ?_, h.closed, fun S h1 h2 => h.least S h1 fun t ht => h2 t (List.mem_append_left _ ht), ?_⟩
  · intro u hu
    rcases List.mem_append.1 hu with hu | hu
    · exact h.has u hu
    · rw [List.mem_singleton.1 hu]; exact ht
  · intro a b i he
    rcases h.order a b i he with h1 | h1
    · exact .inl (List.mem_append_left _ h1)
    · exact .inr h1
theorem PostS.take {g : G} {K K1 K3 : List Bool} {new new2 ts : List Int} (h : PostS g K K1 new ts) {i : Nat} (hi : K1[i]? = some false) (h2 : PostS g (K1.set i true) K3 new2 (targets (fieldsAt g (i : Int)))) :
    PostS g K K3 (new ++ (new2 ++ [(i : Int)])) (ts ++ [(i : Int)]) := by
  have hl := (List.getElem?_eq_some_iff.1 hi).1
  have hset := sk_set K1 hl
  have hi1 : sk K1 (i : Int) = false := by
    unfold sk
    rw [Int.toNat_natCast, List.getD_eq_getElem?_getD, hi]; simp
  have hi2 : sk (K1.set i true) (i : Int) = true := by rw [hset]; simp
  have hK : sk K (i : Int) = false := by
    cases hk : sk K (i : Int) with
    | false => rfl
    | true => rw [(h.mem _).2 (.inl hk)] at hi1; cases hi1
  have hin : (i : Int) ∉ new := fun hm => by rw [(h.mem _).2 (.inr hm)] at hi1; cases hi1
  have hin2 : (i : Int) ∉ new2 := fun hm => by rw [h2.fresh _ hm] at hi2; cases hi2
  have hdis : ∀ x ∈ new, x ∉ new2 := by
    intro x hx hx2
    have h3 := h2.fresh x hx2
    rw [hset, (h.mem x).2 (.inr hx)] at h3
    cases h3
  have hmem : ∀ j, sk K3 j = true ↔ sk K j = true ∨ j ∈ new ++ (new2 ++ [(i : Int)]) := by
    intro j
    rw [h2.mem, hset]
    simp only [Bool.or_eq_true, decide_eq_true_eq, List.mem_append, List.mem_singleton]
    rw [h.mem]
    constructor
    · rintro ((( h1 | h1) | h1) | h1)
      · exact .inl h1
      · exact .inr (.inl h1)
      · exact .inr (.inr (.inr h1))
      · exact .inr (.inr (.inl h1))
    · rintro (h1 | h1 | h1 | h1)
      · exact .inl (.inl (.inl h1))
      · exact .inl (.inl (.inr h1))
      · exact .inr h1
      · exact .inl (.inr h1)
  have up : ∀ j, sk K1 j = true → sk K3 j = true := fun j hj => (h2.mem j).2 (.inl (by rw [hset, hj]; rfl))
  refine ⟨by rw [h2.len, List.length_set, h.len], hmem, ?_, ?_, ?_, ?_, ?_, ?_⟩
  · intro x hx
    rcases List.mem_append.1 hx with hx | hx
    · exact h.fresh x hx
    · rcases List.mem_append.1 hx with hx | hx
      · have h3 := h2.fresh x hx
        rw [hset] at h3
        cases hk : sk K x with
        | false => rfl
        | true => rw [(h.mem x).2 (.inl hk)] at h3; cases h3
      · rw [List.mem_singleton.1 hx]; exact hK
  · rw [List.nodup_append]
    refine ⟨h.nodup, ?_, ?_⟩
    · rw [List.nodup_append]
      refine ⟨h2.nodup, by simp, fun a ha b hb => ?_⟩
      rw [List.mem_singleton.1 hb]; rintro rfl; exact hin2 ha
    · intro a ha b hb
      rintro rfl
      rcases List.mem_append.1 hb with hb | hb
      · exact hdis a ha hb
      · rw [List.mem_singleton.1 hb] at ha; exact hin ha
  · intro t ht
    rcases List.mem_append.1 ht with ht | ht
    · exact up t (h.has t ht)
    · rw [List.mem_singleton.1 ht]; exact (h2.mem _).2 (.inl hi2)
  · intro x hx t ht
    rcases List.mem_append.1 hx with hx | hx
    · exact up t (h.closed x hx t ht)
    · rcases List.mem_append.1 hx with hx | hx
      · exact h2.closed x hx t ht
      · rw [List.mem_singleton.1 hx] at ht; exact h2.has t ht
  · intro S hS hts x hx
    have hSi : S (i : Int) := hts _ (List.mem_append_right _ (List.mem_singleton.2 rfl))
    rcases List.mem_append.1 hx with hx | hx
    · exact h.least S hS (fun t ht => hts t (List.mem_append_left _ ht)) x hx
    · rcases List.mem_append.1 hx with hx | hx
      · exact h2.least S hS (fun t ht => hS _ t hSi ht) x hx
      · rw [List.mem_singleton.1 hx]; exact hSi
  · intro a b x he
    rw [List.append_eq_append_iff] at he
    rcases he with ⟨c, h3, h4⟩ | ⟨c, h3, h4⟩
    · -- x stands in what is found behind new
      rw [List.append_eq_append_iff] at h4
      rcases h4 with ⟨d, h5, h6⟩ | ⟨d, h5, h6⟩
      · cases d with
        | nil =>
          simp only [List.nil_append, List.cons.injEq] at h6
          exact .inl (List.mem_append_right _ (List.mem_singleton.2 h6.1.symm))
        | cons y d =>
          simp at h6
      · cases d with
        | nil =>
          simp only [List.nil_append] at h6
          simp only [List.cons.injEq] at h6
          exact .inl (List.mem_append_right _ (List.mem_singleton.2 h6.1))
        | cons y d =>
          simp only [List.cons_append, List.cons.injEq] at h6
          obtain ⟨rfl, rfl⟩ := h6
          rcases h2.order c d x h5 with h7 | ⟨j, hj, h7⟩
          · exact .inr ⟨(i : Int), List.mem_append_right _ (List.mem_singleton.2 rfl), h7⟩
          · exact .inr ⟨j, List.mem_append_left _ hj, h7⟩
    · cases c with
      | nil =>
        simp only [List.nil_append] at h4
        cases new2 with
        | nil =>
          simp only [List.nil_append, List.cons.injEq] at h4
          exact .inl (List.mem_append_right _ (List.mem_singleton.2 h4.1))
        | cons y new2 =>
          simp only [List.cons_append, List.cons.injEq] at h4
          obtain ⟨rfl, rfl⟩ := h4
          rcases h2.order [] new2 x rfl with h7 | ⟨j, hj, h7⟩
          · exact .inr ⟨(i : Int), List.mem_append_right _ (List.mem_singleton.2 rfl), h7⟩
          · exact .inr ⟨j, List.mem_append_left _ hj, h7⟩
      | cons y c =>
        simp only [List.cons_append, List.cons.injEq] at h4
        obtain ⟨rfl, rfl⟩ := h4
        rcases h.order a c x h3 with h7 | ⟨j, hj, h7⟩
        · exact .inl (List.mem_append_left _ h7)
        · exact .inr ⟨j, List.mem_append_left _ hj, h7⟩
/-- The whole search. -/
theorem PostS.whole {g : G} {K : List Bool} {new : List Int} (h : PostS g (List.replicate g.objs.length false) K new (targets g.roots)) : ∀ i, i ∈ new ↔ Rch g i := by
  have hz : ∀ i, sk (List.replicate g.objs.length false) i = false := by
    intro i
    unfold sk
    rw [List.getD_eq_getElem?_getD, List.getElem?_replicate]
    split <;> simp
  have key : ∀ i, sk K i = true ↔ i ∈ new := fun i => by rw [h.mem, hz]; simp
  intro i
  constructor
  · intro hi
    refine h.least (Rch g) ?_ ?_ i hi
    · intro i t hr ht
      obtain ⟨x, hx, hxr, rfl⟩ := mem_targets_iff.1 ht
      exact .step hr hx hxr (fun h => h)
    · intro t ht
      obtain ⟨x, hx, hxr, rfl⟩ := mem_targets_iff.1 ht
      exact .root hx hxr (fun h => h)
  · intro hr
    induction hr with
    | root h1 h2 _ => exact (key _).1 (h.has _ (mem_targets_iff.2 ⟨_, h1, h2, rfl⟩))
    | step _ h2 h3 _ ih => exact (key _).1 (h.closed _ ih _ (mem_targets_iff.2 ⟨_, h2, h3, rfl⟩))
end Go.Proofs.Ytmmcjjklmcfegaa

/- slices.Contains of values; comps.Round, walked. -/
namespace Go.Proofs.Ytmmcjjklmcfegaa
open Go.RowKit Go.Shelf Tarj

def IdxSays (l : List V) (y : V) (e : Ending) : Prop := ∃ k : Int, e = .returned (.int .i64 k) ∧ -1 ≤ k ∧ (0 ≤ k ↔ y ∈ l)
set_option maxRecDepth 100000 in
set_option maxHeartbeats 1000000 in
theorem indexV_any (w : World) (v : Value) (l : List V) (y : V) (hl : IsVals w v l) :
    Calls Try.prog 76 #[v, .agg #[.bool y.ref, .int .i64 y.n]] w fun e w' => IdxSays l y e ∧ Below w.heap.size w w' := by
  obtain ⟨a, cap, rfl, hc⟩ := hl.slice
  have Hl := Lib.hid hl
  clear hl
  have hM0 := (Mem.start w).alloc #[.bool y.ref, .int .i64 y.n] 80
  have hB := Lib.hid hM0.below
  obtain ⟨r, n⟩ := y
  go_enter Try.func76, Try.ntmps76
  go_wp2
  go_loopw [5, 8] (fun _ i wr => ∃ k : Nat, k ≤ l.length ∧ i = .int .i64 k ∧ Hid ((⟨r, n⟩ : V) ∉ l.take k) ∧ Mem w.heap.size w wr [ebox w.heap.size #[.bool r, .int .i64 n] 80]) (fun _ i _ => l.length - (intOf i).toNat)
  case atStart => exact ⟨0, Nat.zero_le _, rfl, Lib.hid (by simp), hM0⟩
  case round =>
    clear hB
    obtain ⟨k, hk, rfl, hno, hM⟩ := hrel
    by_cases hlt : k < l.length
    · obtain ⟨x, hx⟩ := get_some _ _ hlt
      obtain ⟨bl, off, cap2, hv, hb, hn, c1, c2, hi⟩ := Hl.out.at hM.below hx
      cases hv
      have p0 : wr.cell? ⟨w.heap.size, 0, none⟩ = some (.bool r) := by have := hM.cell 0 rfl 0; simpa using this
      have p1 : wr.cell? ⟨w.heap.size, 1, none⟩ = some (.int .i64 n) := by have := hM.cell 0 rfl 1; simpa using this
      have hxm := Lib.hid (List.mem_of_getElem? hx)
      have HS := Lib.hid (take_succ_some _ _ _ hx)
      have HMw := Lib.hid hM
      clear hx hM0 hM
      obtain ⟨rx, nx⟩ := x
      by_cases he : r = rx ∧ n = nx
      · obtain ⟨rfl, rfl⟩ := he
        go_wp2
        go_quiet (fail)
        go_wp2
        go_ret
        exact ⟨⟨k, rfl, by omega, fun _ => hxm.out, fun _ => by omega⟩, HMw.out.below.trans ⟨rfl, rfl, rfl, Nat.le_refl _, fun _ _ => rfl⟩⟩
      · have Hn : Hid ((⟨r, n⟩ : V) ∉ l.take (k + 1)) := Lib.hid (by
          rw [HS.out]
          intro hm
          rcases List.mem_append.1 hm with hm | hm
          · exact hno.out hm
          · have := List.mem_singleton.1 hm
            cases this; exact he ⟨rfl, rfl⟩)
        cases r <;> cases rx
        · have hn : ¬ n = nx := fun e => he ⟨rfl, e⟩
          clear he
          go_wp2
          go_quiet (fail)
          go_wp2
          go_roundw
          case rel => exact ⟨k + 1, by omega, by go_num, Hn, HMw.out.drewN _⟩
          case measure => simp [intOf]; omega
        · clear he
          go_wp2
          go_quiet (fail)
          go_wp2
          go_roundw
          case rel => exact ⟨k + 1, by omega, by go_num, Hn, HMw.out.drewN _⟩
          case measure => simp [intOf]; omega
        · clear he
          go_wp2
          go_quiet (fail)
          go_wp2
          go_roundw
          case rel => exact ⟨k + 1, by omega, by go_num, Hn, HMw.out.drewN _⟩
          case measure => simp [intOf]; omega
        · have hn : ¬ n = nx := fun e => he ⟨rfl, e⟩
          clear he
          go_wp2
          go_quiet (fail)
          go_wp2
          go_roundw
          case rel => exact ⟨k + 1, by omega, by go_num, Hn, HMw.out.drewN _⟩
          case measure => simp [intOf]; omega
    · obtain rfl : k = l.length := by omega
      have Hn : Hid ((⟨r, n⟩ : V) ∉ l) := Lib.hid (fun h => hno.out (by rw [List.take_length]; exact h))
      have HMw := Lib.hid hM
      clear hM hM0
      go_wp2
      go_ret
      exact ⟨⟨-1, rfl, by omega, fun h => by omega, fun h => (Hn.out h).elim⟩, HMw.out.below⟩

def HasVSays (l : List V) (y : V) (e : Ending) : Prop := ∃ b : Bool, e = .returned (.bool b) ∧ (b = true ↔ y ∈ l)
set_option maxRecDepth 100000 in
theorem containsV_any (w : World) (v : Value) (l : List V) (y : V) (hl : IsVals w v l) :
    Calls Try.prog 49 #[v, .agg #[.bool y.ref, .int .i64 y.n]] w fun e w' => HasVSays l y e ∧ Below w.heap.size w w' := by
  obtain ⟨a, cap, rfl, hc⟩ := hl.slice
  have hM0 := (Mem.start w).alloc #[.bool y.ref, .int .i64 y.n] 80
  have HM := Lib.hid hM0
  have HI := Lib.hid (indexV_any _ _ l y (hl.later hM0.below))
  clear hl hM0
  go_enter Try.func49, Try.ntmps49
  go_wp2_with fail
  refine HI.out.mono ?_
  rintro e w1 ⟨⟨k, rfl, hk1, hk⟩, hb⟩
  have HB := Lib.hid (HM.out.call hb).below
  have Hk := Lib.hid hk
  clear hk hb
  go_wp2
  go_ret
  exact ⟨⟨_, rfl, by simpa using Hk.out⟩, HB.out⟩

open Classical in
/-- Those of the first k that go round. -/
noncomputable def rndL (g : G) (k : Nat) : List Int := ((List.range k).map fun i : Nat => (i : Int)).filter fun i => decide (Rnd (EG g) i)
theorem rndL_yes {g : G} {k : Nat} (h : Rnd (EG g) (k : Int)) : rndL g (k + 1) = rndL g k ++ [(k : Int)] := by
  unfold rndL
  rw [List.range_succ, List.map_append, List.filter_append]
  congr 1
  simp only [List.map_cons, List.map_nil]
  rw [List.filter_cons_of_pos (by simpa using h)]
  rfl
theorem rndL_no {g : G} {k : Nat} (h : ¬ Rnd (EG g) (k : Int)) : rndL g (k + 1) = rndL g k := by
  unfold rndL
  rw [List.range_succ, List.map_append, List.filter_append]
  simp only [List.map_cons, List.map_nil]
  rw [List.filter_cons_of_neg (by simpa using h)]
  simp
theorem rndL_len (g : G) (k : Nat) : (rndL g k).length ≤ k := by
  unfold rndL
  refine Nat.le_trans (List.length_filter_le _ _) ?_
  simp
theorem mem_rndL {g : G} {k : Nat} {x : Int} : x ∈ rndL g k ↔ (0 ≤ x ∧ x < k) ∧ Rnd (EG g) x := by
  unfold rndL
  rw [List.mem_filter, List.mem_map]
  constructor
  · rintro ⟨⟨i, hi, rfl⟩, h⟩
    exact ⟨by have := List.mem_range.1 hi; omega, by simpa using h⟩
  · rintro ⟨⟨h1, h2⟩, h⟩
    exact ⟨⟨x.toNat, List.mem_range.2 (by omega), by omega⟩, by simpa using h⟩
theorem rndL_rising (g : G) (k : Nat) : (rndL g k).Pairwise (· < ·) := by
  unfold rndL
  refine List.Pairwise.filter _ ?_
  rw [List.pairwise_map]
  exact List.pairwise_lt_range.imp (fun h => by omega)

set_option maxRecDepth 100000 in
set_option maxHeartbeats 4000000 in
theorem round_yes (g : G) (hG : Good g) (v : Value) (w : World) (hg : IsGraph w v g) :
    Calls Try.prog 31 #[v] w fun e w' => ∃ vl, e = .returned (.tuple #[vl, .int .i64 0]) ∧ (∃ comp all, Res (EG g) g.objs.length comp all) ∧ Mem w.heap.size w w' [rowI 3 vl (rndL g g.objs.length)] := by
  have hg0 := hg
  obtain ⟨vo, vr, rfl, ho, hr⟩ := hg
  obtain ⟨ao, co, rfl, hlo⟩ := ho.slice
  obtain ⟨ar, cr, rfl, hlr⟩ := hr.slice
  have Hg := Lib.hid hg0
  have HG := Lib.hid hG
  have Ho := Lib.hid ho
  have hn := hG.objs
  clear ho hr hg0 hG
  have hM0 := (Mem.start w).alloc #[.slice ao g.objs.length co, .slice ar g.roots.length cr] 25
  go_enter Try.func31, Try.ntmps31
  go_wp2_with fail
  refine (gcheck_yes _ g _ (Hg.out.later hM0.below) HG.out).mono ?_
  rintro e w1 ⟨rfl, hb⟩
  have hM1 := hM0.call hb
  have p0 : w1.cell? ⟨w.heap.size, 0, none⟩ = some (.slice ao g.objs.length co) := by have := hM1.cell 0 rfl 0; simpa using this
  have p1 : w1.cell? ⟨w.heap.size, 1, none⟩ = some (.slice ar g.roots.length cr) := by have := hM1.cell 0 rfl 1; simpa using this
  go_wp2_with fail
  refine (foundC_any g HG.out _ _ w1 (Hg.out.later hM1.below)).mono ?_
  rintro e w2 ⟨Bs, vL, vA, vst, vC, va, comp, fs, rfl, hR, hcl, hM2⟩
  have hM3 := (hM1.callMem hM2).nilI 3
  have p0 : w2.cell? ⟨w.heap.size, 0, none⟩ = some (.slice ao g.objs.length co) := by have := hM3.boxCell (b := w.heap.size) (c := #[.slice ao g.objs.length co, .slice ar g.roots.length cr]) (t := 25) (by simp) 0 rfl; exact this
  have HM3 := Lib.hid hM3
  have HR := Lib.hid hR
  have Hcl := Lib.hid hcl
  clear hM0 hM1 hM2 hM3 hb hR hcl
  obtain ⟨T, hT⟩ : ∃ T, rowsI fs ++ [ebox w.heap.size #[.slice ao g.objs.length co, .slice ar g.roots.length cr] 25] = T := ⟨_, rfl⟩
  have hM3 : Mem w.heap.size w w2 (rowI 3 (.slice none 0 0) [] :: ebox Bs #[.slice ao g.objs.length co, .slice ar g.roots.length cr, vL, vA, vst, vC, va] 109 :: rowI 3 vC comp :: rowR va (fs.map (·.1)) :: T) := by
    have h := HM3.out
    rw [← hT]
    simpa using h
  have HM4 := Lib.hid hM3
  have HT := Lib.hid hT
  clear hM3 HM3 hT
  go_wp2
  go_loopw [6, 7, 8, 19] (fun s6 s7 s8 s19 wr => ∃ k : Nat, k ≤ g.objs.length ∧ s19 = .int .i64 (k : Int) ∧ Mem w.heap.size w wr (rowI 3 s6 (rndL g k) :: ebox Bs #[.slice ao g.objs.length co, .slice ar g.roots.length cr, vL, vA, vst, vC, va] 109 :: rowI 3 vC comp :: rowR va (fs.map (·.1)) :: T)) (fun _ _ _ i _ => g.objs.length - (intOf i).toNat)
  case atStart => exact ⟨0, Nat.zero_le _, rfl, HM4.out⟩
  case round =>
    clear HM4
    obtain ⟨k, hk, rfl, hM⟩ := hrel
    by_cases hlt : k < g.objs.length
    · obtain ⟨ob, hob⟩ := get_some _ _ hlt
      obtain ⟨bo, oo, cap3, uo, hv2, hbo, hn3, c2, huo⟩ := Ho.out.at hM.below hob
      cases hv2
      obtain ⟨af, cf, rfl, hlf⟩ := huo.slice
      have hc0 := HR.out.rng (k : Int) (by omega) (by omega)
      have hc1 := HR.out.ltl (k : Int)
      rw [List.length_map] at hc1
      obtain ⟨ck, hck⟩ := get_some comp k (by rw [Hcl.out]; exact hlt)
      have hck2 : rd comp (-1) (k : Int) = ck := rd_some hck
      rw [hck2] at hc0 hc1
      obtain ⟨m, rfl⟩ : ∃ m : Nat, ck = (m : Int) := ⟨ck.toNat, by omega⟩
      obtain ⟨⟨vm, cm⟩, hfm⟩ := get_some fs m (by omega)
      have hrnd := HR.out.round hck2 (show (fs.map (·.2))[m]? = some cm by rw [List.getElem?_map, hfm]; rfl)
      obtain ⟨am, cmc, hvm⟩ : ∃ a c, vm = .slice a cm.length c := by
        refine hM.intsSlice (e := 3) (4 + m) ?_
        rw [← HT.out, show 4 + m = m + 1 + 1 + 1 + 1 by omega]
        simp only [List.getElem?_cons_succ]
        rw [List.getElem?_append_left (by rw [rowsI_len]; omega)]
        exact rowsI_get hfm
      subst hvm
      have hE : EG g (k : Int) (k : Int) ↔ (⟨true, (k : Int)⟩ : V) ∈ ob := by
        unfold EG
        have hfo : fieldsAt g (k : Int) = ob := by unfold fieldsAt; rw [Int.toNat_natCast, List.getD_eq_getElem?_getD, hob]; rfl
        rw [hfo, mem_targets_iff]
        constructor
        · rintro ⟨_, ⟨r, n⟩, hx, hr, hn⟩
          simp only at hr hn
          subst hr hn
          exact hx
        · intro hx
          exact ⟨by omega, _, hx, rfl, rfl⟩
      rw [hE] at hrnd
      have hne : fs.map (·.1) ≠ [] := by intro e; have := congrArg List.length e; simp at this; subst this; simp at hfm
      obtain ⟨gR, cR, hva⟩ : ∃ gR cR, va = .slice (some ⟨gR, 0, none⟩) fs.length cR := by
        have hr : wr.ownsRow w.heap.size 39 1 va (fs.map (·.1)).length (fs.map (·.1)) := hM.row 3 rfl
        rcases hr.2 with ⟨_, h0⟩ | ⟨g, cap, cur, h1, _⟩
        · exact (hne (List.eq_nil_of_length_eq_zero h0)).elim
        · exact ⟨g, cap, by rw [h1, List.length_map]⟩
      obtain ⟨gC, cC, hvC, _⟩ := hM.intsAt 2 rfl (by intro e; rw [e] at hck; simp at hck)
      rw [Hcl.out] at hvC
      subst hva hvC
      obtain ⟨p5, _⟩ := hM.intAt 2 rfl hck
      obtain ⟨p6, _⟩ := hM.rowCell 3 rfl (j := m) (x := .slice am cm.length cmc) (by rw [List.getElem?_map, hfm]; rfl)
      have p3 : wr.cell? ⟨Bs, 5, none⟩ = some (.slice (some ⟨gC, 0, none⟩) g.objs.length cC) := by have := hM.cell 1 rfl 5; simpa using this
      have p4 : wr.cell? ⟨Bs, 6, none⟩ = some (.slice (some ⟨gR, 0, none⟩) fs.length cR) := by have := hM.cell 1 rfl 6; simpa using this
      obtain ⟨nf, hnf⟩ : ∃ nf, fs.length = nf := ⟨_, rfl⟩
      obtain ⟨nm, hnm⟩ : ∃ nm, cm.length = nm := ⟨_, rfl⟩
      rw [hnf] at p4 hc1
      rw [hnm] at p6 hrnd
      have hM5 := hM.alloc_ (.cells #[.slice af ob.length cf] 94)
      have hM6 := hM.alloc #[.slice af ob.length cf] 94
      obtain ⟨W0, hW0⟩ : ∃ W0, wr.alloc (.cells #[.slice af ob.length cf] 94) = W0 := ⟨_, rfl⟩
      obtain ⟨bw, hbw⟩ : ∃ bw, wr.heap.size = bw := ⟨_, rfl⟩
      rw [hW0, hbw] at hM6
      rw [hW0] at hM5
      have e0 : W0.cell? ⟨Bs, 5, none⟩ = some (.slice (some ⟨gC, 0, none⟩) g.objs.length cC) := by have := hM5.cell 1 rfl 5; simpa using this
      have e1 : W0.cell? ⟨Bs, 6, none⟩ = some (.slice (some ⟨gR, 0, none⟩) nf cR) := by have := hM5.cell 1 rfl 6; rw [hnf] at this; simpa using this
      obtain ⟨e2, _⟩ := hM5.intAt 2 rfl hck
      obtain ⟨e3, _⟩ := hM5.rowCell 3 rfl (j := m) (x := .slice am cm.length cmc) (by rw [List.getElem?_map, hfm]; rfl)
      rw [hnm] at e3
      have e4 : W0.cell? ⟨bw, 0, none⟩ = some (.slice af ob.length cf) := by have := hM6.cell 0 rfl 0; simpa using this
      have hk1 : (0 : Int) ≤ (k : Int) := by omega
      have hk2 : (k : Int) < (g.objs.length : Int) := by omega
      have hm1 : (0 : Int) ≤ (m : Int) := by omega
      have hm2 : (m : Int) < (nf : Int) := by omega
      have hrl := rndL_len g k
      have HW0 := Lib.hid hW0
      have Hbw := Lib.hid hbw
      have HM5 := Lib.hid hM5
      have HRn := Lib.hid hrnd
      have HC := Lib.hid (containsV_any W0.drew _ ob ⟨true, (k : Int)⟩ ((huo.later hM5.below).later (Below.refl _ _).drew))
      clear hM hM5 hM6 hob huo hE hrnd hfm hck hck2 hW0 hbw hnf hnm hne p3 p4 p5 p6
      obtain ⟨W1, hW1⟩ : ∃ W1, W0.drew = W1 := ⟨_, rfl⟩
      have HM6 := Lib.hid HM5.out.drew
      rw [hW1] at HM6 HC
      have HW1 := Lib.hid hW1
      clear hW1 HM5
      by_cases h1 : 1 < nm
      · have hr := HRn.out.2 (.inl h1)
        have Hy := Lib.hid (rndL_yes hr)
        have hd : decide ((1 : Int) < (nm : Int)) = true := by simpa using (show (1 : Int) < (nm : Int) by omega)
        have hd2 : (1 : Int) < (nm : Int) := by omega
        clear hr h1
        go_wp2_with fail
        rw [HW0.out, Hbw.out]
        go_still_tail 20, (by kernel_rfl)
        change wpList _ _ _ _ _ W0.drew
        rw [HW1.out]
        go_wp2_with (at_builtin; refine Mem.wp_appI elemInts rfl (.tmp 46) (.tmp 48) rfl HM6.out 0 rfl rfl _ (k : Int) _ _ rfl (by simp) (by omega) ?_; intro ad n1 cp w3 hn1 hM7 hs1 hk1 ha1)
        go_roundw
        case rel => exact ⟨k + 1, by omega, by go_num, hM7.cast (by rw [Hy.out]; rfl)⟩
        case measure => simp [intOf]; omega
      · have hd : decide ((1 : Int) < (nm : Int)) = false := by simpa using (show ¬ (1 : Int) < (nm : Int) by omega)
        have hd2 : ¬ (1 : Int) < (nm : Int) := by omega
        have H1 := Lib.hid h1
        clear h1
        go_wp2_with fail
        rw [HW0.out, Hbw.out]
        go_still_tail 20, (by kernel_rfl)
        change wpList _ _ _ _ _ W0.drew
        rw [HW1.out]
        go_wp2_with fail
        refine HC.out.mono ?_
        rintro e w3 ⟨⟨b, rfl, hb⟩, hb3⟩
        have HM7 := Lib.hid (HM6.out.call hb3)
        have Hb := Lib.hid hb
        clear hb hb3
        cases b with
        | true =>
          have Hy := Lib.hid (rndL_yes (HRn.out.2 (.inr (Hb.out.1 rfl))))
          go_wp2_with (at_builtin; refine Mem.wp_appI elemInts rfl (.tmp 46) (.tmp 48) rfl HM7.out 0 rfl rfl _ (k : Int) _ _ rfl (by simp) (by omega) ?_; intro ad n1 cp w4 hn1 hM8 hs1 hk1 ha1)
          go_roundw
          case rel => exact ⟨k + 1, by omega, by go_num, hM8.cast (by rw [Hy.out]; rfl)⟩
          case measure => simp [intOf]; omega
        | false =>
          have Hy := Lib.hid (rndL_no (fun h => by
            rcases HRn.out.1 h with h | h
            · exact H1.out h
            · have := Hb.out.2 h; cases this))
          go_wp2
          go_roundw
          case rel => exact ⟨k + 1, by omega, by go_num, HM7.out.cast (by rw [Hy.out])⟩
          case measure => simp [intOf]; omega
    · obtain rfl : k = g.objs.length := by omega
      obtain ⟨al, nl, cl, rfl⟩ := own_slice (hM.ownI 0 rfl)
      have HM5 := Lib.hid (hM.drop (List.Sublist.cons_cons _ (List.nil_sublist _)))
      clear hM
      go_wp2
      go_ret2
      exact ⟨_, rfl, ⟨_, _, HR.out⟩, HM5.out⟩
set_option maxRecDepth 100000 in
theorem round_bad (g : G) (hG : ¬ Good g) (v : Value) (w : World) (hg : IsGraph w v g) :
    Calls Try.prog 31 #[v] w fun e w' => ∃ c : Int, (c == 0) = false ∧ e = .returned (.tuple #[.slice none 0 0, .int .i64 c]) ∧ Below w.heap.size w w' := by
  have hg0 := hg
  obtain ⟨vo, vr, rfl, ho, hr⟩ := hg
  obtain ⟨ao, co, rfl, hlo⟩ := ho.slice
  obtain ⟨ar, cr, rfl, hlr⟩ := hr.slice
  have Hg := Lib.hid hg0
  have HG := Lib.hid hG
  clear ho hr hg0 hG
  have hM0 := (Mem.start w).alloc #[.slice ao g.objs.length co, .slice ar g.roots.length cr] 25
  go_enter Try.func31, Try.ntmps31
  go_wp2_with fail
  refine (gcheck_no _ g _ (Hg.out.later hM0.below) HG.out).mono ?_
  rintro e w1 ⟨⟨c, rfl, hc⟩, hb⟩
  have hM1 := hM0.call hb
  go_wp2
  refine bodyPost_ret (v := .tuple #[.slice none 0 0, .int .i64 c]) (by simp [results, Try.results31, go_sem]) rfl ⟨c, hc, rfl, hM1.below⟩
end Go.Proofs.Ytmmcjjklmcfegaa
