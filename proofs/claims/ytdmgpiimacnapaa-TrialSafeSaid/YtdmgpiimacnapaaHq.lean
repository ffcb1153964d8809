/- The plain law of share.Share: lots, and what is left. -/
import Derived.Test.YtdmgpiimacnapaaHa
namespace Go.Proofs.Ytdmgpiimacnapaa
open Go.RowKit Go.Shelf

/-- Which of the firsts is not told apart from an object; behind the last: none. -/
def lotAt (m : Int × Int → Option Nat) (fs : List Int) (i : Int) : Nat := fs.findIdx fun f => (m (f, i)).isNone
/-- The firsts and the lots, when n objects have been looked at. -/
def lots (m : Int × Int → Option Nat) : Nat → List Int × List Int
  | 0 => ([], [])
  | n + 1 => (if lotAt m (lots m n).1 n = (lots m n).1.length then (lots m n).1 ++ [(n : Int)] else (lots m n).1, (lots m n).2 ++ [(lotAt m (lots m n).1 n : Int)])
structure Lots (m : Int × Int → Option Nat) (n : Nat) (s : List Int × List Int) : Prop where
  len : s.2.length = n
  few : s.1.length ≤ n
  rng : ∀ (k : Nat) (f : Int), s.1[k]? = some f → 0 ≤ f ∧ f < n
  at_ : ∀ i : Nat, i < n → ∃ (k : Nat) (f : Int), s.2[i]? = some (k : Int) ∧ s.1[k]? = some f ∧ m (f, i) = none
  home : ∀ (k : Nat) (f : Int), s.1[k]? = some f → s.2[f.toNat]? = some (k : Int)
  apart : ∀ (j k : Nat) (f f' : Int), j < k → s.1[j]? = some f → s.1[k]? = some f' → m (f, f') ≠ none
theorem snoc_get {α : Type} {l : List α} {x y : α} {k : Nat} (h : (l ++ [x])[k]? = some y) : l[k]? = some y ∨ (k = l.length ∧ x = y) := by
  rcases Nat.lt_trichotomy k l.length with hk | hk | hk
  · rw [List.getElem?_append_left hk] at h; exact .inl h
  · subst hk
    rw [List.getElem?_append_right (Nat.le_refl _), Nat.sub_self] at h
    simp at h; exact .inr ⟨rfl, h⟩
  · rw [List.getElem?_eq_none (by simp; omega)] at h; cases h
theorem get_snoc {α : Type} {l : List α} {x y : α} {k : Nat} (h : l[k]? = some y) : (l ++ [x])[k]? = some y := by
  rw [List.getElem?_append_left (List.getElem?_eq_some_iff.1 h).1]; exact h
theorem get_last {α : Type} (l : List α) (x : α) : (l ++ [x])[l.length]? = some x := by simp
theorem lots_ok {g : G} {m : Int × Int → Option Nat} (h : Apart g m) : ∀ n, Lots m n (lots m n)
  | 0 => ⟨rfl, Nat.le_refl _, by simp [lots], fun i hi => absurd hi (Nat.not_lt_zero _), by simp [lots], by simp [lots]⟩
  | n + 1 => by
    have ih := lots_ok h n
    obtain ⟨s, hs⟩ : ∃ s, lots m n = s := ⟨_, rfl⟩
    rw [hs] at ih
    have hl : lots m (n + 1) = (if lotAt m s.1 n = s.1.length then s.1 ++ [(n : Int)] else s.1, s.2 ++ [(lotAt m s.1 n : Int)]) := by simp only [lots, hs]
    rw [hl]
    have hself : m ((n : Int), (n : Int)) = none := by
      cases hx : m ((n : Int), (n : Int)) with
      | none => rfl
      | some j => exact (h.self j n hx).elim
    by_cases ha : lotAt m s.1 n = s.1.length
    · simp only [ha, if_true]
      have hno : ∀ (k : Nat) (f : Int), s.1[k]? = some f → m (f, n) ≠ none := by
        intro k f hf e
        have h1 := List.findIdx_eq_length.1 ha f (List.mem_of_getElem? hf)
        rw [e] at h1; cases h1
      refine ⟨by simp [ih.len], by simp; exact ih.few, ?_, ?_, ?_, ?_⟩
      · intro k f hf
        rcases snoc_get hf with h1 | ⟨_, rfl⟩
        · have := ih.rng k f h1; omega
        · omega
      · intro i hi
        rcases Nat.lt_or_ge i n with h1 | h1
        · obtain ⟨k, f, e1, e2, e3⟩ := ih.at_ i h1
          exact ⟨k, f, get_snoc e1, get_snoc e2, e3⟩
        · obtain rfl : i = n := by omega
          refine ⟨s.1.length, i, ?_, get_last _ _, hself⟩
          have := get_last s.2 (s.1.length : Int)
          rwa [ih.len] at this
      · intro k f hf
        rcases snoc_get hf with h1 | ⟨rfl, rfl⟩
        · exact get_snoc (ih.home k f h1)
        · have := get_last s.2 (s.1.length : Int)
          rw [ih.len] at this
          simpa using this
      · intro j k f f' hjk hf hf'
        rcases snoc_get hf' with h1 | ⟨rfl, rfl⟩
        · have hj : j < s.1.length := by have := (List.getElem?_eq_some_iff.1 h1).1; omega
          rw [List.getElem?_append_left hj] at hf
          exact ih.apart j k f f' hjk hf h1
        · rw [List.getElem?_append_left hjk] at hf
          exact hno j f hf
    · simp only [if_neg ha]
      have hlt : lotAt m s.1 n < s.1.length := by
        have : lotAt m s.1 n ≤ s.1.length := List.findIdx_le_length
        omega
      have hget := List.findIdx_getElem (p := fun f => (m (f, (n : Int))).isNone) (xs := s.1) (w := hlt)
      refine ⟨by simp [ih.len], by have := ih.few; simp only; omega, ?_, ?_, ?_, ?_⟩
      · intro k f hf
        have := ih.rng k f hf; omega
      · intro i hi
        rcases Nat.lt_or_ge i n with h1 | h1
        · obtain ⟨k, f, e1, e2, e3⟩ := ih.at_ i h1
          exact ⟨k, f, get_snoc e1, e2, e3⟩
        · obtain rfl : i = n := by omega
          refine ⟨lotAt m s.1 i, s.1[lotAt m s.1 i], ?_, List.getElem?_eq_getElem hlt, by rw [Option.isNone_iff_eq_none] at hget; exact hget⟩
          have := get_last s.2 (lotAt m s.1 i : Int)
          rwa [ih.len] at this
      · intro k f hf
        exact get_snoc (ih.home k f hf)
      · exact ih.apart
/-- What can't be told apart is told apart from others alike. -/
theorem Apart.congr_le {g : G} (hG : Good g) {m : Int × Int → Option Nat} (h : Apart g m) : ∀ (j : Nat) (a a' b : Int), inO g (a, a') → m (a, a') = none → m (a, b) = some j → ∃ j', j' ≤ j ∧ m (a', b) = some j' := by
  intro j
  induction j using Nat.strongRecOn with
  | _ j ih =>
    intro a a' b hin hn hp
    obtain ⟨h1, h2, k, hk, ht⟩ := h.has _ j hp
    have hin2 : inO g (a', b) := ⟨hin.2, h2.2⟩
    have e1 : clsV (fld g a k) = clsV (fld g a' k) := by
      by_cases e : clsV (fld g a k) = clsV (fld g a' k)
      · exact e
      · obtain ⟨q, _, hq⟩ := h.all (a, a') k 1 hin hk (Nat.le_refl _) (by rw [tellsP, if_pos rfl]; exact e)
        rw [hn] at hq; cases hq
    by_cases h0 : j = 1
    · subst h0
      rw [tellsP, if_pos rfl] at ht
      exact h.all (a', b) k 1 hin2 hk (Nat.le_refl _) (by rw [tellsP, if_pos rfl]; simp only at ht ⊢; rw [← e1]; exact ht)
    · obtain ⟨x, y, hx, hy, i, hi, rfl⟩ := Apart.some_of h0 h1 ht
      simp only at hx hy
      obtain ⟨z, hz⟩ := cls_ref (o := fld g a' k) (by rw [← e1]; exact fld_cls hx)
      have hxz : m (x, z) = none := by
        cases hxz : m (x, z) with
        | none => rfl
        | some q =>
          have hq1 := (h.has _ _ hxz).1
          obtain ⟨q2, _, hq2⟩ := h.all (a, a') k (q + 1) hin hk (by omega) (by rw [tellsP, if_neg (by omega)]; exact ⟨x, z, hx, hz, by rw [hxz]; rfl⟩)
          rw [hn] at hq2; cases hq2
      have hxin := (h.has _ _ hi).2.1
      obtain ⟨i', hi', hm'⟩ := ih i (by omega) x z y ⟨hxin.1, fld_in hG hz⟩ hxz hi
      have hi1 := (h.has _ _ hm').1
      obtain ⟨q, hq, hmq⟩ := h.all (a', b) k (i' + 1) hin2 hk (by omega) (by rw [tellsP, if_neg (by omega)]; exact ⟨z, y, hz, hy, by rw [hm']; rfl⟩)
      exact ⟨q, by omega, hmq⟩
theorem Apart.congr {g : G} (hG : Good g) {m : Int × Int → Option Nat} (h : Apart g m) {a a' : Int} (b : Int) (hin : inO g (a, a')) (hn : m (a, a') = none) : m (a, b) = m (a', b) := by
  have hn' : m (a', a) = none := by rw [h.symm]; exact hn
  cases h1 : m (a, b) with
  | none =>
    cases h2 : m (a', b) with
    | none => rfl
    | some j =>
      obtain ⟨j', _, h3⟩ := h.congr_le hG j a' a b ⟨hin.2, hin.1⟩ hn' h2
      rw [h1] at h3; cases h3
  | some j =>
    obtain ⟨j', hj, h2⟩ := h.congr_le hG j a a' b hin hn h1
    obtain ⟨j2, hj2, h3⟩ := h.congr_le hG j' a' a b ⟨hin.2, hin.1⟩ hn' h2
    rw [h1] at h3
    cases h3
    rw [h2, show j = j' by omega]

/-- The graph of some objects of another one, its references turned. -/
def renumP (g : G) (l : List Int) (p : Int → Int) : G := ⟨l.map fun x => (fieldsAt g x).map (turnV p), g.roots.map (turnV p)⟩
/-- An object's lot. -/
def lotOf (s : List Int × List Int) (x : Int) : Int := s.2.getD x.toNat 0
def firstOf (s : List Int × List Int) (k : Int) : Int := s.1.getD k.toNat 0
def quo (g : G) (s : List Int × List Int) : G := renumP g s.1 (lotOf s)

section
variable {g : G} {m : Int × Int → Option Nat} {s : List Int × List Int} (hG : Good g) (h : Apart g m) (hs : Lots m g.objs.length s)
include hs in
theorem Lots.first {x : Int} (hx : 0 ≤ x ∧ x < g.objs.length) : (0 ≤ lotOf s x ∧ lotOf s x < s.1.length) ∧ (0 ≤ firstOf s (lotOf s x) ∧ firstOf s (lotOf s x) < g.objs.length) ∧ m (firstOf s (lotOf s x), x) = none := by
  obtain ⟨i, rfl⟩ : ∃ i : Nat, x = (i : Int) := ⟨x.toNat, by omega⟩
  obtain ⟨k, f, e1, e2, e3⟩ := hs.at_ i (by omega)
  have hk : lotOf s i = (k : Int) := by unfold lotOf; rw [Int.toNat_natCast, List.getD_eq_getElem?_getD, e1]; rfl
  have hf : firstOf s k = f := by unfold firstOf; rw [Int.toNat_natCast, List.getD_eq_getElem?_getD, e2]; rfl
  rw [hk, hf]
  have hr := hs.rng k f e2
  have := (List.getElem?_eq_some_iff.1 e2).1
  exact ⟨⟨by omega, by omega⟩, hr, e3⟩
include hs in
theorem Lots.back {k : Int} (hk : 0 ≤ k ∧ k < s.1.length) : (0 ≤ firstOf s k ∧ firstOf s k < g.objs.length) ∧ lotOf s (firstOf s k) = k := by
  obtain ⟨i, rfl⟩ : ∃ i : Nat, k = (i : Int) := ⟨k.toNat, by omega⟩
  obtain ⟨f, hf⟩ := get_some s.1 i (by omega)
  have hf2 : firstOf s i = f := by unfold firstOf; rw [Int.toNat_natCast, List.getD_eq_getElem?_getD, hf]; rfl
  rw [hf2]
  refine ⟨hs.rng i f hf, ?_⟩
  unfold lotOf
  rw [List.getD_eq_getElem?_getD, hs.home i f hf]; rfl
include hG h hs in
/-- Two stand in one lot just if they can't be told apart. -/
theorem Lots.same {x y : Int} (hx : 0 ≤ x ∧ x < g.objs.length) (hy : 0 ≤ y ∧ y < g.objs.length) : lotOf s x = lotOf s y ↔ m (x, y) = none := by
  obtain ⟨a1, a2, a3⟩ := hs.first hx
  obtain ⟨b1, b2, b3⟩ := hs.first hy
  constructor
  · intro e
    rw [← e] at b3
    rw [← h.congr hG y ⟨a2, hx⟩ a3]; exact b3
  · intro e
    have e2 : m (firstOf s (lotOf s x), firstOf s (lotOf s y)) = none := by
      rw [h.congr hG (a := firstOf s (lotOf s x)) (a' := x) _ ⟨a2, hx⟩ a3, h.symm, h.congr hG (a := firstOf s (lotOf s y)) (a' := y) _ ⟨b2, hy⟩ b3, h.symm]; exact e
    have key : ∀ u v : Int, (0 ≤ u ∧ u < s.1.length) → (0 ≤ v ∧ v < s.1.length) → u < v → m (firstOf s u, firstOf s v) ≠ none := by
      intro u v hu hv huv
      obtain ⟨i, rfl⟩ : ∃ i : Nat, u = (i : Int) := ⟨u.toNat, by omega⟩
      obtain ⟨j, rfl⟩ : ∃ i : Nat, v = (i : Int) := ⟨v.toNat, by omega⟩
      obtain ⟨f, hf⟩ := get_some s.1 i (by omega)
      obtain ⟨f', hf'⟩ := get_some s.1 j (by omega)
      have e1 : firstOf s i = f := by unfold firstOf; rw [Int.toNat_natCast, List.getD_eq_getElem?_getD, hf]; rfl
      have e2 : firstOf s j = f' := by unfold firstOf; rw [Int.toNat_natCast, List.getD_eq_getElem?_getD, hf']; rfl
      rw [e1, e2]
      exact hs.apart i j f f' (by omega) hf hf'
    rcases Int.lt_trichotomy (lotOf s x) (lotOf s y) with h1 | h1 | h1
    · exact (key _ _ a1 b1 h1 e2).elim
    · exact h1
    · exact (key _ _ b1 a1 h1 (by rw [h.symm]; exact e2)).elim
theorem cls_turn (p : Int → Int) (o : Option V) : clsV (o.map (turnV p)) = clsV o := by
  cases o with
  | none => rfl
  | some v =>
    obtain ⟨r, n⟩ := v
    cases r <;> rfl
include hG h hs in
/-- Alike objects have alike fields. -/
theorem Lots.alike {a b : Int} (hin : inO g (a, b)) (hn : m (a, b) = none) : (fieldsAt g a).map (turnV (lotOf s)) = (fieldsAt g b).map (turnV (lotOf s)) := by
  apply List.ext_getElem?
  intro k
  rw [List.getElem?_map, List.getElem?_map]
  show (fld g a k).map _ = (fld g b k).map _
  by_cases hk : k < 4
  · have e1 : clsV (fld g a k) = clsV (fld g b k) := by
      by_cases e : clsV (fld g a k) = clsV (fld g b k)
      · exact e
      · obtain ⟨q, _, hq⟩ := h.all (a, b) k 1 hin hk (Nat.le_refl _) (by rw [tellsP, if_pos rfl]; exact e)
        rw [hn] at hq; cases hq
    cases hx : fld g a k with
    | none =>
      cases hy : fld g b k with
      | none => rfl
      | some y => rw [hx, hy] at e1; cases e1
    | some x =>
      cases hy : fld g b k with
      | none => rw [hx, hy] at e1; cases e1
      | some y =>
        obtain ⟨r, x⟩ := x
        obtain ⟨r', y⟩ := y
        rw [hx, hy] at e1
        cases r <;> cases r' <;> simp [clsV] at e1
        · subst e1; rfl
        · simp only [Option.map_some, turnV, if_true]
          have hxy : m (x, y) = none := by
            cases hxy : m (x, y) with
            | none => rfl
            | some q =>
              have hq1 := (h.has _ _ hxy).1
              obtain ⟨q2, _, hq2⟩ := h.all (a, b) k (q + 1) hin hk (by omega) (by rw [tellsP, if_neg (by omega)]; exact ⟨x, y, hx, hy, by rw [hxy]; rfl⟩)
              rw [hn] at hq2; cases hq2
          rw [(Lots.same hG h hs (fld_in hG hx) (fld_in hG hy)).2 hxy]
  · have e : ∀ c, fld g c k = none := fun c => by
      unfold fld; exact List.getElem?_eq_none (Nat.le_trans (fieldsAt_le hG c) (by omega))
    rw [e, e]
theorem renumP_fields {l : List Int} {p : Int → Int} {i : Nat} {x : Int} (hi : l[i]? = some x) : fieldsAt (renumP g l p) (i : Int) = (fieldsAt g x).map (turnV p) := by
  show (l.map _).getD (i : Int).toNat [] = _
  rw [Int.toNat_natCast, List.getD_eq_getElem?_getD, List.getElem?_map, hi]; rfl
theorem quo_at {k : Int} (hk : 0 ≤ k ∧ k < s.1.length) : fieldsAt (quo g s) k = (fieldsAt g (firstOf s k)).map (turnV (lotOf s)) := by
  obtain ⟨i, rfl⟩ : ∃ i : Nat, k = (i : Int) := ⟨k.toNat, by omega⟩
  obtain ⟨f, hf⟩ := get_some s.1 i (by omega)
  have e1 : firstOf s i = f := by unfold firstOf; rw [Int.toNat_natCast, List.getD_eq_getElem?_getD, hf]; rfl
  rw [e1]
  exact renumP_fields hf
include hG h hs in
theorem quo_fields {x : Int} (hx : 0 ≤ x ∧ x < g.objs.length) : fieldsAt (quo g s) (lotOf s x) = (fieldsAt g x).map (turnV (lotOf s)) := by
  obtain ⟨a1, a2, a3⟩ := hs.first hx
  rw [quo_at a1]
  exact Lots.alike hG h hs ⟨a2, hx⟩ a3
theorem quo_len : (quo g s).objs.length = s.1.length := by simp [quo, renumP]
theorem ref_in (hG : Good g) {v : V} (hv : v ∈ allV g) (hr : v.ref = true) : 0 ≤ v.n ∧ v.n < g.objs.length := by
  have hb := hG.vals v hv
  simp [badC, hr] at hb
  omega
theorem fields_in {x : Int} {v : V} (hv : v ∈ fieldsAt g x) : v ∈ allV g := by
  unfold fieldsAt at hv
  rw [List.getD_eq_getElem?_getD] at hv
  cases ho : g.objs[x.toNat]? with
  | none => rw [ho] at hv; simp at hv
  | some o =>
    rw [ho] at hv
    exact List.mem_append_right _ (List.mem_flatten.2 ⟨o, List.mem_of_getElem? ho, hv⟩)
include hG h hs in
theorem atWay_q : ∀ (way : List Int) (v : V), v ∈ allV g →
    atWay (quo g s) (turnV (lotOf s) v) way = (atWay g v way).map (turnV (lotOf s)) ∧ ∀ u, atWay g v way = some u → u ∈ allV g := by
  intro way
  induction way with
  | nil => intro v hv; exact ⟨rfl, fun u hu => by cases hu; exact hv⟩
  | cons x xs ih =>
    intro v hv
    by_cases hr : v.ref = true
    · have hvn := ref_in hG hv hr
      have ht : turnV (lotOf s) v = ⟨true, lotOf s v.n⟩ := by unfold turnV; rw [if_pos hr]
      have hl := (hs.first hvn).1
      rw [ht]
      unfold atWay
      simp only [quo_len, quo_fields hG h hs hvn, List.length_map]
      by_cases hc : 0 ≤ x ∧ x < (fieldsAt g v.n).length
      · rw [if_pos ⟨trivial, by omega, by omega, hc.1, hc.2⟩, if_pos ⟨hr, by omega, by omega, hc.1, hc.2⟩]
        have hj : x.toNat < (fieldsAt g v.n).length := by omega
        rw [getD_map hj]
        exact ih _ (fields_in (getD_mem hj))
      · rw [if_neg (fun hh => hc ⟨hh.2.2.2.1, hh.2.2.2.2⟩), if_neg (fun hh => hc ⟨hh.2.2.2.1, hh.2.2.2.2⟩)]
        exact ⟨rfl, fun u hu => by cases hu⟩
    · have ht : turnV (lotOf s) v = v := by unfold turnV; rw [if_neg hr]
      rw [ht]
      unfold atWay
      rw [if_neg (fun hh => hr hh.1), if_neg (fun hh => hr hh.1)]
      exact ⟨rfl, fun u hu => by cases hu⟩
include hG h hs in
theorem atG_q (root : Int) (way : List Int) :
    atG (quo g s) root way = (atG g root way).map (turnV (lotOf s)) ∧ ∀ u, atG g root way = some u → u ∈ allV g := by
  unfold atG
  have hlen : (quo g s).roots.length = g.roots.length := by simp [quo, renumP]
  rw [hlen]
  split
  · rename_i hc
    have hj : root.toNat < g.roots.length := by omega
    have e : (quo g s).roots.getD root.toNat default = turnV (lotOf s) (g.roots.getD root.toNat default) := getD_map hj
    rw [e]
    exact atWay_q hG h hs way _ (List.mem_append_left _ (getD_mem hj))
  · exact ⟨rfl, fun u hu => by cases hu⟩

/-! ### What is left is its own quotient -/
include hG hs in
theorem quo_good : Good (quo g s) := by
  refine ⟨?_, ?_, ?_, ?_⟩
  · rw [quo_len]; have := hs.few; have := hG.objs; omega
  · simpa [quo, renumP] using hG.roots
  · intro o ho
    obtain ⟨f, hf, rfl⟩ := List.mem_map.1 ho
    rw [List.length_map]; exact fieldsAt_le hG f
  · intro v hv
    rw [quo_len]
    have key : ∃ u ∈ allV g, v = turnV (lotOf s) u := by
      rcases List.mem_append.1 hv with h1 | h1
      · obtain ⟨u, hu, rfl⟩ := List.mem_map.1 h1
        exact ⟨u, List.mem_append_left _ hu, rfl⟩
      · obtain ⟨o, ho, hv2⟩ := List.mem_flatten.1 h1
        obtain ⟨f, hf, rfl⟩ := List.mem_map.1 ho
        obtain ⟨u, hu, rfl⟩ := List.mem_map.1 hv2
        exact ⟨u, fields_in hu, rfl⟩
    obtain ⟨u, hu, rfl⟩ := key
    by_cases hr : u.ref = true
    · have hl := (hs.first (ref_in hG hu hr)).1
      unfold turnV badC
      rw [if_pos hr]
      simp only [if_true]
      rw [if_neg (by omega)]
    · have hb := hG.vals u hu
      unfold turnV
      rw [if_neg hr]
      unfold badC at hb ⊢
      rw [if_neg hr] at hb ⊢
      exact hb
open Classical in
/-- How long a way tells two of what is left apart. -/
noncomputable def quoM (g : G) (m : Int × Int → Option Nat) (s : List Int × List Int) (q : Int × Int) : Option Nat := if inO (quo g s) q then m (firstOf s q.1, firstOf s q.2) else none
theorem quo_fld {k : Int} (hk : 0 ≤ k ∧ k < s.1.length) (j : Nat) : fld (quo g s) k j = (fld g (firstOf s k) j).map (turnV (lotOf s)) := by
  unfold fld
  rw [quo_at hk, List.getElem?_map]
include hG h hs in
theorem quoM_lot {x y : Int} (hx : 0 ≤ x ∧ x < g.objs.length) (hy : 0 ≤ y ∧ y < g.objs.length) : quoM g m s (lotOf s x, lotOf s y) = m (x, y) := by
  obtain ⟨a1, a2, a3⟩ := hs.first hx
  obtain ⟨b1, b2, b3⟩ := hs.first hy
  unfold quoM
  rw [if_pos ⟨by rw [quo_len]; exact a1, by rw [quo_len]; exact b1⟩]
  simp only
  rw [h.congr hG (a := firstOf s (lotOf s x)) (a' := x) _ ⟨a2, hx⟩ a3, h.symm, h.congr hG (a := firstOf s (lotOf s y)) (a' := y) _ ⟨b2, hy⟩ b3, h.symm]
theorem map_turn_ref {p : Int → Int} {o : Option V} {x : Int} (h : o.map (turnV p) = some ⟨true, x⟩) : ∃ y, o = some ⟨true, y⟩ ∧ x = p y := by
  cases o with
  | none => cases h
  | some v =>
    obtain ⟨r, n⟩ := v
    cases r
    · simp [turnV] at h
    · simp [turnV] at h; exact ⟨n, rfl, h.symm⟩
include hG h hs in
theorem quo_tells {q : Int × Int} (hq : inO (quo g s) q) (k n : Nat) : tellsP (quo g s) (quoM g m s) q k n ↔ tellsP g m (firstOf s q.1, firstOf s q.2) k n := by
  have h1 : 0 ≤ q.1 ∧ q.1 < s.1.length := by have := hq.1; rwa [quo_len] at this
  have h2 : 0 ≤ q.2 ∧ q.2 < s.1.length := by have := hq.2; rwa [quo_len] at this
  unfold tellsP
  simp only [quo_fld h1, quo_fld h2]
  by_cases h0 : n = 1
  · rw [if_pos h0, if_pos h0, cls_turn, cls_turn]
  · rw [if_neg h0, if_neg h0]
    constructor
    · rintro ⟨x, y, hx, hy, he⟩
      obtain ⟨x', hx', rfl⟩ := map_turn_ref hx
      obtain ⟨y', hy', rfl⟩ := map_turn_ref hy
      rw [quoM_lot hG h hs (fld_in hG hx') (fld_in hG hy')] at he
      exact ⟨x', y', hx', hy', he⟩
    · rintro ⟨x, y, hx, hy, he⟩
      refine ⟨lotOf s x, lotOf s y, by rw [hx]; rfl, by rw [hy]; rfl, ?_⟩
      rw [quoM_lot hG h hs (fld_in hG hx) (fld_in hG hy)]
      exact he
include hG h hs in
theorem quo_apart : Apart (quo g s) (quoM g m s) := by
  constructor
  · intro q j hj
    unfold quoM at hj
    split at hj
    · rename_i hq
      obtain ⟨h1, h2, k, hk, ht⟩ := h.has _ j hj
      exact ⟨h1, hq, k, hk, (quo_tells hG h hs hq k j).2 ht⟩
    · cases hj
  · intro q k n hq hk hn ht
    have h1 : 0 ≤ q.1 ∧ q.1 < s.1.length := by have := hq.1; rwa [quo_len] at this
    have h2 : 0 ≤ q.2 ∧ q.2 < s.1.length := by have := hq.2; rwa [quo_len] at this
    obtain ⟨j, hj, hm⟩ := h.all (firstOf s q.1, firstOf s q.2) k n ⟨(hs.back h1).1, (hs.back h2).1⟩ hk hn ((quo_tells hG h hs hq k n).1 ht)
    exact ⟨j, hj, by unfold quoM; rw [if_pos hq]; exact hm⟩
include hG h hs in
theorem quo_told {x y : Int} (hx : 0 ≤ x ∧ x < s.1.length) (hy : 0 ≤ y ∧ y < s.1.length) : quoM g m s (x, y) = none ↔ x = y := by
  have bx := hs.back hx
  have by_ := hs.back hy
  unfold quoM
  rw [if_pos ⟨by rw [quo_len]; exact hx, by rw [quo_len]; exact hy⟩]
  simp only
  rw [← Lots.same hG h hs bx.1 by_.1, bx.2, by_.2]
end
def upTo (n : Nat) : List Int := (List.range n).map fun (k : Nat) => (k : Int)
theorem upTo_succ (n : Nat) : upTo (n + 1) = upTo n ++ [(n : Int)] := by simp [upTo, List.range_succ]
theorem upTo_get {n k : Nat} (h : k < n) : (upTo n)[k]? = some (k : Int) := by simp [upTo, h]
theorem upTo_len (n : Nat) : (upTo n).length = n := by simp [upTo]
/-- Where any two are told apart, each has a lot of its own. -/
theorem lots_own {m : Int × Int → Option Nat} (N : Nat) (h : ∀ x y : Int, (0 ≤ x ∧ x < N) → (0 ≤ y ∧ y < N) → (m (x, y) = none ↔ x = y)) : ∀ n, n ≤ N → lots m n = (upTo n, upTo n)
  | 0, _ => rfl
  | n + 1, hn => by
    have ih := lots_own N h n (by omega)
    have ha : lotAt m (upTo n) n = (upTo n).length := by
      unfold lotAt
      rw [List.findIdx_eq_length]
      intro x hx
      obtain ⟨k, hk, rfl⟩ := List.mem_map.1 hx
      rw [List.mem_range] at hk
      have := h (k : Int) (n : Int) (by omega) (by omega)
      cases hm : m ((k : Int), (n : Int)) with
      | some _ => rfl
      | none => have := this.1 hm; omega
    simp only [lots, ih, ha, if_true]
    rw [upTo_len, upTo_succ]
theorem quo_own {g : G} (hG : Good g) : quo g (upTo g.objs.length, upTo g.objs.length) = g := by
  have ht : ∀ v ∈ allV g, turnV (lotOf (upTo g.objs.length, upTo g.objs.length)) v = v := by
    intro v hv
    unfold turnV
    split
    · rename_i hr
      have hin := ref_in hG hv hr
      obtain ⟨r, n⟩ := v
      simp only at hr hin
      subst hr
      obtain ⟨k, rfl⟩ : ∃ i : Nat, n = (i : Int) := ⟨n.toNat, by omega⟩
      unfold lotOf
      simp only [Int.toNat_natCast]
      rw [List.getD_eq_getElem?_getD, upTo_get (by omega)]; rfl
    · rfl
  have hmap : ∀ l : List V, (∀ v ∈ l, v ∈ allV g) → l.map (turnV (lotOf (upTo g.objs.length, upTo g.objs.length))) = l := by
    intro l hl
    rw [List.map_congr_left (g := id) (fun v hv => ht v (hl v hv)), List.map_id]
  unfold quo renumP
  obtain ⟨objs, roots⟩ := g
  congr 1
  · apply List.ext_getElem?
    intro k
    rw [List.getElem?_map]
    by_cases hk : k < objs.length
    · rw [upTo_get hk]
      simp only [Option.map_some]
      rw [hmap _ (fun v hv => fields_in hv)]
      unfold fieldsAt
      simp only [Int.toNat_natCast]
      rw [List.getD_eq_getElem?_getD, List.getElem?_eq_getElem hk]; rfl
    · rw [List.getElem?_eq_none (by rw [upTo_len]; exact Nat.le_of_not_lt hk), List.getElem?_eq_none (Nat.le_of_not_lt hk)]; rfl
  · exact hmap _ (fun v hv => List.mem_append_left _ hv)
end Go.Proofs.Ytdmgpiimacnapaa
