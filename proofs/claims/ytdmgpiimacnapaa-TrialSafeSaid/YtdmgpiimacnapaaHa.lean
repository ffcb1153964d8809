/- The plain law of Share: which two objects are told apart, and by how long a way. -/
import Derived.Test.YtdmgpiimacnapaaWy
namespace Go.Proofs.Ytdmgpiimacnapaa
open Go.RowKit Go.Shelf

def fld (g : G) (a : Int) (k : Nat) : Option V := (fieldsAt g a)[k]?
/-- What is seen of a field at once. -/
def clsV : Option V → Option (Option Int)
  | none => none
  | some v => some (if v.ref then none else some v.n)
def differB (x y : Option V) : Bool := (x.isSome != y.isSome) || (!((atV x).ref && (atV y).ref) && decide (atV x ≠ atV y))
theorem differ_iff (x y : Option V) : differB x y = true ↔ clsV x ≠ clsV y := by
  cases x with
  | none => cases y with
    | none => simp [differB, clsV]
    | some y => simp [differB, clsV]
  | some x => cases y with
    | none => simp [differB, clsV]
    | some y =>
      obtain ⟨r, n⟩ := x
      obtain ⟨s, k⟩ := y
      cases r <;> cases s <;> simp [differB, clsV, atV]

def inO (g : G) (p : Int × Int) : Prop := (0 ≤ p.1 ∧ p.1 < g.objs.length) ∧ 0 ≤ p.2 ∧ p.2 < g.objs.length
/-- A way of n fields that begins with k tells two apart, by what m knows of shorter ones. -/
def tellsP (g : G) (m : Int × Int → Option Nat) (p : Int × Int) (k n : Nat) : Prop :=
  if n = 1 then clsV (fld g p.1 k) ≠ clsV (fld g p.2 k) else ∃ x y, fld g p.1 k = some ⟨true, x⟩ ∧ fld g p.2 k = some ⟨true, y⟩ ∧ (m (x, y)).getD 0 + 1 = n
/-- m holds how long the shortest way is, just for those that are told apart. -/
structure Apart (g : G) (m : Int × Int → Option Nat) : Prop where
  has : ∀ p j, m p = some j → 1 ≤ j ∧ inO g p ∧ ∃ k, k < 4 ∧ tellsP g m p k j
  all : ∀ p k n, inO g p → k < 4 → 1 ≤ n → tellsP g m p k n → ∃ j, j ≤ n ∧ m p = some j

open Classical in
/-- What is known when ways of n fields have been looked at. -/
noncomputable def mapAt (g : G) : Nat → Int × Int → Option Nat
  | 0 => fun _ => none
  | n + 1 => fun p => match mapAt g n p with
    | some j => some j
    | none => if inO g p ∧ ∃ k, k < 4 ∧ tellsP g (mapAt g n) p k (n + 1) then some (n + 1) else none

theorem mapAt_succ {g : G} {n : Nat} {p : Int × Int} {j : Nat} (h : mapAt g n p = some j) : mapAt g (n + 1) p = some j := by simp only [mapAt, h]
theorem mapAt_mono {g : G} {n : Nat} {p : Int × Int} {j : Nat} (h : mapAt g n p = some j) : ∀ d, mapAt g (n + d) p = some j
  | 0 => h
  | d + 1 => mapAt_succ (mapAt_mono h d)
theorem mapAt_at {g : G} : ∀ {n : Nat} {p : Int × Int} {j : Nat}, mapAt g n p = some j → ∃ i, j = i + 1 ∧ j ≤ n ∧ mapAt g i p = none ∧ inO g p ∧ ∃ k, k < 4 ∧ tellsP g (mapAt g i) p k (i + 1)
  | 0, p, j, h => by simp [mapAt] at h
  | n + 1, p, j, h => by
    cases hn : mapAt g n p with
    | some j' =>
      have h2 := mapAt_succ hn
      rw [h] at h2
      cases h2
      obtain ⟨i, h1, h2, h3⟩ := mapAt_at hn
      exact ⟨i, h1, by omega, h3⟩
    | none =>
      simp only [mapAt, hn] at h
      split at h
      · rename_i hc
        cases h
        exact ⟨n, rfl, Nat.le_refl _, hn, hc⟩
      · cases h
theorem mapAt_le {g : G} {n : Nat} {p : Int × Int} {j : Nat} (h : mapAt g n p = some j) : mapAt g j p = some j := by
  obtain ⟨i, rfl, _, h3, h4⟩ := mapAt_at h
  simp only [mapAt, h3]
  rw [if_pos h4]
/-- What is known when a round finds none. -/
theorem mapAt_stable {g : G} {N : Nat} (h : ∀ p, mapAt g (N + 1) p = mapAt g N p) : ∀ d, mapAt g (N + d) = mapAt g N
  | 0 => rfl
  | d + 1 => by
    have ih := mapAt_stable h d
    funext p
    cases hm : mapAt g N p with
    | some j => exact mapAt_mono hm (d + 1)
    | none =>
      cases hd : mapAt g (N + (d + 1)) p with
      | none => rfl
      | some j =>
        exfalso
        obtain ⟨i, rfl, hle, h3, h4, k, hk, ht⟩ := mapAt_at hd
        have hNi : N ≤ i := by
          apply Nat.le_of_not_lt
          intro hlt
          have := mapAt_mono (mapAt_le hd) (N - (i + 1))
          rw [show i + 1 + (N - (i + 1)) = N by omega, hm] at this
          cases this
        have hi : mapAt g i = mapAt g N := by
          have hid : i = N + (i - N) := by omega
          have : i - N ≤ d := by omega
          rcases Nat.lt_or_ge (i - N) (d + 1) with hlt | hge
          · rw [hid]; exact mapAt_stable h (i - N)
          · omega
        rw [hi] at ht
        by_cases h0 : i = N
        · subst h0
          have := h p
          simp only [mapAt, hm] at this
          rw [if_pos ⟨h4, k, hk, ht⟩] at this
          cases this
        · simp only [tellsP] at ht
          rw [if_neg (by omega)] at ht
          obtain ⟨x, y, _, _, h5⟩ := ht
          have h6 : mapAt g N (x, y) = some i := by
            cases hxy : mapAt g N (x, y) with
            | none => rw [hxy] at h5; simp at h5; omega
            | some q => rw [hxy] at h5; simp at h5; rw [h5]
          obtain ⟨i', h7, h8, _⟩ := mapAt_at h6
          omega
  termination_by d => d
theorem apart_of {g : G} {N : Nat} (h : ∀ p, mapAt g (N + 1) p = mapAt g N p) : Apart g (mapAt g N) := by
  have hst : ∀ n p j, mapAt g n p = some j → mapAt g N p = some j := by
    intro n p j hn
    rcases Nat.le_total n N with h1 | h1
    · have := mapAt_mono hn (N - n)
      rwa [show n + (N - n) = N by omega] at this
    · have := mapAt_stable h (n - N)
      rw [show N + (n - N) = n by omega] at this
      rwa [← this]
  constructor
  · intro p j hj
    obtain ⟨i, rfl, h2, h3, h4, k, hk, ht⟩ := mapAt_at hj
    refine ⟨by omega, h4, k, hk, ?_⟩
    simp only [tellsP] at ht ⊢
    split
    · rename_i h0; rwa [if_pos h0] at ht
    · rename_i h0
      rw [if_neg h0] at ht
      obtain ⟨x, y, h5, h6, h7⟩ := ht
      refine ⟨x, y, h5, h6, ?_⟩
      cases hxy : mapAt g i (x, y) with
      | none => rw [hxy] at h7; simp at h7; omega
      | some q => rw [hst _ _ _ hxy]; rw [hxy] at h7; exact h7
  · intro p k n hp hk hn ht
    obtain ⟨i, rfl⟩ : ∃ i, n = i + 1 := ⟨n - 1, by omega⟩
    have ht2 : tellsP g (mapAt g i) p k (i + 1) := by
      simp only [tellsP] at ht ⊢
      split
      · rename_i h0; rwa [if_pos h0] at ht
      · rename_i h0
        rw [if_neg h0] at ht
        obtain ⟨x, y, h5, h6, h7⟩ := ht
        refine ⟨x, y, h5, h6, ?_⟩
        cases hxy : mapAt g N (x, y) with
        | none => rw [hxy] at h7; simp at h7; omega
        | some q =>
          rw [hxy] at h7
          simp at h7
          have := mapAt_le hxy
          rw [← h7, this]; rfl
    cases hi : mapAt g (i + 1) p with
    | none =>
      exfalso
      simp only [mapAt] at hi
      split at hi
      · cases hi
      · rw [if_pos ⟨hp, k, hk, ht2⟩] at hi; cases hi
    | some j =>
      obtain ⟨_, _, h2, _⟩ := mapAt_at hi
      exact ⟨j, h2, hst _ _ _ hi⟩

/-! ### What follows -/
theorem Apart.some_of {g : G} {m : Int × Int → Option Nat} {p : Int × Int} {n : Nat} (h0 : ¬ n = 1) (_hn : 1 ≤ n) {k : Nat} (ht : tellsP g m p k n) :
    ∃ x y, fld g p.1 k = some ⟨true, x⟩ ∧ fld g p.2 k = some ⟨true, y⟩ ∧ ∃ i, m (x, y) = some i ∧ i + 1 = n := by
  rw [tellsP, if_neg h0] at ht
  obtain ⟨x, y, h1, h2, h3⟩ := ht
  refine ⟨x, y, h1, h2, ?_⟩
  cases hxy : m (x, y) with
  | none => rw [hxy] at h3; simp at h3; omega
  | some i => rw [hxy] at h3; exact ⟨i, rfl, h3⟩
theorem Apart.le {g : G} {m m' : Int × Int → Option Nat} (h : Apart g m) (h' : Apart g m') : ∀ j p, m p = some j → ∃ j', j' ≤ j ∧ m' p = some j' := by
  intro j
  induction j using Nat.strongRecOn with
  | _ j ih =>
    intro p hp
    obtain ⟨h1, h2, k, hk, ht⟩ := h.has p j hp
    by_cases h0 : j = 1
    · subst h0
      exact h'.all p k 1 h2 hk (Nat.le_refl _) (by simpa [tellsP] using ht)
    · obtain ⟨x, y, hx, hy, i, hi, rfl⟩ := Apart.some_of h0 h1 ht
      obtain ⟨i', hi', hm'⟩ := ih i (by omega) _ hi
      have h1' := (h'.has _ _ hm').1
      obtain ⟨j', hj', hm2⟩ := h'.all p k (i' + 1) h2 hk (by omega) (by rw [tellsP, if_neg (by omega)]; exact ⟨x, y, hx, hy, by rw [hm']; rfl⟩)
      exact ⟨j', by omega, hm2⟩
theorem Apart.unique {g : G} {m m' : Int × Int → Option Nat} (h : Apart g m) (h' : Apart g m') : m = m' := by
  funext p
  cases hp : m p with
  | some j =>
    obtain ⟨j', h1, h2⟩ := h.le h' j p hp
    obtain ⟨j2, h3, h4⟩ := h'.le h j' p h2
    rw [hp] at h4
    cases h4
    rw [h2, show j = j' by omega]
  | none =>
    cases hp' : m' p with
    | none => rfl
    | some j =>
      obtain ⟨j', _, h2⟩ := h'.le h j p hp'
      rw [hp] at h2; cases h2
/-- An object is not told apart from itself. -/
theorem Apart.self {g : G} {m : Int × Int → Option Nat} (h : Apart g m) : ∀ j a, ¬ m (a, a) = some j := by
  intro j
  induction j using Nat.strongRecOn with
  | _ j ih =>
    intro a hp
    obtain ⟨h1, h2, k, hk, ht⟩ := h.has _ j hp
    by_cases h0 : j = 1
    · subst h0
      simp [tellsP] at ht
    · obtain ⟨x, y, hx, hy, i, hi, rfl⟩ := Apart.some_of h0 h1 ht
      simp only at hx hy
      rw [hx] at hy
      cases hy
      exact ih i (by omega) x hi
theorem tellsP_swap {g : G} {m : Int × Int → Option Nat} {p : Int × Int} {k n : Nat} (h : tellsP g (fun p => m (p.2, p.1)) p k n) : tellsP g m (p.2, p.1) k n := by
  unfold tellsP at h ⊢
  split
  · rename_i h0; rw [if_pos h0] at h; exact fun e => h e.symm
  · rename_i h0
    rw [if_neg h0] at h
    obtain ⟨x, y, h1, h2, h3⟩ := h
    exact ⟨y, x, h2, h1, h3⟩
theorem Apart.swap {g : G} {m : Int × Int → Option Nat} (h : Apart g m) : Apart g (fun p => m (p.2, p.1)) := by
  constructor
  · intro p j hj
    obtain ⟨h1, h2, k, hk, ht⟩ := h.has _ j hj
    exact ⟨h1, ⟨h2.2, h2.1⟩, k, hk, tellsP_swap (m := fun p => m (p.2, p.1)) (p := (p.2, p.1)) ht⟩
  · intro p k n hp hk hn ht
    exact h.all (p.2, p.1) k n ⟨hp.2, hp.1⟩ hk hn (tellsP_swap ht)
theorem Apart.symm {g : G} {m : Int × Int → Option Nat} (h : Apart g m) (a b : Int) : m (a, b) = m (b, a) := by
  have := h.unique h.swap
  exact congrFun this (a, b)
theorem fld_cls {g : G} {a : Int} {k : Nat} {x : Int} (h : fld g a k = some ⟨true, x⟩) : clsV (fld g a k) = some none := by rw [h]; rfl
theorem cls_ref {o : Option V} (h : clsV o = some none) : ∃ x, o = some ⟨true, x⟩ := by
  cases o with
  | none => cases h
  | some v =>
    obtain ⟨r, n⟩ := v
    cases r
    · simp [clsV] at h
    · exact ⟨n, rfl⟩
/-- The objects that a good graph's references name. -/
theorem fld_in {g : G} (hG : Good g) {a : Int} {k : Nat} {x : Int} (h : fld g a k = some ⟨true, x⟩) : 0 ≤ x ∧ x < g.objs.length := by
  unfold fld fieldsAt at h
  have hm := List.mem_of_getElem? h
  rw [List.getD_eq_getElem?_getD] at hm
  cases ho : g.objs[a.toNat]? with
  | none => rw [ho] at hm; simp at hm
  | some o =>
    rw [ho] at hm
    simp only [Option.getD_some] at hm
    have hb := hG.vals ⟨true, x⟩ (by
      unfold allV
      exact List.mem_append_right _ (List.mem_flatten.2 ⟨o, List.mem_of_getElem? ho, hm⟩))
    simp [badC] at hb
    omega
/-- What can't be told apart from what can't be told apart can't be told apart. -/
theorem Apart.trans {g : G} (hG : Good g) {m : Int × Int → Option Nat} (h : Apart g m) : ∀ (j : Nat) (a b c : Int), 0 ≤ b → b < g.objs.length → m (a, c) = some j → (m (a, b)).isSome ∨ (m (b, c)).isSome := by
  intro j
  induction j using Nat.strongRecOn with
  | _ j ih =>
    intro a b c hb0 hb1 hp
    obtain ⟨h1, h2, k, hk, ht⟩ := h.has _ j hp
    have hab : inO g (a, b) := ⟨h2.1, hb0, hb1⟩
    have hbc : inO g (b, c) := ⟨⟨hb0, hb1⟩, h2.2⟩
    have d1 : clsV (fld g a k) ≠ clsV (fld g b k) → (m (a, b)).isSome := by
      intro hd
      obtain ⟨q, _, hq⟩ := h.all (a, b) k 1 hab hk (Nat.le_refl _) (by rw [tellsP, if_pos rfl]; exact hd)
      rw [hq]; rfl
    have d2 : clsV (fld g b k) ≠ clsV (fld g c k) → (m (b, c)).isSome := by
      intro hd
      obtain ⟨q, _, hq⟩ := h.all (b, c) k 1 hbc hk (Nat.le_refl _) (by rw [tellsP, if_pos rfl]; exact hd)
      rw [hq]; rfl
    by_cases e1 : clsV (fld g a k) = clsV (fld g b k)
    · by_cases e2 : clsV (fld g b k) = clsV (fld g c k)
      · by_cases h0 : j = 1
        · subst h0
          rw [tellsP, if_pos rfl] at ht
          exact absurd (e1.trans e2) ht
        · obtain ⟨x, z, hx, hz, i, hi, rfl⟩ := Apart.some_of h0 h1 ht
          simp only at hx hz
          obtain ⟨y, hy⟩ := cls_ref (o := fld g b k) (by rw [← e1]; exact fld_cls hx)
          have hyin := fld_in hG hy
          rcases ih i (by omega) x y z hyin.1 hyin.2 hi with h5 | h5
          · obtain ⟨q, hq⟩ := Option.isSome_iff_exists.1 h5
            obtain ⟨q2, _, hq2⟩ := h.all (a, b) k (q + 1) hab hk (by omega) (by
              have := (h.has _ _ hq).1
              rw [tellsP, if_neg (by omega)]; exact ⟨x, y, hx, hy, by rw [hq]; rfl⟩)
            exact .inl (by rw [hq2]; rfl)
          · obtain ⟨q, hq⟩ := Option.isSome_iff_exists.1 h5
            obtain ⟨q2, _, hq2⟩ := h.all (b, c) k (q + 1) hbc hk (by omega) (by
              have := (h.has _ _ hq).1
              rw [tellsP, if_neg (by omega)]; exact ⟨y, z, hy, hz, by rw [hq]; rfl⟩)
            exact .inr (by rw [hq2]; rfl)
      · exact .inr (d2 e2)
    · exact .inl (d1 e1)
theorem fieldsAt_le {g : G} (hG : Good g) (a : Int) : (fieldsAt g a).length ≤ 4 := by
  unfold fieldsAt
  rw [List.getD_eq_getElem?_getD]
  cases ho : g.objs[a.toNat]? with
  | none => simp
  | some o => exact hG.fields o (List.mem_of_getElem? ho)
theorem Apart.len {g : G} (hG : Good g) {m : Int × Int → Option Nat} (h : Apart g m) {a b : Int} (hp : inO g (a, b)) (hn : m (a, b) = none) : (fieldsAt g a).length = (fieldsAt g b).length := by
  have la := fieldsAt_le hG a
  have lb := fieldsAt_le hG b
  have key : ∀ k, k < 4 → clsV (fld g a k) = clsV (fld g b k) := by
    intro k hk
    by_cases e : clsV (fld g a k) = clsV (fld g b k)
    · exact e
    · obtain ⟨j, _, hj⟩ := h.all (a, b) k 1 hp hk (Nat.le_refl _) (by rw [tellsP, if_pos rfl]; exact e)
      rw [hn] at hj; cases hj
  have some_iff : ∀ o : Option V, (clsV o).isSome = o.isSome := by intro o; cases o <;> rfl
  rcases Nat.lt_trichotomy (fieldsAt g a).length (fieldsAt g b).length with hlt | he | hlt
  · have := congrArg Option.isSome (key (fieldsAt g a).length (by omega))
    rw [some_iff, some_iff] at this
    simp [fld, hlt] at this
  · exact he
  · have := congrArg Option.isSome (key (fieldsAt g b).length (by omega))
    rw [some_iff, some_iff] at this
    simp [fld, hlt] at this

/-- The two to which a field leads. -/
def nextP (g : G) (p : Int × Int) (k n : Nat) : Int × Int := if n = 0 then p else ((atV (fld g p.1 k)).n, (atV (fld g p.2 k)).n)
/-- The way that is told: at each step the first field that does. -/
def WayS (g : G) (m : Int × Int → Option Nat) : Nat → Int × Int → List Int → Prop
  | 0, _, l => l = []
  | n + 1, p, l => ∃ (k : Nat) (l' : List Int), k < 4 ∧ tellsP g m p k (n + 1) ∧ (∀ j, j < k → ¬ tellsP g m p j (n + 1)) ∧ l = (k : Int) :: l' ∧ WayS g m n (nextP g p k n) l'
def fldI (g : G) (a : Int) (k : Int) : Option V := if 0 ≤ k then fld g a k.toNat else none
/-- A way that tells two apart: along it references, and at its end what differs. -/
def wayTells (g : G) : Int × Int → List Int → Prop
  | _, [] => False
  | p, [k] => clsV (fldI g p.1 k) ≠ clsV (fldI g p.2 k)
  | p, k :: k2 :: ks => ∃ x y, fldI g p.1 k = some ⟨true, x⟩ ∧ fldI g p.2 k = some ⟨true, y⟩ ∧ wayTells g (x, y) (k2 :: ks)
theorem WayS.len {g : G} {m : Int × Int → Option Nat} : ∀ {n : Nat} {p : Int × Int} {l : List Int}, WayS g m n p l → l.length = n
  | 0, _, _, h => by rw [h]; rfl
  | n + 1, p, l, h => by
    obtain ⟨k, l', _, _, _, rfl, h5⟩ := h
    simp [WayS.len h5]
theorem WayS.tells {g : G} {m : Int × Int → Option Nat} : ∀ {n : Nat} {p : Int × Int} {l : List Int}, WayS g m (n + 1) p l → wayTells g p l
  | 0, p, l, h => by
    obtain ⟨k, l', _, h2, _, rfl, h5⟩ := h
    cases h5
    rw [tellsP, if_pos rfl] at h2
    simpa [wayTells, fldI] using h2
  | n + 1, p, l, h => by
    obtain ⟨k, l', _, h2, _, rfl, h5⟩ := h
    rw [tellsP, if_neg (by omega)] at h2
    obtain ⟨x, y, hx, hy, _⟩ := h2
    have ht := WayS.tells h5
    obtain ⟨k2, l2, _, _, _, rfl, _⟩ := h5
    refine ⟨x, y, by simpa [fldI] using hx, by simpa [fldI] using hy, ?_⟩
    simpa [nextP, hx, hy, atV] using ht
theorem Apart.symm_tells {g : G} {m : Int × Int → Option Nat} (h : Apart g m) {p : Int × Int} {k n : Nat} (ht : tellsP g m p k n) : tellsP g m (p.2, p.1) k n := by
  refine tellsP_swap ?_
  have : (fun p => m (p.2, p.1)) = m := (h.unique h.swap).symm
  rw [this]; exact ht
theorem WayS.swap {g : G} {m : Int × Int → Option Nat} (h : Apart g m) : ∀ {n : Nat} {p : Int × Int} {l l' : List Int}, WayS g m n p l → WayS g m n (p.2, p.1) l' → l = l'
  | 0, _, _, _, h1, h2 => by rw [h1, h2]
  | n + 1, p, l, l', h1, h2 => by
    obtain ⟨k, r, _, a2, a3, rfl, a5⟩ := h1
    obtain ⟨k', r', _, b2, b3, rfl, b5⟩ := h2
    have b2' := h.symm_tells b2
    have hk : k = k' := by
      rcases Nat.lt_trichotomy k k' with hlt | he | hlt
      · exact absurd (h.symm_tells a2) (b3 k hlt)
      · exact he
      · exact absurd b2' (a3 k' hlt)
    subst hk
    have e : nextP g (p.2, p.1) k n = ((nextP g p k n).2, (nextP g p k n).1) := by
      unfold nextP
      split <;> rfl
    rw [e] at b5
    rw [WayS.swap h a5 b5]
/-- No way that tells is shorter. -/
theorem Apart.least {g : G} (hG : Good g) {m : Int × Int → Option Nat} (h : Apart g m) : ∀ (l : List Int) (p : Int × Int), inO g p → wayTells g p l → ∃ j, j ≤ l.length ∧ m p = some j
  | [], _, _, ht => ht.elim
  | [k], p, hp, ht => by
    have ht2 : clsV (fldI g p.1 k) ≠ clsV (fldI g p.2 k) := ht
    by_cases hk : 0 ≤ k
    · simp only [fldI, if_pos hk] at ht2
      have hk4 : k.toNat < 4 := by
        apply Nat.lt_of_not_le
        intro hge
        apply ht2
        have e : ∀ a, fld g a k.toNat = none := fun a => by
          unfold fld; exact List.getElem?_eq_none (Nat.le_trans (fieldsAt_le hG a) hge)
        rw [e, e]
      exact h.all p k.toNat 1 hp hk4 (Nat.le_refl _) (by rw [tellsP, if_pos rfl]; exact ht2)
    · simp [fldI, if_neg hk] at ht2
  | k :: k2 :: ks, p, hp, ht => by
    obtain ⟨x, y, hx, hy, h3⟩ := ht
    by_cases hk : 0 ≤ k
    · simp only [fldI, if_pos hk] at hx hy
      have hxi := fld_in hG hx
      have hyi := fld_in hG hy
      obtain ⟨j, hj, hm⟩ := Apart.least hG h (k2 :: ks) (x, y) ⟨hxi, hyi⟩ h3
      have hk4 : k.toNat < 4 := by
        have := fieldsAt_le hG p.1
        have h9 := (List.getElem?_eq_some_iff.1 hx).1
        omega
      have hj1 := (h.has _ _ hm).1
      obtain ⟨j', hj', hm'⟩ := h.all p k.toNat (j + 1) hp hk4 (by omega) (by rw [tellsP, if_neg (by omega)]; exact ⟨x, y, hx, hy, by rw [hm]; rfl⟩)
      exact ⟨j', by simp at hj ⊢; omega, hm'⟩
    · simp [fldI, if_neg hk] at hx
/-- A way there is. -/
theorem Apart.first {g : G} {m : Int × Int → Option Nat} (h : Apart g m) {p : Int × Int} {j : Nat} (hp : m p = some j) : ∃ k, k < 4 ∧ tellsP g m p k j ∧ ∀ i, i < k → ¬ tellsP g m p i j := by
  obtain ⟨_, _, k, hk, ht⟩ := h.has p j hp
  clear hp
  induction k using Nat.strongRecOn with
  | _ k ih =>
    by_cases hc : ∃ i, i < k ∧ tellsP g m p i j
    · obtain ⟨i, hi, ht2⟩ := hc
      exact ih i hi (by omega) ht2
    · exact ⟨k, hk, ht, fun i hi h9 => hc ⟨i, hi, h9⟩⟩
theorem Apart.next {g : G} {m : Int × Int → Option Nat} {p : Int × Int} {k n : Nat} (ht : tellsP g m p k (n + 1)) (hn : ¬ n = 0) : m (nextP g p k n) = some n := by
  obtain ⟨x, y, hx, hy, i, hi, h2⟩ := Apart.some_of (by omega) (by omega) ht
  rw [nextP, if_neg hn, hx, hy]
  have : i = n := by omega
  subst this
  exact hi
end Go.Proofs.Ytdmgpiimacnapaa
