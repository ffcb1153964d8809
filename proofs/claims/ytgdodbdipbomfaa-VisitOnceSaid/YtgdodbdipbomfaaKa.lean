/- Going through an arena by turning its references round. Plain: the words on the way. -/
import Derived.Test.YtgdodbdipbomfaaSg
namespace Go.Proofs.Ytgdodbdipbomfaa
open Go.RowKit

/-- Objects with other headers and other fields. -/
def allF (os : List Ob) (hd : Int → Int) (fl : Int → List Int) : List Ob := (upTo os.length).map fun i => (hd i, fl i)
theorem allF_get (os : List Ob) (hd : Int → Int) (fl : Int → List Int) {k : Nat} (h : k < os.length) : (allF os hd fl)[k]? = some (hd k, fl k) := by
  unfold allF; rw [List.getElem?_map, upTo_get h]; rfl
theorem allF_len (os : List Ob) (hd : Int → Int) (fl : Int → List Int) : (allF os hd fl).length = os.length := by unfold allF; rw [List.length_map, upTo_len]
theorem allF_ext (os : List Ob) {hd hd' : Int → Int} {fl fl' : Int → List Int} (h : ∀ k : Nat, k < os.length → hd k = hd' k ∧ fl k = fl' k) : allF os hd fl = allF os hd' fl' := by
  unfold allF
  refine List.map_congr_left fun i hi => ?_
  have := mem_upTo.1 hi
  obtain ⟨k, rfl⟩ : ∃ k : Nat, i = k := ⟨i.toNat, by omega⟩
  obtain ⟨h1, h2⟩ := h k (by omega)
  rw [h1, h2]
def SameLen (os : List Ob) (fl : Int → List Int) : Prop := ∀ k : Nat, k < os.length → (fl k).length = (obj os k).2.length
theorem allF_place (os : List Ob) (hd : Int → Int) {fl : Int → List Int} (hl : SameLen os fl) : ∀ {k : Nat}, k ≤ os.length → place (allF os hd fl) k = place os k
  | 0, _ => rfl
  | k + 1, h => by
    obtain ⟨o, ho⟩ := get_some os k (by omega)
    rw [place_succ (allF_get os hd fl (show k < os.length by omega)), allF_place os hd hl (show k ≤ os.length by omega), place_succ ho, hl k (by omega), obj_at' ho]
theorem allF_flat (os : List Ob) (hd : Int → Int) {fl : Int → List Int} (hl : SameLen os fl) : (flat (allF os hd fl)).length = (flat os).length := by
  rw [← place_all, ← place_all, allF_len, allF_place os hd hl (Nat.le_refl _)]
theorem allF_allO (os : List Ob) (hd : Int → Int) : allF os hd (fun i => (obj os i).2) = allO os hd := rfl
theorem flat_setF : ∀ (os : List Ob) (k : Nat) (o : Ob) (j : Nat) (x : Int), os[k]? = some o → j < o.2.length → (flat os).set (place os k + 1 + j) x = flat (os.set k (o.1, o.2.set j x))
  | [], _, _, _, _, h, _ => by simp at h
  | o1 :: os, 0, o, j, x, h, hj => by
    simp only [List.getElem?_cons_zero, Option.some.injEq] at h
    subst h
    rw [place_zero, List.set_cons_zero, flat_cons, flat_cons, show 0 + 1 + j = j + 1 by omega, List.set_cons_succ, List.set_append_left _ _ hj]
  | o1 :: os, k + 1, o, j, x, h, hj => by
    have h' : os[k]? = some o := by simpa using h
    have ih := flat_setF os k o j x h' hj
    have hp : place (o1 :: os) (k + 1) = 1 + o1.2.length + place os k := by
      unfold place; rw [List.take_succ_cons, flat_cons, List.length_cons, List.length_append]; omega
    rw [hp, List.set_cons_succ, flat_cons, flat_cons, show 1 + o1.2.length + place os k + 1 + j = (o1.2.length + (place os k + 1 + j)) + 1 by omega, List.set_cons_succ, List.set_append_right _ _ (by omega), show o1.2.length + (place os k + 1 + j) - o1.2.length = place os k + 1 + j by omega, ih]
theorem allF_setF (os : List Ob) (hd : Int → Int) {fl : Int → List Int} (hl : SameLen os fl) {k : Nat} (h : k < os.length) {j : Nat} (hj : j < (obj os k).2.length) (x : Int) :
    (flat (allF os hd fl)).set (place os k + 1 + j) x = flat (allF os hd fun i => if i = k then (fl k).set j x else fl i) := by
  have h1 := flat_setF (allF os hd fl) k _ j x (allF_get os hd fl h) (by simp only; rw [hl k h]; exact hj)
  rw [allF_place os hd hl (Nat.le_of_lt h)] at h1
  rw [h1]
  congr 1
  refine List.ext_getElem? fun t => ?_
  by_cases ht : t < os.length
  · rw [allF_get os hd _ ht]
    by_cases e : k = t
    · subst e
      rw [List.getElem?_set_self (by rw [allF_len]; exact h)]; simp
    · rw [List.getElem?_set_ne e, allF_get os hd fl ht, if_neg (by omega)]
  · rw [List.getElem?_eq_none (by rw [List.length_set, allF_len]; omega), List.getElem?_eq_none (by rw [allF_len]; omega)]
theorem allF_setH (os : List Ob) (hd : Int → Int) {fl : Int → List Int} (hl : SameLen os fl) {k : Nat} (h : k < os.length) (n : Int) :
    (flat (allF os hd fl)).set (place os k) n = flat (allF os (fun i => if i = k then n else hd i) fl) := by
  have h1 := flat_set (allF os hd fl) k _ n (allF_get os hd fl h)
  rw [allF_place os hd hl (Nat.le_of_lt h)] at h1
  rw [h1]
  congr 1
  refine List.ext_getElem? fun t => ?_
  by_cases ht : t < os.length
  · rw [allF_get os _ fl ht]
    by_cases e : k = t
    · subst e
      rw [List.getElem?_set_self (by rw [allF_len]; exact h)]; simp
    · rw [List.getElem?_set_ne e, allF_get os hd fl ht, if_neg (by omega)]
  · rw [List.getElem?_eq_none (by rw [List.length_set, allF_len]; omega), List.getElem?_eq_none (by rw [allF_len]; omega)]

/-! ### The way back -/
/-- The way back as it is kept in a field: behind the object that stands last in T. -/
def bk (os : List Ob) : List Int → Int
  | [] => 0
  | t :: _ => ((place os t.toNat : Nat) + 1) * 2
def fldT (os : List Ob) (D : Int → Nat) : List Int → Int → List Int
  | [], i => (obj os i).2
  | t :: T, i => if i = t then (obj os i).2.set (D i) (bk os T) else fldT os D T i
theorem fldT_len (os : List Ob) (D : Int → Nat) : ∀ (T : List Int), SameLen os (fldT os D T)
  | [], _, _ => rfl
  | t :: T, k, hk => by
    unfold fldT
    split
    · rw [List.length_set]
    · exact fldT_len os D T k hk
theorem fldT_out (os : List Ob) (D : Int → Nat) : ∀ {T : List Int} {i : Int}, i ∉ T → fldT os D T i = (obj os i).2
  | [], _, _ => rfl
  | t :: T, i, h => by
    rw [List.mem_cons, not_or] at h
    unfold fldT
    rw [if_neg h.1, fldT_out os D h.2]
theorem fldT_ext (os : List Ob) {D D' : Int → Nat} : ∀ {T : List Int}, (∀ t ∈ T, D t = D' t) → fldT os D T = fldT os D' T
  | [], _ => rfl
  | t :: T, h => by
    funext i
    unfold fldT
    rw [fldT_ext os (T := T) fun x hx => h x (List.mem_cons_of_mem _ hx)]
    by_cases e : i = t
    · subst e; rw [h i List.mem_cons_self]
    · rw [if_neg e, if_neg e]
/-- The words on the way. -/
def wT (os : List Ob) (M : List Int) (D : Int → Nat) (T : List Int) : List Int := flat (allF os (hdM os M) (fldT os D T))
theorem wT_nil (os : List Ob) (M : List Int) (D : Int → Nat) : wT os M D [] = flat (mkO os M) := by
  unfold wT mkO
  rw [← allF_allO]; rfl
theorem wT_len (os : List Ob) (M : List Int) (D : Int → Nat) (T : List Int) : (wT os M D T).length = (flat os).length := allF_flat os _ (fldT_len os D T)
theorem wT_head (os : List Ob) (M : List Int) (D : Int → Nat) (T : List Int) {k : Nat} (h : k < os.length) : (wT os M D T)[place os k]? = some (hdM os M k) := by
  have := flat_head (allF_get os (hdM os M) (fldT os D T) h)
  rwa [allF_place os _ (fldT_len os D T) (Nat.le_of_lt h)] at this
theorem wT_field (os : List Ob) (M : List Int) (D : Int → Nat) (T : List Int) {k : Nat} (h : k < os.length) {j : Nat} {x : Int} (hx : (fldT os D T k)[j]? = some x) : (wT os M D T)[place os k + 1 + j]? = some x := by
  have := flat_field (allF_get os (hdM os M) (fldT os D T) h) hx
  rwa [allF_place os _ (fldT_len os D T) (Nat.le_of_lt h)] at this
theorem wT_ext (os : List Ob) (M : List Int) {D D' : Int → Nat} {T : List Int} (h : ∀ t ∈ T, D t = D' t) : wT os M D T = wT os M D' T := by
  unfold wT; rw [fldT_ext os h]
theorem wT_enter (os : List Ob) (M : List Int) (D : Int → Nat) (T : List Int) {k : Nat} (h : k < os.length) : (wT os M D T).set (place os k) (hdS (obj os k).1 true) = wT os (M ++ [(k : Int)]) D T := by
  unfold wT
  rw [allF_setH os _ (fldT_len os D T) h]
  congr 1
  refine allF_ext os fun t _ => ⟨?_, rfl⟩
  unfold hdM
  by_cases e : (t : Int) = k
  · rw [if_pos e, e]; simp
  · rw [if_neg e]
    congr 1
    simp [e]
theorem wT_down (os : List Ob) (M : List Int) (D : Int → Nat) {T : List Int} {k : Nat} (h : k < os.length) (hT : (k : Int) ∉ T) (hD : D k < (obj os k).2.length) : (wT os M D T).set (place os k + 1 + D k) (bk os T) = wT os M D ((k : Int) :: T) := by
  unfold wT
  rw [allF_setF os _ (fldT_len os D T) h hD]
  congr 1
  refine allF_ext os fun t _ => ⟨rfl, ?_⟩
  show _ = (if (t : Int) = k then (obj os t).2.set (D t) (bk os T) else fldT os D T t)
  by_cases e : (t : Int) = k
  · rw [if_pos e, if_pos e, e, fldT_out os D hT]
  · rw [if_neg e, if_neg e]
theorem wT_up (os : List Ob) (M : List Int) (D : Int → Nat) {T : List Int} {k : Nat} (h : k < os.length) (hT : (k : Int) ∉ T) {x : Int} (hx : (obj os k).2[D k]? = some x) : (wT os M D ((k : Int) :: T)).set (place os k + 1 + D k) x = wT os M D T := by
  have hD := (List.getElem?_eq_some_iff.1 hx).1
  unfold wT
  rw [allF_setF os _ (fldT_len os D _) h hD]
  congr 1
  refine allF_ext os fun t _ => ⟨rfl, ?_⟩
  by_cases e : (t : Int) = k
  · rw [if_pos e, e, fldT_out os D hT]
    show (if (k : Int) = k then (obj os k).2.set (D k) (bk os T) else _).set (D k) x = _
    rw [if_pos rfl, List.set_set]
    refine List.ext_getElem? fun s => ?_
    by_cases es : D k = s
    · subst es; rw [List.getElem?_set_self hD, hx]
    · rw [List.getElem?_set_ne es]
  · rw [if_neg e]
    show (if (t : Int) = k then _ else fldT os D T t) = _
    rw [if_neg e]
theorem fldT_top (os : List Ob) (D : Int → Nat) (T : List Int) {k : Nat} (hD : D k < (obj os k).2.length) : (fldT os D ((k : Int) :: T) k)[D k]? = some (bk os T) := by
  unfold fldT
  rw [if_pos rfl, List.getElem?_set_self hD]
theorem bk_rng {os : List Ob} (T : List Int) (hT : ∀ t ∈ T, 0 ≤ t ∧ t < (os.length : Int)) (hl : (flat os).length ≤ 256) : 0 ≤ bk os T ∧ bk os T ≤ 514 ∧ bk os T % 2 = 0 := by
  cases T with
  | nil => simp [bk]
  | cons t T =>
    have h1 := hT t List.mem_cons_self
    have h2 := place_mono (os := os) (show t.toNat ≤ os.length by omega)
    rw [place_all] at h2
    show 0 ≤ ((place os t.toNat : Nat) + 1 : Int) * 2 ∧ ((place os t.toNat : Nat) + 1 : Int) * 2 ≤ 514 ∧ ((place os t.toNat : Nat) + 1 : Int) * 2 % 2 = 0
    omega
theorem wT_64 {ws : List Int} {os : List Ob} (hL : Laid ws os) (hl : (flat os).length ≤ 256) (hw : ∀ x ∈ flat os, w64 x) (M : List Int) (D : Int → Nat) : ∀ {T : List Int}, (∀ t ∈ T, 0 ≤ t ∧ t < (os.length : Int)) → ∀ x ∈ wT os M D T, w64 x := by
  intro T hT x hx
  obtain ⟨o, ho, hxo⟩ := List.mem_flatMap.1 hx
  obtain ⟨k, hk⟩ := List.getElem?_of_mem ho
  have hkl := (List.getElem?_eq_some_iff.1 hk).1
  rw [allF_len] at hkl
  rw [allF_get os _ _ hkl] at hk
  obtain rfl := Option.some.inj hk
  have hob : ∀ y ∈ (obj os k).2, w64 y := fun y hy => hw y (List.mem_flatMap.2 ⟨obj os k, List.mem_of_getElem? (obj_get (os := os) (i := (k : Int)) ⟨by omega, by omega⟩), List.mem_cons_of_mem _ hy⟩)
  rcases List.mem_cons.1 hxo with rfl | hxo
  · exact (hdS_parts (hd_good hL hkl).1 _).2.2.2.2
  · have key : ∀ (T : List Int), (∀ t ∈ T, 0 ≤ t ∧ t < (os.length : Int)) → ∀ y ∈ fldT os D T k, w64 y := by
      intro T
      induction T with
      | nil => intro _ y hy; exact hob y hy
      | cons t T ih =>
        intro hT y hy
        unfold fldT at hy
        split at hy
        · rcases List.mem_or_eq_of_mem_set hy with h | h
          · exact hob y h
          · rw [h]
            have := bk_rng T (fun s hs => hT s (List.mem_cons_of_mem _ hs)) hl
            unfold w64; omega
        · exact ih (fun s hs => hT s (List.mem_cons_of_mem _ hs)) y hy
    exact key T hT x hxo
end Go.Proofs.Ytgdodbdipbomfaa
