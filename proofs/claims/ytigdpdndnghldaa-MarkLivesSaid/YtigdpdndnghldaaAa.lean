/- Arenas as data: rows of words that are objects, one behind the other. -/
import Derived.Test.YtigdpdndnghldaaWords
import Derived.Test.YtigdpdndnghldaaG0
namespace Go.Proofs.Ytigdpdndnghldaa

/-- An object in a row of words: its header's word, and its fields' words. -/
abbrev Ob := Int × List Int
def flat (os : List Ob) : List Int := os.flatMap fun o => o.1 :: o.2
def GoodO (o : Ob) : Prop := isHead o.1 ∧ (o.2.length : Int) = o.1 % 256
def Laid (ws : List Int) (os : List Ob) : Prop := ws = flat os ∧ ∀ o ∈ os, GoodO o
def place (os : List Ob) (k : Nat) : Nat := (flat (os.take k)).length
def starts (os : List Ob) : List Int := (List.range os.length).map fun k => (place os k : Int)
/-- A word of a value, or of a reference to an object. -/
def RefOk (os : List Ob) (x : Int) : Prop := x % 2 = 1 ∨ (x % 2 = 0 ∧ x < 512 ∧ x / 2 ∈ starts os)
def allW (rs : List Int) (os : List Ob) : List Int := rs ++ os.flatMap (·.2)
structure Sound (ws rs : List Int) (os : List Ob) : Prop where
  words : ws.length ≤ 256
  roots : rs.length ≤ 8
  laid : Laid ws os
  refs : ∀ x ∈ allW rs os, RefOk os x

theorem isHead_iff (n : Int) : isHead n ↔ n % 256 ≤ 4 ∧ n / 4096 = 2902710697328640 := by
  unfold isHead headW
  constructor
  · rintro ⟨h1, h2⟩
    refine ⟨h1, ?_⟩
    split at h2 <;> omega
  · rintro ⟨h1, h2⟩
    refine ⟨h1, ?_⟩
    split
    · rename_i h3; simp at h3; omega
    · rename_i h3; simp at h3; omega
theorem isHead_len {n : Int} (h : isHead n) : 0 ≤ n % 256 ∧ n % 256 ≤ 4 := ⟨by omega, h.1⟩

theorem flat_nil : flat [] = [] := rfl
theorem flat_cons (o : Ob) (os : List Ob) : flat (o :: os) = o.1 :: (o.2 ++ flat os) := rfl
theorem flat_append (os os' : List Ob) : flat (os ++ os') = flat os ++ flat os' := List.flatMap_append
theorem flat_one (o : Ob) : flat [o] = o.1 :: o.2 := by simp [flat]
theorem flat_split : ∀ (os1 os : List Ob) (rest : List Int), flat os1 ++ rest = flat os → (∀ o ∈ os1, GoodO o) → (∀ o ∈ os, GoodO o) → ∃ os2, os = os1 ++ os2 ∧ rest = flat os2
  | [], os, rest, h, _, _ => ⟨os, rfl, by simpa [flat] using h⟩
  | o1 :: os1, [], rest, h, _, _ => by simp [flat] at h
  | o1 :: os1, o :: os, rest, h, h1, h2 => by
    rw [flat_cons, flat_cons, List.cons_append] at h
    injection h with ha hb
    have g1 := (h1 o1 List.mem_cons_self).2
    have g2 := (h2 o List.mem_cons_self).2
    rw [ha] at g1
    have hl : o1.2.length = o.2.length := by omega
    rw [List.append_assoc] at hb
    obtain ⟨hc, hd⟩ := List.append_inj hb hl
    have ho : o1 = o := Prod.ext ha hc
    subst ho
    obtain ⟨os2, he, hf⟩ := flat_split os1 os rest hd (fun x hx => h1 x (List.mem_cons_of_mem _ hx)) (fun x hx => h2 x (List.mem_cons_of_mem _ hx))
    exact ⟨os2, by rw [he]; rfl, hf⟩
theorem Laid.unique {ws : List Int} {os os' : List Ob} (h : Laid ws os) (h' : Laid ws os') : os = os' := by
  obtain ⟨os2, he, hf⟩ := flat_split os os' [] (by rw [List.append_nil, ← h.1, h'.1]) h.2 h'.2
  cases os2 with
  | nil => rw [he, List.append_nil]
  | cons o os2 => rw [flat_cons] at hf; cases hf
/-- Where the row breaks off. -/
def Broken (ws : List Int) (os : List Ob) : Prop := ∃ n t, ws = flat os ++ n :: t ∧ (∀ o ∈ os, GoodO o) ∧ ¬ (isHead n ∧ n % 256 ≤ (t.length : Int))
theorem Broken.not {ws : List Int} {os : List Ob} (h : Broken ws os) : ∀ os', ¬ Laid ws os' := by
  intro os' h'
  obtain ⟨n, t, h1, h2, h3⟩ := h
  obtain ⟨os2, he, hf⟩ := flat_split os os' (n :: t) (by rw [← h1]; exact h'.1) h2 h'.2
  cases os2 with
  | nil => cases hf
  | cons o os2 =>
    rw [flat_cons] at hf
    injection hf with ha hb
    have hg := h'.2 o (by rw [he]; simp)
    refine h3 ⟨ha ▸ hg.1, ?_⟩
    rw [hb, List.length_append, ha]
    have := hg.2
    omega
/-- So far it is laid; there is more. -/
def Part (ws : List Int) (os : List Ob) (at_ : Nat) : Prop := ∃ rest, ws = flat os ++ rest ∧ (∀ o ∈ os, GoodO o) ∧ at_ = (flat os).length
theorem Part.start (ws : List Int) : Part ws [] 0 := ⟨ws, rfl, by simp, rfl⟩
theorem Part.le {ws : List Int} {os : List Ob} {k : Nat} (h : Part ws os k) : k ≤ ws.length := by
  obtain ⟨rest, h1, _, h3⟩ := h
  rw [h1, List.length_append]; omega
theorem Part.done {ws : List Int} {os : List Ob} (h : Part ws os ws.length) : Laid ws os := by
  obtain ⟨rest, h1, h2, h3⟩ := h
  refine ⟨?_, h2⟩
  have : rest.length = 0 := by rw [h1, List.length_append] at h3; omega
  rw [h1, List.eq_nil_of_length_eq_zero this, List.append_nil]
theorem Part.next {ws : List Int} {os : List Ob} {k : Nat} (h : Part ws os k) {n : Int} (hn : ws[k]? = some n) :
    (¬ (isHead n ∧ k + 1 + n % 256 ≤ (ws.length : Int)) ∧ Broken ws os) ∨
    ∃ fs, isHead n ∧ k + 1 + n % 256 ≤ (ws.length : Int) ∧ (fs.length : Int) = n % 256 ∧ Part ws (os ++ [(n, fs)]) (k + 1 + fs.length) ∧ ∀ j x, fs[j]? = some x → ws[k + 1 + j]? = some x := by
  obtain ⟨rest, h1, h2, h3⟩ := h
  cases rest with
  | nil =>
    rw [List.append_nil] at h1
    rw [h3, h1, List.getElem?_eq_none (Nat.le_refl _)] at hn; cases hn
  | cons n' t =>
    have : n' = n := by
      rw [h1, h3, List.getElem?_append_right (Nat.le_refl _), Nat.sub_self] at hn
      simpa using hn
    subst this
    have hl : ws.length = k + 1 + t.length := by rw [h1, List.length_append, List.length_cons]; omega
    by_cases hg : isHead n' ∧ n' % 256 ≤ (t.length : Int)
    · obtain ⟨g1, g2⟩ := hg
      have g0 := (isHead_len g1).1
      obtain ⟨m, hm⟩ : ∃ m : Nat, n' % 256 = m := ⟨(n' % 256).toNat, by omega⟩
      have hml : m ≤ t.length := by omega
      have hfl : (t.take m).length = m := by rw [List.length_take]; omega
      refine .inr ⟨t.take m, g1, by omega, by rw [hfl, hm], ⟨t.drop m, ?_, ?_, ?_⟩, ?_⟩
      · rw [flat_append, flat_one, h1, List.append_assoc, List.cons_append, List.take_append_drop]
      · intro o ho
        rcases List.mem_append.1 ho with h | h
        · exact h2 o h
        · simp at h; subst h; exact ⟨g1, by show ((t.take m).length : Int) = n' % 256; omega⟩
      · rw [flat_append, flat_one, List.length_append, List.length_cons]; simp only []; omega
      · intro j x hx
        have hj := (List.getElem?_eq_some_iff.1 hx).1
        rw [hfl] at hj
        rw [List.getElem?_take_of_lt hj] at hx
        rw [h1, h3, List.getElem?_append_right (by omega), show (flat os).length + 1 + j - (flat os).length = j + 1 by omega, List.getElem?_cons_succ]; exact hx
    · exact .inl ⟨fun h => hg ⟨h.1, by have := h.2; omega⟩, n', t, h1, h2, hg⟩

/-! ### Places -/
theorem place_zero (os : List Ob) : place os 0 = 0 := rfl
theorem place_succ {os : List Ob} {k : Nat} {o : Ob} (h : os[k]? = some o) : place os (k + 1) = place os k + 1 + o.2.length := by
  unfold place
  rw [take_succ_some _ _ _ h, flat_append, List.length_append, flat_one, List.length_cons]; omega
theorem place_all (os : List Ob) : place os os.length = (flat os).length := by unfold place; rw [List.take_length]
theorem place_mono {os : List Ob} {j k : Nat} (h : j ≤ k) : place os j ≤ place os k := by
  unfold place
  have : os.take k = os.take j ++ (os.take k).drop j := by
    rw [show os.take j = (os.take k).take j by rw [List.take_take]; congr 1; omega, List.take_append_drop]
  rw [this, flat_append, List.length_append]; omega
theorem place_lt {os : List Ob} {j k : Nat} (h : j < k) (hj : j < os.length) : place os j < place os k := by
  have h1 := place_succ (List.getElem?_eq_getElem hj)
  have h2 := place_mono (os := os) (show j + 1 ≤ k by omega)
  omega
theorem place_inj {os : List Ob} {j k : Nat} (hj : j < os.length) (hk : k < os.length) (h : place os j = place os k) : j = k := by
  rcases Nat.lt_trichotomy j k with h1 | h1 | h1
  · have := place_lt h1 hj; omega
  · exact h1
  · have := place_lt h1 hk; omega
theorem flat_part {os : List Ob} {k : Nat} {o : Ob} (h : os[k]? = some o) : flat os = flat (os.take k) ++ (o.1 :: (o.2 ++ flat (os.drop (k + 1)))) := by
  conv => lhs; rw [← List.take_append_drop (k + 1) os, take_succ_some _ _ _ h, flat_append, flat_append, flat_one]
  simp
theorem Laid.head {ws : List Int} {os : List Ob} (hL : Laid ws os) {k : Nat} {o : Ob} (h : os[k]? = some o) : ws[place os k]? = some o.1 := by
  unfold place; rw [hL.1, flat_part h, List.getElem?_append_right (Nat.le_refl _)]; simp
theorem Laid.field {ws : List Int} {os : List Ob} (hL : Laid ws os) {k : Nat} {o : Ob} (h : os[k]? = some o) {j : Nat} {x : Int} (hx : o.2[j]? = some x) : ws[place os k + 1 + j]? = some x := by
  rw [hL.1, flat_part h, List.getElem?_append_right (by unfold place; omega), show place os k + 1 + j - (flat (os.take k)).length = j + 1 by unfold place; omega, List.getElem?_cons_succ, List.getElem?_append_left (List.getElem?_eq_some_iff.1 hx).1]; exact hx
theorem Laid.fit {ws : List Int} {os : List Ob} (hL : Laid ws os) {k : Nat} {o : Ob} (h : os[k]? = some o) : place os k + 1 + o.2.length ≤ ws.length := by
  rw [← place_succ h, hL.1, ← place_all]
  exact place_mono (List.getElem?_eq_some_iff.1 h).1
theorem Laid.good {ws : List Int} {os : List Ob} (hL : Laid ws os) {k : Nat} {o : Ob} (h : os[k]? = some o) : isHead o.1 ∧ (o.2.length : Int) = o.1 % 256 ∧ o.2.length ≤ 4 := by
  have := hL.2 o (List.mem_of_getElem? h)
  have h1 := isHead_len this.1
  have h2 := this.2
  exact ⟨this.1, h2, by omega⟩
theorem Laid.count {ws : List Int} {os : List Ob} (hL : Laid ws os) : os.length ≤ ws.length := by
  rw [hL.1]
  clear hL
  induction os with
  | nil => simp
  | cons o os ih => rw [flat_cons, List.length_cons, List.length_cons, List.length_append]; omega
theorem starts_len (os : List Ob) : (starts os).length = os.length := by simp [starts]
theorem starts_get {os : List Ob} {k : Nat} (h : k < os.length) : (starts os)[k]? = some (place os k : Int) := by simp [starts, h]
theorem starts_mem {os : List Ob} {x : Int} : x ∈ starts os ↔ ∃ k, k < os.length ∧ x = place os k := by
  unfold starts
  rw [List.mem_map]
  constructor
  · rintro ⟨k, hk, rfl⟩; exact ⟨k, List.mem_range.1 hk, rfl⟩
  · rintro ⟨k, hk, rfl⟩; exact ⟨k, List.mem_range.2 hk, rfl⟩
theorem starts_snoc (os : List Ob) (o : Ob) : starts (os ++ [o]) = starts os ++ [((flat os).length : Int)] := by
  unfold starts
  rw [List.length_append, List.length_singleton, List.range_succ, List.map_append]
  congr 1
  · refine List.map_congr_left fun k hk => ?_
    have := List.mem_range.1 hk
    unfold place; rw [List.take_append_of_le_length (by omega)]
  · simp [place]
theorem starts_64 {ws : List Int} {os : List Ob} (hL : Laid ws os) (h : ws.length ≤ 1000000) : ∀ x ∈ starts os, i64ok x := by
  intro x hx
  obtain ⟨k, hk, rfl⟩ := starts_mem.1 hx
  have := place_mono (os := os) (Nat.le_of_lt hk)
  rw [place_all, ← hL.1] at this
  unfold i64ok; omega
end Go.Proofs.Ytigdpdndnghldaa
