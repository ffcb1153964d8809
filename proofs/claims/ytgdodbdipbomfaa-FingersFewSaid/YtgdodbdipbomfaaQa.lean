/- Two fingers: who comes to stand where. Plain. -/
import Derived.Test.YtgdodbdipbomfaaBo
import Derived.Test.YtgdodbdipbomfaaSg
namespace Go.Proofs.Ytgdodbdipbomfaa
open Go.RowKit

/-- A tells who stands in the first places; between lo and h nothing is decided. -/
structure FI (F : List Int) (n lo h : Nat) (A : List Int) : Prop where
  len : A.length = lo
  loh : lo ≤ h
  hn : h ≤ n
  nodup : A.Nodup
  sub : ∀ x ∈ A, x ∈ F
  live : ∀ x ∈ F, x ∈ A ∨ ((lo : Int) ≤ x ∧ x < (h : Int))
  stay : ∀ k : Nat, k < lo → (k : Int) ∈ F → A[k]? = some (k : Int)
  from_ : ∀ (k : Nat) (x : Int), A[k]? = some x → x = (k : Int) ∨ ((k : Int) ∉ F ∧ (h : Int) ≤ x)
theorem snoc_at {A : List Int} {y : Int} {k : Nat} {x : Int} (h : (A ++ [y])[k]? = some x) : A[k]? = some x ∨ (k = A.length ∧ x = y) := by
  rcases Nat.lt_or_ge k A.length with hk | hk
  · rw [List.getElem?_append_left hk] at h; exact .inl h
  · rw [List.getElem?_append_right hk] at h
    rcases Nat.eq_zero_or_pos (k - A.length) with h0 | h0
    · rw [h0] at h
      simp only [List.getElem?_cons_zero, Option.some.injEq] at h
      exact .inr ⟨by omega, h.symm⟩
    · rw [List.getElem?_eq_none (by simp; omega)] at h; cases h
theorem nodup_snoc' {M : List Int} {x : Int} (h : M.Nodup) (hx : x ∉ M) : (M ++ [x]).Nodup := by
  rw [List.nodup_append]
  refine ⟨h, by simp, ?_⟩
  intro a ha b hb e
  simp at hb; subst hb e; exact hx ha
section
variable {F A : List Int} {n lo h : Nat}
theorem FI.start (hr : ∀ x ∈ F, 0 ≤ x ∧ x < (n : Int)) : FI F n 0 n [] :=
  ⟨rfl, Nat.zero_le _, Nat.le_refl _, List.nodup_nil, by simp, fun x hx => .inr (by have := hr x hx; omega), fun k hk => absurd hk (by omega), fun k x hx => by simp at hx⟩
theorem FI.out (I : FI F n lo h A) {x : Int} (h1 : (lo : Int) ≤ x) (h2 : x < (h : Int)) : x ∉ A := by
  intro hx
  obtain ⟨k, hk⟩ := List.getElem?_of_mem hx
  have hkl := (List.getElem?_eq_some_iff.1 hk).1
  have := I.len
  rcases I.from_ k x hk with e | ⟨_, e⟩ <;> omega
theorem FI.keep (I : FI F n lo h A) (hl : lo < h) (hF : (lo : Int) ∈ F) : FI F n (lo + 1) h (A ++ [(lo : Int)]) := by
  have hl0 := I.len
  refine ⟨by simp [hl0], by omega, I.hn, nodup_snoc' I.nodup (I.out (by omega) (by omega)), ?_, ?_, ?_, ?_⟩
  · intro x hx
    rcases List.mem_append.1 hx with h1 | h1
    · exact I.sub x h1
    · simp at h1; subst h1; exact hF
  · intro x hx
    rcases I.live x hx with h1 | h1
    · exact .inl (List.mem_append_left _ h1)
    · by_cases e : x = lo
      · subst e; exact .inl (by simp)
      · exact .inr (by omega)
  · intro k hk hkF
    rcases Nat.lt_or_ge k lo with h1 | h1
    · rw [List.getElem?_append_left (by omega)]; exact I.stay k h1 hkF
    · obtain rfl : k = lo := by omega
      rw [List.getElem?_append_right (by omega), hl0]; simp
  · intro k x hx
    rcases snoc_at hx with h1 | ⟨h1, h2⟩
    · exact I.from_ k x h1
    · left; rw [h2, h1, hl0]
theorem FI.drop (I : FI F n lo h A) (hl : lo + 1 < h) (hF : ((h - 1 : Nat) : Int) ∉ F) : FI F n lo (h - 1) A := by
  refine ⟨I.len, by omega, by have := I.hn; omega, I.nodup, I.sub, ?_, I.stay, ?_⟩
  · intro x hx
    rcases I.live x hx with h1 | h1
    · exact .inl h1
    · refine .inr ⟨h1.1, ?_⟩
      have : x ≠ ((h - 1 : Nat) : Int) := by rintro rfl; exact hF hx
      omega
  · intro k x hx
    rcases I.from_ k x hx with e | ⟨h1, h2⟩
    · exact .inl e
    · exact .inr ⟨h1, by omega⟩
theorem FI.move (I : FI F n lo h A) (hl : lo + 1 < h) (hF : (lo : Int) ∉ F) (hh : ((h - 1 : Nat) : Int) ∈ F) : FI F n (lo + 1) (h - 1) (A ++ [((h - 1 : Nat) : Int)]) := by
  have hl0 := I.len
  refine ⟨by simp [hl0], by omega, by have := I.hn; omega, nodup_snoc' I.nodup (I.out (by omega) (by omega)), ?_, ?_, ?_, ?_⟩
  · intro x hx
    rcases List.mem_append.1 hx with h1 | h1
    · exact I.sub x h1
    · simp only [List.mem_singleton] at h1; subst h1; exact hh
  · intro x hx
    rcases I.live x hx with h1 | h1
    · exact .inl (List.mem_append_left _ h1)
    · by_cases e : x = ((h - 1 : Nat) : Int)
      · subst e; exact .inl (by simp)
      · have : x ≠ (lo : Int) := by rintro rfl; exact hF hx
        exact .inr (by omega)
  · intro k hk hkF
    rcases Nat.lt_or_ge k lo with h1 | h1
    · rw [List.getElem?_append_left (by omega)]; exact I.stay k h1 hkF
    · obtain rfl : k = lo := by omega
      exact absurd hkF hF
  · intro k x hx
    rcases snoc_at hx with h1 | ⟨h1, h2⟩
    · rcases I.from_ k x h1 with e | ⟨h3, h4⟩
      · exact .inl e
      · exact .inr ⟨h3, by omega⟩
    · right
      rw [h1, hl0, h2]; exact ⟨hF, Int.le_refl _⟩
theorem FI.all (I : FI F n lo h A) (hl : h ≤ lo + 1) (hF : lo < h → (lo : Int) ∉ F) (x : Int) : x ∈ A ↔ x ∈ F := by
  refine ⟨I.sub x, fun hx => ?_⟩
  rcases I.live x hx with h1 | h1
  · exact h1
  · have : x = (lo : Int) := by omega
    subst this
    exact absurd hx (hF (by omega))
end
/-- Who went, and where to. -/
def wentF (os : List Ob) (A : List Int) : Int → Option Value := fun u =>
  if u ∈ starts os ∧ (idx os u : Int) ∈ A ∧ plc A (idx os u) 0 ≠ (idx os u : Int) then some (.int .i64 (place os (plc A (idx os u) 0).toNat : Nat)) else none
/-- The places that are filled by others. -/
def holes (A : List Int) : List Int := (upTo A.length).filter fun k => decide (A[k.toNat]? ≠ some k)
theorem plc_snoc_old {A : List Int} (hn : A.Nodup) {y x : Int} (hx : x ∈ A) (hy : y ∉ A) : plc (A ++ [y]) x 0 = plc A x 0 := by
  obtain ⟨k, hk⟩ := List.getElem?_of_mem hx
  rw [plc_at hn hk, plc_at (nodup_snoc' hn hy) (k := k)]
  rw [List.getElem?_append_left (List.getElem?_eq_some_iff.1 hk).1]; exact hk
theorem plc_snoc_new {A : List Int} (hn : A.Nodup) {y : Int} (hy : y ∉ A) : plc (A ++ [y]) y 0 = (A.length : Int) :=
  plc_at (nodup_snoc' hn hy) (by simp)
theorem wentF_nil (os : List Ob) : wentF os [] = fun _ => none := by
  funext u; unfold wentF; rw [if_neg (by simp)]
theorem wentF_keep {os : List Ob} {A : List Int} (hn : A.Nodup) {k : Nat} (hk : k = A.length) (hA : (k : Int) ∉ A) : wentF os (A ++ [(k : Int)]) = wentF os A := by
  funext u
  unfold wentF
  by_cases hi : (idx os u : Int) = k
  · rw [if_neg, if_neg]
    · rintro ⟨_, h, _⟩; rw [hi] at h; exact hA h
    · rintro ⟨_, _, h⟩; rw [hi, plc_snoc_new hn hA, hk] at h; exact h rfl
  · by_cases hm : (idx os u : Int) ∈ A
    · rw [plc_snoc_old hn hm hA]
      simp [hm]
    · rw [if_neg, if_neg]
      · rintro ⟨_, h, _⟩; exact hm h
      · rintro ⟨_, h, _⟩
        rcases List.mem_append.1 h with h1 | h1
        · exact hm h1
        · simp only [List.mem_singleton] at h1; exact hi h1
theorem wentF_move {os : List Ob} {A : List Int} (hn : A.Nodup) {x lo : Nat} (hx : x < os.length) (hlo : lo = A.length) (hne : x ≠ lo) (hA : (x : Int) ∉ A) :
    wentF os (A ++ [(x : Int)]) = fun (u : Int) => if u = (place os x : Int) then some (.int .i64 (place os lo : Nat)) else wentF os A u := by
  funext u
  by_cases e : u = (place os x : Int)
  · subst e
    rw [if_pos rfl]
    unfold wentF
    rw [idx_place hx, plc_snoc_new hn hA, if_pos ⟨starts_mem.2 ⟨x, hx, rfl⟩, by simp, by omega⟩, Int.toNat_natCast, hlo]
  · rw [if_neg e]
    unfold wentF
    by_cases hu : u ∈ starts os
    · obtain ⟨k, hk, rfl⟩ := starts_mem.1 hu
      have hkx : (k : Int) ≠ (x : Int) := by intro h2; exact e (by rw [Int.ofNat_inj.1 h2])
      rw [idx_place hk]
      by_cases hm : (k : Int) ∈ A
      · rw [plc_snoc_old hn hm hA]; simp [hm]
      · rw [if_neg, if_neg]
        · rintro ⟨_, h, _⟩; exact hm h
        · rintro ⟨_, h, _⟩
          rcases List.mem_append.1 h with h1 | h1
          · exact hm h1
          · simp only [List.mem_singleton] at h1; exact hkx h1
    · rw [if_neg (fun h => hu h.1), if_neg (fun h => hu h.1)]
theorem holes_nil : holes [] = [] := rfl
theorem holes_snoc (A : List Int) (y : Int) : holes (A ++ [y]) = holes A ++ (if y = (A.length : Int) then [] else [(A.length : Int)]) := by
  unfold holes
  rw [List.length_append, List.length_singleton]
  have h1 : upTo (A.length + 1) = upTo A.length ++ [(A.length : Int)] := by unfold upTo; rw [List.range_succ, List.map_append]; rfl
  rw [h1, List.filter_append]
  congr 1
  · refine List.filter_congr fun k hk => ?_
    have := mem_upTo.1 hk
    rw [List.getElem?_append_left (by omega)]
  · by_cases e : y = (A.length : Int)
    · rw [if_pos e]; simp [e]
    · rw [if_neg e]; simp [e]
end Go.Proofs.Ytgdodbdipbomfaa
