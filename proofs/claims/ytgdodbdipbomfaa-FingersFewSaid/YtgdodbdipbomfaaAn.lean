/- arena.Read's closure: words as values, walked. -/
import Derived.Test.YtgdodbdipbomfaaAi
import Derived.Test.YtgdodbdipbomfaaBase3
namespace Go.Proofs.Ytgdodbdipbomfaa
open Go.RowKit Go.Shelf

theorem starts_rise (os : List Ob) : (starts os).Pairwise (· < ·) := by
  unfold starts
  rw [List.pairwise_map]
  rw [List.pairwise_iff_getElem]
  intro i j hi hj hij
  simp at hi hj ⊢
  have := place_lt hij hi
  omega
/-- The number of the object that begins at a place. -/
def idx (os : List Ob) (y : Int) : Nat := (starts os).countP (· < y)
def valG (os : List Ob) (x : Int) : V := if x % 2 = 1 then ⟨false, wrap64 x / 2⟩ else ⟨true, (idx os (x / 2) : Int)⟩
def readG (os : List Ob) (rs : List Int) : G := ⟨os.map fun o => o.2.map (valG os), rs.map (valG os)⟩
theorem idx_le (os : List Ob) (y : Int) : idx os y ≤ os.length := by unfold idx; rw [← starts_len os]; exact List.countP_le_length
theorem countP_lt_of : ∀ (l : List Int) (k : Nat) (x : Int), l.Pairwise (· < ·) → l[k]? = some x → l.countP (· < x) = k
  | [], k, x, _, h => by simp at h
  | a :: l, 0, x, hp, h => by
    simp at h; subst h
    rw [List.countP_eq_zero.2]
    intro y hy
    rcases List.mem_cons.1 hy with rfl | hy
    · simp
    · have := (List.pairwise_cons.1 hp).1 y hy
      simp; omega
  | a :: l, k + 1, x, hp, h => by
    have h' : l[k]? = some x := by simpa using h
    have h1 := (List.pairwise_cons.1 hp).1 x (List.mem_of_getElem? h')
    rw [List.countP_cons_of_pos (by simp; exact h1), countP_lt_of l k x (List.pairwise_cons.1 hp).2 h']
theorem idx_place {os : List Ob} {k : Nat} (h : k < os.length) : idx os (place os k) = k := countP_lt_of _ _ _ (starts_rise os) (starts_get h)
theorem valG_64 (os : List Ob) (ho : os.length ≤ 1000) (x : Int) (h : w64 x) : i64ok (valG os x).n := by
  unfold valG
  split
  · unfold i64ok wrap64; obtain ⟨h0, h1⟩ := h; simp only []; omega
  · have := idx_le os (x / 2)
    unfold i64ok; simp only []; omega
theorem elemVals' : Elem Try.prog 34 96 2 16 (.agg #[.bool false, .int .i64 0]) := elemVals
theorem search_any (sv : Value) (os : List Ob) (y : Int) (w : World) (h : IsInts w sv (starts os)) (hl : os.length ≤ 256) :
    Calls Try.prog 62 #[sv, .int .i64 y] w fun e w' => (∃ b, e = .returned (.tuple #[.int .i64 (idx os y : Nat), .bool b])) ∧ ∃ q, w' = w.drewN q := by
  obtain ⟨a, c, rfl, _⟩ := h.slice
  have hsl := starts_len os
  rcases Nat.eq_zero_or_pos os.length with h0 | h0
  · have hn : (starts os).length = 0 := by omega
    have hs : starts os = [] := List.eq_nil_of_length_eq_zero hn
    rw [hn]
    refine (Try.slices_BinarySearch_int_empty a c y w).mono ?_
    rintro e w' ⟨rfl, rfl⟩
    exact ⟨⟨false, by unfold idx; rw [hs]; rfl⟩, 0, rfl⟩
  · obtain ⟨b, off, cap, hv, _⟩ := h.at (Below.refl _ _) (starts_get h0)
    cases hv
    refine (Try.slices_BinarySearch_int b off (starts os).length c (starts os) y w (Nat.le_refl _) (by omega) ?_ ?_).mono ?_
    · intro j hj
      obtain ⟨b', off', cap', hv, _, _, hc, _⟩ := h.at (Below.refl _ _) (List.getElem?_eq_getElem hj)
      cases hv
      rw [hc, List.getD_eq_getElem?_getD, List.getElem?_eq_getElem hj]; rfl
    · rw [List.take_length]; exact (starts_rise os).imp (fun h => by omega)
    · rw [List.take_length]
      rintro e w' ⟨rfl, hq⟩
      exact ⟨⟨_, rfl⟩, hq⟩
end Go.Proofs.Ytgdodbdipbomfaa
