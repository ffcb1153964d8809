/- GraphRenamed, the plain law: a rotated graph, and one with an object more, have the same Canon. -/
import Derived.Test.YtjeaaiklbefmmaaIs
import Derived.Test.YtjeaaiklbefmmaaRo
namespace Go.Proofs.Ytjeaaiklbefmmaa

def idx (n : Nat) : List Int := (List.range n).map Int.ofNat
theorem mem_idx {n : Nat} {x : Int} : x ∈ idx n ↔ 0 ≤ x ∧ x < n := by
  unfold idx
  rw [List.mem_map]
  constructor
  · rintro ⟨i, hi, rfl⟩; have := List.mem_range.1 hi; show 0 ≤ (i : Int) ∧ (i : Int) < n; omega
  · intro h; exact ⟨x.toNat, List.mem_range.2 (by omega), by show ((x.toNat : Nat) : Int) = x; omega⟩

theorem plc_get : ∀ (l : List Int) (y : Int) (o i : Nat), l[i]? = some y → (∀ j, j < i → l[j]? ≠ some y) → plc l y o = ((o + i : Nat) : Int) := by
  intro l
  induction l with
  | nil => intro y o i h; simp at h
  | cons x xs ih =>
    intro y o i h hf
    unfold plc
    cases i with
    | zero => simp at h; subst h; simp
    | succ i =>
      have hx : x ≠ y := by intro e; exact hf 0 (by omega) (by simp [e])
      rw [if_neg hx, ih y (o + 1) i (by simpa using h) (fun j hj => by have := hf (j + 1) (by omega); simpa using this)]
      congr 1; omega
theorem rot_get {n k i : Nat} (h : i < n) : (rot n k)[i]? = some (((i + k) % n : Nat) : Int) := by simp [rot, h]
theorem rot_inj {n k i j : Nat} (hi : i < n) (hj : j < n) (hk : k < n) (h : (i + k) % n = (j + k) % n) : i = j := by
  rcases Nat.lt_or_ge (i + k) n with h1 | h1 <;> rcases Nat.lt_or_ge (j + k) n with h2 | h2
  · rw [Nat.mod_eq_of_lt h1, Nat.mod_eq_of_lt h2] at h; omega
  · rw [Nat.mod_eq_of_lt h1, Nat.mod_eq_sub_mod h2, Nat.mod_eq_of_lt (by omega)] at h; omega
  · rw [Nat.mod_eq_of_lt h2, Nat.mod_eq_sub_mod h1, Nat.mod_eq_of_lt (by omega)] at h; omega
  · rw [Nat.mod_eq_sub_mod h1, Nat.mod_eq_of_lt (show i + k - n < n by omega), Nat.mod_eq_sub_mod h2, Nat.mod_eq_of_lt (by omega)] at h; omega
theorem rot_has {n k : Nat} (hk : k < n) {a : Nat} (ha : a < n) : ∃ i, i < n ∧ (i + k) % n = a := by
  rcases Nat.lt_or_ge a k with h | h
  · exact ⟨a + n - k, by omega, by rw [show a + n - k + k = a + n by omega, Nat.add_mod_right, Nat.mod_eq_of_lt ha]⟩
  · exact ⟨a - k, by omega, by rw [show a - k + k = a by omega, Nat.mod_eq_of_lt ha]⟩
/-- Where a number stands in the rotated row. -/
theorem rot_plc {n k : Nat} (hk : k < n) {x : Int} (hx : 0 ≤ x ∧ x < n) : ∃ i, i < n ∧ plc (rot n k) x 0 = (i : Int) ∧ (rot n k)[i]? = some x := by
  obtain ⟨i, hi, he⟩ := rot_has hk (show x.toNat < n by omega)
  have hg : (rot n k)[i]? = some x := by rw [rot_get hi, he]; congr 1; omega
  refine ⟨i, hi, ?_, hg⟩
  rw [plc_get _ x 0 i hg ?_, Nat.zero_add]
  intro j hj e
  rw [rot_get (by omega)] at e
  have e2 : (j + k) % n = (i + k) % n := by rw [he]; injection e with e; omega
  have := rot_inj (by omega) hi hk e2
  omega

theorem good_targets {g : G} (hG : Good g) : (∀ j ∈ targets g.roots, j ∈ idx g.objs.length) ∧ ∀ x j, j ∈ targets (fieldsAt g x) → j ∈ idx g.objs.length :=
  ⟨fun _ hj => mem_idx.2 (hG.target (roots_all g) hj), fun x _ hj => mem_idx.2 (hG.target (fields_all g x) hj)⟩

theorem iso_rot {g : G} (hG : Good g) {k : Nat} (hk : k < g.objs.length) : Iso g (renumP g (rot g.objs.length k) (fun y => plc (rot g.objs.length k) y 0)) (idx g.objs.length) (fun y => plc (rot g.objs.length k) y 0) := by
  have hlen : (renumP g (rot g.objs.length k) (fun y => plc (rot g.objs.length k) y 0)).objs.length = g.objs.length := by simp [renumP, length_rot]
  obtain ⟨ht1, ht2⟩ := good_targets hG
  refine ⟨?_, ?_, rfl, ht1, ?_, fun x _ j hj => ht2 x j hj⟩
  · intro x hx
    have h1 := mem_idx.1 hx
    obtain ⟨i, hi, he, _⟩ := rot_plc hk h1
    rw [hlen]
    simp only [he]
    omega
  · intro x hx y hy h
    obtain ⟨i, hi, he, hg⟩ := rot_plc hk (mem_idx.1 hx)
    obtain ⟨j, hj, he2, hg2⟩ := rot_plc hk (mem_idx.1 hy)
    simp only [he, he2] at h
    have : i = j := by omega
    subst this
    rw [hg] at hg2; cases hg2; rfl
  · intro x hx
    obtain ⟨i, hi, he, hg⟩ := rot_plc hk (mem_idx.1 hx)
    simp only [he]
    show ((rot g.objs.length k).map _).getD (i : Int).toNat [] = _
    rw [Int.toNat_natCast, List.getD_eq_getElem?_getD, List.getElem?_map, hg]; rfl

theorem good_rot {g : G} (hG : Good g) {k : Nat} (hk : k < g.objs.length) : Good (renumP g (rot g.objs.length k) (fun y => plc (rot g.objs.length k) y 0)) := by
  have hlen : (renumP g (rot g.objs.length k) (fun y => plc (rot g.objs.length k) y 0)).objs.length = g.objs.length := by simp [renumP, length_rot]
  have hv : ∀ v ∈ allV g, badC (turnV (fun y => plc (rot g.objs.length k) y 0) v) g.objs.length = 0 := by
    intro v hv
    have h := hG.vals v hv
    obtain ⟨r, n⟩ := v
    cases r
    · exact h
    · unfold badC at h
      simp only [if_true] at h
      split at h
      · cases h
      · obtain ⟨i, hi, he, _⟩ := rot_plc hk (show 0 ≤ n ∧ n < (g.objs.length : Int) by omega)
        simp only [turnV, if_true, he, badC]
        rw [if_neg (by omega)]
  refine ⟨by rw [hlen]; exact hG.objs, by simpa [renumP] using hG.roots, ?_, ?_⟩
  · intro o ho
    obtain ⟨x, _, rfl⟩ := List.mem_map.1 ho
    rw [List.length_map]; exact fieldsAt_len hG x
  · rw [hlen]
    intro v hv2
    rcases List.mem_append.1 hv2 with h | h
    · obtain ⟨z, hz, rfl⟩ := List.mem_map.1 h
      exact hv z (roots_all g z hz)
    · obtain ⟨o, ho, hvo⟩ := List.mem_flatten.1 h
      obtain ⟨x, _, rfl⟩ := List.mem_map.1 ho
      obtain ⟨z, hz, rfl⟩ := List.mem_map.1 hvo
      exact hv z (fields_all g x z hz)

def more (g : G) : G := ⟨g.objs ++ [[⟨true, 0⟩]], g.roots⟩
theorem turn_id {p : Int → Int} {l : List V} (h : ∀ x, p x = x) : l.map (turnV p) = l := by
  conv => rhs; rw [← List.map_id l]
  apply List.map_congr_left
  intro v _
  obtain ⟨r, n⟩ := v
  cases r <;> simp [turnV, h]
theorem iso_more {g : G} (hG : Good g) : Iso g (more g) (idx g.objs.length) (fun y => y) := by
  obtain ⟨ht1, ht2⟩ := good_targets hG
  refine ⟨?_, fun x _ y _ h => h, (turn_id (fun _ => rfl)).symm, ht1, ?_, fun x _ j hj => ht2 x j hj⟩
  · intro x hx
    have := mem_idx.1 hx
    simp [more]; omega
  · intro x hx
    have := mem_idx.1 hx
    rw [turn_id (fun _ => rfl)]
    unfold fieldsAt more
    rw [List.getD_eq_getElem?_getD, List.getD_eq_getElem?_getD, List.getElem?_append_left (by omega)]
theorem good_more {g : G} (hG : Good g) (hn : g.objs.length < 24) : Good (more g) := by
  refine ⟨by simp [more]; omega, hG.roots, ?_, ?_⟩
  · intro o ho
    rcases List.mem_append.1 ho with h | h
    · exact hG.fields o h
    · simp at h; subst h; simp
  · intro v hv
    have hlen : (more g).objs.length = g.objs.length + 1 := by simp [more]
    rw [hlen]
    have hold : ∀ v ∈ allV g, badC v ((g.objs.length + 1 : Nat) : Int) = 0 := by
      intro v hv
      have h := hG.vals v hv
      unfold badC at h ⊢
      split
      · rename_i hr
        rw [if_pos hr] at h
        split at h
        · cases h
        · rw [if_neg (by omega)]
      · rename_i hr
        rw [if_neg hr] at h
        exact h
    rcases List.mem_append.1 hv with h | h
    · exact hold v (roots_all g v h)
    · simp only [more, List.flatten_append, List.mem_append] at h
      rcases h with h | h
      · exact hold v (List.mem_append_right _ h)
      · simp at h; subst h; simp [badC]
end Go.Proofs.Ytjeaaiklbefmmaa
