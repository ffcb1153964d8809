/- Going through an arena by turning its references round. Plain: what holds on the way. -/
import Derived.Test.YtgdodbdipbomfaaKa
namespace Go.Proofs.Ytgdodbdipbomfaa
open Go.RowKit

def inc (D : Int → Nat) (c : Int) : Int → Nat := fun i => if i = c then D i + 1 else D i
theorem inc_self (D : Int → Nat) (c : Int) : inc D c c = D c + 1 := by unfold inc; rw [if_pos rfl]
theorem inc_ne (D : Int → Nat) {c i : Int} (h : i ≠ c) : inc D c i = D i := by unfold inc; rw [if_neg h]
/-- Each field that is turned round held what stands behind it on the way. -/
def Link (os : List Ob) (D : Int → Nat) : Int → List Int → Prop
  | _, [] => True
  | c, p :: T => (obj os p).2[D p]? = some (2 * (place os c.toNat : Int)) ∧ Link os D p T
theorem link_ext {os : List Ob} {D D' : Int → Nat} : ∀ {T : List Int} {c : Int}, (∀ t ∈ T, D t = D' t) → Link os D c T → Link os D' c T
  | [], _, _, _ => trivial
  | p :: T, c, h, hl => ⟨by rw [← h p List.mem_cons_self]; exact hl.1, link_ext (fun t ht => h t (List.mem_cons_of_mem _ ht)) hl.2⟩
/-- Some word of l is a reference to x. -/
def HasRef (os : List Ob) (l : List Int) (x : Int) : Prop := ∃ y ∈ l, y % 2 = 0 ∧ (idx os (y / 2) : Int) = x
/-- Each object came from a root, or from one that came ahead of it. -/
def Came (os : List Ob) (rs M : List Int) : Prop := ∀ (k : Nat) (x : Int), M[k]? = some x → HasRef os rs x ∨ ∃ (j : Nat) (z : Int), j < k ∧ M[j]? = some z ∧ HasRef os (obj os z).2 x
def Gone (os : List Ob) (D : Int → Nat) (M : List Int) : Prop := ∀ i ∈ M, ∀ j, j < D i → ∀ x, (obj os i).2[j]? = some x → x % 2 = 0 → (idx os (x / 2) : Int) ∈ M
/-- Where nobody is on the way. -/
structure VR (os : List Ob) (rs F M : List Int) (D : Int → Nat) : Prop where
  nodup : M.Nodup
  sub : ∀ x ∈ M, x ∈ F
  fin : ∀ i ∈ M, D i = (obj os i).2.length
  new : ∀ i, i ∉ M → D i = 0
  gone : Gone os D M
  came : Came os rs M
/-- Where one stands at c, and T is the way back. -/
structure VI (os : List Ob) (rs F M : List Int) (D : Int → Nat) (T : List Int) (c : Int) : Prop where
  nodup : M.Nodup
  sub : ∀ x ∈ M, x ∈ F
  tn : (c :: T).Nodup
  tm : ∀ t ∈ c :: T, t ∈ M
  link : Link os D c T
  dle : ∀ i ∈ M, D i ≤ (obj os i).2.length
  fin : ∀ i ∈ M, i ∉ c :: T → D i = (obj os i).2.length
  new : ∀ i, i ∉ M → D i = 0
  gone : Gone os D M
  came : Came os rs M
theorem came_snoc {os : List Ob} {rs M : List Int} {x : Int} (h : Came os rs M) (hx : HasRef os rs x ∨ ∃ z ∈ M, HasRef os (obj os z).2 x) : Came os rs (M ++ [x]) := by
  intro k y hy
  rcases Nat.lt_or_ge k M.length with hk | hk
  · rw [List.getElem?_append_left hk] at hy
    rcases h k y hy with h1 | ⟨j, z, hj, hz, h1⟩
    · exact .inl h1
    · exact .inr ⟨j, z, hj, by rw [List.getElem?_append_left (by omega)]; exact hz, h1⟩
  · rw [List.getElem?_append_right hk] at hy
    have hk0 : k - M.length = 0 := by
      rcases Nat.eq_zero_or_pos (k - M.length) with h0 | h0
      · exact h0
      · rw [List.getElem?_eq_none (by simp; omega)] at hy; cases hy
    rw [hk0] at hy
    simp only [List.getElem?_cons_zero, Option.some.injEq] at hy
    subst hy
    rcases hx with h1 | ⟨z, hz, h1⟩
    · exact .inl h1
    · obtain ⟨j, hj⟩ := List.getElem?_of_mem hz
      have hjl := (List.getElem?_eq_some_iff.1 hj).1
      exact .inr ⟨j, z, by omega, by rw [List.getElem?_append_left hjl]; exact hj, h1⟩
theorem nodup_snoc {M : List Int} {x : Int} (h : M.Nodup) (hx : x ∉ M) : (M ++ [x]).Nodup := by
  rw [List.nodup_append]
  refine ⟨h, by simp, ?_⟩
  intro a ha b hb e
  simp at hb; subst hb e; exact hx ha
theorem gone_snoc {os : List Ob} {D : Int → Nat} {M : List Int} {x : Int} (h : Gone os D M) (hx : D x = 0) : Gone os D (M ++ [x]) := by
  intro i hi j hj y hy he
  rcases List.mem_append.1 hi with h1 | h1
  · exact List.mem_append_left _ (h i h1 j hj y hy he)
  · simp at h1; subst h1; omega
section
variable {os : List Ob} {rs F M : List Int} {D : Int → Nat} {T : List Int} {c : Int}
theorem VR.start (h : VR os rs F M D) (hc : c ∉ M) (hF : c ∈ F) (hr : HasRef os rs c) : VI os rs F (M ++ [c]) D [] c := by
  have hn := h.new c hc
  refine ⟨nodup_snoc h.nodup hc, ?_, by simp, ?_, trivial, ?_, ?_, ?_, gone_snoc h.gone hn, came_snoc h.came (.inl hr)⟩
  · intro x hx
    rcases List.mem_append.1 hx with h1 | h1
    · exact h.sub x h1
    · simp at h1; subst h1; exact hF
  · intro t ht; simp at ht; subst ht; simp
  · intro i hi
    rcases List.mem_append.1 hi with h1 | h1
    · rw [h.fin i h1]; exact Nat.le_refl _
    · simp at h1; subst h1; omega
  · intro i hi hic
    rcases List.mem_append.1 hi with h1 | h1
    · exact h.fin i h1
    · simp at h1 hic; exact absurd h1 hic
  · intro i hi
    exact h.new i fun h1 => hi (List.mem_append_left _ h1)
theorem VI.skip (h : VI os rs F M D T c) {x : Int} (hx : (obj os c).2[D c]? = some x) (hm : x % 2 = 0 → (idx os (x / 2) : Int) ∈ M) : VI os rs F M (inc D c) T c := by
  have hd := (List.getElem?_eq_some_iff.1 hx).1
  have hcT : c ∉ T := (List.nodup_cons.1 h.tn).1
  refine ⟨h.nodup, h.sub, h.tn, h.tm, link_ext (fun t ht => (inc_ne D (by rintro rfl; exact hcT ht)).symm) h.link, ?_, ?_, ?_, ?_, h.came⟩
  · intro i hi
    by_cases e : i = c
    · subst e; rw [inc_self]; omega
    · rw [inc_ne D e]; exact h.dle i hi
  · intro i hi hic
    rw [inc_ne D (by rintro rfl; exact hic List.mem_cons_self)]; exact h.fin i hi hic
  · intro i hi
    rw [inc_ne D (by rintro rfl; exact hi (h.tm _ List.mem_cons_self))]; exact h.new i hi
  · intro i hi j hj y hy he
    by_cases e : i = c
    · subst e
      rw [inc_self] at hj
      rcases Nat.lt_or_ge j (D i) with h1 | h1
      · exact h.gone i hi j h1 y hy he
      · obtain rfl : j = D i := by omega
        rw [hx] at hy
        obtain rfl := Option.some.inj hy
        exact hm he
    · rw [inc_ne D e] at hj; exact h.gone i hi j hj y hy he
theorem VI.down (h : VI os rs F M D T c) {x : Int} {k : Nat} (hk : k < os.length) (hx : (obj os c).2[D c]? = some x) (he : x % 2 = 0) (hxk : x / 2 = place os k) (hm : (k : Int) ∉ M) (hF : (k : Int) ∈ F) : VI os rs F (M ++ [(k : Int)]) D (c :: T) k := by
  have hn := h.new _ hm
  have hcM := h.tm c List.mem_cons_self
  refine ⟨nodup_snoc h.nodup hm, ?_, ?_, ?_, ⟨?_, h.link⟩, ?_, ?_, ?_, gone_snoc h.gone hn, came_snoc h.came (.inr ⟨c, hcM, x, List.mem_of_getElem? hx, he, by rw [hxk, idx_place hk]⟩)⟩
  · intro y hy
    rcases List.mem_append.1 hy with h1 | h1
    · exact h.sub y h1
    · simp at h1; subst h1; exact hF
  · rw [List.nodup_cons]
    exact ⟨fun h1 => hm (h.tm _ h1), h.tn⟩
  · intro t ht
    rcases List.mem_cons.1 ht with rfl | h1
    · simp
    · exact List.mem_append_left _ (h.tm t h1)
  · rw [hx, Int.toNat_natCast, ← hxk]; congr 1; omega
  · intro i hi
    rcases List.mem_append.1 hi with h1 | h1
    · exact h.dle i h1
    · simp at h1; subst h1; omega
  · intro i hi hic
    rw [List.mem_cons, not_or] at hic
    rcases List.mem_append.1 hi with h1 | h1
    · exact h.fin i h1 hic.2
    · simp at h1; exact absurd h1 hic.1
  · intro i hi
    exact h.new i fun h1 => hi (List.mem_append_left _ h1)
theorem VI.up {p : Int} (h : VI os rs F M D (p :: T) c) (hd : D c = (obj os c).2.length) (hc : ∃ k : Nat, c = k ∧ k < os.length) : VI os rs F M (inc D p) T p := by
  obtain ⟨k, rfl, hk⟩ := hc
  obtain ⟨hl1, hl2⟩ := h.link
  have hdp := (List.getElem?_eq_some_iff.1 hl1).1
  have htn := List.nodup_cons.1 h.tn
  have hpT : p ∉ T := (List.nodup_cons.1 htn.2).1
  have hcM := h.tm _ List.mem_cons_self
  have hcp : (k : Int) ≠ p := by rintro e; exact htn.1 (by rw [e]; exact List.mem_cons_self)
  refine ⟨h.nodup, h.sub, htn.2, fun t ht => h.tm t (List.mem_cons_of_mem _ ht), link_ext (fun t ht => (inc_ne D (by rintro rfl; exact hpT ht)).symm) hl2, ?_, ?_, ?_, ?_, h.came⟩
  · intro i hi
    by_cases e : i = p
    · subst e; rw [inc_self]; omega
    · rw [inc_ne D e]; exact h.dle i hi
  · intro i hi hic
    have hip : i ≠ p := by rintro rfl; exact hic List.mem_cons_self
    rw [inc_ne D hip]
    by_cases e : i = k
    · subst e; exact hd
    · exact h.fin i hi (by rw [List.mem_cons, not_or]; exact ⟨e, hic⟩)
  · intro i hi
    rw [inc_ne D (by rintro rfl; exact hi (h.tm _ (List.mem_cons_of_mem _ List.mem_cons_self)))]; exact h.new i hi
  · intro i hi j hj y hy he
    by_cases e : i = p
    · subst e
      rw [inc_self] at hj
      rcases Nat.lt_or_ge j (D i) with h1 | h1
      · exact h.gone i hi j h1 y hy he
      · obtain rfl : j = D i := by omega
        rw [hl1] at hy
        obtain rfl := Option.some.inj hy
        rw [Int.toNat_natCast, show 2 * (place os k : Int) / 2 = (place os k : Int) by omega, idx_place hk]
        exact hcM
    · rw [inc_ne D e] at hj; exact h.gone i hi j hj y hy he
theorem VI.done (h : VI os rs F M D [] c) (hd : D c = (obj os c).2.length) : VR os rs F M D := by
  refine ⟨h.nodup, h.sub, ?_, h.new, h.gone, h.came⟩
  intro i hi
  by_cases e : i = c
  · subst e; exact hd
  · exact h.fin i hi (by simp; exact e)
theorem VR.all {ws : List Int} (h : VR os rs F M D) (hS : Sound ws rs os) (hF : OrdS (readG os rs) F) (hr : ∀ y ∈ rs, y % 2 = 0 → (idx os (y / 2) : Int) ∈ M) (x : Int) : x ∈ M ↔ x ∈ F := by
  refine ⟨h.sub x, hF.least (P := fun x => x ∈ M) ?_ ?_ x⟩
  · intro j hj
    rw [show (readG os rs).roots = rs.map (valG os) from rfl, targets_words] at hj
    obtain ⟨y, hy, rfl⟩ := List.mem_map.1 hj
    obtain ⟨h1, h2⟩ := List.mem_filter.1 hy
    exact hr y h1 (by simp at h2; omega)
  · intro i hi j hj
    have hir := (ord_keeps hS hF).rng i (h.sub i hi)
    rw [read_field hir, targets_words] at hj
    obtain ⟨y, hy, rfl⟩ := List.mem_map.1 hj
    obtain ⟨h1, h2⟩ := List.mem_filter.1 hy
    obtain ⟨t, ht⟩ := List.getElem?_of_mem h1
    have htl := (List.getElem?_eq_some_iff.1 ht).1
    exact h.gone i hi t (by rw [h.fin i hi]; exact htl) y ht (by simp at h2; omega)
end
/-! ### What is gone through, counted -/
def sumD (os : List Ob) (D : Int → Nat) : Nat := ((upTo os.length).map D).sum
theorem sum_inc : ∀ (l : List Int) (D : Int → Nat) (c : Int), l.Nodup → c ∈ l → (l.map (inc D c)).sum = (l.map D).sum + 1
  | [], _, _, _, h => by cases h
  | x :: l, D, c, hn, h => by
    rw [List.nodup_cons] at hn
    rw [List.map_cons, List.sum_cons, List.map_cons, List.sum_cons]
    by_cases e : x = c
    · subst e
      rw [inc_self, show l.map (inc D x) = l.map D from List.map_congr_left fun y hy => inc_ne D (by rintro rfl; exact hn.1 hy)]; omega
    · have hc : c ∈ l := by
        rcases List.mem_cons.1 h with h1 | h1
        · exact absurd h1.symm e
        · exact h1
      rw [inc_ne D e, sum_inc l D c hn.2 hc]; omega
theorem sumD_inc {os : List Ob} (D : Int → Nat) {k : Nat} (h : k < os.length) : sumD os (inc D k) = sumD os D + 1 := by
  unfold sumD
  refine sum_inc _ D _ ?_ (mem_upTo.2 ⟨by omega, by omega⟩)
  unfold upTo
  rw [List.Nodup, List.pairwise_map]
  exact List.nodup_range.imp (fun h e => h (by omega))
theorem sum_map_le : ∀ (l : List Int) (f g : Int → Nat), (∀ x ∈ l, f x ≤ g x) → (l.map f).sum ≤ (l.map g).sum
  | [], _, _, _ => by simp
  | x :: l, f, g, h => by
    have h1 := h x List.mem_cons_self
    have h2 := sum_map_le l f g fun y hy => h y (List.mem_cons_of_mem _ hy)
    rw [List.map_cons, List.sum_cons, List.map_cons, List.sum_cons]; omega
theorem sumD_le {os : List Ob} {D : Int → Nat} (h : ∀ k : Nat, k < os.length → D k ≤ (obj os k).2.length) : sumD os D ≤ (flat os).length := by
  rw [flat_upTo]
  refine sum_map_le _ _ _ fun x hx => ?_
  have := mem_upTo.1 hx
  obtain ⟨k, rfl⟩ : ∃ k : Nat, x = k := ⟨x.toNat, by omega⟩
  have := h k (by omega)
  unfold szO; omega
theorem sumD_zero (os : List Ob) : sumD os (fun _ => 0) = 0 := by
  unfold sumD
  have : ∀ l : List Int, (l.map fun _ => 0).sum = 0 := fun l => by induction l with | nil => rfl | cons x l ih => rw [List.map_cons, List.sum_cons, ih]
  exact this _
theorem VI.sum {os : List Ob} {rs F M : List Int} {D : Int → Nat} {T : List Int} {c : Int} (h : VI os rs F M D T c) : sumD os D ≤ (flat os).length :=
  sumD_le fun k _ => by
    by_cases hk : (k : Int) ∈ M
    · exact h.dle _ hk
    · rw [h.new _ hk]; exact Nat.zero_le _
end Go.Proofs.Ytgdodbdipbomfaa
