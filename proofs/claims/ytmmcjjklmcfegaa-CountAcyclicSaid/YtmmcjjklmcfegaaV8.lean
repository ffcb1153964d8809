/- Counting from the start keeps what the greatest counts tell. Plain. -/
import Derived.Test.YtmmcjjklmcfegaaV7
import Derived.Test.YtmmcjjklmcfegaaBase9
namespace Go.Proofs.Ytmmcjjklmcfegaa

theorem cnt_firstR (l : List V) (j : Int) : cnt (firstR l) j = cnt l j := by
  unfold firstR
  rw [cnt_append]
  have : cnt (List.replicate (8 - l.length) (⟨false, 0⟩ : V)) j = 0 := cnt_zerosV _ _
  omega
theorem cnt_none {l : List V} {j : Int} (h : ∀ v ∈ l, v.ref = true → v.n ≠ j) : cnt l j = 0 := by
  refine Classical.byContradiction fun hne => ?_
  obtain ⟨x, hx, he⟩ := List.mem_map.1 (List.count_pos_iff.1 (Nat.pos_of_ne_zero hne))
  obtain ⟨hx, hr⟩ := List.mem_filter.1 hx
  exact h x hx hr he
theorem cnt_some {l : List V} {j : Int} (h : 0 < cnt l j) : ∃ v ∈ l, v.ref = true ∧ v.n = j := by
  obtain ⟨x, hx, he⟩ := List.mem_map.1 (List.count_pos_iff.1 h)
  obtain ⟨hx, hr⟩ := List.mem_filter.1 hx
  exact ⟨x, hx, hr, he⟩
theorem mem_allO_iff {os : Os} {v : V} (h : v ∈ allO os) : ∃ (i : Nat) (l : List V), os[i]? = some (some l) ∧ v ∈ l := by
  obtain ⟨l', hl', hvl⟩ := List.mem_flatten.1 h
  obtain ⟨o, ho, rfl⟩ := List.mem_map.1 hl'
  cases o with
  | none => cases hvl
  | some l =>
    obtain ⟨i, hi⟩ := List.getElem?_of_mem ho
    exact ⟨i, l, hi, hvl⟩
/-- The counts of what is there, by number. -/
def hC (s : Cst) (n : Nat) : List Int := (List.range n).map fun i => if ((s.os[i]?).getD none).isSome then s.cs.getD i 0 else 0
theorem hC_len (s : Cst) (n : Nat) : (hC s n).length = n := by simp [hC]
theorem hC_yes {s : Cst} {n j : Nat} (h : j < n) {l : List V} (hl : s.os[j]? = some (some l)) : (hC s n).getD j 0 = s.cs.getD j 0 := by
  unfold hC
  rw [List.getD_eq_getElem?_getD, List.getElem?_map, List.getElem?_range h]
  simp [hl]
theorem hC_no {s : Cst} {n j : Nat} (hl : s.os[j]? = some none) : (hC s n).getD j 0 = 0 := by
  unfold hC
  rw [List.getD_eq_getElem?_getD, List.getElem?_map]
  by_cases h : j < n
  · rw [List.getElem?_range h]; simp [hl]
  · rw [List.getElem?_eq_none (by simpa using h)]; rfl
section
variable {g : G} (hG : Good g)
include hG
theorem zend : DnEnd (firstR g.roots) [] (startC0 g) (zaps (startC0 g) g.objs.length) :=
  (zaps_end (start_inv hG) g.objs.length (by simp [startC0])).1
theorem zlen : (zaps (startC0 g) g.objs.length).os.length = g.objs.length := by rw [(zend hG).len]; simp [startC0]
theorem zobj {i : Nat} {l : List V} (h : (zaps (startC0 g) g.objs.length).os[i]? = some (some l)) : g.objs[i]? = some l := by
  have := (zend hG).shr i l h
  change (g.objs.map some)[i]? = _ at this
  rw [List.getElem?_map] at this
  obtain ⟨l', h1, h2⟩ := Option.map_eq_some_iff.1 this
  cases h2; exact h1
theorem zfield {i : Nat} {l : List V} (h : (zaps (startC0 g) g.objs.length).os[i]? = some (some l)) : fieldsAt g (i : Int) = l := by
  unfold fieldsAt
  rw [Int.toNat_natCast, List.getD_eq_getElem?_getD, zobj hG h]; rfl
theorem zpos {j : Nat} {l : List V} (h : (zaps (startC0 g) g.objs.length).os[j]? = some (some l)) : 0 < (zaps (startC0 g) g.objs.length).cs.getD j 0 := by
  have hI := startC_inv hG
  have h1 := (zend hG).inv.count j l h
  have h2 := hI.pos j _ h1 (lives_nat h)
  rw [getD_at h1]; exact h2
theorem cnt_at_zaps (j : Nat) : ∀ k, k ≤ g.objs.length → (cntAt g (hC (zaps (startC0 g) g.objs.length) g.objs.length) k).getD j 0 = ((cnt (firstR g.roots) (j : Int) + cnt (allO ((zaps (startC0 g) g.objs.length).os.take k)) (j : Int) : Nat) : Int) := by
  intro k
  induction k with
  | zero =>
    intro _
    show (cnt0 g).getD j 0 = _
    rw [cnt0_get hG, cnt_firstR]
    rfl
  | succ k ih =>
    intro hk
    rw [cntAt_get hG, ih (by omega)]
    obtain ⟨o, ho⟩ : ∃ o, (zaps (startC0 g) g.objs.length).os[k]? = some o := ⟨_, List.getElem?_eq_getElem (by rw [zlen hG]; omega)⟩
    have e : allO ((zaps (startC0 g) g.objs.length).os.take (k + 1)) = allO ((zaps (startC0 g) g.objs.length).os.take k) ++ o.getD [] := by
      unfold allO
      rw [take_succ_some _ _ _ ho]; simp
    rw [e, cnt_append]
    cases o with
    | none =>
      rw [hC_no ho, if_neg (by omega)]
      simp [cnt_nil]
    | some l =>
      rw [hC_yes (by omega) ho, if_pos (zpos hG ho), zfield hG ho]
      show _ + ((cnt l (j : Int) : Nat) : Int) = _
      simp only [Option.getD_some]
      push_cast; omega
theorem hC_sol : Sol g (hC (zaps (startC0 g) g.objs.length) g.objs.length) := by
  unfold Sol
  refine ext_getD (by rw [counted_len, hC_len]) fun j => ?_
  by_cases hj : j < g.objs.length
  · show (cntAt g _ g.objs.length).getD j 0 = _
    rw [cnt_at_zaps hG j g.objs.length (Nat.le_refl _), List.take_of_length_le (by rw [zlen hG]; exact Nat.le_refl _)]
    obtain ⟨o, ho⟩ : ∃ o, (zaps (startC0 g) g.objs.length).os[j]? = some o := ⟨_, List.getElem?_eq_getElem (by rw [zlen hG]; omega)⟩
    have hI := (zend hG).inv
    cases o with
    | some l =>
      rw [hC_yes hj ho, getD_at (hI.count j l ho), cnt_nil]; simp
    | none =>
      rw [hC_no ho]
      have hdead : ¬ Lives (zaps (startC0 g) g.objs.length).os (j : Int) := by
        rintro ⟨_, l, hl⟩
        rw [Int.toNat_natCast, ho] at hl; cases hl
      have z1 : cnt (firstR g.roots) (j : Int) = 0 := cnt_none fun v hv hr e => hdead (e ▸ hI.held v (List.mem_append_left _ hv) hr)
      have z2 : cnt (allO (zaps (startC0 g) g.objs.length).os) (j : Int) = 0 := cnt_none fun v hv hr e => by
        obtain ⟨i, l, hi, hvl⟩ := mem_allO_iff hv
        exact hdead (e ▸ hI.flds i l hi v hvl hr)
      rw [z1, z2]; rfl
  · rw [List.getD_eq_getElem?_getD, List.getElem?_eq_none (by rw [counted_len]; omega), List.getD_eq_getElem?_getD, List.getElem?_eq_none (by rw [hC_len]; omega)]
theorem cntAt_some (c : List Int) (j : Nat) : ∀ k, 0 < (cntAt g c k).getD j 0 → 0 < cnt g.roots (j : Int) ∨ ∃ i, i < k ∧ 0 < c.getD i 0 ∧ 0 < cnt (fieldsAt g (i : Int)) (j : Int) := by
  intro k
  induction k with
  | zero =>
    intro h
    change 0 < (cnt0 g).getD j 0 at h
    rw [cnt0_get hG] at h
    left
    unfold cnt; omega
  | succ k ih =>
    intro h
    rw [cntAt_get hG] at h
    split at h
    · rename_i hc
      by_cases h2 : 0 < (cntAt g c k).getD j 0
      · rcases ih h2 with h3 | ⟨i, h3, h4⟩
        · exact .inl h3
        · exact .inr ⟨i, by omega, h4⟩
      · right
        refine ⟨k, by omega, hc, ?_⟩
        unfold cnt; omega
    · rcases ih (by omega) with h3 | ⟨i, h3, h4⟩
      · exact .inl h3
      · exact .inr ⟨i, by omega, h4⟩
theorem hC_greatest {c : List Int} (hc : Sol g c) : Pos c (hC (zaps (startC0 g) g.objs.length) g.objs.length) := by
  have hcl : c.length = g.objs.length := by rw [← hc, counted_len]
  have hin : ∀ i : Nat, 0 < c.getD i 0 → i < g.objs.length := by
    intro i hi
    refine Classical.byContradiction fun hn => ?_
    rw [List.getD_eq_getElem?_getD, List.getElem?_eq_none (by omega)] at hi
    simp at hi
  have hS : Sup (firstR g.roots) (startC0 g).os (fun x => 0 ≤ x ∧ 0 < c.getD x.toNat 0) := by
    refine ⟨?_, ?_⟩
    · rintro x ⟨h0, h1⟩
      have h2 := hin _ h1
      refine ⟨h0, g.objs[x.toNat], ?_⟩
      show (g.objs.map some)[x.toNat]? = _
      rw [List.getElem?_map, List.getElem?_eq_getElem h2]; rfl
    · rintro x ⟨h0, h1⟩
      have h2 : 0 < (cntAt g c g.objs.length).getD x.toNat 0 := by
        have : counted g c = c := hc
        show 0 < (counted g c).getD x.toNat 0
        rw [this]; exact h1
      rw [← Int.toNat_of_nonneg h0]
      rcases cntAt_some hG c x.toNat _ h2 with h3 | ⟨i, h3, h4, h5⟩
      · left
        obtain ⟨v, hv, hr, hn⟩ := cnt_some h3
        exact ⟨v, List.mem_append_left _ hv, hr, hn⟩
      · right
        obtain ⟨v, hv, hr, hn⟩ := cnt_some h5
        refine ⟨(i : Int), ⟨by omega, by rw [Int.toNat_natCast]; exact h4⟩, v, ?_, hr, hn⟩
        rw [show objAt (startC0 g).os (i : Int) = fieldsAt g (i : Int) from objAt_start g i]; exact hv
  have hT := zaps_sup (start_inv hG) hS g.objs.length (by simp [startC0])
  intro i hi
  have hl := hT.lives (i : Int) ⟨by omega, by rw [Int.toNat_natCast]; exact hi⟩
  obtain ⟨_, l, hl⟩ := hl
  rw [Int.toNat_natCast] at hl
  rw [hC_yes (hin i hi) hl]
  exact zpos hG hl
/-- They are one. -/
theorem greatest_is {m : List Int} (h : IsGreatest g m) (hs : Sol g m) : m = hC (zaps (startC0 g) g.objs.length) g.objs.length := by
  have h1 := hC_greatest hG hs
  have h2 := h.2.2.2 _ (hC_sol hG)
  refine ext_getD (by rw [h.1, hC_len]) fun j => ?_
  have h3 := least_le hG hs h1 (hC_sol hG) j
  have h4 := least_le hG (hC_sol hG) h2 hs j
  omega
end
end Go.Proofs.Ytmmcjjklmcfegaa
