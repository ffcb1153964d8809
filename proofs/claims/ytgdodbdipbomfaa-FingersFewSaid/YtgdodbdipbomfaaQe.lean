/- Two fingers: who stands where while the map is gone through. Plain. -/
import Derived.Test.YtgdodbdipbomfaaQc
import Derived.Test.YtgdodbdipbomfaaJa
namespace Go.Proofs.Ytgdodbdipbomfaa
open Go.RowKit

theorem flat_setO {os : List Ob} {k : Nat} {o o' : Ob} (h : os[k]? = some o) : flat (os.set k o') = (flat os).take (place os k) ++ (o'.1 :: o'.2) ++ (flat os).drop (place os k + (1 + o.2.length)) := by
  have hk := (List.getElem?_eq_some_iff.1 h).1
  have h1 := flat_part h
  have h2 : (os.set k o')[k]? = some o' := by rw [List.getElem?_set_self hk]
  have h3 := flat_part h2
  rw [List.take_set_of_le (Nat.le_refl _), List.drop_set_of_lt (by omega)] at h3
  have e1 : (flat os).take (place os k) = flat (os.take k) := by
    rw [h1]; unfold place; rw [List.take_left' rfl]
  have e2 : (flat os).drop (place os k + (1 + o.2.length)) = flat (os.drop (k + 1)) := by
    rw [h1]; unfold place
    rw [← List.drop_drop, List.drop_left' rfl, Nat.add_comm 1, List.drop_succ_cons, List.drop_left' rfl]
  rw [h3, e1, e2]
  simp
/-- Who stands in the first places, while some are still to go. -/
def ids (os : List Ob) (A : List Int) (left : Int → Bool) : List Int := (upTo A.length).map fun k => if left (place os (A.getD k.toNat 0).toNat : Nat) then k else A.getD k.toNat 0
theorem ids_get (os : List Ob) {A : List Int} (left : Int → Bool) {k : Nat} {x : Int} (h : A[k]? = some x) : (ids os A left)[k]? = some (if left (place os x.toNat : Nat) then (k : Int) else x) := by
  have hk := (List.getElem?_eq_some_iff.1 h).1
  unfold ids
  rw [List.getElem?_map, upTo_get hk, Option.map_some, Int.toNat_natCast, List.getD_eq_getElem?_getD, h]; rfl
theorem ids_len (os : List Ob) (A : List Int) (left : Int → Bool) : (ids os A left).length = A.length := by unfold ids; rw [List.length_map, upTo_len]
theorem ids_end (os : List Ob) {A : List Int} {left : Int → Bool} (h : ∀ x ∈ A, left (place os x.toNat : Nat) = false) : ids os A left = A := by
  refine List.ext_getElem? fun k => ?_
  by_cases hk : k < A.length
  · obtain ⟨x, hx⟩ := get_some A k hk
    rw [ids_get os left hx, hx, h x (List.mem_of_getElem? hx)]; simp
  · rw [List.getElem?_eq_none (by rw [ids_len]; omega), List.getElem?_eq_none (by omega)]
theorem went_at {os : List Ob} {A : List Int} (hn : A.Nodup) (hr : ∀ x ∈ A, 0 ≤ x ∧ x < (os.length : Int)) {k : Nat} {x : Int} (h : A[k]? = some x) : wentF os A (place os x.toNat : Nat) = if x = (k : Int) then none else some (.int .i64 (place os k : Nat)) := by
  have hx := hr x (List.mem_of_getElem? h)
  unfold wentF
  rw [idx_place (show x.toNat < os.length by omega), show ((x.toNat : Nat) : Int) = x by omega, plc_at hn h]
  by_cases e : x = (k : Int)
  · rw [if_pos e, if_neg]
    rintro ⟨_, _, h2⟩; exact h2 e.symm
  · rw [if_neg e, if_pos ⟨starts_mem.2 ⟨x.toNat, by omega, rfl⟩, List.mem_of_getElem? h, fun h2 => e h2.symm⟩, Int.toNat_natCast]
theorem ids_start {os : List Ob} {A : List Int} (hn : A.Nodup) (hr : ∀ x ∈ A, 0 ≤ x ∧ x < (os.length : Int)) : ids os A (fun u => (wentF os A u).isSome) = upTo A.length := by
  refine List.ext_getElem? fun k => ?_
  by_cases hk : k < A.length
  · obtain ⟨x, hx⟩ := get_some A k hk
    rw [ids_get os _ hx, upTo_get hk, went_at hn hr hx]
    by_cases e : x = (k : Int)
    · rw [if_pos e]; simp [e]
    · rw [if_neg e]; simp
  · rw [List.getElem?_eq_none (by rw [ids_len]; omega), List.getElem?_eq_none (by rw [upTo_len]; omega)]
/-- What an entry of the map tells. -/
theorem went_entry {os : List Ob} {A : List Int} (hn : A.Nodup) {u : Int} {v : Value} (h : wentF os A u = some v) : ∃ (k i : Nat), A[k]? = some (i : Int) ∧ i < os.length ∧ k ≠ i ∧ u = (place os i : Nat) ∧ v = .int .i64 (place os k : Nat) := by
  unfold wentF at h
  split at h
  · rename_i hc
    obtain ⟨h1, h2, h3⟩ := hc
    obtain ⟨i, hi, rfl⟩ := starts_mem.1 h1
    rw [idx_place hi] at h2 h3 h
    obtain ⟨k, hk⟩ := List.getElem?_of_mem h2
    rw [plc_at hn hk] at h3 h
    rw [Int.toNat_natCast] at h
    exact ⟨k, i, hk, hi, by omega, rfl, (Option.some.inj h).symm⟩
  · cases h
theorem ids_step {os : List Ob} {A : List Int} (hn : A.Nodup) (hr : ∀ x ∈ A, 0 ≤ x ∧ x < (os.length : Int)) {left : Int → Bool} {k i : Nat} (hk : A[k]? = some (i : Int)) : ids os A (fun y => left y && !decide (y = (place os i : Nat))) = (ids os A left).set k (i : Int) := by
  refine List.ext_getElem? fun t => ?_
  by_cases ht : t < A.length
  · obtain ⟨x, hx⟩ := get_some A t ht
    have hxr := hr x (List.mem_of_getElem? hx)
    have hir := hr _ (List.mem_of_getElem? hk)
    rw [ids_get os _ hx]
    by_cases e : k = t
    · subst e
      rw [hk] at hx
      obtain rfl := Option.some.inj hx
      rw [List.getElem?_set_self (by rw [ids_len]; exact ht)]
      simp
    · rw [List.getElem?_set_ne e, ids_get os _ hx]
      have hne : ¬ ((place os x.toNat : Nat) : Int) = (place os i : Nat) := by
        intro h
        have h2 := place_inj (os := os) (show x.toNat < os.length by omega) (show i < os.length by omega) (by omega)
        have hxi : x = (i : Int) := by omega
        subst hxi
        have hpw := List.nodup_iff_pairwise_ne.1 hn
        have hk' := List.getElem?_eq_some_iff.1 hk
        have ht' := List.getElem?_eq_some_iff.1 hx
        rcases Nat.lt_or_ge k t with h1 | h1
        · exact List.pairwise_iff_getElem.1 hpw k t hk'.1 ht'.1 h1 (hk'.2.trans ht'.2.symm)
        · exact List.pairwise_iff_getElem.1 hpw t k ht'.1 hk'.1 (by omega) (ht'.2.trans hk'.2.symm)
      simp [hne]
  · rw [List.getElem?_eq_none (by rw [ids_len]; omega), List.getElem?_eq_none (by rw [List.length_set, ids_len]; omega)]
theorem ids_rng {os : List Ob} {A : List Int} (hr : ∀ x ∈ A, 0 ≤ x ∧ x < (os.length : Int)) (hl : A.length ≤ os.length) (left : Int → Bool) : ∀ x ∈ ids os A left, 0 ≤ x ∧ x < (os.length : Int) := by
  intro x hx
  obtain ⟨k, hk, rfl⟩ := List.mem_map.1 hx
  have h1 := mem_upTo.1 hk
  have h2 : A.getD k.toNat 0 ∈ A := by
    rw [List.getD_eq_getElem?_getD, List.getElem?_eq_getElem (by omega)]
    exact List.getElem_mem _
  split
  · omega
  · exact hr _ h2
/-- An object is put in place k of a row of like ones. -/
theorem raw_set {os : List Ob} {z : Nat} (hz : Alike os z) (hd : Int → Int) {I : List Int} (hr : ∀ x ∈ I, 0 ≤ x ∧ x < (os.length : Int)) {k i : Nat} (hk : k < I.length) (hi : i < os.length) :
    (flat (rawO os hd I)).take (k * z) ++ (hd i :: (obj os i).2) ++ (flat (rawO os hd I)).drop (k * z + z) = flat (rawO os hd (I.set k (i : Int))) := by
  obtain ⟨x, hx⟩ := get_some I k hk
  have hxr := hr x (List.mem_of_getElem? hx)
  obtain ⟨j, rfl⟩ : ∃ j : Nat, x = j := ⟨x.toNat, by omega⟩
  have h1 := hz i hi
  have h2 := hz j (by omega)
  unfold szO at h1 h2
  have hs := flat_setO (o' := (hd i, (obj os i).2)) (raw_obj (os := os) (hd := hd) hx)
  rw [raw_place, hz.placeF hr (Nat.le_of_lt hk)] at hs
  have e : (rawO os hd I).set k (hd i, (obj os i).2) = rawO os hd (I.set k (i : Int)) := by unfold rawO; rw [List.map_set]
  rw [e] at hs
  rw [hs, h2]
theorem raw_front {os : List Ob} {z : Nat} (hz : Alike os z) (hd : Int → Int) {m : Nat} (hm : m ≤ os.length) : (flat (allO os hd)).take (m * z) = flat (rawO os hd (upTo m)) := by
  have h1 : rawO os hd (upTo m) = (allO os hd).take m := by
    unfold allO rawO
    rw [← List.map_take]
    congr 1
    refine List.ext_getElem? fun t => ?_
    by_cases ht : t < m
    · rw [List.getElem?_take_of_lt ht, upTo_get ht, upTo_get (by omega)]
    · rw [List.getElem?_eq_none (by rw [upTo_len]; omega), List.getElem?_eq_none (by rw [List.length_take]; omega)]
  rw [h1, ← hz.place hm, ← allO_place os hd hm]
  obtain ⟨a, ha⟩ : ∃ a, (allO os hd).take m = a := ⟨_, rfl⟩
  obtain ⟨b, hb⟩ : ∃ b, (allO os hd).drop m = b := ⟨_, rfl⟩
  have h2 : allO os hd = a ++ b := by rw [← ha, ← hb, List.take_append_drop]
  unfold place
  rw [ha, h2, flat_append, List.take_left' rfl]
theorem ref_in {ws rs : List Int} {os : List Ob} {A : List Int} (h : Sound ws rs os) (hK : Keeps os rs A) {x : Int} (hx : x ∈ rs ∨ ∃ i ∈ A, x ∈ (obj os i).2) : x % 2 = 1 ∨ x % 2 = 0 ∧ x < 512 ∧ ∃ i : Nat, i < os.length ∧ x / 2 = place os i ∧ (i : Int) ∈ A := by
  have hin : x ∈ allW rs os := by
    rcases hx with hx | ⟨i, hi, hx⟩
    · exact List.mem_append_left _ hx
    · exact List.mem_append_right _ (List.mem_flatMap.2 ⟨_, List.mem_of_getElem? (obj_get (hK.rng i hi)), hx⟩)
  rcases h.refs x hin with hodd | ⟨heven, hsm, hst⟩
  · exact .inl hodd
  · obtain ⟨k, hk, e⟩ := starts_mem.1 hst
    have hm : (idx os (x / 2) : Int) ∈ A := by
      rcases hx with hx | ⟨i, hi, hx⟩
      · exact hK.roots x hx heven
      · exact hK.fields i hi x hx heven
    rw [e, idx_place hk] at hm
    exact .inr ⟨heven, hsm, k, hk, e, hm⟩
/-- Headers of what is marked so are headers. -/
theorem raw_laid {ws rs : List Int} {os : List Ob} {A : List Int} (h : Sound ws rs os) (hr : ∀ x ∈ A, 0 ≤ x ∧ x < (os.length : Int)) (F : List Int) : Laid (flat (rawO os (hdM os F) A)) (rawO os (hdM os F) A) := by
  refine ⟨rfl, fun o ho => ?_⟩
  obtain ⟨i, hi, rfl⟩ := List.mem_map.1 ho
  have hg := h.laid.good (obj_get (hr i hi))
  have hp := hdS_parts hg.1 (decide (i ∈ F))
  exact ⟨hp.2.2.2.1, by unfold hdM; simp only; rw [hp.1]; exact hg.2.1⟩
theorem raw_64 {ws rs : List Int} {os : List Ob} {A : List Int} (h : Sound ws rs os) (hw : ∀ x ∈ flat os, w64 x) (hr : ∀ x ∈ A, 0 ≤ x ∧ x < (os.length : Int)) (F : List Int) : ∀ x ∈ flat (rawO os (hdM os F) A), w64 x := by
  intro x hx
  obtain ⟨o, ho, hxo⟩ := List.mem_flatMap.1 hx
  obtain ⟨i, hi, rfl⟩ := List.mem_map.1 ho
  have hob := obj_get (hr i hi)
  rcases List.mem_cons.1 hxo with rfl | hxo
  · exact (hdS_parts (h.laid.good hob).1 _).2.2.2.2
  · exact hw x (List.mem_flatMap.2 ⟨_, List.mem_of_getElem? hob, List.mem_cons_of_mem _ hxo⟩)
/-- The words of an object that stands in place k, before and after. -/
theorem both_at {os : List Ob} {z : Nat} (hz : Alike os z) {A : List Int} (hr : ∀ x ∈ A, 0 ≤ x ∧ x < (os.length : Int)) (hd he : Int → Int) {k : Nat} {i : Int} (hk : A[k]? = some i) :
    (flat (rawO os hd A))[k * z]? = some (hd i) ∧ (flat (relO os A he))[k * z]? = some (he i) ∧ ∀ j x, (obj os i).2[j]? = some x → (flat (rawO os hd A))[k * z + 1 + j]? = some x ∧ (flat (relO os A he))[k * z + 1 + j]? = some (mvW os A x) := by
  have hkl := (List.getElem?_eq_some_iff.1 hk).1
  have e := hz.placeF hr (Nat.le_of_lt hkl)
  have h1 := flat_head (raw_obj (os := os) (hd := hd) hk)
  have h2 := flat_head (rel_obj (os := os) (hd := he) hk)
  rw [raw_place, e] at h1
  rw [rel_place, e] at h2
  refine ⟨h1, h2, fun j x hx => ?_⟩
  have h3 := flat_field (raw_obj (os := os) (hd := hd) hk) hx
  have h4 := flat_field (rel_obj (os := os) (hd := he) hk) (j := j) (x := mvW os A x) (by rw [List.getElem?_map, hx]; rfl)
  rw [raw_place, e] at h3
  rw [rel_place, e] at h4
  exact ⟨h3, h4⟩
end Go.Proofs.Ytgdodbdipbomfaa
