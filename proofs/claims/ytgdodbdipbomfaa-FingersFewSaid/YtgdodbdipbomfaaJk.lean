/- What stands after a move down, in its order. Plain. -/
import Derived.Test.YtgdodbdipbomfaaJa
import Derived.Test.YtgdodbdipbomfaaBu
namespace Go.Proofs.Ytgdodbdipbomfaa
open Go.RowKit

theorem rising_one : ∀ (l m : List Int), l.Pairwise (· < ·) → m.Pairwise (· < ·) → (∀ x, x ∈ l ↔ x ∈ m) → l = m
  | [], [], _, _, _ => rfl
  | [], y :: m, _, _, h => absurd ((h y).2 List.mem_cons_self) (by simp)
  | x :: l, [], _, _, h => absurd ((h x).1 List.mem_cons_self) (by simp)
  | x :: l, y :: m, hl, hm, h => by
    rw [List.pairwise_cons] at hl hm
    have hxy : x = y := by
      rcases List.mem_cons.1 ((h x).1 List.mem_cons_self) with h1 | h1
      · exact h1
      · rcases List.mem_cons.1 ((h y).2 List.mem_cons_self) with h2 | h2
        · exact h2.symm
        · have := hl.1 y h2; have := hm.1 x h1; omega
    subst hxy
    congr 1
    refine rising_one l m hl.2 hm.2 fun z => ⟨fun hz => ?_, fun hz => ?_⟩
    · rcases List.mem_cons.1 ((h z).1 (List.mem_cons_of_mem _ hz)) with h1 | h1
      · subst h1; have := hl.1 z hz; omega
      · exact h1
    · rcases List.mem_cons.1 ((h z).2 (List.mem_cons_of_mem _ hz)) with h1 | h1
      · subst h1; have := hm.1 z hz; omega
      · exact h1
theorem riseN_rising (F : List Int) (n : Nat) : (riseN F n).Pairwise (· < ·) := by
  unfold riseN
  refine List.Pairwise.sublist List.filter_sublist ?_
  unfold upTo
  rw [List.pairwise_map]
  exact List.pairwise_lt_range.imp (fun h => by omega)
theorem orders_list {ws rs : List Int} {os : List Ob} {F L : List Int} (h : Sound ws rs os) (hF : OrdS (readG os rs) F) (hL : ReachR (readG os rs) L) : L = riseN F os.length :=
  rising_one _ _ hL.rising (riseN_rising _ _) fun x => ((reach_found (read_rng h) hL hF x).symm.trans (rise_mem h hF).symm)
/-- All that SlideOrders asks of one object that lives. -/
theorem orders_at {ws rs : List Int} {os os1 : List Ob} {F R : List Int} (h : Sound ws rs os) (hR : R = riseN F os.length) (e1 : os1 = relO os R (hdD os)) {k : Nat} {i : Int} (hi : R[k]? = some i) :
    ∃ j : Nat, i = j ∧ j < os.length ∧ (starts os)[j]? = some (place os j : Int) ∧ (starts os1)[k]? = some (placeF os R k : Int) ∧ placeF os R k ≤ place os j ∧ (flat os)[place os j]? = some (obj os i).1 ∧ isHead (obj os i).1 ∧ (flat os1)[placeF os R k]? = some (hdS (obj os i).1 false) := by
  have hin : i ∈ riseN F os.length := by rw [← hR]; exact List.mem_of_getElem? hi
  obtain ⟨⟨h0, h1⟩, hiF⟩ := mem_riseN.1 hin
  obtain ⟨j, rfl⟩ : ∃ j : Nat, i = j := ⟨i.toNat, by omega⟩
  have hj : j < os.length := by omega
  have hk := (List.getElem?_eq_some_iff.1 hi).1
  have hl1 : os1.length = R.length := by rw [e1]; unfold relO; rw [List.length_map]
  have hob : os1[k]? = some (hdD os (j : Int), (obj os j).2.map (mvW os R)) := by rw [e1]; exact rel_obj hi
  have hpl : place os1 k = placeF os R k := by rw [e1, rel_place]
  have hg := hd_good h.laid hj
  refine ⟨j, rfl, hj, starts_get hj, by rw [starts_get (by omega), hpl], ?_, ?_, hg.1, ?_⟩
  · have p1 := plc_at (hR ▸ riseN_nodup F os.length) hi
    have p2 := plc_rise hiF hj
    rw [← hR, p1] at p2
    have hkl : k = (riseN F j).length := by omega
    have hpre := riseN_pre F (Nat.le_of_lt hj)
    rw [hR, placeF_pre os hpre (by omega), ← place_upTo (Nat.le_of_lt hj)]
    have h2 : placeF os (upTo os.length) j = ((upTo j).map (szO os)).sum := by
      unfold placeF
      congr 2
      refine List.ext_getElem? fun t => ?_
      by_cases ht : t < j
      · rw [List.getElem?_take_of_lt ht, upTo_get ht, upTo_get (by omega)]
      · rw [List.getElem?_eq_none (by rw [List.length_take]; omega), List.getElem?_eq_none (by rw [upTo_len]; omega)]
    rw [h2]
    unfold placeF
    rw [List.take_of_length_le (by omega)]
    exact sum_sub _ _ _ (riseN_nodup _ _) fun x hx => mem_upTo.2 (mem_riseN.1 hx).1
  · have := flat_head (obj_get (os := os) (i := (j : Int)) ⟨by omega, by omega⟩)
    rwa [Int.toNat_natCast] at this
  · have := flat_head hob
    rwa [hpl] at this
end Go.Proofs.Ytgdodbdipbomfaa
