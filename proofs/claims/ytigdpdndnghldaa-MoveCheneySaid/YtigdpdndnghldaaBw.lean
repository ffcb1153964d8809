/- MoveTwice, the plain law: what was moved is moved to where it is, one older. -/
import Derived.Test.YtigdpdndnghldaaBr
import Derived.Test.YtigdpdndnghldaaBj
namespace Go.Proofs.Ytigdpdndnghldaa
open Go.RowKit

theorem headF (l : Nat) (a : Int) (h1 : l ≤ 4) (h2 : 0 ≤ a) (h3 : a ≤ 7) : headW l a false % 256 = l ∧ (headW l a false / 256 % 2 == 1) = false ∧ headW l a false / 512 % 8 = a := by
  refine ⟨by unfold headW; simp; omega, ?_, by unfold headW; simp; omega⟩
  have : headW l a false / 256 % 2 = 0 := by unfold headW; simp; omega
  rw [this]; rfl
/-- One older, at most the oldest. -/
def older (o : Ob) : Ob := (headW o.2.length (min (o.1 / 512 % 8 + 1) 7) false, o.2)
theorem obj_at {os : List Ob} {k : Nat} {o : Ob} (h : os[k]? = some o) : obj os (k : Int) = o := by
  have hk := (List.getElem?_eq_some_iff.1 h).1
  have h1 := obj_get (os := os) (i := (k : Int)) ⟨by omega, by omega⟩
  rw [Int.toNat_natCast, h] at h1
  exact (Option.some.inj h1).symm
theorem placeF_upTo {os : List Ob} : ∀ {k : Nat}, k ≤ os.length → placeF os (upTo os.length) k = place os k
  | 0, _ => rfl
  | k + 1, h => by
    have hk : (upTo os.length)[k]? = some (k : Int) := by simp [upTo, show k < os.length by omega]
    obtain ⟨o, ho⟩ := get_some os k (by omega)
    rw [placeF_succ os hk, placeF_upTo (show k ≤ os.length by omega), place_succ ho]
    unfold szO
    rw [obj_at ho]; omega
theorem upTo_nodup (n : Nat) : (upTo n).Nodup := by
  unfold upTo
  rw [List.Nodup, List.pairwise_map]
  exact List.nodup_range.imp (fun h e => h (by omega))
theorem mv_same {os : List Ob} {x : Int} (h : RefOk os x) : mvW os (upTo os.length) x = x := by
  rcases h with h | ⟨heven, _, hin⟩
  · exact if_pos h
  · obtain ⟨i, hi, e⟩ := starts_mem.1 hin
    unfold mvW
    have hk : (upTo os.length)[i]? = some (i : Int) := by simp [upTo, hi]
    rw [if_neg (by omega), e, idx_place hi, plc_at (upTo_nodup _) hk, Int.toNat_natCast, placeF_upTo (Nat.le_of_lt hi)]
    omega
theorem move_again {ws rs : List Int} {os : List Ob} (h : Sound ws rs os) : relO os (upTo os.length) (hdC os) = os.map older ∧ rs.map (mvW os (upTo os.length)) = rs := by
  constructor
  · refine List.ext_getElem? fun k => ?_
    unfold relO
    rw [List.getElem?_map, List.getElem?_map]
    by_cases hk : k < os.length
    · obtain ⟨o, ho⟩ := get_some os k hk
      rw [show (upTo os.length)[k]? = some (k : Int) by simp [upTo, hk], ho, Option.map_some, Option.map_some, obj_at ho]
      unfold hdC older
      rw [obj_at ho]
      congr 2
      conv => rhs; rw [← List.map_id o.2]
      exact List.map_congr_left fun x hx => mv_same (h.refs x (List.mem_append_right _ (List.mem_flatMap.2 ⟨o, List.mem_of_getElem? ho, hx⟩)))
    · rw [List.getElem?_eq_none (by rw [upTo_len]; omega), List.getElem?_eq_none (by omega)]; rfl
  · conv => rhs; rw [← List.map_id rs]
    exact List.map_congr_left fun x hx => mv_same (h.refs x (List.mem_append_left _ hx))
theorem older_place (os : List Ob) (k : Nat) : place (os.map older) k = place os k := by
  unfold place
  rw [flat_sum, flat_sum, ← List.map_take, List.map_map]
  rfl
theorem older_len (os : List Ob) : (flat (os.map older)).length = (flat os).length := by
  rw [← place_all, ← place_all, older_place, List.length_map]
theorem older_same (os : List Ob) {i : Nat} (hi : i < (flat os).length) (hn : (i : Int) ∉ starts os) : (flat (os.map older))[i]? = (flat os)[i]? := by
  obtain ⟨k, o, ho, hc⟩ := at_split os i hi
  have hk := (List.getElem?_eq_some_iff.1 ho).1
  rcases hc with rfl | ⟨j, hj, rfl⟩
  · exact absurd (starts_mem.2 ⟨k, hk, rfl⟩) hn
  · have hx := List.getElem?_eq_getElem hj
    have hp : (os.map older)[k]? = some (older o) := by rw [List.getElem?_map, ho]; rfl
    rw [flat_field ho hx]
    have h2 := flat_field hp (j := j) (x := o.2[j]) hx
    rwa [older_place] at h2
/-- The headers of what was moved, and moved again. -/
theorem older_head (os : List Ob) {i : Nat} (hn : (i : Int) ∈ starts os) : ∃ (k : Nat) (o : Ob), os[k]? = some o ∧ (flat os)[i]? = some o.1 ∧ (flat (os.map older))[i]? = some (older o).1 := by
  obtain ⟨k, hk, e⟩ := starts_mem.1 hn
  obtain rfl : i = place os k := by omega
  obtain ⟨o, ho⟩ := get_some os k hk
  have hp : (os.map older)[k]? = some (older o) := by rw [List.getElem?_map, ho]; rfl
  have h2 := flat_head hp
  rw [older_place] at h2
  exact ⟨k, o, ho, flat_head ho, h2⟩
/-- All that MoveTwice asks of the data. -/
theorem twice_plain {ws rs : List Int} {os : List Ob} (h : Sound ws rs os) (hw : ∀ x ∈ allW rs os, w64 x) {F : List Int} (hF : OrdS (readG os rs) F) :
    ∃ os1 rs1, os1 = relO os F (hdC os) ∧ rs1 = rs.map (mvW os F) ∧ Sound (flat os1) rs1 os1 ∧ (∀ x ∈ flat os1, w64 x) ∧ (∀ x ∈ rs1, w64 x) ∧ (flat os1).length = placeF os F F.length ∧
      OrdS (readG os1 rs1) (upTo os1.length) ∧ relO os1 (upTo os1.length) (hdC os1) = os1.map older ∧ rs1.map (mvW os1 (upTo os1.length)) = rs1 ∧
      ∀ o ∈ os1, ∃ a : Int, 1 ≤ a ∧ a ≤ 7 ∧ o.2.length ≤ 4 ∧ o.1 = headW o.2.length a false := by
  have hK := ord_keeps h hF
  have hH : Heads os F (hdC os) := ⟨fun i hi => by
    obtain ⟨h1, h2, _⟩ := hdC_ok h.laid (hK.rng i hi)
    exact ⟨h2, h1.symm⟩⟩
  have hS1 := rel_sound h hw hK hH
  obtain ⟨w1, w2⟩ := rel_w64 h hw hK (hd := hdC os) (fun i hi => (hdC_ok h.laid (hK.rng i hi)).2.2.1)
  have hR := rel_read h hw hK (hdC os)
  have hO := ord_twice (read_rng h) hF
  rw [← hR] at hO
  have hl : (relO os F (hdC os)).length = F.length := by unfold relO; rw [List.length_map]
  rw [← hl] at hO
  obtain ⟨m1, m2⟩ := move_again hS1
  refine ⟨_, _, rfl, rfl, hS1, w1, w2, rel_len _ _ _, hO, m1, m2, ?_⟩
  intro o ho
  obtain ⟨i, hi, rfl⟩ := List.mem_map.1 ho
  have hg := h.laid.good (obj_get (hK.rng i hi))
  refine ⟨min ((obj os i).1 / 512 % 8 + 1) 7, by omega, by omega, by simp only [List.length_map]; exact hg.2.2, ?_⟩
  unfold hdC
  simp only [List.length_map]
/-- Sound once more. -/
theorem older_sound {ws rs : List Int} {os : List Ob} (h : Sound ws rs os) (hw : ∀ x ∈ allW rs os, w64 x) (hF : OrdS (readG os rs) (upTo os.length)) : Sound (flat (os.map older)) rs (os.map older) ∧ ∀ x ∈ flat (os.map older), w64 x := by
  have hK := ord_keeps h hF
  have hH : Heads os (upTo os.length) (hdC os) := ⟨fun i hi => by
    obtain ⟨h1, h2, _⟩ := hdC_ok h.laid (hK.rng i hi)
    exact ⟨h2, h1.symm⟩⟩
  have hS1 := rel_sound h hw hK hH
  have w1 := (rel_w64 h hw hK (hd := hdC os) (fun i hi => (hdC_ok h.laid (hK.rng i hi)).2.2.1)).1
  obtain ⟨m1, m2⟩ := move_again h
  rw [m1, m2] at hS1
  rw [m1] at w1
  exact ⟨hS1, w1⟩
end Go.Proofs.Ytigdpdndnghldaa
