/- Objects that live, moved down in the order in which they stand. Plain. -/
import Derived.Test.YtgdodbdipbomfaaBo
import Derived.Test.YtgdodbdipbomfaaSg
import Derived.Test.YtgdodbdipbomfaaSa
namespace Go.Proofs.Ytgdodbdipbomfaa
open Go.RowKit

/-- Those of the first n objects that are of F. -/
def riseN (F : List Int) (n : Nat) : List Int := (upTo n).filter fun i => decide (i ∈ F)
theorem upTo_succ (n : Nat) : upTo (n + 1) = upTo n ++ [(n : Int)] := by
  unfold upTo; rw [List.range_succ, List.map_append]; rfl
theorem nodup_upTo (n : Nat) : (upTo n).Nodup := by
  unfold upTo
  rw [List.Nodup, List.pairwise_map]
  exact List.nodup_range.imp (fun h e => h (by omega))
theorem riseN_zero (F : List Int) : riseN F 0 = [] := rfl
theorem riseN_take {F : List Int} {n : Nat} (h : (n : Int) ∈ F) : riseN F (n + 1) = riseN F n ++ [(n : Int)] := by
  unfold riseN; rw [upTo_succ, List.filter_append]; simp [h]
theorem riseN_skip {F : List Int} {n : Nat} (h : (n : Int) ∉ F) : riseN F (n + 1) = riseN F n := by
  unfold riseN; rw [upTo_succ, List.filter_append]; simp [h]
theorem mem_riseN {F : List Int} {n : Nat} {x : Int} : x ∈ riseN F n ↔ (0 ≤ x ∧ x < (n : Int)) ∧ x ∈ F := by
  unfold riseN; rw [List.mem_filter, mem_upTo]; simp
theorem riseN_nodup (F : List Int) (n : Nat) : (riseN F n).Nodup := List.Nodup.sublist List.filter_sublist (nodup_upTo n)
theorem riseN_pre (F : List Int) {m : Nat} : ∀ {n : Nat}, m ≤ n → riseN F m <+: riseN F n
  | 0, h => by obtain rfl : m = 0 := by omega
               exact List.prefix_refl _
  | n + 1, h => by
    rcases Nat.lt_or_ge n m with h1 | h1
    · obtain rfl : m = n + 1 := by omega
      exact List.prefix_refl _
    · refine (riseN_pre F h1).trans ?_
      by_cases hn : (n : Int) ∈ F
      · rw [riseN_take hn]; exact List.prefix_append _ _
      · rw [riseN_skip hn]; exact List.prefix_refl _
theorem riseN_len (F : List Int) (n : Nat) : (riseN F n).length ≤ n := by
  have := List.length_filter_le (fun i => decide (i ∈ F)) (upTo n)
  rw [upTo_len] at this; exact this
theorem plc_rise {F : List Int} {m n : Nat} (h : (m : Int) ∈ F) (hm : m < n) : plc (riseN F n) (m : Int) 0 = ((riseN F m).length : Int) := by
  refine plc_at (riseN_nodup F n) ?_
  have hp := riseN_pre F (show m + 1 ≤ n by omega)
  rw [riseN_take h] at hp
  rw [prefix_get hp (k := (riseN F m).length) (by simp)]
  simp
/-- The header of what lives: as it was, without a mark. -/
def hdD (os : List Ob) (i : Int) : Int := hdS (obj os i).1 false
/-- The first of those that live, moved. -/
def relP (os : List Ob) (R : List Int) (hd : Int → Int) (P : List Int) : List Ob := P.map fun i => (hd i, (obj os i).2.map (mvW os R))
theorem relP_all (os : List Ob) (R : List Int) (hd : Int → Int) : relP os R hd R = relO os R hd := rfl
theorem relP_snoc (os : List Ob) (R : List Int) (hd : Int → Int) (P : List Int) (i : Int) : flat (relP os R hd (P ++ [i])) = flat (relP os R hd P) ++ [hd i] ++ (obj os i).2.map (mvW os R) := by
  unfold relP; rw [List.map_append, flat_append, List.map_singleton, flat_one, List.append_assoc]; rfl
theorem relP_len (os : List Ob) (R : List Int) (hd : Int → Int) (P : List Int) : (flat (relP os R hd P)).length = placeF os P P.length := by
  unfold relP placeF
  rw [flat_sum, List.take_length, List.map_map]
  congr 1
  exact List.map_congr_left fun i _ => by simp [szO]

section
variable {ws rs : List Int} {os : List Ob} {F : List Int}
theorem rise_mem (h : Sound ws rs os) (hF : OrdS (readG os rs) F) {x : Int} : x ∈ riseN F os.length ↔ x ∈ F := by
  rw [mem_riseN]
  exact ⟨fun h => h.2, fun hx => ⟨(ord_keeps h hF).rng x hx, hx⟩⟩
theorem rise_keeps (h : Sound ws rs os) (hF : OrdS (readG os rs) F) : Keeps os rs (riseN F os.length) := by
  have hK := ord_keeps h hF
  exact ⟨riseN_nodup _ _, fun x hx => hK.rng x ((rise_mem h hF).1 hx), fun x hx he => (rise_mem h hF).2 (hK.roots x hx he),
    fun i hi x hx he => (rise_mem h hF).2 (hK.fields i ((rise_mem h hF).1 hi) x hx he)⟩
theorem rise_closed (h : Sound ws rs os) (hF : OrdS (readG os rs) F) : ClosedF (readG os rs) (riseN F os.length) := by
  have hc := hF.closedF (read_rng h)
  exact ⟨riseN_nodup _ _, fun x hx => hc.rng x ((rise_mem h hF).1 hx), fun x hx => (rise_mem h hF).2 (hc.roots x hx),
    fun i hi x hx => (rise_mem h hF).2 (hc.fields i ((rise_mem h hF).1 hi) x hx)⟩
theorem rise_size (h : Sound ws rs os) (hF : OrdS (readG os rs) F) : placeF os (riseN F os.length) (riseN F os.length).length = placeF os F F.length := by
  unfold placeF
  rw [List.take_length, List.take_length]
  exact sum_same (szO os) (riseN_nodup _ _) hF.nodup fun x => rise_mem h hF
theorem rise_heads (h : Sound ws rs os) {R : List Int} (hr : ∀ x ∈ R, 0 ≤ x ∧ x < (os.length : Int)) : Heads os R (hdD os) := ⟨fun i hi => by
  have hg := h.laid.good (obj_get (hr i hi))
  obtain ⟨h1, _, _, h4, _⟩ := hdS_parts hg.1 false
  exact ⟨h4, by unfold hdD; rw [h1]; exact hg.2.1⟩⟩
theorem rise_64 (h : Sound ws rs os) {R : List Int} (hr : ∀ x ∈ R, 0 ≤ x ∧ x < (os.length : Int)) : ∀ i ∈ R, w64 (hdD os i) := fun i hi =>
  (hdS_parts (h.laid.good (obj_get (hr i hi))).1 false).2.2.2.2
theorem idx_rise (h : Sound ws rs os) (hF : OrdS (readG os rs) F) {x : Int} (hx : x ∈ rs ∨ ∃ i ∈ riseN F os.length, x ∈ (obj os i).2) : x % 2 = 1 ∨ x % 2 = 0 ∧ x < 512 ∧ ∃ i : Nat, i < os.length ∧ x / 2 = place os i ∧ (i : Int) ∈ F := by
  have hK := rise_keeps h hF
  have hin : x ∈ allW rs os := by
    rcases hx with hx | ⟨i, hi, hx⟩
    · exact List.mem_append_left _ hx
    · exact List.mem_append_right _ (List.mem_flatMap.2 ⟨_, List.mem_of_getElem? (obj_get (hK.rng i hi)), hx⟩)
  rcases h.refs x hin with hodd | ⟨heven, hsm, hst⟩
  · exact .inl hodd
  · obtain ⟨k, hk, e⟩ := starts_mem.1 hst
    have hm : (idx os (x / 2) : Int) ∈ riseN F os.length := by
      rcases hx with hx | ⟨i, hi, hx⟩
      · exact hK.roots x hx heven
      · exact hK.fields i hi x hx heven
    rw [e, idx_place hk] at hm
    exact .inr ⟨heven, hsm, k, hk, e, (rise_mem h hF).1 hm⟩
/-- What was moved down: sound, read renumbered, and found as it was, but for names. -/
theorem slide_plain (h : Sound ws rs os) (hw : ∀ x ∈ allW rs os, w64 x) (hF : OrdS (readG os rs) F) :
    ∃ R os1 rs1, R = riseN F os.length ∧ os1 = relO os R (hdD os) ∧ rs1 = rs.map (mvW os R) ∧ Sound (flat os1) rs1 os1 ∧ (∀ x ∈ flat os1, w64 x) ∧ (∀ x ∈ rs1, w64 x) ∧ (flat os1).length = placeF os F F.length ∧ ClosedF (readG os rs) R ∧
      readG os1 rs1 = renumP (readG os rs) R (fun y => plc R y 0) ∧ os1.length = R.length := by
  have hK := rise_keeps h hF
  have hH := rise_heads h hK.rng
  obtain ⟨w1, w2⟩ := rel_w64 h hw hK (hd := hdD os) (rise_64 h hK.rng)
  exact ⟨_, _, _, rfl, rfl, rfl, rel_sound h hw hK hH, w1, w2, (rel_len _ _ _).trans (rise_size h hF), rise_closed h hF, rel_read h hw hK (hdD os), by unfold relO; rw [List.length_map]⟩
/-- The order found of what was moved down. -/
theorem slide_order {g g1 : G} {R F F1 : List Int} (hc : ClosedF g R) (he : g1 = renumP g R (fun y => plc R y 0)) (hF : OrdS g F) (h1 : OrdS g1 F1) : F = F1.map (backF R) := by
  have I := iso_back hc
  rw [← he] at I
  exact hF.unique (iso_ord I h1)
theorem slide_all {g g1 : G} {R F F1 : List Int} (hc : ClosedF g R) (he : g1 = renumP g R (fun y => plc R y 0)) (hF : OrdS g F) (h1 : OrdS g1 F1) (hr1 : Rng g1) (hR : ∀ x ∈ R, x ∈ F) : ∀ x, 0 ≤ x ∧ x < (R.length : Int) → x ∈ F1 := by
  intro x hx
  have I := iso_back hc
  rw [← he] at I
  have e := hF.unique (iso_ord I h1)
  have hxm : backF R x ∈ F := by
    refine hR _ ?_
    unfold backF
    rw [List.getD_eq_getElem?_getD, List.getElem?_eq_getElem (by omega)]
    exact List.getElem_mem _
  rw [e] at hxm
  obtain ⟨y, hy, e2⟩ := List.mem_map.1 hxm
  have hl : g1.objs.length = R.length := by rw [he]; unfold renumP; simp
  have hy2 := h1.rng hr1 y hy
  rw [hl] at hy2
  have := I.inj y (mem_upTo.2 hy2) x (mem_upTo.2 hx) e2
  subst this; exact hy
theorem rise_upTo {F1 : List Int} {n : Nat} (h : ∀ x, 0 ≤ x ∧ x < (n : Int) → x ∈ F1) : riseN F1 n = upTo n := by
  unfold riseN
  rw [List.filter_eq_self]
  intro x hx
  simpa using h x (mem_upTo.1 hx)
theorem mv_stays {os : List Ob} {x : Int} (h : RefOk os x) : mvW os (upTo os.length) x = x := by
  rcases h with h | ⟨heven, _, hin⟩
  · exact if_pos h
  · obtain ⟨i, hi, e⟩ := starts_mem.1 hin
    unfold mvW
    rw [if_neg (by omega), e, idx_place hi, plc_at (nodup_upTo _) (upTo_get hi), Int.toNat_natCast, place_upTo (Nat.le_of_lt hi)]
    omega
/-- What is all come to, and has no mark, stays. -/
theorem rel_stays {os1 : List Ob} {rs1 : List Int} (h : Sound (flat os1) rs1 os1) (hh : ∀ o ∈ os1, hdS o.1 false = o.1) : relO os1 (upTo os1.length) (hdD os1) = os1 ∧ rs1.map (mvW os1 (upTo os1.length)) = rs1 := by
  constructor
  · refine List.ext_getElem? fun k => ?_
    unfold relO
    rw [List.getElem?_map]
    by_cases hk : k < os1.length
    · obtain ⟨o, ho⟩ := get_some os1 k hk
      rw [upTo_get hk, ho, Option.map_some]
      unfold hdD
      rw [obj_at' ho, hh o (List.mem_of_getElem? ho)]
      congr 1
      refine Prod.ext rfl ?_
      conv => rhs; rw [← List.map_id o.2]
      exact List.map_congr_left fun x hx => mv_stays (h.refs x (List.mem_append_right _ (List.mem_flatMap.2 ⟨o, List.mem_of_getElem? ho, hx⟩)))
    · rw [List.getElem?_eq_none (by rw [upTo_len]; omega), List.getElem?_eq_none (by omega)]; rfl
  · conv => rhs; rw [← List.map_id rs1]
    exact List.map_congr_left fun x hx => mv_stays (h.refs x (List.mem_append_left _ hx))
end
end Go.Proofs.Ytgdodbdipbomfaa
