/- Arenas moved: objects of a list, in its order. Plain. -/
import Derived.Test.YtgdodbdipbomfaaBe
import Derived.Test.YtgdodbdipbomfaaBase3
namespace Go.Proofs.Ytgdodbdipbomfaa
open Go.RowKit

/-! ### Sums over lists of numbers -/
theorem sum_erase (f : Int → Nat) : ∀ (L : List Int) (x : Int), x ∈ L → (L.map f).sum = f x + ((L.erase x).map f).sum
  | [], x, h => by cases h
  | y :: L, x, h => by
    by_cases e : y = x
    · subst e; rw [List.erase_cons_head, List.map_cons, List.sum_cons]
    · have hm : x ∈ L := by
        rcases List.mem_cons.1 h with h1 | h1
        · exact absurd h1.symm e
        · exact h1
      rw [List.erase_cons_tail (by simpa using e), List.map_cons, List.sum_cons, List.map_cons, List.sum_cons, sum_erase f L x hm]; omega
theorem sum_sub (f : Int → Nat) : ∀ (F L : List Int), F.Nodup → (∀ x ∈ F, x ∈ L) → (F.map f).sum ≤ (L.map f).sum
  | [], _, _, _ => by simp
  | x :: F, L, hn, hs => by
    rw [List.nodup_cons] at hn
    have ih := sum_sub f F (L.erase x) hn.2 (fun y hy => by
      rw [List.mem_erase_of_ne (by rintro rfl; exact hn.1 hy)]
      exact hs y (List.mem_cons_of_mem _ hy))
    rw [List.map_cons, List.sum_cons, sum_erase f L x (hs x List.mem_cons_self)]; omega
theorem sum_same (f : Int → Nat) {F L : List Int} (hF : F.Nodup) (hL : L.Nodup) (h : ∀ x, x ∈ F ↔ x ∈ L) : (F.map f).sum = (L.map f).sum :=
  Nat.le_antisymm (sum_sub f F L hF fun x hx => (h x).1 hx) (sum_sub f L F hL fun x hx => (h x).2 hx)

/-! ### Rows of objects -/
theorem flat_head {os : List Ob} {k : Nat} {o : Ob} (h : os[k]? = some o) : (flat os)[place os k]? = some o.1 := by
  unfold place; rw [flat_part h, List.getElem?_append_right (Nat.le_refl _)]; simp
theorem flat_field {os : List Ob} {k : Nat} {o : Ob} (h : os[k]? = some o) {j : Nat} {x : Int} (hx : o.2[j]? = some x) : (flat os)[place os k + 1 + j]? = some x := by
  rw [flat_part h, List.getElem?_append_right (by unfold place; omega), show place os k + 1 + j - (flat (os.take k)).length = j + 1 by unfold place; omega, List.getElem?_cons_succ, List.getElem?_append_left (List.getElem?_eq_some_iff.1 hx).1]; exact hx

def obj (os : List Ob) (i : Int) : Ob := os.getD i.toNat (0, [])
def szO (os : List Ob) (i : Int) : Nat := 1 + (obj os i).2.length
def placeF (os : List Ob) (F : List Int) (k : Nat) : Nat := ((F.take k).map (szO os)).sum
/-- A word that may be a reference, where all is moved. -/
def mvW (os : List Ob) (F : List Int) (x : Int) : Int := if x % 2 = 1 then x else 2 * (placeF os F (plc F (idx os (x / 2)) 0).toNat : Int)
def relO (os : List Ob) (F : List Int) (hd : Int → Int) : List Ob := F.map fun i => (hd i, (obj os i).2.map (mvW os F))
def rawO (os : List Ob) (hd : Int → Int) (F : List Int) : List Ob := F.map fun i => (hd i, (obj os i).2)

theorem obj_get {os : List Ob} {i : Int} (h : 0 ≤ i ∧ i < (os.length : Int)) : os[i.toNat]? = some (obj os i) := by
  unfold obj
  rw [List.getD_eq_getElem?_getD, List.getElem?_eq_getElem (by omega)]; rfl
theorem rel_place (os : List Ob) (F : List Int) (hd : Int → Int) (k : Nat) : place (relO os F hd) k = placeF os F k := by
  unfold place placeF relO
  rw [flat_sum, ← List.map_take, List.map_map]
  congr 1
  exact List.map_congr_left fun i _ => by simp [szO]
theorem raw_place (os : List Ob) (F : List Int) (hd : Int → Int) (k : Nat) : place (rawO os hd F) k = placeF os F k := by
  unfold place placeF rawO
  rw [flat_sum, ← List.map_take, List.map_map]
  congr 1
theorem rel_len (os : List Ob) (F : List Int) (hd : Int → Int) : (flat (relO os F hd)).length = placeF os F F.length := by
  rw [← place_all, rel_place]; unfold relO; rw [List.length_map]
theorem raw_len (os : List Ob) (F : List Int) (hd : Int → Int) : (flat (rawO os hd F)).length = placeF os F F.length := by
  rw [← place_all, raw_place]; unfold rawO; rw [List.length_map]
theorem placeF_mono (os : List Ob) (F : List Int) {j k : Nat} (h : j ≤ k) : placeF os F j ≤ placeF os F k := by
  rw [← raw_place os F (fun _ => 0), ← raw_place os F (fun _ => 0)]; exact place_mono h
theorem placeF_succ (os : List Ob) {F : List Int} {k : Nat} {i : Int} (h : F[k]? = some i) : placeF os F (k + 1) = placeF os F k + szO os i := by
  unfold placeF; rw [take_succ_some _ _ _ h, List.map_append, List.sum_append]; simp
theorem placeF_pre (os : List Ob) {F P : List Int} (h : P <+: F) {k : Nat} (hk : k ≤ P.length) : placeF os F k = placeF os P k := by
  obtain ⟨t, rfl⟩ := h
  unfold placeF; rw [List.take_append_of_le_length hk]
theorem flat_upTo (os : List Ob) : (flat os).length = ((upTo os.length).map (szO os)).sum := by
  rw [flat_sum]
  congr 1
  refine List.ext_getElem? fun k => ?_
  rw [List.getElem?_map, List.getElem?_map]
  by_cases hk : k < os.length
  · rw [show (upTo os.length)[k]? = some (k : Int) by simp [upTo, hk], List.getElem?_eq_getElem hk]
    simp [szO, obj, hk]
  · rw [List.getElem?_eq_none (by omega), List.getElem?_eq_none (by rw [upTo_len]; omega)]; rfl
theorem placeF_le {os : List Ob} {F : List Int} (hn : F.Nodup) (hr : ∀ x ∈ F, 0 ≤ x ∧ x < (os.length : Int)) (k : Nat) : placeF os F k ≤ (flat os).length := by
  refine Nat.le_trans (placeF_mono os F (show k ≤ max k F.length by omega)) ?_
  unfold placeF
  rw [List.take_of_length_le (by omega), flat_upTo]
  exact sum_sub _ _ _ hn fun x hx => mem_upTo.2 (hr x hx)

/-- What a list of objects must be. -/
structure Keeps (os : List Ob) (rs : List Int) (F : List Int) : Prop where
  nodup : F.Nodup
  rng : ∀ x ∈ F, 0 ≤ x ∧ x < (os.length : Int)
  roots : ∀ x ∈ rs, x % 2 = 0 → (idx os (x / 2) : Int) ∈ F
  fields : ∀ i ∈ F, ∀ x ∈ (obj os i).2, x % 2 = 0 → (idx os (x / 2) : Int) ∈ F
theorem mv_ok {os : List Ob} {F : List Int} (hd : Int → Int) (hn : F.Nodup) (hl : placeF os F F.length ≤ 256) {x : Int} (hx : x % 2 = 1 ∧ w64 x ∨ x % 2 = 0 ∧ (idx os (x / 2) : Int) ∈ F) :
    w64 (mvW os F x) ∧ RefOk (relO os F hd) (mvW os F x) ∧ valG (relO os F hd) (mvW os F x) = turnV (fun y => plc F y 0) (valG os x) := by
  rcases hx with ⟨h, h64⟩ | ⟨h, hin⟩
  · unfold mvW
    rw [if_pos h]
    refine ⟨h64, .inl h, ?_⟩
    unfold valG turnV
    rw [if_pos h, if_pos h, if_neg (by simp)]
  · obtain ⟨k, hk⟩ := List.getElem?_of_mem hin
    have hkl := (List.getElem?_eq_some_iff.1 hk).1
    have hp := plc_at hn hk
    have e : mvW os F x = 2 * (placeF os F k : Int) := by unfold mvW; rw [if_neg (by omega), hp]; rfl
    have hlt : placeF os F k < 256 := by
      have h1 := placeF_succ os hk
      have h2 := placeF_mono os F (show k + 1 ≤ F.length by omega)
      unfold szO at h1; omega
    have h2 : 2 * (placeF os F k : Int) / 2 = (place (relO os F hd) k : Int) := by rw [rel_place]; omega
    have hrl : k < (relO os F hd).length := by unfold relO; rw [List.length_map]; exact hkl
    rw [e]
    refine ⟨by unfold w64; omega, .inr ⟨by omega, by omega, ?_⟩, ?_⟩
    · rw [h2]; exact starts_mem.2 ⟨k, hrl, rfl⟩
    · have hv : valG os x = ⟨true, (idx os (x / 2) : Int)⟩ := by unfold valG; rw [if_neg (by omega)]
      rw [hv]
      unfold turnV valG
      rw [if_neg (by omega), h2, idx_place hrl, if_pos rfl]
      simp only [hp]
structure Heads (os : List Ob) (F : List Int) (hd : Int → Int) : Prop where
  ok : ∀ i ∈ F, isHead (hd i) ∧ (((obj os i).2.length : Nat) : Int) = hd i % 256
theorem word_in {rs : List Int} {os : List Ob} (hw : ∀ x ∈ allW rs os, w64 x) {F : List Int} (hK : Keeps os rs F) :
    (∀ x ∈ rs, x % 2 = 1 ∧ w64 x ∨ x % 2 = 0 ∧ (idx os (x / 2) : Int) ∈ F) ∧ ∀ i ∈ F, ∀ x ∈ (obj os i).2, x % 2 = 1 ∧ w64 x ∨ x % 2 = 0 ∧ (idx os (x / 2) : Int) ∈ F := by
  constructor
  · intro x hx
    by_cases hp : x % 2 = 1
    · exact .inl ⟨hp, hw x (List.mem_append_left _ hx)⟩
    · exact .inr ⟨by omega, hK.roots x hx (by omega)⟩
  · intro i hi x hx
    by_cases hp : x % 2 = 1
    · exact .inl ⟨hp, hw x (List.mem_append_right _ (List.mem_flatMap.2 ⟨_, List.mem_of_getElem? (obj_get (hK.rng i hi)), hx⟩))⟩
    · exact .inr ⟨by omega, hK.fields i hi x hx (by omega)⟩
theorem rel_sound {ws rs : List Int} {os : List Ob} (h : Sound ws rs os) (hw : ∀ x ∈ allW rs os, w64 x) {F : List Int} (hK : Keeps os rs F) {hd : Int → Int} (hH : Heads os F hd) :
    Sound (flat (relO os F hd)) (rs.map (mvW os F)) (relO os F hd) := by
  have hl : placeF os F F.length ≤ 256 := by
    have h1 := placeF_le hK.nodup hK.rng F.length
    have h2 := h.words
    rw [h.laid.1] at h2; omega
  obtain ⟨hi1, hi2⟩ := word_in hw hK
  refine ⟨by rw [rel_len]; exact hl, by rw [List.length_map]; exact h.roots, ⟨rfl, ?_⟩, ?_⟩
  · intro o ho
    obtain ⟨i, hi, rfl⟩ := List.mem_map.1 ho
    have := hH.ok i hi
    exact ⟨this.1, by simp only [List.length_map]; exact this.2⟩
  · intro x hx
    rcases List.mem_append.1 hx with hx | hx
    · obtain ⟨y, hy, rfl⟩ := List.mem_map.1 hx
      exact (mv_ok hd hK.nodup hl (hi1 y hy)).2.1
    · obtain ⟨o, ho, hx⟩ := List.mem_flatMap.1 hx
      obtain ⟨i, hi, rfl⟩ := List.mem_map.1 ho
      obtain ⟨y, hy, rfl⟩ := List.mem_map.1 hx
      exact (mv_ok hd hK.nodup hl (hi2 i hi y hy)).2.1
theorem rel_w64 {ws rs : List Int} {os : List Ob} (h : Sound ws rs os) (hw : ∀ x ∈ allW rs os, w64 x) {F : List Int} (hK : Keeps os rs F) {hd : Int → Int} (hd64 : ∀ i ∈ F, w64 (hd i)) :
    (∀ x ∈ flat (relO os F hd), w64 x) ∧ ∀ x ∈ rs.map (mvW os F), w64 x := by
  have hl : placeF os F F.length ≤ 256 := by
    have h1 := placeF_le hK.nodup hK.rng F.length
    have h2 := h.words
    rw [h.laid.1] at h2; omega
  obtain ⟨hi1, hi2⟩ := word_in hw hK
  constructor
  · intro x hx
    obtain ⟨o, ho, hx⟩ := List.mem_flatMap.1 hx
    obtain ⟨i, hi, rfl⟩ := List.mem_map.1 ho
    rcases List.mem_cons.1 hx with rfl | hx
    · exact hd64 i hi
    · obtain ⟨y, hy, rfl⟩ := List.mem_map.1 hx
      exact (mv_ok hd hK.nodup hl (hi2 i hi y hy)).1
  · intro x hx
    obtain ⟨y, hy, rfl⟩ := List.mem_map.1 hx
    exact (mv_ok hd hK.nodup hl (hi1 y hy)).1
theorem read_field {os : List Ob} {rs : List Int} {i : Int} (h : 0 ≤ i ∧ i < (os.length : Int)) : fieldsAt (readG os rs) i = (obj os i).2.map (valG os) := by
  unfold fieldsAt readG
  rw [List.getD_eq_getElem?_getD, List.getElem?_map, obj_get h]; rfl
/-- What was moved is read renumbered. -/
theorem rel_read {ws rs : List Int} {os : List Ob} (h : Sound ws rs os) (hw : ∀ x ∈ allW rs os, w64 x) {F : List Int} (hK : Keeps os rs F) (hd : Int → Int) :
    readG (relO os F hd) (rs.map (mvW os F)) = renumP (readG os rs) F (fun y => plc F y 0) := by
  have hl : placeF os F F.length ≤ 256 := by
    have h1 := placeF_le hK.nodup hK.rng F.length
    have h2 := h.words
    rw [h.laid.1] at h2; omega
  obtain ⟨hi1, hi2⟩ := word_in hw hK
  show G.mk _ _ = G.mk _ _
  congr 1
  · unfold relO
    rw [List.map_map]
    refine List.map_congr_left fun i hi => ?_
    rw [read_field (hK.rng i hi), List.map_map]
    show ((obj os i).2.map _).map _ = _
    rw [List.map_map]
    exact List.map_congr_left fun x hx => (mv_ok hd hK.nodup hl (hi2 i hi x hx)).2.2
  · show _ = (rs.map (valG os)).map _
    rw [List.map_map, List.map_map]
    exact List.map_congr_left fun x hx => (mv_ok hd hK.nodup hl (hi1 x hx)).2.2
/-- References in a sound arena are to its objects. -/
theorem read_rng {ws rs : List Int} {os : List Ob} (h : Sound ws rs os) : Rng (readG os rs) := by
  intro v hv hr
  have : ∃ x ∈ allW rs os, valG os x = v := by
    rcases List.mem_append.1 hv with hv | hv
    · obtain ⟨x, hx, rfl⟩ := List.mem_map.1 hv
      exact ⟨x, List.mem_append_left _ hx, rfl⟩
    · obtain ⟨o, ho, hv⟩ := List.mem_flatten.1 hv
      obtain ⟨y, hy, rfl⟩ := List.mem_map.1 ho
      obtain ⟨x, hx, rfl⟩ := List.mem_map.1 hv
      exact ⟨x, List.mem_append_right _ (List.mem_flatMap.2 ⟨y, hy, hx⟩), rfl⟩
  obtain ⟨x, hx, rfl⟩ := this
  have hl : (readG os rs).objs.length = os.length := by show (os.map _).length = _; rw [List.length_map]
  rw [hl]
  rcases h.refs x hx with hodd | ⟨heven, hsm, hin⟩
  · unfold valG at hr
    rw [if_pos hodd] at hr; cases hr
  · obtain ⟨k, hk, he⟩ := starts_mem.1 hin
    unfold valG
    rw [if_neg (by omega), he, idx_place hk]
    exact ⟨by simp only; omega, by simp only; omega⟩
theorem targets_words (os : List Ob) (l : List Int) : targets (l.map (valG os)) = (l.filter (fun x => x % 2 != 1)).map fun x => (idx os (x / 2) : Int) := by
  induction l with
  | nil => rfl
  | cons x l ih =>
    unfold targets at *
    by_cases h : x % 2 = 1
    · simp [valG, h]; simpa using ih
    · simp [valG, h]; simpa using ih
theorem mem_targets_words {os : List Ob} {l : List Int} {x : Int} (hx : x ∈ l) (h : x % 2 = 0) : (idx os (x / 2) : Int) ∈ targets (l.map (valG os)) := by
  rw [targets_words]
  exact List.mem_map.2 ⟨x, List.mem_filter.2 ⟨hx, by simp; omega⟩, rfl⟩
theorem ord_keeps {ws rs : List Int} {os : List Ob} (h : Sound ws rs os) {F : List Int} (hF : OrdS (readG os rs) F) : Keeps os rs F := by
  have hr := read_rng h
  have hl : (readG os rs).objs.length = os.length := by show (os.map _).length = _; rw [List.length_map]
  have hrng := hF.rng hr
  rw [hl] at hrng
  refine ⟨hF.nodup, hrng, fun x hx he => hF.roots _ (mem_targets_words hx he), ?_⟩
  intro i hi x hx he
  refine hF.closed hi _ ?_
  rw [read_field (hrng i hi)]
  exact mem_targets_words hx he
end Go.Proofs.Ytgdodbdipbomfaa
