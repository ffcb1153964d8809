/- What was moved and what it was: relabelled one way and the other. Plain. -/
import Derived.Test.YtgdodbdipbomfaaBn
namespace Go.Proofs.Ytgdodbdipbomfaa
open Go.RowKit

theorem fits_read {ws rs : List Int} {os : List Ob} (h : Sound ws rs os) (hw : ∀ x ∈ allW rs os, w64 x) : Fits (readG os rs) := by
  have hc := h.laid.count
  have hws := h.words
  have hl : (readG os rs).objs.length = os.length := by show (os.map _).length = _; rw [List.length_map]
  refine ⟨by omega, by show (rs.map _).length ≤ 1000; rw [List.length_map]; have := h.roots; omega, ?_, read_rng h, ?_⟩
  · intro o ho
    obtain ⟨x, hx, rfl⟩ := List.mem_map.1 ho
    obtain ⟨k, hk⟩ := List.getElem?_of_mem hx
    rw [List.length_map]; have := (h.laid.good hk).2.2; omega
  · intro v hv
    have : ∃ x ∈ allW rs os, valG os x = v := by
      rcases List.mem_append.1 hv with hv | hv
      · obtain ⟨x, hx, rfl⟩ := List.mem_map.1 hv
        exact ⟨x, List.mem_append_left _ hx, rfl⟩
      · obtain ⟨o, ho, hv⟩ := List.mem_flatten.1 hv
        obtain ⟨y, hy, rfl⟩ := List.mem_map.1 ho
        obtain ⟨x, hx, rfl⟩ := List.mem_map.1 hv
        exact ⟨x, List.mem_append_right _ (List.mem_flatMap.2 ⟨y, hy, hx⟩), rfl⟩
    obtain ⟨x, hx, rfl⟩ := this
    exact valG_64 os (by omega) x (hw x hx)
theorem turn_back {p q : Int → Int} {l : List V} (h : ∀ j ∈ targets l, q (p j) = j) : (l.map (turnV p)).map (turnV q) = l := by
  rw [List.map_map]
  conv => rhs; rw [← List.map_id l]
  refine List.map_congr_left fun v hv => ?_
  obtain ⟨r, n⟩ := v
  cases r with
  | false => rfl
  | true =>
    show (⟨true, q (p n)⟩ : V) = ⟨true, n⟩
    rw [h n (mem_targets hv rfl)]
/-- The way back. -/
def backF (F : List Int) (j : Int) : Int := F.getD j.toNat 0
theorem back_plc {F : List Int} (hn : F.Nodup) {x : Int} (hx : x ∈ F) : backF F (plc F x 0) = x := by
  obtain ⟨k, hk⟩ := List.getElem?_of_mem hx
  unfold backF
  rw [plc_at hn hk, Int.toNat_natCast, List.getD_eq_getElem?_getD, hk]; rfl
theorem plc_lt {F : List Int} (hn : F.Nodup) {x : Int} (hx : x ∈ F) : 0 ≤ plc F x 0 ∧ plc F x 0 < (F.length : Int) := by
  obtain ⟨k, hk⟩ := List.getElem?_of_mem hx
  have := (List.getElem?_eq_some_iff.1 hk).1
  rw [plc_at hn hk]; omega
/-- F holds what it leads to. -/
structure ClosedF (g : G) (F : List Int) : Prop where
  nodup : F.Nodup
  rng : ∀ x ∈ F, 0 ≤ x ∧ x < (g.objs.length : Int)
  roots : ∀ j ∈ targets g.roots, j ∈ F
  fields : ∀ x ∈ F, ∀ j ∈ targets (fieldsAt g x), j ∈ F
theorem OrdS.closedF {g : G} {F : List Int} (hr : Rng g) (h : OrdS g F) : ClosedF g F := ⟨h.nodup, h.rng hr, h.roots, fun _ hx => h.closed hx⟩
theorem iso_back {g : G} {F : List Int} (h : ClosedF g F) : Iso (renumP g F (fun y => plc F y 0)) g (upTo F.length) (backF F) := by
  have hat : ∀ j ∈ upTo F.length, ∃ (k : Nat) (x : Int), j = k ∧ F[k]? = some x ∧ backF F j = x := by
    intro j hj
    have := mem_upTo.1 hj
    obtain ⟨k, rfl⟩ : ∃ k : Nat, j = k := ⟨j.toNat, by omega⟩
    obtain ⟨x, hx⟩ := get_some F k (by omega)
    exact ⟨k, x, rfl, hx, by unfold backF; rw [Int.toNat_natCast, List.getD_eq_getElem?_getD, hx]; rfl⟩
  have hfl : ∀ (k : Nat) (x : Int), F[k]? = some x → fieldsAt (renumP g F (fun y => plc F y 0)) (k : Int) = (fieldsAt g x).map (turnV fun y => plc F y 0) := by
    intro k x hx
    unfold fieldsAt renumP
    rw [List.getD_eq_getElem?_getD, Int.toNat_natCast, List.getElem?_map, hx]; rfl
  refine ⟨?_, ?_, ?_, ?_, ?_, ?_⟩
  · intro j hj
    obtain ⟨k, x, rfl, hx, e⟩ := hat j hj
    rw [e]
    refine ⟨?_, h.rng x (List.mem_of_getElem? hx)⟩
    have := mem_upTo.1 hj
    show 0 ≤ (k : Int) ∧ (k : Int) < (((F.map _).length : Nat) : Int)
    rw [List.length_map]; exact this
  · intro j hj i hi e
    obtain ⟨k, x, rfl, hx, e1⟩ := hat j hj
    obtain ⟨l, y, rfl, hy, e2⟩ := hat i hi
    rw [e1, e2] at e
    subst e
    have h1 := plc_at h.nodup hx
    have h2 := plc_at h.nodup hy
    omega
  · exact (turn_back fun j hj => back_plc h.nodup (h.roots j hj)).symm
  · intro j hj
    rw [show (renumP g F fun y => plc F y 0).roots = g.roots.map (turnV fun y => plc F y 0) from rfl, targets_map] at hj
    obtain ⟨x, hx, rfl⟩ := List.mem_map.1 hj
    exact mem_upTo.2 (plc_lt h.nodup (h.roots x hx))
  · intro j hj
    obtain ⟨k, x, rfl, hx, e⟩ := hat j hj
    rw [e, hfl k x hx]
    exact (turn_back fun i hi => back_plc h.nodup (h.fields x (List.mem_of_getElem? hx) i hi)).symm
  · intro j hj i hi
    obtain ⟨k, x, rfl, hx, e⟩ := hat j hj
    rw [hfl k x hx, targets_map] at hi
    obtain ⟨y, hy, rfl⟩ := List.mem_map.1 hi
    exact mem_upTo.2 (plc_lt h.nodup (h.fields x (List.mem_of_getElem? hx) y hy))
theorem lab_back {g : G} {F : List Int} (hg : g.objs.length ≤ 1000) (h : ClosedF g F) : Lab (upTo F.length) (backF F) := by
  have I := iso_back h
  have h2 := nodup_sub_len F (upTo g.objs.length) h.nodup (fun x hx => mem_upTo.2 (h.rng x hx))
  rw [upTo_len] at h2
  refine ⟨I.inj, fun x hx => ?_, by rw [upTo_len]; omega⟩
  have h3 := mem_upTo.1 hx
  have h4 := (I.rng x hx).2
  exact ⟨by unfold i64ok; omega, by unfold i64ok; omega⟩
end Go.Proofs.Ytgdodbdipbomfaa
