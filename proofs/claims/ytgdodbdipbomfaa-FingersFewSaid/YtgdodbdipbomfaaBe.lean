/- Lay: the plain law: graphs as rows of words, and back. -/
import Derived.Test.YtgdodbdipbomfaaAn
namespace Go.Proofs.Ytgdodbdipbomfaa
open Go.RowKit

theorem headP (l : Nat) (h1 : l ≤ 4) : headW l 0 false % 256 = l ∧ isHead (headW l 0 false) ∧ w64 (headW l 0 false) := by
  have h2 : headW l 0 false % 256 = l := by unfold headW; simp; omega
  refine ⟨h2, (isHead_iff _).2 ⟨by omega, by unfold headW; simp; omega⟩, by unfold w64 headW; simp; omega⟩
def placeO (objs : List (List V)) (i : Nat) : Nat := ((objs.take i).map fun o => 1 + o.length).sum
def packV (objs : List (List V)) (v : V) : Int := packW v.ref (if v.ref = true then (placeO objs v.n.toNat : Int) else v.n)
def layO (objs : List (List V)) : List Ob := objs.map fun o => (headW o.length 0 false, o.map (packV objs))
theorem flat_sum : ∀ (os : List Ob), (flat os).length = (os.map fun o => 1 + o.2.length).sum
  | [] => rfl
  | o :: os => by rw [flat_cons, List.length_cons, List.length_append, flat_sum os, List.map_cons, List.sum_cons]; omega
theorem place_lens {os : List Ob} {objs : List (List V)} (h : os.map (fun o => o.2.length) = objs.map List.length) (k : Nat) : place os k = placeO objs k := by
  unfold place placeO
  rw [flat_sum]
  have : ∀ (a : List Ob) (b : List (List V)), a.map (fun o => o.2.length) = b.map List.length → (a.map fun o => 1 + o.2.length) = b.map fun o => 1 + o.length := by
    intro a b hab
    have h1 : (a.map fun o => 1 + o.2.length) = (a.map fun o => o.2.length).map (1 + ·) := by rw [List.map_map]; rfl
    have h2 : (b.map fun o => 1 + o.length) = (b.map List.length).map (1 + ·) := by rw [List.map_map]; rfl
    rw [h1, h2, hab]
  rw [this _ (objs.take k) (by rw [List.map_take, List.map_take, h])]
theorem layO_lens (objs : List (List V)) : (layO objs).map (fun o => o.2.length) = objs.map List.length := by
  unfold layO
  rw [List.map_map]
  refine List.map_congr_left fun o _ => ?_
  simp
theorem layO_place (objs : List (List V)) (k : Nat) : place (layO objs) k = placeO objs k := place_lens (layO_lens objs) k
theorem layO_length (objs : List (List V)) : (layO objs).length = objs.length := by simp [layO]
theorem good_ref {g : G} (h : Good g) {v : V} (hv : v ∈ allV g) (hr : v.ref = true) : 0 ≤ v.n ∧ v.n < g.objs.length := by
  have := h.vals v hv
  unfold badC at this
  rw [if_pos hr] at this
  by_cases hc : v.n < 0 ∨ (g.objs.length : Int) ≤ v.n
  · rw [if_pos hc] at this; cases this
  · omega
theorem good_int {g : G} (h : Good g) {v : V} (hv : v ∈ allV g) (hr : v.ref = false) : -4611686018427387904 ≤ v.n ∧ v.n ≤ 4611686018427387903 := by
  have := h.vals v hv
  unfold badC at this
  rw [if_neg (by rw [hr]; decide)] at this
  by_cases hc : v.n < -4611686018427387904 ∨ 4611686018427387903 < v.n
  · rw [if_pos hc] at this; cases this
  · omega
theorem sum_le_five : ∀ (l : List (List V)), (∀ o ∈ l, o.length ≤ 4) → (l.map fun o => 1 + o.length).sum ≤ 5 * l.length
  | [], _ => by simp
  | o :: l, h => by
    have h1 := sum_le_five l (fun x hx => h x (List.mem_cons_of_mem _ hx))
    have h2 := h o List.mem_cons_self
    rw [List.map_cons, List.sum_cons, List.length_cons]; omega
theorem placeO_le {g : G} (h : Good g) (k : Nat) : placeO g.objs k ≤ 120 := by
  unfold placeO
  have h1 := sum_le_five (g.objs.take k) (fun o ho => h.fields o (List.mem_of_mem_take ho))
  have h2 := h.objs
  rw [List.length_take] at h1
  omega
theorem packV_ok {g : G} (h : Good g) {v : V} (hv : v ∈ allV g) : w64 (packV g.objs v) ∧ RefOk (layO g.objs) (packV g.objs v) ∧ valG (layO g.objs) (packV g.objs v) = v := by
  obtain ⟨r, n⟩ := v
  cases r with
  | false =>
    have hi := good_int h hv rfl
    simp only at hi
    have hp : packV g.objs ⟨false, n⟩ = (2 * n + 1) % 18446744073709551616 := by simp [packV, packW]
    rw [hp]
    have hodd : (2 * n + 1) % 18446744073709551616 % 2 = 1 := by omega
    refine ⟨by unfold w64; omega, .inl hodd, ?_⟩
    unfold valG
    rw [if_pos hodd]
    congr 1
    unfold wrap64; omega
  | true =>
    have hi := good_ref h hv rfl
    simp only at hi
    obtain ⟨i, rfl⟩ : ∃ i : Nat, n = i := ⟨n.toNat, by omega⟩
    have hil : i < (layO g.objs).length := by rw [layO_length]; omega
    have hpl := placeO_le h i
    have hp : packV g.objs ⟨true, (i : Int)⟩ = 2 * (placeO g.objs i : Int) := by simp [packV, packW]
    rw [hp]
    have h2 : 2 * (placeO g.objs i : Int) / 2 = (place (layO g.objs) i : Int) := by rw [layO_place]; omega
    have heven : ¬ 2 * (placeO g.objs i : Int) % 2 = 1 := by omega
    refine ⟨by unfold w64; omega, .inr ⟨by omega, by omega, ?_⟩, ?_⟩
    · rw [h2]; exact starts_mem.2 ⟨i, hil, rfl⟩
    · unfold valG
      rw [if_neg heven, h2, idx_place hil]
theorem fields_allV {g : G} {o : List V} (ho : o ∈ g.objs) {v : V} (hv : v ∈ o) : v ∈ allV g := List.mem_append_right _ (List.mem_flatten.2 ⟨o, ho, hv⟩)
theorem roots_allV {g : G} {v : V} (hv : v ∈ g.roots) : v ∈ allV g := List.mem_append_left _ hv
theorem lay_sound {g : G} (h : Good g) : Sound (flat (layO g.objs)) (g.roots.map (packV g.objs)) (layO g.objs) := by
  refine ⟨?_, by rw [List.length_map]; exact h.roots, ⟨rfl, ?_⟩, ?_⟩
  · rw [← place_all, layO_length, layO_place]
    have := placeO_le h g.objs.length
    omega
  · intro o ho
    obtain ⟨x, hx, rfl⟩ := List.mem_map.1 ho
    obtain ⟨h1, h2, _⟩ := headP x.length (h.fields x hx)
    exact ⟨h2, by simp only [List.length_map]; exact h1.symm⟩
  · intro x hx
    rcases List.mem_append.1 hx with hx | hx
    · obtain ⟨v, hv, rfl⟩ := List.mem_map.1 hx
      exact (packV_ok h (roots_allV hv)).2.1
    · obtain ⟨o, ho, hx⟩ := List.mem_flatMap.1 hx
      obtain ⟨l, hl, rfl⟩ := List.mem_map.1 ho
      obtain ⟨v, hv, rfl⟩ := List.mem_map.1 hx
      exact (packV_ok h (fields_allV hl hv)).2.1
/-- What is laid is read as it was. -/
theorem read_lay {g : G} (h : Good g) : readG (layO g.objs) (g.roots.map (packV g.objs)) = g := by
  obtain ⟨objs, roots⟩ := g
  unfold readG
  congr 1
  · conv => rhs; rw [← List.map_id objs]
    unfold layO
    rw [List.map_map]
    refine List.map_congr_left fun o ho => ?_
    show (o.map (packV objs)).map (valG (layO objs)) = o
    rw [List.map_map]
    conv => rhs; rw [← List.map_id o]
    exact List.map_congr_left fun v hv => (packV_ok h (fields_allV (g := ⟨objs, roots⟩) ho hv)).2.2
  · rw [List.map_map]
    conv => rhs; rw [← List.map_id roots]
    exact List.map_congr_left fun v hv => (packV_ok h (roots_allV (g := ⟨objs, roots⟩) hv)).2.2
/-! ### What is read, laid again -/
theorem read_lens (os : List Ob) (rs : List Int) : os.map (fun o => o.2.length) = (readG os rs).objs.map List.length := by
  unfold readG
  rw [List.map_map]
  refine List.map_congr_left fun o _ => ?_
  simp
theorem pack_val {ws rs : List Int} {os : List Ob} (h : Sound ws rs os) {x : Int} (hx : x ∈ allW rs os) (h64 : w64 x) : packV (readG os rs).objs (valG os x) = x := by
  obtain ⟨h0, h18⟩ := h64
  rcases h.refs x hx with hodd | ⟨heven, hsm, hin⟩
  · unfold valG packV
    rw [if_pos hodd]
    simp only [packW]
    simp
    unfold wrap64; omega
  · obtain ⟨k, hk, he⟩ := starts_mem.1 hin
    unfold valG packV
    rw [if_neg (by omega), he, idx_place hk]
    simp only [packW]
    simp
    rw [← place_lens (read_lens os rs)]
    omega
theorem read_good {ws rs : List Int} {os : List Ob} (h : Sound ws rs os) (hw : ∀ x ∈ allW rs os, w64 x) (hn : os.length ≤ 24) : Good (readG os rs) := by
  refine ⟨by show (os.map _).length ≤ 24; rw [List.length_map]; exact hn, by show (rs.map _).length ≤ 8; rw [List.length_map]; exact h.roots, ?_, ?_⟩
  · intro o ho
    obtain ⟨x, hx, rfl⟩ := List.mem_map.1 ho
    obtain ⟨k, hk⟩ := List.mem_iff_getElem?.1 hx
    rw [List.length_map]; exact (h.laid.good hk).2.2
  · intro v hv
    have : ∃ x ∈ allW rs os, valG os x = v := by
      rcases List.mem_append.1 hv with hv | hv
      · obtain ⟨x, hx, rfl⟩ := List.mem_map.1 hv
        exact ⟨x, List.mem_append_left _ hx, rfl⟩
      · obtain ⟨o, ho, hv⟩ := List.mem_flatten.1 hv
        obtain ⟨y, hy, rfl⟩ := List.mem_map.1 ho
        obtain ⟨x, hx, rfl⟩ := List.mem_map.1 hv
        exact ⟨x, List.mem_append_right _ (List.mem_flatMap.2 ⟨y, hy, hx⟩), rfl⟩
    obtain ⟨x, hx, rfl⟩ := this
    obtain ⟨h0, h18⟩ := hw x hx
    have hl : (readG os rs).objs.length = os.length := by show (os.map _).length = _; rw [List.length_map]
    rw [hl]
    rcases h.refs x hx with hodd | ⟨heven, hsm, hin⟩
    · unfold valG badC
      rw [if_pos hodd, if_neg (by simp), if_neg]
      unfold wrap64; simp only; omega
    · obtain ⟨k, hk, he⟩ := starts_mem.1 hin
      have hvv : valG os x = ⟨true, (k : Int)⟩ := by unfold valG; rw [if_neg (by omega), he, idx_place hk]
      rw [hvv]
      unfold badC
      rw [if_pos rfl, if_neg]
      simp only; omega
theorem read_bad {os : List Ob} {rs : List Int} (hn : ¬ os.length ≤ 24) : ¬ Good (readG os rs) := by
  intro h
  have := h.objs
  have hl : (readG os rs).objs.length = os.length := by show (os.map _).length = _; rw [List.length_map]
  omega
/-- What is read is laid as it stood, but for headers. -/
theorem lay_read {ws rs : List Int} {os : List Ob} (h : Sound ws rs os) (hw : ∀ x ∈ allW rs os, w64 x) :
    layO (readG os rs).objs = os.map (fun o => (headW o.2.length 0 false, o.2)) ∧ (readG os rs).roots.map (packV (readG os rs).objs) = rs := by
  constructor
  · unfold layO
    conv => lhs; rw [show (readG os rs).objs = os.map fun o => o.2.map (valG os) from rfl]
    rw [List.map_map]
    refine List.map_congr_left fun o ho => ?_
    simp only [Function.comp, List.length_map]
    congr 1
    rw [List.map_map]
    conv => rhs; rw [← List.map_id o.2]
    refine List.map_congr_left fun x hx => ?_
    have hm : x ∈ allW rs os := List.mem_append_right _ (List.mem_flatMap.2 ⟨o, ho, hx⟩)
    exact pack_val h hm (hw x hm)
  · show (rs.map (valG os)).map _ = rs
    rw [List.map_map]
    conv => rhs; rw [← List.map_id rs]
    refine List.map_congr_left fun x hx => ?_
    have hm : x ∈ allW rs os := List.mem_append_left _ hx
    exact pack_val h hm (hw x hm)
end Go.Proofs.Ytgdodbdipbomfaa
