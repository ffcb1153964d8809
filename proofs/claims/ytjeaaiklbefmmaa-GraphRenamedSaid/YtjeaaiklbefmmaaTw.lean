/- GraphTwice, the plain law: a Canon is its own Canon; what is numbered later is no nearer. -/
import Derived.Test.YtjeaaiklbefmmaaIs
namespace Go.Proofs.Ytjeaaiklbefmmaa

theorem iso_self {g : G} {l dist : List Int} (h : Far g l dist) : Iso g (renum g l) l (at_ l l.length) := by
  have hlen : (renum g l).objs.length = l.length := by simp [renum]
  refine ⟨?_, ?_, rfl, fun j hj => (h.root j hj).1, ?_, fun x hx j hj => (h.closed x hx j hj).1⟩
  · intro x hx
    obtain ⟨i, hi, he⟩ := List.getElem_of_mem hx
    have hr := h.inv.rng x hx
    rw [at_place h.inv.nodup (show l[i]? = some x by rw [List.getElem?_eq_getElem hi, he]), hlen]
    exact ⟨hr, by omega, by omega⟩
  · intro x hx y hy he
    exact (at_inj h.inv.nodup hx hy).1 he
  · intro x hx
    obtain ⟨i, hi, he⟩ := List.getElem_of_mem hx
    have hg : l[i]? = some x := by rw [List.getElem?_eq_getElem hi, he]
    rw [at_place h.inv.nodup hg]
    exact renum_fields hg

theorem good_renum {g : G} (hG : Good g) {l dist : List Int} (h : Far g l dist) : Good (renum g l) := by
  have hlen : (renum g l).objs.length = l.length := by simp [renum]
  have hle : l.length ≤ g.objs.length := h.inv.length_le
  have hb : ∀ (vs : List V), (∀ v ∈ vs, v ∈ allV g) → (∀ j ∈ targets vs, j ∈ l) → ∀ v ∈ vs.map (turnV (at_ l l.length)), badC v l.length = 0 := by
    intro vs hall hT v hv
    obtain ⟨z, hz, rfl⟩ := List.mem_map.1 hv
    have hbz := hG.vals z (hall z hz)
    obtain ⟨r, n⟩ := z
    cases r
    · simpa [turnV, badC] using hbz
    · have hm := hT n (mem_targets hz rfl)
      obtain ⟨i, hi, he⟩ := List.getElem_of_mem hm
      have hg : l[i]? = some n := by rw [List.getElem?_eq_getElem hi, he]
      simp only [turnV, if_true, at_place h.inv.nodup hg, badC]
      rw [if_neg (by omega)]
  refine ⟨by rw [hlen]; have := hG.objs; omega, by simpa [renum] using hG.roots, ?_, ?_⟩
  · intro o ho
    obtain ⟨x, _, rfl⟩ := List.mem_map.1 ho
    rw [List.length_map]; exact fieldsAt_len hG x
  · rw [hlen]
    intro v hv
    rcases List.mem_append.1 hv with h1 | h1
    · exact hb g.roots (roots_all g) (fun j hj => (h.root j hj).1) v h1
    · obtain ⟨o, ho, hvo⟩ := List.mem_flatten.1 h1
      obtain ⟨x, hx, rfl⟩ := List.mem_map.1 ho
      exact hb (fieldsAt g x) (fields_all g x) (fun j hj => (h.closed x hx j hj).1) v hvo

theorem canon_twice {g c b : G} (hG : Good g) (hc : CanonS g c) (hb : CanonS c b) : b = c := by
  obtain ⟨l, dist, hf, rfl⟩ := hc
  have I := iso_self (hf.far hG)
  exact (iso_canon I ⟨l, dist, hf, rfl⟩ hb).symm

/-- How far each of the Canon's objects is. -/
theorem canon_dist {g : G} (hG : Good g) {l dist l' dist' : List Int} (hf : FoundS g l dist) (hf' : FoundS (renum g l) l' dist') :
    dist'.length = l.length ∧ ∀ (i : Nat) (x : Int), l[i]? = some x → dist'[i]? = some (D (l, dist) x) := by
  have hfar := hf.far hG
  have I := iso_self hfar
  obtain ⟨dist2, hf2, hl, hD⟩ := iso_found I hf
  obtain ⟨rfl, rfl⟩ := hf'.unique hf2
  have hfar2 := hf2.far (good_renum hG hfar)
  have hlen : dist'.length = l.length := by
    have := hfar2.inv.len
    simpa [renum] using this
  refine ⟨hlen, ?_⟩
  intro i x hx
  have hi := (List.getElem?_eq_some_iff.1 hx).1
  have h2 := hD x (List.mem_of_getElem? hx)
  rw [at_place hfar.inv.nodup hx] at h2
  unfold D at h2
  simp only [Int.toNat_natCast] at h2
  rw [List.getD_eq_getElem?_getD, List.getElem?_eq_getElem (by omega)] at h2
  rw [List.getElem?_eq_getElem (by omega)]
  exact congrArg some h2
theorem far_found {g : G} {l dist : List Int} (h : Far g l dist) {x : Int} (hx : x ∈ l) : 0 ≤ D (l, dist) x := (h.inv.found (h.inv.rng x hx)).2 hx
end Go.Proofs.Ytjeaaiklbefmmaa
