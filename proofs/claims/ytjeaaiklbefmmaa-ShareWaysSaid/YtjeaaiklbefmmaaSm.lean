/- graph.Same; GraphLike. -/
import Derived.Test.YtjeaaiklbefmmaaEq
import Derived.Test.YtjeaaiklbefmmaaOpen
namespace Go.Proofs.Ytjeaaiklbefmmaa
open Go.RowKit Go.Shelf

theorem FoundS.unique {g : G} {l d l' d' : List Int} (h : FoundS g l d) (h' : FoundS g l' d') : l = l' ∧ d = d' := by
  obtain ⟨k, h1, h2, h3⟩ := h
  obtain ⟨k', h1', h2', h3'⟩ := h'
  have : k = k' := by
    rcases Nat.lt_trichotomy k k' with h | h | h
    · have := h3' k h; rw [h1] at this; simp only at this; omega
    · exact h
    · have := h3 k' h; rw [h1'] at this; simp only at this; omega
  subst this
  rw [h1] at h1'
  cases h1'
  exact ⟨rfl, rfl⟩
theorem CanonS.unique {g c c' : G} (h : CanonS g c) (h' : CanonS g c') : c = c' := by
  obtain ⟨l, d, h1, rfl⟩ := h
  obtain ⟨l', d', h1', rfl⟩ := h'
  rw [(h1.unique h1').1]

/-- graph.Same's answer. -/
def SameS (a b : G) (r : Bool) : Prop := ∃ ca cb, CanonS a ca ∧ CanonS b cb ∧ r = decide (ca = cb)

theorem same_eq {c d : G} : decide (c = d) = (decide (c.roots = d.roots) && decide (c.objs = d.objs)) := by
  obtain ⟨o, r⟩ := c
  obtain ⟨o', r'⟩ := d
  by_cases h1 : r = r' <;> by_cases h2 : o = o' <;> simp [h1, h2]

set_option maxRecDepth 100000 in
set_option maxHeartbeats 4000000 in
theorem same_any (a b : G) (ha : Good a) (hb : Good b) (u v : Value) (w : World) (hu : IsGraph w u a) (hv : IsGraph w v b) :
    Calls Try.prog 25 #[u, v] w fun e w' => ∃ r, e = .returned (.tuple #[.bool r, .int .i64 0]) ∧ SameS a b r ∧ Below w.heap.size w w' := by
  have Hu := Lib.hid hu
  have Hv := Lib.hid hv
  obtain ⟨uo, ur, rfl, huo, hur⟩ := hu
  obtain ⟨vo, vr, rfl, hvo, hvr⟩ := hv
  obtain ⟨a1, c1, rfl, _⟩ := huo.slice
  obtain ⟨a2, c2, rfl, _⟩ := hur.slice
  obtain ⟨a3, c3, rfl, _⟩ := hvo.slice
  obtain ⟨a4, c4, rfl, _⟩ := hvr.slice
  clear huo hur hvo hvr
  have hM0 := ((Mem.start w).alloc #[.slice a1 a.objs.length c1, .slice a2 a.roots.length c2] 25).allocAt (w.heap.size + 1) (by simp) #[.slice a3 b.objs.length c3, .slice a4 b.roots.length c4] 25
  go_enter Try.func25, Try.ntmps25
  go_wp2_with fail
  refine (canon_any a ha _ _ (Hu.out.later hM0.below)).mono ?_
  rintro e w1 ⟨v1, ca, rfl, hca, hg1, hb1⟩
  have hM1 := hM0.call hb1
  have HG1 := Lib.hid hg1.here
  obtain ⟨v1o, v1r, rfl, h1o, h1r⟩ := hg1.here
  obtain ⟨a5, c5, rfl, _⟩ := h1o.slice
  obtain ⟨a6, c6, rfl, _⟩ := h1r.slice
  have H1o := Lib.hid h1o
  have H1r := Lib.hid h1r
  have Hca := Lib.hid hca
  clear hg1 h1o h1r hca
  have p0 : w1.cell? ⟨w.heap.size + 1, 0, none⟩ = some (.slice a3 b.objs.length c3) := by have := hM1.cell 0 rfl 0; simpa using this
  have p1 : w1.cell? ⟨w.heap.size + 1, 1, none⟩ = some (.slice a4 b.roots.length c4) := by have := hM1.cell 0 rfl 1; simpa using this
  have hsz1 : w.heap.size + 1 < w1.heap.size := (hM1.box 0 rfl).2.1
  have hM2 := hM1.alloc #[.slice a5 ca.objs.length c5, .slice a6 ca.roots.length c6] 25
  go_wp2_with fail
  refine (canon_any b hb _ _ (Hv.out.later hM2.below)).mono ?_
  rintro e w2 ⟨v2, cb, rfl, hcb, hg2, hb2⟩
  have hM3 := hM2.call hb2
  obtain ⟨v2o, v2r, rfl, h2o, h2r⟩ := hg2.here
  obtain ⟨a7, c7, rfl, _⟩ := h2o.slice
  obtain ⟨a8, c8, rfl, _⟩ := h2r.slice
  have H2o := Lib.hid h2o
  have H2r := Lib.hid h2r
  have Hcb := Lib.hid hcb
  have H1o2 := Lib.hid (H1o.out.later (((Below.refl _ w1).alloc (Nat.le_refl _) _).trans (hb2.mono (by simp))))
  have H1r2 := Lib.hid (H1r.out.later (((Below.refl _ w1).alloc (Nat.le_refl _) _).trans (hb2.mono (by simp))))
  clear hg2 h2o h2r hcb
  have q0 : w2.cell? ⟨w1.heap.size, 0, none⟩ = some (.slice a5 ca.objs.length c5) := by have := hM3.cell 0 rfl 0; simpa using this
  have q1 : w2.cell? ⟨w1.heap.size, 1, none⟩ = some (.slice a6 ca.roots.length c6) := by have := hM3.cell 0 rfl 1; simpa using this
  have hsz2 : w1.heap.size < w2.heap.size := (hM3.box 0 rfl).2.1
  have hM4 := hM3.alloc #[.slice a7 cb.objs.length c7, .slice a8 cb.roots.length c8] 25
  have hal := fun (o : Obj) => (Below.refl w2.heap.size w2).alloc (Nat.le_refl _) o
  go_wp2_with fail
  refine (equalV_any _ _ ca.roots cb.roots _ (H1r2.out.later (hal _)) (H2r.out.later (hal _))).mono ?_
  rintro e w3 ⟨rfl, hb3⟩
  have hM5 := hM4.call hb3
  have hbb : Below w2.heap.size w2 w3 := (hal _).trans (hb3.mono (by simp))
  have r0 : w3.cell? ⟨w1.heap.size, 0, none⟩ = some (.slice a5 ca.objs.length c5) := by have := hM5.cell 1 rfl 0; simpa using this
  have r1 : w3.cell? ⟨w2.heap.size, 0, none⟩ = some (.slice a7 cb.objs.length c7) := by have := hM5.cell 0 rfl 0; simpa using this
  have HS := Lib.hid (@same_eq ca cb)
  cases hd : decide (ca.roots = cb.roots) with
  | false =>
    go_wp2
    refine bodyPost_ret (v := .tuple #[.bool false, .int .i64 0]) (by simp [results, Try.results25, go_sem]) rfl ⟨false, rfl, ⟨ca, cb, Hca.out, Hcb.out, by rw [HS.out, hd]; rfl⟩, hM5.below⟩
  | true =>
    go_wp2_with fail
    refine (equalO_any _ _ ca.objs cb.objs _ (H1o2.out.later hbb) (H2o.out.later hbb)).mono ?_
    rintro e w4 ⟨rfl, hb4⟩
    have hM6 := hM5.call hb4
    go_wp2
    refine bodyPost_ret (v := .tuple #[.bool (decide (ca.objs = cb.objs)), .int .i64 0]) (by simp [results, Try.results25, go_sem]) rfl ⟨_, rfl, ⟨ca, cb, Hca.out, Hcb.out, by rw [HS.out, hd]; rfl⟩, hM6.below⟩

theorem SameS.refl {a : G} {r : Bool} (h : SameS a a r) : r = true := by
  obtain ⟨c, d, h1, h2, rfl⟩ := h
  rw [h1.unique h2]; simp
theorem SameS.symm {a b : G} {r s : Bool} (h : SameS a b r) (h' : SameS b a s) : r = s := by
  obtain ⟨c, d, h1, h2, rfl⟩ := h
  obtain ⟨d', c', h3, h4, rfl⟩ := h'
  rw [h1.unique h4, h2.unique h3]
  exact decide_eq_decide.2 ⟨Eq.symm, Eq.symm⟩
theorem SameS.trans {a b c : G} {r s t : Bool} (h : SameS a b r) (h' : SameS b c s) (h'' : SameS a c t) (hr : r = true) (hs : s = true) : t = true := by
  obtain ⟨x, y, h1, h2, rfl⟩ := h
  obtain ⟨y', z, h3, h4, rfl⟩ := h'
  obtain ⟨x', z', h5, h6, rfl⟩ := h''
  simp at hr hs ⊢
  rw [← h1.unique h5, ← h4.unique h6, hr, h2.unique h3, hs]
end Go.Proofs.Ytjeaaiklbefmmaa
