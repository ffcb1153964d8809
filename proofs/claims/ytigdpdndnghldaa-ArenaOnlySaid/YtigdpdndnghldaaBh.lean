/- ArenaBack, walked. -/
import Derived.Test.YtigdpdndnghldaaBg
import Derived.Test.YtigdpdndnghldaaBa
import Derived.Test.YtigdpdndnghldaaVa
import Derived.Test.YtigdpdndnghldaaOpen
namespace Go.Proofs.Ytigdpdndnghldaa
open Go.RowKit Go.Shelf

theorem lay_w64 {g : G} (h : Good g) : (∀ x ∈ flat (layO g.objs), w64 x) ∧ ∀ x ∈ g.roots.map (packV g.objs), w64 x := by
  constructor
  · intro x hx
    obtain ⟨o, ho, hx⟩ := List.mem_flatMap.1 hx
    obtain ⟨l, hl, rfl⟩ := List.mem_map.1 ho
    rcases List.mem_cons.1 hx with rfl | hx
    · exact (headP l.length (h.fields l hl)).2.2
    · obtain ⟨v, hv, rfl⟩ := List.mem_map.1 hx
      exact (packV_ok h (fields_allV hl hv)).1
  · intro x hx
    obtain ⟨v, hv, rfl⟩ := List.mem_map.1 hx
    exact (packV_ok h (roots_allV hv)).1
theorem lay_isW {g : G} (h : Good g) {B : Nat} {w0 w : World} {wv rv : Value} {L : List Ent} (hM : Mem B w0 w (rowW 55 wv (flat (layO g.objs)) :: rowW 55 rv (g.roots.map (packV g.objs)) :: L)) :
    IsW w wv (flat (layO g.objs)) ∧ IsW w rv (g.roots.map (packV g.objs)) := by
  have hS := lay_sound h
  have h64 := lay_w64 h
  exact ⟨isW_of_own (hM.ownW 0 rfl) (by have := hS.words; omega) h64.1, isW_of_own (hM.ownW 1 rfl) (by have := hS.roots; omega) h64.2⟩
set_option maxRecDepth 100000 in
set_option maxHeartbeats 2000000 in
theorem arenaBack_walk (v : Value) (g : G) (w : World) (hg : IsGraph w v g) :
    Calls Try.prog 5 #[v] w fun e w' => e = .returned (.bool true) ∧ Below w.heap.size w w' := by
  have Hg := Lib.hid hg
  obtain ⟨vo, vr, rfl, ho, hr⟩ := hg
  obtain ⟨ao, co, rfl, hlo⟩ := ho.slice
  obtain ⟨ar, cr, rfl, hlr⟩ := hr.slice
  have hM0 := (Mem.start w).alloc #[.slice ao g.objs.length co, .slice ar g.roots.length cr] 42
  have HL := Lib.hid (lay_any _ g _ (Hg.out.later hM0.below))
  have HM0 := Lib.hid hM0
  clear ho hr hM0
  go_enter Try.func5, Try.ntmps5
  go_wp2_with fail
  refine HL.out.mono ?_
  rintro e w2 hcase
  rcases hcase with ⟨hG, wv, rv, rfl, hM2⟩ | ⟨hG, wv, rv, c, rfl, ⟨a1, n1, k1, rfl⟩, ⟨a2, n2, k2, rfl⟩, hc, hb⟩
  · have hM3 := HM0.out.callMem hM2
    obtain ⟨a1, n1, k1, rfl⟩ := own_slice (hM3.row 0 rfl)
    obtain ⟨a2, n2, k2, rfl⟩ := own_slice (hM3.row 1 rfl)
    obtain ⟨hi1, hi2⟩ := lay_isW hG hM3
    have hMa := hM3.alloc_ (.cells #[.slice a1 n1 k1, .slice a2 n2 k2] 24)
    have hbx : Below w2.heap.size w2 (w2.alloc (.cells #[.slice a1 n1 k1, .slice a2 n2 k2] 24)) := (Below.refl _ _).alloc (Nat.le_refl _) _
    have HR := Lib.hid (aread_yes (.slice a1 n1 k1) (.slice a2 n2 k2) _ _ _ _ (hi1.later hbx) (hi2.later hbx) (lay_sound hG))
    have HM := Lib.hid hMa
    have HG := Lib.hid (read_lay hG)
    clear hM2 hM3 hMa hi1 hi2 hbx hG HL HM0
    go_wp2_with fail
    refine HR.out.mono ?_
    rintro e w4 ⟨gv, rfl, hGr, hb4⟩
    have hM4 := HM.out.call hb4
    rw [HG.out] at hGr
    have hg4 := hGr.here
    have Hg4 := Lib.hid hg4
    obtain ⟨vo2, vr2, rfl, ho2, hr2⟩ := hg4
    obtain ⟨ao2, co2, rfl, _⟩ := ho2.slice
    obtain ⟨ar2, cr2, rfl, _⟩ := hr2.slice
    have c0 : w4.cell? ⟨w.heap.size, 0, none⟩ = some (.slice ao g.objs.length co) := by have := hM4.cell 2 rfl 0; simpa using this
    have c1 : w4.cell? ⟨w.heap.size, 1, none⟩ = some (.slice ar g.roots.length cr) := by have := hM4.cell 2 rfl 1; simpa using this
    have z0 : w.heap.size < w4.heap.size := (hM4.box 2 rfl).2.1
    have hbx : Below w4.heap.size w4 (w4.alloc (.cells #[.slice ao2 g.objs.length co2, .slice ar2 g.roots.length cr2] 42)) := (Below.refl _ _).alloc (Nat.le_refl _) _
    have hM5 := hM4.alloc_ (.cells #[.slice ao2 g.objs.length co2, .slice ar2 g.roots.length cr2] 42)
    have HGr := Lib.hid (graphs_same _ _ g _ (Hg4.out.later hbx) (Hg.out.later hM5.below))
    have HM5 := Lib.hid hM5
    clear ho2 hr2 hGr hb4 hM4 hM5 hbx HM HR
    go_wp2_with fail
    refine HGr.out.mono ?_
    rintro e w6 ⟨rfl, hb6⟩
    have HB := Lib.hid (HM5.out.call hb6).below
    clear hb6
    go_wp2
    go_ret
    exact ⟨rfl, HB.out⟩
  · have hM3 := HM0.out.call hb
    have q1 : (c != 0) = true := by simpa using hc
    have c0 : w2.cell? ⟨w.heap.size, 0, none⟩ = some (.slice ao g.objs.length co) := by have := hM3.cell 0 rfl 0; simpa using this
    have c1 : w2.cell? ⟨w.heap.size, 1, none⟩ = some (.slice ar g.roots.length cr) := by have := hM3.cell 0 rfl 1; simpa using this
    have z0 : w.heap.size < w2.heap.size := (hM3.box 0 rfl).2.1
    have hM5 := hM3.alloc_ (.cells #[.slice a1 n1 k1, .slice a2 n2 k2] 24)
    have HN := Lib.hid (good_no _ g _ (Hg.out.later hM5.below) hG)
    have HM5 := Lib.hid hM5
    clear hM3 hM5 hb hc hG HL HM0
    go_wp2_with fail
    refine HN.out.mono ?_
    rintro e w6 ⟨rfl, hb6⟩
    have HB := Lib.hid (HM5.out.call hb6).below
    clear hb6
    go_wp2
    go_ret
    exact ⟨rfl, HB.out⟩
theorem arenaBack_law (W : World) (v0 : Value) (g0 : ∃ g, IsGraph W v0 g) :
    Calls Try.prog 5 #[v0] W fun e w' => e = .returned (.bool true) ∧ Below W.heap.size W w' := by
  obtain ⟨g, hg⟩ := g0
  exact arenaBack_walk v0 g W hg
end Go.Proofs.Ytigdpdndnghldaa
