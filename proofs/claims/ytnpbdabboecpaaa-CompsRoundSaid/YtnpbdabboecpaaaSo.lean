/- slices.Sort on a slice of the call's own; graph.Reach. -/
import Derived.Test.YtnpbdabboecpaaaSh
import Derived.Test.YtnpbdabboecpaaaCm
import Derived.Sort.Grow
import Derived.Sort.OwnSortedInts
namespace Go.Proofs.Ytnpbdabboecpaaa
open Go.RowKit Go.Shelf Go.Sort

def sorted (l : List Int) : List Int := l.mergeSort fun x y => decide (x ≤ y)
theorem length_sorted (l : List Int) : (sorted l).length = l.length := List.length_mergeSort l
theorem mem_sorted {l : List Int} {x : Int} : x ∈ sorted l ↔ x ∈ l := List.mem_mergeSort

theorem sort_own (B : Nat) (w0 w : World) (L : List Ent) (hM : Mem B w0 w L) (k : Nat) (e : TypeId) (v : Value) (l : List Int) (hk : L[k]? = some (rowI e v l)) (hl : l.length ≤ 1000000) :
    Calls Try.prog 34 #[v] w fun e' w' => e' = .returned (.tuple #[]) ∧ Mem B w0 w' (L.set k (rowI e v (sorted l))) := by
  have hown := hM.ownI k hk
  have hget := hM.get k hk
  rcases hown.2 with ⟨rfl, h0⟩ | ⟨g, cap, cur, rfl, hB, hg, hn, hcap, hcs, htk⟩
  · have h1 : l = [] := List.eq_nil_of_length_eq_zero h0
    subst h1
    refine (Try.slices_Sort_int_none none 0 w).mono ?_
    rintro e' w' ⟨rfl, rfl⟩
    refine ⟨rfl, hM.cast ?_⟩
    rw [show sorted [] = [] by simp [sorted]]
    have hkl := (List.getElem?_eq_some_iff.1 hk)
    obtain ⟨h1, h2⟩ := hkl
    rw [← h2, List.set_getElem_self]
  · rw [Nat.mul_one] at htk
    refine (Try.slices_Sort_int g 0 cap l w (holds_of_blockI hg htk) (Array.getElem?_eq_some_iff.1 hg).1 (by omega)).mono ?_
    rintro e' w' ⟨rfl, n, os, rfl⟩
    have hs := ownsRow_sortedI (n := n) (os := os) (e := e) (base := B) (ts := sorted l) (ss := l) (length_sorted l) hB hg hn hcap hcs
    refine ⟨rfl, hM.turn k hk (grownBy_sortedI _) ?_ (fun b hb => .inl hb)⟩
    have hrow := row_ok.2 hs
    unfold rowI
    rw [length_sorted]
    exact hrow

set_option maxHeartbeats 400000 in
theorem reach_any (g : G) (hG : Good g) (v : Value) (w : World) (hg : IsGraph w v g) :
    Calls Try.prog 16 #[v] w fun e w' => ∃ vl l dist, e = .returned (.tuple #[vl, .int .i64 0]) ∧ FoundS g l dist ∧ Mem w.heap.size w w' [rowI 3 vl (sorted l)] := by
  have hg0 := hg
  obtain ⟨vo, vr, rfl, ho, hr⟩ := hg
  obtain ⟨ao, co, rfl, hlo⟩ := ho.slice
  obtain ⟨ar, cr, rfl, hlr⟩ := hr.slice
  have Hg := Lib.hid hg0
  clear ho hr hg0
  have hM0 := (Mem.start w).alloc #[.slice ao g.objs.length co, .slice ar g.roots.length cr] 25
  go_enter Try.func16, Try.ntmps16
  go_wp2_with fail
  refine (gcheck_yes _ g _ (Hg.out.later hM0.below) hG).mono ?_
  rintro e w1 ⟨rfl, hb⟩
  have hM1 := hM0.call hb
  have p0 : w1.cell? ⟨w.heap.size, 0, none⟩ = some (.slice ao g.objs.length co) := by have := hM1.cell 0 rfl 0; simpa using this
  have p1 : w1.cell? ⟨w.heap.size, 1, none⟩ = some (.slice ar g.roots.length cr) := by have := hM1.cell 0 rfl 1; simpa using this
  go_wp2_with fail
  refine (found_any g hG _ w1 (Hg.out.later hM1.below)).mono ?_
  rintro e w2 ⟨vl, vd, l, dist, rfl, hF, hM2⟩
  have hM3 := hM1.callMem hM2
  have hll := (hF.far hG).inv.length_le
  have hn := hG.objs
  have HF := Lib.hid hF
  have HM3 := Lib.hid hM3
  simp only at hll
  clear hF hM3 hM2
  go_wp2_with fail
  refine (sort_own _ _ _ _ HM3.out 0 _ vl l rfl (by omega)).mono ?_
  rintro e w3 ⟨rfl, hM4⟩
  have HM4 := Lib.hid hM4
  clear hM4
  go_wp2
  refine bodyPost_ret (v := .tuple #[vl, .int .i64 0]) (by simp [results, Try.results16, go_sem]) rfl ⟨vl, l, dist, rfl, HF.out, HM4.out.pick0 [0] (by decide) rfl⟩

theorem isInts_reach {g : G} (hG : Good g) {l dist : List Int} (h : FoundS g l dist) {w : World} {B : Nat} {w0 : World} {L : List Ent} (k : Nat) {v : Value} (hM : Mem B w0 w L) (hk : L[k]? = some (rowI 3 v (sorted l))) : IsInts w v (sorted l) := by
  have hf := h.far hG
  have hll := hf.inv.length_le
  have hn := hG.objs
  simp only at hll
  refine isInts_of_own (hM.ownI k hk) (by rw [length_sorted]; omega) ?_
  intro x hx
  have := hf.inv.rng x (mem_sorted.1 hx)
  exact ⟨by omega, by omega⟩
end Go.Proofs.Ytnpbdabboecpaaa
