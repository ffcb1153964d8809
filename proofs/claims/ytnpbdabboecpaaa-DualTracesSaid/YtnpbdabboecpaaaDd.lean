/- dual.settle, Least, Greatest; slices.Equal on ints. -/
import Derived.Test.YtnpbdabboecpaaaDw
import Derived.Test.YtnpbdabboecpaaaRe
import Derived.Test.YtnpbdabboecpaaaFl
import Derived.Test.YtnpbdabboecpaaaGc
import Derived.Test.YtnpbdabboecpaaaCl
import Derived.Test.YtnpbdabboecpaaaGr
import Derived.Deep.LoopGhost
namespace Go.Proofs.Ytnpbdabboecpaaa
open Go.RowKit Go.Shelf

theorem eqI_any (u v : Value) (l m : List Int) (w : World) (hu : IsInts w u l) (hv : IsInts w v m) :
    Calls Try.prog 60 #[u, v] w fun e w' => e = .returned (.bool (decide (l = m))) ∧ ∃ q, w' = w.drewN q := by
  obtain ⟨a, cap, rfl, hl1⟩ := hu.slice
  obtain ⟨a', cap', rfl, hl2⟩ := hv.slice
  by_cases hlen : l.length = m.length
  · by_cases h0 : l.length = 0
    · have e1 : l = [] := List.eq_nil_of_length_eq_zero h0
      have e2 : m = [] := List.eq_nil_of_length_eq_zero (by omega)
      subst e1 e2
      refine (Try.slices_Equal_int_empty a a' cap 0 cap' w (by omega)).mono ?_
      rintro e w' ⟨rfl, rfl⟩
      exact ⟨by simp, 0, rfl⟩
    · obtain ⟨x, hx⟩ := get_some l 0 (by omega)
      obtain ⟨y, hy⟩ := get_some m 0 (by omega)
      obtain ⟨b, off, c1, hv1, _⟩ := hu.at (Below.refl _ _) hx
      obtain ⟨b', off', c1', hv1', _⟩ := hv.at (Below.refl _ _) hy
      cases hv1
      cases hv1'
      refine (Try.slices_Equal_int b off l.length cap b' off' m.length cap' l m w (Nat.le_refl _) (Nat.le_refl _) hl1 hl2 ?_ ?_).mono ?_
      · intro j hj
        obtain ⟨b2, off2, c2, hv2, _, _, h2, _⟩ := hu.at (Below.refl _ _) (List.getElem?_eq_getElem hj)
        cases hv2
        rw [h2, List.getD_eq_getElem?_getD, List.getElem?_eq_getElem hj]; rfl
      · intro j hj
        obtain ⟨b2, off2, c2, hv2, _, _, h2, _⟩ := hv.at (Below.refl _ _) (List.getElem?_eq_getElem hj)
        cases hv2
        rw [h2, List.getD_eq_getElem?_getD, List.getElem?_eq_getElem hj]; rfl
      · rintro e w' ⟨rfl, q, rfl⟩
        rw [List.take_length, List.take_length]
        exact ⟨by congr 2; rw [Bool.eq_iff_iff]; simp, q, rfl⟩
  · refine (Try.slices_Equal_int_lens a a' _ cap _ cap' w hlen).mono ?_
    rintro e w' ⟨rfl, rfl⟩
    have hne : l ≠ m := fun e => hlen (by rw [e])
    exact ⟨by simp [hne], 0, rfl⟩

theorem isInts_num {l : List Int} (hl : l.length ≤ 24) (hb : ∀ j : Nat, 0 ≤ l.getD j 0 ∧ l.getD j 0 ≤ 104) {w : World} {B : Nat} {w0 : World} {L : List Ent} (k : Nat) {v : Value} (hM : Mem B w0 w L) (hk : L[k]? = some (rowI 3 v l)) : IsInts w v l := by
  refine isInts_of_own (hM.ownI k hk) (by omega) ?_
  intro x hx
  obtain ⟨j, hj⟩ := List.getElem?_of_mem hx
  have := hb j
  rw [List.getD_eq_getElem?_getD, hj] at this
  simp only [Option.getD_some] at this
  exact ⟨by omega, by omega⟩

set_option maxRecDepth 100000 in
set_option maxHeartbeats 1000000 in
theorem settle_any (g : G) (hG : Good g) (first : Int) (hf : i64ok first) (I : List Int → Prop) (m : List Int → Nat) (H : Goes g first I m) (v : Value) (w : World) (hg : IsGraph w v g) :
    Calls Try.prog 43 #[v, .int .i64 first] w fun e w' => ∃ vl l, e = .returned (.tuple #[vl, .int .i64 0]) ∧ I l ∧ Sol g l ∧ Mem w.heap.size w w' [rowI 3 vl l] := by
  have Hg := Lib.hid hg
  obtain ⟨ao, co, ar, cr, rfl, hlo, hlr⟩ := hg.shape
  have hn := hG.objs
  have HH := Lib.hid H
  clear hg H
  have hM0 := (Mem.start w).alloc #[.slice ao g.objs.length co, .slice ar g.roots.length cr] 25
  go_enter Try.func43, Try.ntmps43
  go_wp2_with fail
  refine (gcheck_yes _ g _ (Hg.out.later hM0.below) hG).mono ?_
  rintro e w1 ⟨rfl, hb⟩
  have hM1 := hM0.call hb
  obtain ⟨p0, p1⟩ := hM1.cells2 0 rfl
  have z1 : w.heap.size < w1.heap.size := (hM1.box 0 rfl).2.1
  have hM2 := hM1.alloc_ (.cells #[.int .i64 first] 3)
  go_wp2_with fail
  refine (repeat_any _ first g.objs.length (by omega) _ (isInts_one w1 first _ hf)).mono ?_
  rintro e w3 ⟨vl, rfl, hM3⟩
  have hM4 := hM2.callMem hM3
  have HM4 := Lib.hid hM4
  clear hM0 hM1 hM2 hM3 hM4 p0 p1
  go_wp2
  go_loopg [7] (m (List.replicate g.objs.length first)) (fun gk v wr => ∃ l, gk = m l ∧ I l ∧ Mem w.heap.size w wr [rowI 3 v l, ebox w.heap.size #[.slice ao g.objs.length co, .slice ar g.roots.length cr] 25])
  case atStart => exact ⟨_, rfl, HH.out.start, HM4.out⟩
  case round =>
    clear HM4
    obtain ⟨l, hgk, hI, hM⟩ := hrel
    have hll := HH.out.len l hI
    have hlb := HH.out.ok l hI
    have hIs := isInts_num (by omega) hlb 0 hM rfl
    obtain ⟨q0, q1⟩ := hM.cells2 1 rfl
    have HM := Lib.hid hM
    have HI := Lib.hid hI
    have Hgk := Lib.hid hgk
    have Hll := Lib.hid hll
    have Hlb := Lib.hid hlb
    obtain ⟨al, cl, rfl, _⟩ := hIs.slice
    have HIs := Lib.hid hIs
    clear hM hI hgk hll hlb hIs
    go_wp2_with fail
    refine (counted_any g hG _ _ l _ (Hg.out.later HM.out.below) HIs.out Hll.out).mono ?_
    rintro e w4 ⟨vn, rfl, hM5⟩
    have hM6 := HM.out.callMem hM5
    have hIn := isInts_num (by rw [counted_len]; exact hn) (counted_bound hG l) 0 hM6 rfl
    have hIl := HIs.out.later hM5.below
    obtain ⟨an, cn, rfl, _⟩ := hIn.slice
    have HM6 := Lib.hid hM6
    have HIn := Lib.hid hIn
    have HIl := Lib.hid hIl
    clear hM5 hM6 hIn hIl
    obtain ⟨b, hb2⟩ : ∃ b, decide (counted g l = l) = b := ⟨_, rfl⟩
    obtain ⟨l2, hl2⟩ : ∃ l2, counted g l = l2 := ⟨_, rfl⟩
    rw [hl2] at HM6 HIn hb2
    have Hb2 := Lib.hid hb2
    have Hl2 := Lib.hid hl2
    rw [hl2]
    clear hb2 hl2
    go_wp2_with fail
    refine (eqI_any _ _ l2 l _ HIn.out HIl.out).mono ?_
    rintro e w5 ⟨rfl, q, rfl⟩
    rw [Hb2.out]
    cases b
    · have hne : l2 ≠ l := by have := Hb2.out; simpa using this
      have hst := HH.out.step l HI.out (by rw [Hl2.out]; exact hne)
      rw [Hl2.out] at hst
      have Hst := Lib.hid hst
      clear hne hst
      go_wp2
      go_roundg (m l2)
      case rel => exact ⟨l2, rfl, Hst.out.1, (HM6.out.drewN q).pick0 [0, 2] (by decide) rfl⟩
      case measure => have := Hst.out.2; have := Hgk.out; omega
    · have he : l2 = l := by have := Hb2.out; simpa using this
      have He : Hid (Sol g l) := Lib.hid (by unfold Sol; rw [Hl2.out, he])
      clear he
      go_wp2
      refine bodyPost_ret (v := .tuple #[.slice al l.length cl, .int .i64 0]) (by simp [results, Try.results43, go_sem]) rfl ⟨_, l, rfl, HI.out, He.out, (HM6.out.drewN q).pick0 [1] (by decide) rfl⟩

def IsLeast (g : G) (l : List Int) : Prop := l.length = g.objs.length ∧ (∀ j : Nat, 0 ≤ l.getD j 0 ∧ l.getD j 0 ≤ 104) ∧ Pos l (counted g l) ∧ ∀ c, Sol g c → Pos l c
def IsGreatest (g : G) (l : List Int) : Prop := l.length = g.objs.length ∧ (∀ j : Nat, 0 ≤ l.getD j 0 ∧ l.getD j 0 ≤ 104) ∧ Pos (counted g l) l ∧ ∀ c, Sol g c → Pos c l

theorem least_any (g : G) (hG : Good g) (v : Value) (w : World) (hg : IsGraph w v g) :
    Calls Try.prog 26 #[v] w fun e w' => ∃ vl l, e = .returned (.tuple #[vl, .int .i64 0]) ∧ IsLeast g l ∧ Sol g l ∧ Mem w.heap.size w w' [rowI 3 vl l] := by
  have Hg := Lib.hid hg
  obtain ⟨ao, co, ar, cr, rfl, hlo, hlr⟩ := hg.shape
  have hM0 := (Mem.start w).alloc #[.slice ao g.objs.length co, .slice ar g.roots.length cr] 25
  clear hg
  go_enter Try.func26, Try.ntmps26
  go_wp2_with fail
  refine (settle_any g hG 0 ⟨by omega, by omega⟩ _ _ (goes_least hG) _ _ (Hg.out.later hM0.below)).mono ?_
  rintro e w1 ⟨vl, l, rfl, hI, hS, hM⟩
  have HI : Hid (IsLeast g l) := Lib.hid hI
  have HS := Lib.hid hS
  have HM := Lib.hid (hM0.callMem hM)
  obtain ⟨al, nl, cl, rfl⟩ := hM.isSlice 0 rfl
  clear hI hS hM
  go_wp2
  refine bodyPost_ret (v := .tuple #[.slice al nl cl, .int .i64 0]) (by simp [results, Try.results26, go_sem]) rfl ⟨_, l, rfl, HI.out, HS.out, HM.out.pick0 [0] (by decide) rfl⟩

theorem greatest_any (g : G) (hG : Good g) (v : Value) (w : World) (hg : IsGraph w v g) :
    Calls Try.prog 27 #[v] w fun e w' => ∃ vl l, e = .returned (.tuple #[vl, .int .i64 0]) ∧ IsGreatest g l ∧ Sol g l ∧ Mem w.heap.size w w' [rowI 3 vl l] := by
  have Hg := Lib.hid hg
  obtain ⟨ao, co, ar, cr, rfl, hlo, hlr⟩ := hg.shape
  have hM0 := (Mem.start w).alloc #[.slice ao g.objs.length co, .slice ar g.roots.length cr] 25
  clear hg
  go_enter Try.func27, Try.ntmps27
  go_wp2_with fail
  refine (settle_any g hG 1 ⟨by omega, by omega⟩ _ _ (goes_greatest hG) _ _ (Hg.out.later hM0.below)).mono ?_
  rintro e w1 ⟨vl, l, rfl, hI, hS, hM⟩
  have HI : Hid (IsGreatest g l) := Lib.hid hI
  have HS := Lib.hid hS
  have HM := Lib.hid (hM0.callMem hM)
  obtain ⟨al, nl, cl, rfl⟩ := hM.isSlice 0 rfl
  clear hI hS hM
  go_wp2
  refine bodyPost_ret (v := .tuple #[.slice al nl cl, .int .i64 0]) (by simp [results, Try.results27, go_sem]) rfl ⟨_, l, rfl, HI.out, HS.out, HM.out.pick0 [0] (by decide) rfl⟩
end Go.Proofs.Ytnpbdabboecpaaa
