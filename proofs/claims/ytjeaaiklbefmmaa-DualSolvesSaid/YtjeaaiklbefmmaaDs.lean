/- dual.settle, Least, Greatest, Solves; slices.Equal on ints. -/
import Derived.Test.YtjeaaiklbefmmaaDw
import Derived.Test.YtjeaaiklbefmmaaRe
import Derived.Test.YtjeaaiklbefmmaaTt
import Derived.Test.YtjeaaiklbefmmaaPx
import Derived.Deep.LoopGhost
namespace Go.Proofs.Ytjeaaiklbefmmaa
open Go.RowKit Go.Shelf

theorem eqI_any (u v : Value) (l m : List Int) (w : World) (hu : IsInts w u l) (hv : IsInts w v m) :
    Calls Try.prog 55 #[u, v] w fun e w' => e = .returned (.bool (decide (l = m))) ∧ ∃ q, w' = w.drewN q := by
  obtain ⟨a, cap, rfl, hl1⟩ := hu.slice
  obtain ⟨a', cap', rfl, hl2⟩ := hv.slice
  by_cases hlen : l.length = m.length
  · by_cases h0 : l.length = 0
    · have e1 : l = [] := List.eq_nil_of_length_eq_zero h0
      have e2 : m = [] := List.eq_nil_of_length_eq_zero (by omega)
      subst e1 e2
      refine (Try.slices_Equal_int_empty a a' cap 0 cap' w (by omega)).mono ?_
      rintro e w' ⟨rfl, rfl⟩
      exact ⟨by simp, 0, rfl⟩
    · obtain ⟨x, hx⟩ := get_some l 0 (by omega)
      obtain ⟨y, hy⟩ := get_some m 0 (by omega)
      obtain ⟨b, off, c1, hv1, _⟩ := hu.at (Below.refl _ _) hx
      obtain ⟨b', off', c1', hv1', _⟩ := hv.at (Below.refl _ _) hy
      cases hv1
      cases hv1'
      refine (Try.slices_Equal_int b off l.length cap b' off' m.length cap' l m w (Nat.le_refl _) (Nat.le_refl _) hl1 hl2 ?_ ?_).mono ?_
      · intro j hj
        obtain ⟨b2, off2, c2, hv2, _, _, h2, _⟩ := hu.at (Below.refl _ _) (List.getElem?_eq_getElem hj)
        cases hv2
        rw [h2, List.getD_eq_getElem?_getD, List.getElem?_eq_getElem hj]; rfl
      · intro j hj
        obtain ⟨b2, off2, c2, hv2, _, _, h2, _⟩ := hv.at (Below.refl _ _) (List.getElem?_eq_getElem hj)
        cases hv2
        rw [h2, List.getD_eq_getElem?_getD, List.getElem?_eq_getElem hj]; rfl
      · rintro e w' ⟨rfl, q, rfl⟩
        rw [List.take_length, List.take_length]
        exact ⟨by congr 2; rw [Bool.eq_iff_iff]; simp, q, rfl⟩
  · refine (Try.slices_Equal_int_lens a a' _ cap _ cap' w hlen).mono ?_
    rintro e w' ⟨rfl, rfl⟩
    have hne : l ≠ m := fun e => hlen (by rw [e])
    exact ⟨by simp [hne], 0, rfl⟩

theorem isInts_num {l : List Int} (hl : l.length ≤ 24) (hb : ∀ j : Nat, 0 ≤ l.getD j 0 ∧ l.getD j 0 ≤ 104) {w : World} {B : Nat} {w0 : World} {L : List Ent} (k : Nat) {v : Value} (hM : Mem B w0 w L) (hk : L[k]? = some (rowI 3 v l)) : IsInts w v l := by
  refine isInts_of_own (hM.ownI k hk) (by omega) ?_
  intro x hx
  obtain ⟨j, hj⟩ := List.getElem?_of_mem hx
  have := hb j
  rw [List.getD_eq_getElem?_getD, hj] at this
  simp only [Option.getD_some] at this
  exact ⟨by omega, by omega⟩

set_option maxRecDepth 100000 in
set_option maxHeartbeats 1000000 in
theorem settle_any (g : G) (hG : Good g) (first : Int) (hf : i64ok first) (I : List Int → Prop) (m : List Int → Nat) (H : Goes g first I m) (v : Value) (w : World) (hg : IsGraph w v g) :
    Calls Try.prog 54 #[v, .int .i64 first] w fun e w' => ∃ vl l, e = .returned (.tuple #[vl, .int .i64 0]) ∧ I l ∧ Sol g l ∧ Mem w.heap.size w w' [rowI 3 vl l] := by
  have Hg := Lib.hid hg
  obtain ⟨ao, co, ar, cr, rfl, hlo, hlr⟩ := hg.shape
  have hn := hG.objs
  have HH := Lib.hid H
  clear hg H
  have hM0 := (Mem.start w).alloc #[.slice ao g.objs.length co, .slice ar g.roots.length cr] 25
  go_enter Try.func54, Try.ntmps54
  go_wp2_with fail
  refine (gcheck_yes _ g _ (Hg.out.later hM0.below) hG).mono ?_
  rintro e w1 ⟨rfl, hb⟩
  have hM1 := hM0.call hb
  obtain ⟨p0, p1⟩ := hM1.cells2 0 rfl
  have z1 : w.heap.size < w1.heap.size := (hM1.box 0 rfl).2.1
  have hM2 := hM1.alloc_ (.cells #[.int .i64 first] 3)
  go_wp2_with fail
  refine (repeat_any _ first g.objs.length (by omega) _ (isInts_one w1 first _ hf)).mono ?_
  rintro e w3 ⟨vl, rfl, hM3⟩
  have hM4 := hM2.callMem hM3
  have HM4 := Lib.hid hM4
  clear hM0 hM1 hM2 hM3 hM4 p0 p1
  go_wp2
  go_loopg [7] (m (List.replicate g.objs.length first)) (fun gk v wr => ∃ l, gk = m l ∧ I l ∧ Mem w.heap.size w wr [rowI 3 v l, ebox w.heap.size #[.slice ao g.objs.length co, .slice ar g.roots.length cr] 25])
  case atStart => exact ⟨_, rfl, HH.out.start, HM4.out⟩
  case round =>
    clear HM4
    obtain ⟨l, hgk, hI, hM⟩ := hrel
    have hll := HH.out.len l hI
    have hlb := HH.out.ok l hI
    have hIs := isInts_num (by omega) hlb 0 hM rfl
    obtain ⟨q0, q1⟩ := hM.cells2 1 rfl
    have HM := Lib.hid hM
    have HI := Lib.hid hI
    have Hgk := Lib.hid hgk
    have Hll := Lib.hid hll
    have Hlb := Lib.hid hlb
    obtain ⟨al, cl, rfl, _⟩ := hIs.slice
    have HIs := Lib.hid hIs
    clear hM hI hgk hll hlb hIs
    go_wp2_with fail
    refine (counted_any g hG _ _ l _ (Hg.out.later HM.out.below) HIs.out Hll.out).mono ?_
    rintro e w4 ⟨vn, rfl, hM5⟩
    have hM6 := HM.out.callMem hM5
    have hIn := isInts_num (by rw [counted_len]; exact hn) (counted_bound hG l) 0 hM6 rfl
    have hIl := HIs.out.later hM5.below
    obtain ⟨an, cn, rfl, _⟩ := hIn.slice
    have HM6 := Lib.hid hM6
    have HIn := Lib.hid hIn
    have HIl := Lib.hid hIl
    clear hM5 hM6 hIn hIl
    obtain ⟨b, hb2⟩ : ∃ b, decide (counted g l = l) = b := ⟨_, rfl⟩
    obtain ⟨l2, hl2⟩ : ∃ l2, counted g l = l2 := ⟨_, rfl⟩
    rw [hl2] at HM6 HIn hb2
    have Hb2 := Lib.hid hb2
    have Hl2 := Lib.hid hl2
    rw [hl2]
    clear hb2 hl2
    go_wp2_with fail
    refine (eqI_any _ _ l2 l _ HIn.out HIl.out).mono ?_
    rintro e w5 ⟨rfl, q, rfl⟩
    rw [Hb2.out]
    cases b
    · have hne : l2 ≠ l := by have := Hb2.out; simpa using this
      have hst := HH.out.step l HI.out (by rw [Hl2.out]; exact hne)
      rw [Hl2.out] at hst
      have Hst := Lib.hid hst
      clear hne hst
      go_wp2
      go_roundg (m l2)
      case rel => exact ⟨l2, rfl, Hst.out.1, (HM6.out.drewN q).pick0 [0, 2] (by decide) rfl⟩
      case measure => have := Hst.out.2; have := Hgk.out; omega
    · have he : l2 = l := by have := Hb2.out; simpa using this
      have He : Hid (Sol g l) := Lib.hid (by unfold Sol; rw [Hl2.out, he])
      clear he
      go_wp2
      refine bodyPost_ret (v := .tuple #[.slice al l.length cl, .int .i64 0]) (by simp [results, Try.results54, go_sem]) rfl ⟨_, l, rfl, HI.out, He.out, (HM6.out.drewN q).pick0 [1] (by decide) rfl⟩

def IsLeast (g : G) (l : List Int) : Prop := l.length = g.objs.length ∧ (∀ j : Nat, 0 ≤ l.getD j 0 ∧ l.getD j 0 ≤ 104) ∧ Pos l (counted g l) ∧ ∀ c, Sol g c → Pos l c
def IsGreatest (g : G) (l : List Int) : Prop := l.length = g.objs.length ∧ (∀ j : Nat, 0 ≤ l.getD j 0 ∧ l.getD j 0 ≤ 104) ∧ Pos (counted g l) l ∧ ∀ c, Sol g c → Pos c l

theorem least_any (g : G) (hG : Good g) (v : Value) (w : World) (hg : IsGraph w v g) :
    Calls Try.prog 33 #[v] w fun e w' => ∃ vl l, e = .returned (.tuple #[vl, .int .i64 0]) ∧ IsLeast g l ∧ Sol g l ∧ Mem w.heap.size w w' [rowI 3 vl l] := by
  have Hg := Lib.hid hg
  obtain ⟨ao, co, ar, cr, rfl, hlo, hlr⟩ := hg.shape
  have hM0 := (Mem.start w).alloc #[.slice ao g.objs.length co, .slice ar g.roots.length cr] 25
  clear hg
  go_enter Try.func33, Try.ntmps33
  go_wp2_with fail
  refine (settle_any g hG 0 ⟨by omega, by omega⟩ _ _ (goes_least hG) _ _ (Hg.out.later hM0.below)).mono ?_
  rintro e w1 ⟨vl, l, rfl, hI, hS, hM⟩
  have HI : Hid (IsLeast g l) := Lib.hid hI
  have HS := Lib.hid hS
  have HM := Lib.hid (hM0.callMem hM)
  obtain ⟨al, nl, cl, rfl⟩ := hM.isSlice 0 rfl
  clear hI hS hM
  go_wp2
  refine bodyPost_ret (v := .tuple #[.slice al nl cl, .int .i64 0]) (by simp [results, Try.results33, go_sem]) rfl ⟨_, l, rfl, HI.out, HS.out, HM.out.pick0 [0] (by decide) rfl⟩

theorem greatest_any (g : G) (hG : Good g) (v : Value) (w : World) (hg : IsGraph w v g) :
    Calls Try.prog 34 #[v] w fun e w' => ∃ vl l, e = .returned (.tuple #[vl, .int .i64 0]) ∧ IsGreatest g l ∧ Sol g l ∧ Mem w.heap.size w w' [rowI 3 vl l] := by
  have Hg := Lib.hid hg
  obtain ⟨ao, co, ar, cr, rfl, hlo, hlr⟩ := hg.shape
  have hM0 := (Mem.start w).alloc #[.slice ao g.objs.length co, .slice ar g.roots.length cr] 25
  clear hg
  go_enter Try.func34, Try.ntmps34
  go_wp2_with fail
  refine (settle_any g hG 1 ⟨by omega, by omega⟩ _ _ (goes_greatest hG) _ _ (Hg.out.later hM0.below)).mono ?_
  rintro e w1 ⟨vl, l, rfl, hI, hS, hM⟩
  have HI : Hid (IsGreatest g l) := Lib.hid hI
  have HS := Lib.hid hS
  have HM := Lib.hid (hM0.callMem hM)
  obtain ⟨al, nl, cl, rfl⟩ := hM.isSlice 0 rfl
  clear hI hS hM
  go_wp2
  refine bodyPost_ret (v := .tuple #[.slice al nl cl, .int .i64 0]) (by simp [results, Try.results34, go_sem]) rfl ⟨_, l, rfl, HI.out, HS.out, HM.out.pick0 [0] (by decide) rfl⟩

theorem solves_any (g : G) (hG : Good g) (v vc : Value) (c : List Int) (w : World) (hg : IsGraph w v g) (hc : IsInts w vc c) :
    Calls Try.prog 35 #[v, vc] w fun e w' => ∃ (b : Bool) (x : Int), e = .returned (.tuple #[.bool b, .int .i64 x]) ∧ Below w.heap.size w w' ∧
      (c.length = g.objs.length → x = 0 ∧ b = decide (counted g c = c)) ∧ (c.length ≠ g.objs.length → b = false) := by
  have Hg := Lib.hid hg
  have Hc := Lib.hid hc
  obtain ⟨ao, co, ar, cr, rfl, hlo, hlr⟩ := hg.shape
  obtain ⟨ac, cc, rfl, _⟩ := hc.slice
  have hn := hG.objs
  have hM0 := (Mem.start w).alloc #[.slice ao g.objs.length co, .slice ar g.roots.length cr] 25
  clear hg hc
  by_cases hlen : c.length = g.objs.length
  · have hl2 : (c.length : Int) = g.objs.length := by omega
    have Hlen := Lib.hid hlen
    rw [hlen] at Hc ⊢
    clear hlen hl2
    go_enter Try.func35, Try.ntmps35
    go_wp2_with fail
    refine (gcheck_yes _ g _ (Hg.out.later hM0.below) hG).mono ?_
    rintro e w1 ⟨rfl, hb⟩
    have hM1 := hM0.call hb
    obtain ⟨p0, p1⟩ := hM1.cells2 0 rfl
    go_wp2_with fail
    refine (counted_any g hG _ _ c _ (Hg.out.later hM1.below) (Hc.out.later hM1.below) Hlen.out).mono ?_
    rintro e w2 ⟨vl, rfl, hM2⟩
    have hM3 := hM1.callMem hM2
    have hI := isInts_num (by rw [counted_len]; exact hn) (counted_bound hG c) 0 hM3 rfl
    obtain ⟨al, nl, cl, rfl⟩ := hM3.isSlice 0 rfl
    have HM3 := Lib.hid hM3
    have HI := Lib.hid hI
    obtain ⟨b, hb2⟩ : ∃ b, decide (counted g c = c) = b := ⟨_, rfl⟩
    have Hb2 := Lib.hid hb2
    clear hM2 hM3 hI hb2
    go_wp2_with fail
    refine (eqI_any _ _ (counted g c) c _ HI.out (Hc.out.later HM3.out.below)).mono ?_
    rintro e w3 ⟨rfl, q, rfl⟩
    rw [Hb2.out]
    go_wp2
    refine bodyPost_ret (v := .tuple #[.bool b, .int .i64 0]) (by simp [results, Try.results35, go_sem]) rfl ⟨b, 0, rfl, (HM3.out.drewN q).below, fun _ => ⟨rfl, Hb2.out.symm⟩, fun h => absurd rfl h⟩
  · have Hlen := Lib.hid hlen
    have hl3 : ((c.length : Int) != g.objs.length) = true := by simp; omega
    have hl4 : ¬ (c.length : Int) = g.objs.length := by omega
    go_enter Try.func35, Try.ntmps35
    go_wp2_with fail
    refine (gcheck_yes _ g _ (Hg.out.later hM0.below) hG).mono ?_
    rintro e w1 ⟨rfl, hb⟩
    have hM1 := hM0.call hb
    obtain ⟨p0, p1⟩ := hM1.cells2 0 rfl
    go_wp2
    refine bodyPost_ret (v := .tuple #[.bool false, .int .i64 2]) (by simp [results, Try.results35, go_sem]) rfl ⟨false, 2, rfl, hM1.below, fun h => absurd h Hlen.out, fun _ => rfl⟩

theorem isLeast_le {g : G} (hG : Good g) {l c : List Int} (hl : IsLeast g l) (hs : Sol g l) (hc : Sol g c) (j : Nat) : l.getD j 0 ≤ c.getD j 0 := least_le hG hs (hl.2.2.2 c hc) hc j
theorem isGreatest_le {g : G} (hG : Good g) {l c : List Int} (hl : IsGreatest g l) (hs : Sol g l) (hc : Sol g c) (j : Nat) : c.getD j 0 ≤ l.getD j 0 := least_le hG hc (hl.2.2.2 c hc) hs j

set_option maxRecDepth 100000 in
set_option maxHeartbeats 4000000 in
theorem dual_good (g : G) (hG : Good g) (v vc : Value) (c : List Int) (w : World) (hg : IsGraph w v g) (hc : IsInts w vc c) :
    Calls Try.prog 11 #[v, vc] w fun e w' => e = .returned (.bool true) ∧ Below w.heap.size w w' := by
  have Hg := Lib.hid hg
  have Hc := Lib.hid hc
  obtain ⟨ao, co, ar, cr, rfl, hlo, hlr⟩ := hg.shape
  obtain ⟨ac, cc, rfl, _⟩ := hc.slice
  have hn24 := hG.objs
  have hM0 := (Mem.start w).alloc #[.slice ao g.objs.length co, .slice ar g.roots.length cr] 25
  clear hg hc
  go_enter Try.func11, Try.ntmps11
  go_wp2_with fail
  refine (good_yes _ g _ (Hg.out.later hM0.below) hG).mono ?_
  rintro e w1 ⟨rfl, hb1⟩
  have hM1 := hM0.call hb1
  obtain ⟨p0, p1⟩ := hM1.cells2 0 rfl
  go_wp2_with fail
  refine (least_any g hG _ _ (Hg.out.later hM1.below)).mono ?_
  rintro e w2 ⟨vl, l, rfl, hL, hLS, hM2⟩
  have hM3 := hM1.callMem hM2
  obtain ⟨q0, q1⟩ := hM3.cells2 1 rfl
  go_wp2_with fail
  refine (greatest_any g hG _ _ (Hg.out.later hM3.below)).mono ?_
  rintro e w3 ⟨vm, m, rfl, hM, hMS, hM4⟩
  have hM5 := hM3.callMem hM4
  obtain ⟨r0, r1⟩ := hM5.cells2 2 rfl
  have hIm := isInts_num (by rw [hM.1]; exact hn24) hM.2.1 0 hM5 rfl
  have hIl := isInts_num (by rw [hL.1]; exact hn24) hL.2.1 1 hM5 rfl
  obtain ⟨al, cl, hvl, _⟩ := hIl.slice
  obtain ⟨am, cm, hvm, _⟩ := hIm.slice
  obtain ⟨n, hn⟩ : ∃ n, g.objs.length = n := ⟨_, rfl⟩
  have hll : l.length = n := by rw [hL.1, hn]
  have hml : m.length = n := by rw [hM.1, hn]
  rw [hll] at hvl
  rw [hml] at hvm
  subst hvl hvm
  rw [hn] at hM5 hn24 r0 Hg hlo ⊢
  have HL := Lib.hid hL
  have HLS := Lib.hid hLS
  have HM := Lib.hid hM
  have HMS := Lib.hid hMS
  have HIl := Lib.hid hIl
  have HIm := Lib.hid hIm
  have Hn := Lib.hid hn
  have Hll := Lib.hid hll
  have Hml := Lib.hid hml
  have HM5 := Lib.hid hM5
  clear hL hLS hM hMS hIl hIm hn hll hml hM0 hM1 hM2 hM3 hM4 hM5 p0 p1 q0 q1 hb1
  go_wp2_with fail
  refine (solves_any g hG _ _ l _ (Hg.out.later HM5.out.below) HIl.out).mono ?_
  rintro e w4 ⟨b1, x1, rfl, hb4, hyes, _⟩
  obtain ⟨rfl, rfl⟩ := hyes (by rw [Hll.out, Hn.out])
  rw [show decide (counted g l = l) = true from by have := HLS.out; unfold Sol at this; simp [this]]
  have hM6 := HM5.out.call hb4
  obtain ⟨s0, s1⟩ := hM6.cells2 2 rfl
  have HM6 := Lib.hid hM6
  clear hyes hM6 r0 r1
  go_wp2_with fail
  refine (solves_any g hG _ _ m _ (Hg.out.later HM6.out.below) (HIm.out.later hb4)).mono ?_
  rintro e w5 ⟨b2, x2, rfl, hb5, hyes, _⟩
  obtain ⟨rfl, rfl⟩ := hyes (by rw [Hml.out, Hn.out])
  rw [show decide (counted g m = m) = true from by have := HMS.out; unfold Sol at this; simp [this]]
  have hM7 := HM6.out.call hb5
  obtain ⟨t0, t1⟩ := hM7.cells2 2 rfl
  have HM7 := Lib.hid hM7
  clear hyes hM7 s0 s1
  go_wp2_with fail
  refine (solves_any g hG _ _ c _ (Hg.out.later HM7.out.below) (Hc.out.later HM7.out.below)).mono ?_
  rintro e w6 ⟨b3, x3, rfl, hb6, hyes, hno⟩
  have hM8 := HM7.out.call hb6
  have hw36 : Below w3.heap.size w3 w6 := (hb4.trans (hb5.mono hb4.size)).trans (hb6.mono (Nat.le_trans hb4.size hb5.size))
  have HIl6 := Lib.hid (HIl.out.later hw36)
  have HIm6 := Lib.hid (HIm.out.later hw36)
  have HIc6 := Lib.hid (Hc.out.later hM8.below)
  have hfin := hM8.below
  have hsz := hM8.base
  have Hyes := Lib.hid hyes
  have Hno := Lib.hid hno
  clear hM8 hyes hno t0 t1 hw36 hb4 hb5 hb6 HM5 HM6 HM7 HIl HIm Hg Hc hlr
  have HF := Lib.hid hfin
  clear hfin
  cases b3 with
  | false =>
    go_wp2
    go_loopw [13] (fun i wr => ∃ k : Nat, k ≤ n ∧ i = .int .i64 k ∧ Below w6.heap.size w6 wr) (fun i _ => n - (intOf i).toNat)
    case atStart => exact ⟨0, Nat.zero_le _, rfl, Below.refl _ _⟩
    case round =>
      obtain ⟨k, hk, rfl, hB⟩ := hrel
      by_cases hlt : k < n
      · obtain ⟨x, hx⟩ := get_some l k (by have := Hll.out; omega)
        obtain ⟨y, hy⟩ := get_some m k (by have := Hml.out; omega)
        obtain ⟨bl, ol, c1, hv, _, _, e1, _⟩ := HIl6.out.at hB hx
        rw [Hll.out] at hv
        cases hv
        obtain ⟨bm, om, c2, hv, _, _, e2, _⟩ := HIm6.out.at hB hy
        rw [Hml.out] at hv
        cases hv
        have hxy : x ≤ y := by
          have := isGreatest_le hG HM.out HMS.out HLS.out k
          rw [List.getD_eq_getElem?_getD, List.getD_eq_getElem?_getD, hx, hy] at this
          exact this
        have hd : decide (y < x) = false := by simp; omega
        have hk0 : (0 : Int) ≤ (k : Int) := by omega
        clear hx hy HIl6 HIm6 HIc6 Hyes Hno HL HLS HM HMS Hn Hll Hml HF hn24
        go_wp2
        go_quiet (fail)
        go_wp2
        go_roundw
        case rel => exact ⟨k + 1, by omega, by go_num, below_drewN hB _⟩
        case measure => simp [intOf]; omega
      · obtain rfl : k = n := by omega
        go_wp2
        go_ret
        exact ⟨rfl, HF.out.trans (hB.mono hsz)⟩
  | true =>
    have hcn : c.length = g.objs.length := by
      rcases Classical.em (c.length = g.objs.length) with h | h
      · exact h
      · exact absurd (Hno.out h) (by simp)
    have hcs : Sol g c := by have := (Hyes.out hcn).2; unfold Sol; simpa using this.symm
    rw [Hn.out] at hcn
    have Hcs := Lib.hid hcs
    have hnc : (c.length : Int) = n := by omega
    subst hcn
    clear hcs
    go_wp2
    go_loopw [13] (fun i wr => ∃ k : Nat, k ≤ c.length ∧ i = .int .i64 k ∧ Below w6.heap.size w6 wr) (fun i _ => c.length - (intOf i).toNat)
    case atStart => exact ⟨0, Nat.zero_le _, rfl, Below.refl _ _⟩
    case round =>
      obtain ⟨k, hk, rfl, hB⟩ := hrel
      by_cases hlt : k < c.length
      · obtain ⟨x, hx⟩ := get_some l k (by have := Hll.out; omega)
        obtain ⟨y, hy⟩ := get_some m k (by have := Hml.out; omega)
        obtain ⟨z, hz⟩ := get_some c k hlt
        obtain ⟨bl, ol, c1, hv, _, _, e1, _⟩ := HIl6.out.at hB hx
        rw [Hll.out] at hv
        cases hv
        obtain ⟨bm, om, c2, hv, _, _, e2, _⟩ := HIm6.out.at hB hy
        rw [Hml.out] at hv
        cases hv
        obtain ⟨bc, oc, c3, hv, _, _, e3, _⟩ := HIc6.out.at hB hz
        cases hv
        have hxy : x ≤ y := by
          have := isGreatest_le hG HM.out HMS.out HLS.out k
          rw [List.getD_eq_getElem?_getD, List.getD_eq_getElem?_getD, hx, hy] at this
          exact this
        have hzy : z ≤ y := by
          have := isGreatest_le hG HM.out HMS.out Hcs.out k
          rw [List.getD_eq_getElem?_getD, List.getD_eq_getElem?_getD, hz, hy] at this
          exact this
        have hxz : x ≤ z := by
          have := isLeast_le hG HL.out HLS.out Hcs.out k
          rw [List.getD_eq_getElem?_getD, List.getD_eq_getElem?_getD, hx, hz] at this
          exact this
        have hd : decide (y < x) = false := by simp; omega
        have hd2 : decide (z < x) = false := by simp; omega
        have hd3 : decide (y < z) = false := by simp; omega
        have hk0 : (0 : Int) ≤ (k : Int) := by omega
        clear hx hy hz HIl6 HIm6 HIc6 Hyes Hno HL HLS HM HMS Hn Hll Hml HF hn24 Hcs
        go_wp2
        go_quiet (fail)
        go_wp2
        go_roundw
        case rel => exact ⟨k + 1, by omega, by go_num, below_drewN hB _⟩
        case measure => simp [intOf]; omega
      · obtain rfl : k = c.length := by omega
        go_wp2
        go_ret
        exact ⟨rfl, HF.out.trans (hB.mono hsz)⟩

theorem dual_walk (w : World) (v u : Value) (h : ∃ g, IsGraph w v g) (hu : ∃ l, IsInts w u l) :
    Calls Try.prog 11 #[v, u] w fun e w' => e = .returned (.bool true) ∧ Below w.heap.size w w' := by
  obtain ⟨g, hg⟩ := h
  obtain ⟨c, hu⟩ := hu
  by_cases hG : Good g
  · exact dual_good g hG v u c w hg hu
  · have Hg := Lib.hid hg
    obtain ⟨ao, co, ar, cr, rfl, hlo, hlr⟩ := hg.shape
    have HG := Lib.hid hG
    clear hg hG hu
    have hM0 := (Mem.start w).alloc #[.slice ao g.objs.length co, .slice ar g.roots.length cr] 25
    go_enter Try.func11, Try.ntmps11
    go_wp2_with fail
    refine (good_no _ g _ (Hg.out.later hM0.below) HG.out).mono ?_
    rintro e w1 ⟨rfl, hb⟩
    have hM1 := hM0.call hb
    obtain ⟨p0, p1⟩ := hM1.cells2 0 rfl
    go_wp2_with fail
    refine (refused_yes _ g _ (Hg.out.later hM1.below) HG.out).mono ?_
    rintro e w2 ⟨rfl, hb2⟩
    have hM2 := hM1.call hb2
    go_wp2
    go_ret
    exact ⟨rfl, hM2.below⟩
end Go.Proofs.Ytjeaaiklbefmmaa
