/- Colours: Hold, New, grey, work. -/
import Derived.Test.YtjnbnfmlpdnngaaC5
import Derived.Test.YtjnbnfmlpdnngaaQ0
namespace Go.Proofs.Ytjnbnfmlpdnngaa
open Go.RowKit Go.Shelf

section
variable (B : Nat) (w0 : World) (bx : Nat) (regs : List V) (mv : Value) (bm : Nat) (bv : Value)
variable {B w0 bx regs mv bm bv} in
theorem TM.call {os : Os} {x : Tx} {T : List Ent} {w w' : World} (h : TM B w0 bx regs mv bm bv os x T w) (hb : Below w.heap.size w w') : TM B w0 bx regs mv bm bv os x T w' := by
  obtain ⟨vo, cs, vc, vg, h1, h2⟩ := h
  exact ⟨vo, cs, vc, vg, h1, h2.call hb⟩
set_option maxRecDepth 100000 in
set_option maxHeartbeats 1000000 in
theorem thold_any (T : List Ent) (w : World) (os : Os) (x : Tx) (r : Nat) (u : V) (hC : TM B w0 bx regs mv bm bv os x T w) :
    Calls Try.prog 127 #[.pointer (some ⟨bm, 0, none⟩), .int .i64 (r : Int), .agg #[.bool u.ref, .int .i64 u.n]] w fun e w' => e = .returned (.tuple #[]) ∧ TM B w0 bx regs mv bm bv os x T w' := by
  have HC := Lib.hid (hC.call ((Below.refl w.heap.size w).alloc (Nat.le_refl _) (.cells #[.bool u.ref, .int .i64 u.n] 84)))
  clear hC
  go_enter Try.func127, Try.ntmps127
  go_wp2_with fail
  refine bodyPost_end (results_none rfl _ _ _) rfl ⟨rfl, HC.out⟩
def TNewSays (os : Os) (x : Tx) (n : Nat) (T : List Ent) (e : Ending) (w' : World) : Prop :=
      (24 ≤ (thereL os os.length).length → e = .returned (.tuple #[.int .i64 0, .int .i64 6]) ∧ TM B w0 bx regs mv bm bv os x T w') ∧
      (¬ 24 ≤ (thereL os os.length).length → e = .returned (.tuple #[.int .i64 (os.length : Int), .int .i64 0]) ∧ TM B w0 bx regs mv bm bv (os ++ [some (zerosV n)]) ⟨x.col ++ [2], x.gone⟩ T w')
set_option maxRecDepth 100000 in
set_option maxHeartbeats 4000000 in
theorem tnew_any (T : List Ent) (w : World) (os : Os) (x : Tx) (n : Nat) (hn : n ≤ 4) (hl : os.length ≤ 1000) (hcl : x.col.length = os.length) (hC : TM B w0 bx regs mv bm bv os x T w) :
    Calls Try.prog 129 #[.pointer (some ⟨bm, 0, none⟩), .int .i64 (n : Int)] w fun e w' => TNewSays B w0 bx regs mv bm bv os x n T e w' := by
  obtain ⟨vo, cs, vc, vg, hc, hM⟩ := hC
  have m0 : w.cell? ⟨bm, 0, none⟩ = some vo := hM.cell 1 rfl 0
  have mb : bm < w.heap.size := (hM.box 1 rfl).2.1
  have hcl2 : cs.length = os.length := by rw [← hc, conts_len]
  have hth := othere_any B w0 w _ 2 5 vo cs hM (oAt_of (A := tA bx regs mv bm bv vo cs vc x.col vg x.gone) rfl) (by omega)
  rw [hc, hcl2] at hth
  obtain ⟨TL, hTL⟩ : ∃ TL, thereL os os.length = TL := ⟨_, rfl⟩
  have hTn : TL.length ≤ 1000 := by rw [← hTL]; have := thereL_len os os.length; omega
  rw [hTL] at hth
  have Hth := Lib.hid hth
  have HTL := Lib.hid hTL
  have HM := Lib.hid hM
  have Hc := Lib.hid hc
  have Hcl := Lib.hid hcl
  have Hcl2 := Lib.hid hcl2
  have Hl := Lib.hid hl
  clear hM hc hcl hcl2 hl hth hTL
  go_enter Try.func129, Try.ntmps129
  go_wp2_with fail
  refine Hth.out.mono ?_
  rintro e w1 ⟨vl, rfl, hMt⟩
  obtain ⟨aL, cL, rfl⟩ := hMt.intsSlice 0 rfl
  have hM1 := HM.out.call hMt.below
  have HM1 := Lib.hid hM1
  have x2 : w1.cell? ⟨bm, 2, none⟩ = some vc := hM1.cell 1 rfl 2
  have xb : bm < w1.heap.size := (hM1.box 1 rfl).2.1
  clear hM1 hMt Hth HM m0 mb
  obtain ⟨nL, hnL⟩ : ∃ nL, TL.length = nL := ⟨_, rfl⟩
  have HnL := Lib.hid hnL
  rw [hnL] at hTn ⊢
  clear hnL
  by_cases hr : 24 ≤ nL
  · have hr2 : (24 : Int) ≤ (nL : Int) := by omega
    go_wp2_with fail
    refine bodyPost_ret (v := .tuple #[.int .i64 0, .int .i64 6]) (by simp [results, Try.results129, go_sem]) rfl ?_
    exact ⟨fun _ => ⟨rfl, vo, cs, vc, vg, Hc.out, HM1.out⟩, fun h => absurd (by rw [HTL.out, HnL.out]; exact hr) h⟩
  · have hr2 : ¬ (24 : Int) ≤ (nL : Int) := by omega
    have Hr := Lib.hid hr
    have hgl : x.col.length ≤ 1000000 := by rw [Hcl.out]; have := Hl.out; omega
    go_upto_region 3 with (fail)
    go_upto_region 4 with (at_builtin; refine Mem.wp_appI elemInts rfl (.tmp 17) (.tmp 18) rfl HM1.out 3 rfl rfl _ (2 : Int) _ _ rfl (by simp) hgl ?_; intro ad n1 cp w3 hn1 hM4 hs3 hk3 ha3; have m6 : w3.cell? ⟨bm, 2, none⟩ = some vc := hM4.cell 1 rfl 2; have f6 : w3.frozen? ⟨bm, 2, none⟩ = false := hM4.free 1 rfl 2; have mb3 : bm < w3.heap.size := (hM4.box 1 rfl).2.1; have hM5 := Lib.hid (hM4.setBox 1 rfl 2 (.slice ad n1 cp)))
    obtain ⟨W4, hW4⟩ : ∃ W4, w3.setCell ⟨bm, 2, none⟩ (.slice ad n1 cp) = W4 := ⟨_, rfl⟩
    rw [hW4] at hM5 ⊢
    have hM6 : Mem B w0 W4 (tA bx regs mv bm bv vo cs (.slice ad n1 cp) (x.col ++ [2]) vg x.gone ++ (objsE cs ++ T)) := hM5.out
    have hnw := onew_any B w0 W4 _ 1 2 5 bm #[vo, bv, .slice ad n1 cp, vg] 81 vo cs hM6 (oAt_of (A := tA bx regs mv bm bv vo cs (.slice ad n1 cp) (x.col ++ [2]) vg x.gone) rfl) rfl rfl (by decide) n hn (by rw [Hcl2.out]; exact Hl.out)
    have wb4 : bm < W4.heap.size := (hM6.box 1 rfl).2.1
    have Hnw := Lib.hid hnw
    clear hnw hM5 hM6 hW4 m6 f6 mb3 hn1 x2 xb
    go_wp2_with fail
    refine Hnw.out.mono ?_
    rintro e w5 ⟨b', v', vo', rfl, hM7⟩
    have hM8 : Mem B w0 w5 (tA bx regs mv bm bv vo' (cs ++ [some ⟨b', v', zerosV n⟩]) (.slice ad n1 cp) (x.col ++ [2]) vg x.gone ++ (objsE (cs ++ [some ⟨b', v', zerosV n⟩]) ++ T)) := objs_push (c := some ⟨b', v', zerosV n⟩) (hM7.cast rfl)
    have hC8 : TM B w0 bx regs mv bm bv (os ++ [some (zerosV n)]) ⟨x.col ++ [2], x.gone⟩ T w5 := ⟨vo', _, _, vg, by rw [← Hc.out]; simp [conts], hM8⟩
    have HC8 := Lib.hid hC8
    rw [Hcl2.out]
    clear hM7 hM8 hC8
    go_wp2_with fail
    refine bodyPost_ret (v := .tuple #[.int .i64 (os.length : Int), .int .i64 0]) (by simp [results, Try.results129, go_sem]) rfl ?_
    exact ⟨fun h => absurd (by rw [HTL.out, HnL.out] at h; exact h) Hr.out, fun _ => ⟨rfl, HC8.out⟩⟩
/-- The first grey one; -1: none is. -/
def greyN (os : Os) (c : List Int) : Int := ((hueL os c 1 os.length).head?).getD (-1)
theorem filter_none {l : List Int} {p : Int → Bool} (h : ∀ x ∈ l, p x = false) : l.filter p = [] := by
  rw [List.filter_eq_nil_iff]; intro x hx; rw [h x hx]; decide
theorem filter_first {l : List Int} {p : Int → Bool} {k : Nat} {x : Int} (hx : l[k]? = some x) (hp : p x = true) (h : ∀ y ∈ l.take k, p y = false) : (l.filter p).head? = some x := by
  have : l = l.take k ++ x :: l.drop (k + 1) := by
    conv => lhs; rw [← List.take_append_drop k l]
    rw [List.drop_eq_getElem_cons (List.getElem?_eq_some_iff.1 hx).1]
    congr 2
    exact (List.getElem?_eq_some_iff.1 hx).2
  rw [this, List.filter_append, filter_none h, List.nil_append, List.filter_cons_of_pos hp]; rfl
set_option maxRecDepth 100000 in
set_option maxHeartbeats 4000000 in
theorem grey_any (T : List Ent) (w : World) (os : Os) (x : Tx) (hl : os.length ≤ 1000) (hcl : x.col.length = os.length) (hC : TM B w0 bx regs mv bm bv os x T w) :
    Calls Try.prog 57 #[.pointer (some ⟨bm, 0, none⟩)] w fun e w' => e = .returned (.int .i64 (greyN os x.col)) ∧ TM B w0 bx regs mv bm bv os x T w' := by
  obtain ⟨vo, cs, vc, vg, hc, hM⟩ := hC
  have m0 : w.cell? ⟨bm, 0, none⟩ = some vo := hM.cell 1 rfl 0
  have mb : bm < w.heap.size := (hM.box 1 rfl).2.1
  have hcl2 : cs.length = os.length := by rw [← hc, conts_len]
  have hth := othere_any B w0 w _ 2 5 vo cs hM (oAt_of (A := tA bx regs mv bm bv vo cs vc x.col vg x.gone) rfl) (by omega)
  rw [hc, hcl2] at hth
  have hmem : ∀ y ∈ thereL os os.length, 0 ≤ y ∧ y < (x.col.length : Int) := by
    intro y hy
    obtain ⟨h1, h2⟩ := (mem_thereL (Nat.le_refl _)).1 hy
    rw [hcl]; exact ⟨h1.1, h2⟩
  have hgN : greyN os x.col = (((thereL os os.length).filter fun i => cAt x.col i == 1).head?).getD (-1) := rfl
  have hTn : (thereL os os.length).length ≤ 1000 := by have := thereL_len os os.length; omega
  obtain ⟨TL, hTL⟩ : ∃ TL, thereL os os.length = TL := ⟨_, rfl⟩
  rw [hTL] at hth hmem hgN hTn
  have Hth := Lib.hid hth
  have Hmem := Lib.hid hmem
  have HgN := Lib.hid hgN
  have HM := Lib.hid hM
  have Hc := Lib.hid hc
  clear hM hc hcl hcl2 hl hth hTL hmem hgN
  go_enter Try.func57, Try.ntmps57
  go_wp2_with fail
  refine Hth.out.mono ?_
  rintro e w1 ⟨vl, rfl, hMt⟩
  obtain ⟨aL, cL, rfl⟩ := hMt.intsSlice 0 rfl
  have hM1 := HM.out.callMem hMt
  have HM1 := Lib.hid hM1
  obtain ⟨nL, hnL⟩ : ∃ nL, TL.length = nL := ⟨_, rfl⟩
  rw [hnL] at HM1 hTn ⊢
  have HnL := Lib.hid hnL
  clear hM1 hMt Hth HM m0 mb hnL
  go_upto_region 2 with (fail)
  go_loopw [4, 11] (fun _ s11 wq => ∃ k : Nat, k ≤ nL ∧ s11 = .int .i64 (k : Int) ∧ (∀ y ∈ TL.take k, (cAt x.col y == 1) = false) ∧ Below w1.heap.size w1 wq) (fun _ i _ => nL - (intOf i).toNat)
  case atStart => exact ⟨0, Nat.zero_le _, rfl, by simp, Below.refl _ _⟩
  case round =>
    obtain ⟨k, hk, rfl, hno, hB⟩ := hrel
    have hMr := HM1.out.call hB
    by_cases hlt : k < nL
    · obtain ⟨y, hy⟩ := get_some TL k (by rw [HnL.out]; exact hlt)
      obtain ⟨hy0, hy1⟩ := Hmem.out y (List.mem_of_getElem? hy)
      obtain ⟨i, rfl⟩ : ∃ i : Nat, y = (i : Int) := ⟨y.toNat, by omega⟩
      obtain ⟨z, hz⟩ : ∃ z, x.col[i]? = some z := ⟨_, List.getElem?_eq_getElem (by omega)⟩
      obtain ⟨gL, capL, hvL, _, bL, cL2, _⟩ := hMr.intsAt 0 rfl (by rintro rfl; simp at hy)
      have c0 := cL2 k _ hy
      have haL : aL = some ⟨gL, 0, none⟩ := by cases hvL; rfl
      obtain ⟨gC, capC, hvC, _, bC, cC, _⟩ := hMr.intsAt 4 rfl (by intro e; rw [e] at hz; simp at hz)
      have c1 := cC i z hz
      have n2 : wr.cell? ⟨bm, 2, none⟩ = some vc := hMr.cell 2 rfl 2
      rw [hvC] at n2
      have nb : bm < wr.heap.size := (hMr.box 2 rfl).2.1
      have hza : cAt x.col (i : Int) = z := by unfold cAt; rw [Int.toNat_natCast, List.getD_eq_getElem?_getD, hz]; rfl
      have HS := Lib.hid (take_succ_some _ _ _ hy)
      have Hy := Lib.hid hy
      have Hza := Lib.hid hza
      have Hno := Lib.hid hno
      have HB := Lib.hid hB
      have HMr := Lib.hid (hMr.drop (List.sublist_cons_self _ _))
      have e1 : (k : Int) < (nL : Int) := by omega
      have e2 : (i : Int) < (x.col.length : Int) := by omega
      subst haL
      clear hy hy0 hy1 hz hvL cL2 cC hza hno hB hMr hvC
      by_cases h1 : z = 1
      · subst h1
        have HR : Hid (greyN os x.col = (i : Int)) := Lib.hid (by
          rw [HgN.out, filter_first Hy.out (by rw [Hza.out]; rfl) Hno.out]; rfl)
        go_wp2_with fail
        go_ret
        rw [HR.out]
        exact ⟨rfl, vo, cs, vc, vg, Hc.out, HMr.out⟩
      · have hzb : (z == 1) = false := by simpa using h1
        go_wp2_with fail
        go_roundw
        case rel =>
          refine ⟨k + 1, by omega, by go_num, ?_, HB.out⟩
          intro y hy
          rw [HS.out] at hy
          rcases List.mem_append.1 hy with hy | hy
          · exact Hno.out y hy
          · rw [List.mem_singleton] at hy; rw [hy, Hza.out]; exact hzb
        case measure => simp [intOf]; omega
    · obtain rfl : k = nL := by omega
      rw [List.take_of_length_le (by rw [HnL.out]; exact Nat.le_refl _)] at hno
      have HR : Hid (greyN os x.col = -1) := Lib.hid (by rw [HgN.out, filter_none hno]; rfl)
      have HMr := Lib.hid (hMr.drop (List.sublist_cons_self _ _))
      clear hno hMr hB
      go_wp2_with fail
      go_ret
      rw [HR.out]
      exact ⟨rfl, vo, cs, vc, vg, Hc.out, HMr.out⟩
end
end Go.Proofs.Ytjnbnfmlpdnngaa
