/- Graphs out of bytes: Get, walked. -/
import Derived.Test.YtelhjcifiahahaaJ7
import Derived.Deep.DeepCutAuto
namespace Go.Proofs.Ytelhjcifiahahaa
open Go.RowKit

/-- What Get says where the sum is right. -/
def GotSays (w w' : World) (l : List Nat) (r : Option (G × List Nat)) (e : Ending) : Prop :=
  ∃ gv c, e = .returned (.tuple #[gv, .int .i64 c]) ∧ Below w.heap.size w w' ∧
    ((c = 4 ∧ gv = .agg #[.slice none 0 0, .slice none 0 0] ∧ (∀ g r', r = some (g, r') → ¬ (Good g ∧ graphB g = l))) ∨ (c = 0 ∧ ∃ g r', r = some (g, r') ∧ IsGraph w' gv g ∧ Good g ∧ graphB g = l))
set_option maxRecDepth 100000 in
set_option maxHeartbeats 2000000 in
theorem get_on (l : List Nat) (w : World) (bl ol cl n lo hi : Nat) (hl : IsTup 1 encY w (.slice (some ⟨bl, ol, none⟩) (n + 2) cl) l) (hcl : n + 2 ≤ cl) (hb : ∀ x ∈ l, x < 256) (hn : l.length = n + 2) (h4 : n + 2 ≤ 4096) (h0 : l[n]? = some lo) (h1 : l[n + 1]? = some hi) (hs : a0 (l.take n) = lo + 256 * hi) :
    Calls Try.prog 10 #[.slice (some ⟨bl, ol, none⟩) (n + 2) cl] w fun e w' => GotSays w w' l (graphP (l.take n)) e := by
  have HL := Lib.hid hl
  have HBT := Lib.hid hb
  have HLN := Lib.hid hn
  obtain ⟨bl', ol', cl2, hv, _, z1, hc⟩ := hl.at (Below.refl _ _) h0
  rw [hn] at hv
  cases hv
  obtain ⟨bl', ol', cl3, hv, _, _, hc2⟩ := hl.at (Below.refl _ _) h1
  rw [hn] at hv
  cases hv
  have d0 := hc 0 _ rfl
  have d1 := hc2 0 _ rfl
  rw [Nat.add_zero, Nat.mul_one] at d0 d1
  have hI := hl.take n cl (by omega)
  have HI := Lib.hid hI
  have hbt : ∀ x ∈ l.take n, x < 256 := fun x hx => hb x (List.mem_of_mem_take hx)
  have hM := (Mem.start w).alloc #[.slice none 0 0, .slice none 0 0] 25
  obtain ⟨W, hW⟩ : ∃ W, w.alloc (.cells #[.slice none 0 0, .slice none 0 0] 25) = W := ⟨_, rfl⟩
  obtain ⟨bg, hbg⟩ : ∃ bg, w.heap.size = bg := ⟨_, rfl⟩
  have zW : bl < W.heap.size := by rw [← hW]; simp; omega
  have e0 : W.cell? ⟨bl, ol + n, none⟩ = some (.int .u8 lo) := by rw [← hW]; rw [World.cell?_alloc_lt _ _ ⟨_, _, none⟩ z1]; exact d0
  have e1 : W.cell? ⟨bl, ol + (n + 1), none⟩ = some (.int .u8 hi) := by rw [← hW]; rw [World.cell?_alloc_lt _ _ ⟨_, _, none⟩ z1]; exact d1
  have hS : Hid (∀ X, Below w.heap.size w X → Calls Try.prog 24 #[.slice (some ⟨bl, ol, none⟩) n cl] X fun e w' => e = .returned (.int .i64 (a0 (l.take n) : Int)) ∧ X = w') := Lib.hid fun X hX => sum_any _ _ X (hI.later hX) hbt
  rw [hW, hbg] at hM
  have HB := Lib.hid hM.below
  have f0 : W.frozen? ⟨bg, 0, none⟩ = false := hM.free 0 rfl 0
  have f1 : W.frozen? ⟨bg, 1, none⟩ = false := hM.free 0 rfl 1
  have b0 : W.cell? ⟨bg, 0, none⟩ = some (.slice none 0 0) := by have := hM.cell 0 rfl 0; simpa using this
  have b1 : W.cell? ⟨bg, 1, none⟩ = some (.slice none 0 0) := by have := hM.cell 0 rfl 1; simpa using this
  have zg : bg < W.heap.size := (hM.box 0 rfl).2.1
  have HM := Lib.hid hM
  have HW := Lib.hid hW
  have Hbg := Lib.hid hbg
  have hlo := hb lo (List.mem_of_getElem? h0)
  have hhi := hb hi (List.mem_of_getElem? h1)
  have n94 : n ≤ 4094 := by omega
  have hor := or_lo hlo hhi
  obtain ⟨S, hS'⟩ : ∃ S, a0 (l.take n) = S := ⟨_, rfl⟩
  rw [hS'] at hS hs
  have w1 : IntKind.i64.wrap (lo : Int) = (lo : Int) := by rw [IntKind.wrap_i64]; omega
  have w2 : IntKind.i64.wrap (hi : Int) = (hi : Int) := by rw [IntKind.wrap_i64]; omega
  have w3 : IntKind.i64.wrap ((hi : Int) * 256) = (hi : Int) * 256 := by rw [IntKind.wrap_i64]; omega
  have q1 : ((S : Int) != bits BinOp.or IntKind.i64 (IntKind.i64.wrap (lo : Int)) (IntKind.i64.wrap (IntKind.i64.wrap (hi : Int) * 256))) = false := by rw [w1, w2, w3, hor]; simp; omega
  clear w1 w2 w3
  have Hbt := Lib.hid hbt
  obtain ⟨R, hR⟩ : ∃ R, graphP (l.take n) = R := ⟨_, rfl⟩
  rw [hR]
  have HR := Lib.hid hR
  clear hR
  clear hc hc2 hl hI hbt hM hW hbg d0 d1 h0 h1 hb hn h4 hS' hor hs
  obtain ⟨M, hM⟩ : ∃ M, n + 2 = M := ⟨_, rfl⟩
  rw [hM] at hcl ⊢
  have m1 : (M : Int) - 2 = (n : Int) := by omega
  have m2 : decide ((M : Int) > 4096) = false := decide_eq_false (by omega)
  have m3 : decide (4096 < M) = false := decide_eq_false (by omega)
  have n1 : (0 : Int) ≤ (n : Int) := by omega
  have n2 : (n : Int) < (M : Int) := by omega
  obtain ⟨N1, hN1⟩ : ∃ N1, n + 1 = N1 := ⟨_, rfl⟩
  rw [hN1] at e1
  have n3 : IntKind.i64.wrap ((n : Int) + 1) = (N1 : Int) := by rw [IntKind.wrap_i64]; omega
  have n3a : (N1 : Int) < (M : Int) := by omega
  have n3b : (0 : Int) ≤ (N1 : Int) := by omega
  have n4 : (n : Int) ≤ (cl : Int) := by omega
  have n5 : n ≤ cl := by omega
  have n6 : n < M := by omega
  have n7 : N1 < M := by omega
  have n8 : decide ((n : Int) < 0) = false := decide_eq_false (by omega)
  have HMM := Lib.hid hM
  clear hM hN1
  go_enter Try.func10, Try.ntmps10
  go_upto_region 4 with (fail)
  rw [HW.out, Hbg.out]
  have e0d : W.drew.cell? ⟨bl, ol + n, none⟩ = some (.int .u8 lo) := e0
  have e1d : W.drew.cell? ⟨bl, ol + N1, none⟩ = some (.int .u8 hi) := e1
  go_cut [35] (fun s X => s = .bool false ∧ Mem bg w X [ebox bg #[.slice none 0 0, .slice none 0 0] 25])
  case first =>
    go_region_held3 (fun X => X.cell? ⟨bl, ol + n, none⟩ = some (.int .u8 lo) ∧ X.cell? ⟨bl, ol + N1, none⟩ = some (.int .u8 hi))
      (first | exact ⟨e0d, e1d⟩)
      (first | (go_at_call 24; with_reducible refine (hS.out _ (by rw [Hbg.out]; exact HB.out.drew)).mono ?_; rintro e w2 ⟨rfl, rfl⟩))
    all_goals
      go_wp2_with fail
      go_meet
      exact ⟨rfl, HM.out.drew⟩
  case rest =>
    obtain ⟨rfl, hX⟩ := hcut
    have hlt : (l.take n).length = n := by rw [List.length_take, HLN.out]; omega
    have hbX : Below w.heap.size w wc := by rw [Hbg.out]; exact hX.below
    have hRest : IsRest wc (.slice (some ⟨bl, ol, none⟩) n cl) (l.take n) := ⟨bl, ol, cl, by rw [hlt], by rw [hlt]; omega, HI.out.later hbX, Hbt.out⟩
    have HG := Lib.hid (rgraph_any wc _ wc.heap.size _ (l.take n) [] ((Mem.start wc).alloc #[.slice (some ⟨bl, ol, none⟩) n cl] 58) hRest)
    rw [HR.out] at HG
    have HX := Lib.hid hX
    have HbX := Lib.hid hbX
    clear hX hbX hRest hlt f0 f1 b0 b1 zg e0 e1 zW HM HB
    cases R with
    | none =>
      go_wp2_with fail
      with_reducible refine HG.out.mono ?_
      rintro e w3 ⟨rfl, hb3⟩
      have hX3 := (HX.out.call hb3).alloc_ (.cells #[.slice none 0 0, .slice none 0 0] 25)
      obtain ⟨W4, hW4⟩ : ∃ W4, w3.alloc (.cells #[.slice none 0 0, .slice none 0 0] 25) = W4 := ⟨_, rfl⟩
      rw [hW4] at hX3
      have f0 : W4.frozen? ⟨bg, 0, none⟩ = false := hX3.free 0 rfl 0
      have f1 : W4.frozen? ⟨bg, 1, none⟩ = false := hX3.free 0 rfl 1
      have b0 : W4.cell? ⟨bg, 0, none⟩ = some (.slice none 0 0) := by have := hX3.cell 0 rfl 0; simpa using this
      have b1 : W4.cell? ⟨bg, 1, none⟩ = some (.slice none 0 0) := by have := hX3.cell 0 rfl 1; simpa using this
      have zg : bg < W4.heap.size := (hX3.box 0 rfl).2.1
      have HX3 := Lib.hid hX3
      have HW4 := Lib.hid hW4
      clear hX3 hW4 hb3 HG HX
      go_upto_region 7 with (fail)
      rw [HW4.out]
      go_wp2
      have hF := ((HX3.out.setBox 0 rfl 0 (.slice none 0 0)).setBox 0 rfl 1 (.slice none 0 0))
      have r0 := hF.cell 0 rfl 0
      have r1 := hF.cell 0 rfl 1
      simp only [List.getElem?_toArray, List.setIfInBounds_toArray, List.set_cons_zero, List.set_cons_succ, List.getElem?_cons_zero, List.getElem?_cons_succ] at r0 r1
      refine bodyPost_ret (v := .tuple #[.agg #[(.slice none 0 0), (.slice none 0 0)], .int .i64 4]) (by simp [results, Try.results10, go_sem, r0, r1]) rfl ⟨_, _, rfl, by rw [Hbg.out]; exact hF.below, ?_⟩
      exact .inl ⟨rfl, rfl, fun g r' h => by cases h⟩
    | some gr =>
      obtain ⟨g, r'⟩ := gr
      go_wp2_with fail
      with_reducible refine HG.out.mono ?_
      rintro e w3 ⟨vo, vr, rfl, hgf, hb3⟩
      have Hgf := Lib.hid hgf
      have hg3 := hgf.here
      have hbgl : bg < wc.heap.size := (HX.out.box 0 rfl).2.1
      have Hbgl := Lib.hid hbgl
      have Hs3 := Lib.hid hb3.size
      clear hgf hbgl
      have Hg3 := Lib.hid hg3
      obtain ⟨vo', vr', hv, hO, hRt⟩ := hg3
      cases hv
      obtain ⟨ao, co, rfl, hom⟩ := hO.slice
      obtain ⟨ar, cr, rfl, hrm⟩ := hRt.slice
      have hX3 := (HX.out.call hb3).allocAt w3.heap.size rfl #[.slice ao g.objs.length co, .slice ar g.roots.length cr] 25
      obtain ⟨W4, hW4⟩ : ∃ W4, w3.alloc (.cells #[.slice ao g.objs.length co, .slice ar g.roots.length cr] 25) = W4 := ⟨_, rfl⟩
      obtain ⟨bh, hbh⟩ : ∃ bh, w3.heap.size = bh := ⟨_, rfl⟩
      have hb34 : Below w3.heap.size w3 W4 := by rw [← hW4]; exact (Below.refl _ _).alloc (Nat.le_refl _) _
      rw [hW4, hbh] at hX3
      have Hg4 := Lib.hid (Hg3.out.later hb34)
      have HbW := Lib.hid hb34
      have h0 : W4.cell? ⟨bh, 0, none⟩ = some (.slice ao g.objs.length co) := by have := hX3.cell 0 rfl 0; simpa using this
      have h1 : W4.cell? ⟨bh, 1, none⟩ = some (.slice ar g.roots.length cr) := by have := hX3.cell 0 rfl 1; simpa using this
      have zh : bh < W4.heap.size := (hX3.box 0 rfl).2.1
      have HX3 := Lib.hid hX3
      have HW4 := Lib.hid hW4
      have Hbh := Lib.hid hbh
      clear hX3 hW4 hbh hb34 hb3 hO hRt HG HX Hg3
      by_cases hGood : Good g
      · have HC := Lib.hid (gcheck_yes _ g W4 Hg4.out hGood)
        go_upto_region 7 with (fail)
        rw [HW4.out, Hbh.out]
        go_wp2_with fail
        with_reducible refine HC.out.mono ?_
        rintro e w5 ⟨rfl, hb5⟩
        have hX5 := HX3.out.call hb5
        have h0 : w5.cell? ⟨bh, 0, none⟩ = some (.slice ao g.objs.length co) := by have := hX5.cell 0 rfl 0; simpa using this
        have h1 : w5.cell? ⟨bh, 1, none⟩ = some (.slice ar g.roots.length cr) := by have := hX5.cell 0 rfl 1; simpa using this
        have zh : bh < w5.heap.size := (hX5.box 0 rfl).2.1
        have Hg5 := Lib.hid (Hg4.out.later hb5)
        have Hb5 := Lib.hid (HbW.out.trans (hb5.mono HbW.out.size))
        have HBy := Lib.hid (bytesOf_any w5 _ g Hg5.out hGood.roots hGood.objs hGood.fields)
        have HGood := Lib.hid hGood
        have HX5 := Lib.hid hX5
        clear hX5 hb5 HC HX3 hGood HW4 Hbh
        go_wp2_with fail
        with_reducible refine HBy.out.mono ?_
        rintro e w6 ⟨v6, rfl, hM6⟩
        have hlen := body_len HGood.out.roots HGood.out.objs HGood.out.fields Hg5.out.ok
        have hpos := body_pos g
        have hgl : (graphB g).length = (bodyB g).length + 2 := by unfold graphB sumB; rw [List.length_append]; rfl
        have hX6 := HX5.out.callMem hM6
        have hI6 := hM6.isTup 0 rfl encY_len (by omega)
        obtain ⟨a6, m6, c6, rfl⟩ := own_slice (hM6.ownT 0 rfl)
        have hbl : Below w.heap.size w w6 := by rw [Hbg.out]; exact hX6.below
        have hE := equal_any a6 (some ⟨bl, ol, none⟩) m6 c6 (n + 2) cl (graphB g) l w6 hI6 (HL.out.later hbl) (by omega) (by rw [HLN.out]; omega) (graphB_byte g) HBT.out
        rw [HMM.out] at hE
        have HE := Lib.hid hE
        have Hb6 := Lib.hid (Hb5.out.trans (hM6.below.mono Hb5.out.size))
        have h0 : w6.cell? ⟨bh, 0, none⟩ = some (.slice ao g.objs.length co) := by have := hX6.cell 1 rfl 0; simpa using this
        have h1 : w6.cell? ⟨bh, 1, none⟩ = some (.slice ar g.roots.length cr) := by have := hX6.cell 1 rfl 1; simpa using this
        have zh : bh < w6.heap.size := (hX6.box 1 rfl).2.1
        have f0 : w6.frozen? ⟨bg, 0, none⟩ = false := hX6.free 2 rfl 0
        have f1 : w6.frozen? ⟨bg, 1, none⟩ = false := hX6.free 2 rfl 1
        have b0 : w6.cell? ⟨bg, 0, none⟩ = some (.slice none 0 0) := by have := hX6.cell 2 rfl 0; simpa using this
        have b1 : w6.cell? ⟨bg, 1, none⟩ = some (.slice none 0 0) := by have := hX6.cell 2 rfl 1; simpa using this
        have zg : bg < w6.heap.size := (hX6.box 2 rfl).2.1
        have HX6 := Lib.hid hX6
        clear hX6 hI6 hM6 hbl hE hgl hlen hpos HBy HX5
        by_cases heq : graphB g = l
        · have q : decide (graphB g = l) = true := decide_eq_true heq
          rw [q] at HE
          have Heq := Lib.hid heq
          clear q heq
          go_wp2_with fail
          with_reducible refine HE.out.mono ?_
          rintro e w7 ⟨rfl, rfl⟩
          go_wp2
          have hF := ((HX6.out.setBox 2 rfl 0 (.slice ao g.objs.length co)).setBox 2 rfl 1 (.slice ar g.roots.length cr))
          have r0 := hF.cell 2 rfl 0
          have r1 := hF.cell 2 rfl 1
          simp only [List.getElem?_toArray, List.setIfInBounds_toArray, List.set_cons_zero, List.set_cons_succ, List.getElem?_cons_zero, List.getElem?_cons_succ] at r0 r1
          refine bodyPost_ret (v := .tuple #[.agg #[(.slice ao g.objs.length co), (.slice ar g.roots.length cr)], .int .i64 0]) (by simp [results, Try.results10, go_sem, r0, r1]) rfl ⟨_, _, rfl, by rw [Hbg.out]; exact hF.below, ?_⟩
          refine .inr ⟨rfl, g, r', rfl, ?_, HGood.out, Heq.out⟩
          refine Hgf.out _ (by have := Hb6.out.size; simpa using this) fun b hb1 hb2 => ?_
          have hne : b ≠ bg := by have := Hbgl.out; omega
          rw [heap_setCell_other _ _ _ _ hne, heap_setCell_other _ _ _ _ hne]
          exact Hb6.out.block b hb2
        · have q : decide (graphB g = l) = false := decide_eq_false heq
          rw [q] at HE
          have Heq := Lib.hid heq
          clear q heq
          go_wp2_with fail
          with_reducible refine HE.out.mono ?_
          rintro e w7 ⟨rfl, rfl⟩
          go_wp2
          have hF := ((HX6.out.setBox 2 rfl 0 (.slice none 0 0)).setBox 2 rfl 1 (.slice none 0 0))
          have r0 := hF.cell 2 rfl 0
          have r1 := hF.cell 2 rfl 1
          simp only [List.getElem?_toArray, List.setIfInBounds_toArray, List.set_cons_zero, List.set_cons_succ, List.getElem?_cons_zero, List.getElem?_cons_succ] at r0 r1
          refine bodyPost_ret (v := .tuple #[.agg #[(.slice none 0 0), (.slice none 0 0)], .int .i64 4]) (by simp [results, Try.results10, go_sem, r0, r1]) rfl ⟨_, _, rfl, by rw [Hbg.out]; exact hF.below, ?_⟩
          exact .inl ⟨rfl, rfl, fun g2 r2 h => by cases h; exact fun h2 => Heq.out h2.2⟩
      · have HC := Lib.hid (gcheck_no _ g W4 Hg4.out hGood)
        have HGood := Lib.hid hGood
        clear hGood
        go_upto_region 7 with (fail)
        rw [HW4.out, Hbh.out]
        go_wp2_with fail
        with_reducible refine HC.out.mono ?_
        rintro e w5 ⟨⟨c5, rfl, hc5⟩, hb5⟩
        have hX5 := HX3.out.call hb5
        have q : (c5 != 0) = true := by simpa using hc5
        have f0 : w5.frozen? ⟨bg, 0, none⟩ = false := hX5.free 1 rfl 0
        have f1 : w5.frozen? ⟨bg, 1, none⟩ = false := hX5.free 1 rfl 1
        have b0 : w5.cell? ⟨bg, 0, none⟩ = some (.slice none 0 0) := by have := hX5.cell 1 rfl 0; simpa using this
        have b1 : w5.cell? ⟨bg, 1, none⟩ = some (.slice none 0 0) := by have := hX5.cell 1 rfl 1; simpa using this
        have zg : bg < w5.heap.size := (hX5.box 1 rfl).2.1
        have HX5 := Lib.hid hX5
        clear hX5 hb5 hc5 HC HX3
        go_wp2
        have hF := ((HX5.out.setBox 1 rfl 0 (.slice none 0 0)).setBox 1 rfl 1 (.slice none 0 0))
        have r0 := hF.cell 1 rfl 0
        have r1 := hF.cell 1 rfl 1
        simp only [List.getElem?_toArray, List.setIfInBounds_toArray, List.set_cons_zero, List.set_cons_succ, List.getElem?_cons_zero, List.getElem?_cons_succ] at r0 r1
        refine bodyPost_ret (v := .tuple #[.agg #[(.slice none 0 0), (.slice none 0 0)], .int .i64 4]) (by simp [results, Try.results10, go_sem, r0, r1]) rfl ⟨_, _, rfl, by rw [Hbg.out]; exact hF.below, ?_⟩
        exact .inl ⟨rfl, rfl, fun g2 r2 h => by cases h; exact fun h2 => HGood.out h2.1⟩
end Go.Proofs.Ytelhjcifiahahaa
