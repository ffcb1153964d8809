/- Colours: what is done where a value comes to stand, by barrier. -/
import Derived.Test.YtjnbnfmlpdnngaaC3
namespace Go.Proofs.Ytjnbnfmlpdnngaa
open Go.RowKit Go.Shelf

theorem Mem.allocEnd {B : Nat} {w0 w : World} {A R : List Ent} (h : Mem B w0 w (A ++ R)) (c : Array Value) (t : TypeId) : Mem B w0 (w.alloc (.cells c t)) (A ++ (R ++ [ebox w.heap.size c t])) :=
  (h.alloc c t).perm (by rw [← List.append_assoc]; exact List.perm_append_singleton _ _)
section
variable (B : Nat) (w0 : World) (bx : Nat) (regs : List V) (mv : Value) (bm : Nat) (bv : Value) (vo : Value) (cs : List (Option Oc)) (vc : Value) (vg : Value) (gn : List Int) (R : List Ent)
def FieldSays (f : FuncId) (b : Int) : Prop := ∀ (R : List Ent) (vc : Value) (w : World) (c : List Int) (i : Int) (old u : V), Mem B w0 w (tA bx regs mv bm bv vo cs vc c vg gn ++ R) → InR c.length old → InR c.length u → 0 ≤ i → i < (c.length : Int) →
  Calls Try.prog f #[.agg #[], .pointer (some ⟨bm, 0, none⟩), .int .i64 i, .agg #[.bool old.ref, .int .i64 old.n], .agg #[.bool u.ref, .int .i64 u.n]] w fun e w' => e = .returned (.tuple #[]) ∧ ∃ vc', Mem B w0 w' (tA bx regs mv bm bv vo cs vc' (barC b c i old u) vg gn ++ R)
theorem sub_end {a b c d e : Ent} {R S : List Ent} : (a :: b :: c :: d :: e :: R).Sublist (a :: b :: c :: d :: e :: (R ++ S)) := .cons_cons _ (.cons_cons _ (.cons_cons _ (.cons_cons _ (.cons_cons _ (List.sublist_append_left _ _)))))
set_option maxRecDepth 100000 in
set_option maxHeartbeats 1000000 in
theorem field1_any : FieldSays B w0 bx regs mv bm bv vo cs vg gn 136 1 := by
  intro R vc w c i old u hM ho hu h0 hi
  have hMa := ((hM.allocEnd #[] 120).allocEnd #[.bool old.ref, .int .i64 old.n] 84).allocEnd #[.bool u.ref, .int .i64 u.n] 84
  simp only [World.size_alloc, List.append_assoc, List.cons_append, List.nil_append] at hMa
  obtain ⟨W, hW⟩ : ∃ W, ((w.alloc (.cells #[] 120)).alloc (.cells #[.bool old.ref, .int .i64 old.n] 84)).alloc (.cells #[.bool u.ref, .int .i64 u.n] 84) = W := ⟨_, rfl⟩
  rw [hW] at hMa
  have z0 : W.cell? ⟨w.heap.size + 1 + 1, 0, none⟩ = some (.bool u.ref) := hMa.boxCell (b := w.heap.size + 1 + 1) (c := #[.bool u.ref, .int .i64 u.n]) (t := 84) (by simp) 0 rfl
  have z1 : W.cell? ⟨w.heap.size + 1 + 1, 1, none⟩ = some (.int .i64 u.n) := hMa.boxCell (b := w.heap.size + 1 + 1) (c := #[.bool u.ref, .int .i64 u.n]) (t := 84) (by simp) 1 rfl
  have zb : w.heap.size + 1 + 1 < W.heap.size := (hMa.boxFree (b := w.heap.size + 1 + 1) (c := #[.bool u.ref, .int .i64 u.n]) (t := 84) (by simp) 0).2
  have Hs := Lib.hid (shade_any B w0 bx regs mv bm bv vo cs vc vg gn _ W c u hMa hu)
  have HW := Lib.hid hW
  have Hb : Hid (barC 1 c i old u = shade c u) := Lib.hid (by unfold barC; rw [if_pos rfl])
  clear hM hMa hW
  go_enter Try.func136, Try.ntmps136
  go_upto_region 1 with (fail)
  rw [HW.out]
  go_wp2_with fail
  refine Hs.out.mono ?_
  rintro e w2 ⟨rfl, hM2⟩
  have HM2 := Lib.hid hM2
  clear hM2
  go_wp2_with fail
  refine bodyPost_end (results_none rfl _ _ _) rfl ⟨rfl, vc, ?_⟩
  rw [Hb.out]
  exact HM2.out.drop sub_end
set_option maxRecDepth 100000 in
set_option maxHeartbeats 1000000 in
theorem field3_any : FieldSays B w0 bx regs mv bm bv vo cs vg gn 138 3 := by
  intro R vc w c i old u hM ho hu h0 hi
  have hMa := ((hM.allocEnd #[] 122).allocEnd #[.bool old.ref, .int .i64 old.n] 84).allocEnd #[.bool u.ref, .int .i64 u.n] 84
  simp only [World.size_alloc, List.append_assoc, List.cons_append, List.nil_append] at hMa
  obtain ⟨W, hW⟩ : ∃ W, ((w.alloc (.cells #[] 122)).alloc (.cells #[.bool old.ref, .int .i64 old.n] 84)).alloc (.cells #[.bool u.ref, .int .i64 u.n] 84) = W := ⟨_, rfl⟩
  rw [hW] at hMa
  have z0 : W.cell? ⟨w.heap.size + 1, 0, none⟩ = some (.bool old.ref) := hMa.boxCell (b := w.heap.size + 1) (c := #[.bool old.ref, .int .i64 old.n]) (t := 84) (by simp) 0 rfl
  have z1 : W.cell? ⟨w.heap.size + 1, 1, none⟩ = some (.int .i64 old.n) := hMa.boxCell (b := w.heap.size + 1) (c := #[.bool old.ref, .int .i64 old.n]) (t := 84) (by simp) 1 rfl
  have zb : w.heap.size + 1 < W.heap.size := (hMa.boxFree (b := w.heap.size + 1) (c := #[.bool old.ref, .int .i64 old.n]) (t := 84) (by simp) 0).2
  have Hs := Lib.hid (shade_any B w0 bx regs mv bm bv vo cs vc vg gn _ W c old hMa ho)
  have HW := Lib.hid hW
  have Hb : Hid (barC 3 c i old u = shade c old) := Lib.hid (by unfold barC; rw [if_neg (by decide), if_neg (by decide)])
  clear hM hMa hW
  go_enter Try.func138, Try.ntmps138
  go_upto_region 1 with (fail)
  rw [HW.out]
  go_wp2_with fail
  refine Hs.out.mono ?_
  rintro e w2 ⟨rfl, hM2⟩
  have HM2 := Lib.hid hM2
  clear hM2
  go_wp2_with fail
  refine bodyPost_end (results_none rfl _ _ _) rfl ⟨rfl, vc, ?_⟩
  rw [Hb.out]
  exact HM2.out.drop sub_end
set_option maxRecDepth 100000 in
set_option maxHeartbeats 2000000 in
theorem field2_any : FieldSays B w0 bx regs mv bm bv vo cs vg gn 137 2 := by
  intro R vc w c i old u hM ho hu h0 hi
  obtain ⟨j, rfl⟩ : ∃ j : Nat, i = (j : Int) := ⟨i.toNat, by omega⟩
  have hjl : j < c.length := by omega
  obtain ⟨x, hx⟩ : ∃ x, c[j]? = some x := ⟨_, List.getElem?_eq_getElem hjl⟩
  have hMa := ((hM.allocEnd #[] 121).allocEnd #[.bool old.ref, .int .i64 old.n] 84).allocEnd #[.bool u.ref, .int .i64 u.n] 84
  simp only [World.size_alloc, List.append_assoc, List.cons_append, List.nil_append] at hMa
  obtain ⟨W, hW⟩ : ∃ W, ((w.alloc (.cells #[] 121)).alloc (.cells #[.bool old.ref, .int .i64 old.n] 84)).alloc (.cells #[.bool u.ref, .int .i64 u.n] 84) = W := ⟨_, rfl⟩
  rw [hW] at hMa
  have z0 : W.cell? ⟨w.heap.size + 1 + 1, 0, none⟩ = some (.bool u.ref) := hMa.boxCell (b := w.heap.size + 1 + 1) (c := #[.bool u.ref, .int .i64 u.n]) (t := 84) (by simp) 0 rfl
  have z1 : W.cell? ⟨w.heap.size + 1 + 1, 1, none⟩ = some (.int .i64 u.n) := hMa.boxCell (b := w.heap.size + 1 + 1) (c := #[.bool u.ref, .int .i64 u.n]) (t := 84) (by simp) 1 rfl
  have zb : w.heap.size + 1 + 1 < W.heap.size := (hMa.boxFree (b := w.heap.size + 1 + 1) (c := #[.bool u.ref, .int .i64 u.n]) (t := 84) (by simp) 0).2
  have m2 : W.cell? ⟨bm, 2, none⟩ = some vc := hMa.cell 1 rfl 2
  have mb : bm < W.heap.size := (hMa.box 1 rfl).2.1
  obtain ⟨g, cap, hvc, _, cb, cc, cf⟩ := hMa.intsAt 3 rfl (by rintro rfl; simp at hx)
  have c0 := cc j x hx
  rw [hvc] at m2
  have e1 : (j : Int) < (c.length : Int) := by omega
  have hxa : cAt c (j : Int) = x := by unfold cAt; rw [Int.toNat_natCast, List.getD_eq_getElem?_getD, hx]; rfl
  have HW := Lib.hid hW
  have HMa := Lib.hid hMa
  by_cases h2 : x = 2
  · subst h2
    have Hs := Lib.hid (white_any B w0 bx regs mv bm bv vo cs vc vg gn _ W c u hMa hu)
    by_cases hw : whiteB c u = true
    · have Hb : Hid (barC 2 c (j : Int) old u = c.set j 1) := Lib.hid (by
        unfold whiteB at hw
        rw [Bool.and_eq_true] at hw
        unfold barC
        rw [if_neg (by decide), if_pos rfl, if_pos ⟨hxa, hw.1, by simpa using hw.2⟩, Int.toNat_natCast])
      have Hw := Lib.hid hw
      have Hvc := Lib.hid hvc
      clear hM hMa hW hvc hx cc cf hw hxa
      go_enter Try.func137, Try.ntmps137
      go_upto_region 1 with (fail)
      rw [HW.out]
      go_wp2_with fail
      refine Hs.out.mono ?_
      rintro e w2 ⟨rfl, hM2⟩
      rw [Hw.out]
      have n2 : w2.cell? ⟨bm, 2, none⟩ = some vc := hM2.cell 1 rfl 2
      have nb : bm < w2.heap.size := (hM2.box 1 rfl).2.1
      obtain ⟨g', cap', rfl, _, cb', cc', cf'⟩ := hM2.intsAt 3 rfl (by rintro rfl; simp at hjl)
      have d0 := cc' j _ (List.getElem?_eq_getElem hjl)
      have d1 := cf' j
      have HN := Lib.hid (hM2.setI 3 rfl rfl j 1)
      clear hM2 cc' cf' m2 mb cb c0 z0 z1 zb Hs HMa
      go_wp2_with fail
      refine bodyPost_end (results_none rfl _ _ _) rfl ⟨rfl, .slice (some ⟨g', 0, none⟩) c.length cap', ?_⟩
      rw [Hb.out]
      exact HN.out.drop sub_end
    · have hw' : whiteB c u = false := by simpa using hw
      have Hb : Hid (barC 2 c (j : Int) old u = c) := Lib.hid (by
        unfold barC
        rw [if_neg (by decide), if_pos rfl, if_neg]
        rintro ⟨_, h1, h2⟩
        unfold whiteB at hw
        rw [h1, h2] at hw
        exact hw rfl)
      have Hw := Lib.hid hw'
      clear hM hMa hW hvc hx cc cf hw hxa hw'
      go_enter Try.func137, Try.ntmps137
      go_upto_region 1 with (fail)
      rw [HW.out]
      go_wp2_with fail
      refine Hs.out.mono ?_
      rintro e w2 ⟨rfl, hM2⟩
      rw [Hw.out]
      have HN := Lib.hid hM2
      clear hM2 m2 mb cb c0 z0 z1 zb Hs HMa
      go_wp2_with fail
      refine bodyPost_end (results_none rfl _ _ _) rfl ⟨rfl, vc, ?_⟩
      rw [Hb.out]
      exact HN.out.drop sub_end
  · have hxb : (x == 2) = false := by simpa using h2
    have Hb : Hid (barC 2 c (j : Int) old u = c) := Lib.hid (by
      unfold barC
      rw [if_neg (by decide), if_pos rfl, if_neg]
      rintro ⟨h1, _⟩
      exact h2 (hxa.symm.trans h1))
    clear hM hMa hW hvc hx cc cf hxa
    go_enter Try.func137, Try.ntmps137
    go_upto_region 1 with (fail)
    rw [HW.out]
    go_wp2_with fail
    refine bodyPost_end (results_none rfl _ _ _) rfl ⟨rfl, vc, ?_⟩
    rw [Hb.out]
    exact HMa.out.drop sub_end
end
end Go.Proofs.Ytjnbnfmlpdnngaa
