/- ImageBack, walked. -/
import Derived.Test.YtelhjcifiahahaaJ8
import Derived.Test.YtelhjcifiahahaaI7
import Derived.Test.YtelhjcifiahahaaVa
namespace Go.Proofs.Ytelhjcifiahahaa
open Go.RowKit

theorem val_read {x : V} (h : i64ok x.n) (r : List Nat) : valP (valB x ++ r) = some (x, r) := by
  obtain ⟨b, n⟩ := x
  unfold valB
  rw [List.cons_append]
  simp only [valP]
  cases b with
  | true => simp only [if_true]; rw [if_neg (by decide), num_read h]; rfl
  | false => simp only [Bool.false_eq_true, if_false]; rw [if_neg (by decide), num_read h]; rfl
theorem acc_read {α : Type} {f : α → List Nat} {one : List Nat → Option (α × List Nat)} : ∀ (xs acc : List α) (r : List Nat), (∀ x ∈ xs, ∀ r, one (f x ++ r) = some (x, r)) → accP one xs.length acc (xs.flatMap f ++ r) = some (acc ++ xs, r)
  | [], acc, r, _ => by simp [accP]
  | x :: xs, acc, r, h => by
    rw [List.flatMap_cons, List.append_assoc, List.length_cons]
    simp only [accP]
    rw [h x List.mem_cons_self]
    simp only
    rw [acc_read xs (acc ++ [x]) r fun y hy => h y (List.mem_cons_of_mem _ hy), List.append_assoc]; rfl
theorem list_read {α : Type} {f : α → List Nat} {one : List Nat → Option (α × List Nat)} {most : Nat} {xs : List α} (hl : xs.length ≤ most) (hm : most ≤ 1000000) (h : ∀ x ∈ xs, ∀ r, one (f x ++ r) = some (x, r)) (r : List Nat) : listP (most : Int) one (listB f xs ++ r) = some (xs, r) := by
  unfold listP listB
  rw [List.append_assoc, num_read (i64_len (by omega))]
  simp only
  rw [if_neg (by omega), Int.toNat_natCast, acc_read xs [] r h]; rfl
theorem graph_read {g : G} (hG : Good g) (hok : ∀ x ∈ allV g, i64ok x.n) : graphP (bodyB g) = some (g, []) := by
  have h1 := list_read (f := valB) (one := valP) (most := 8) (xs := g.roots) hG.roots (by omega) (fun x hx r => val_read (hok x (List.mem_append_left _ hx)) r) (listB objB g.objs)
  have h2 := list_read (f := objB) (one := objP) (most := 24) (xs := g.objs) hG.objs (by omega) (fun o ho r => list_read (f := valB) (one := valP) (most := 4) (xs := o) (hG.fields o ho) (by omega) (fun x hx r => val_read (hok x (List.mem_append_right _ (List.mem_flatten.2 ⟨o, ho, hx⟩))) r) r) []
  rw [List.append_nil] at h2
  unfold graphP bodyB
  rw [h1]
  simp only
  rw [h2]
theorem graphB_parts {g : G} {n : Nat} (hn : (bodyB g).length = n) : (graphB g).length = n + 2 ∧ (graphB g)[n]? = some (a0 (bodyB g) % 256) ∧ (graphB g)[n + 1]? = some (a0 (bodyB g) / 256) ∧ (graphB g).take n = bodyB g := by
  refine ⟨by unfold graphB sumB; rw [List.length_append, hn]; rfl, ?_, ?_, by unfold graphB; rw [← hn, List.take_left']; rfl⟩
  · unfold graphB sumB; rw [List.getElem?_append_right (by omega), hn, Nat.sub_self]; rfl
  · unfold graphB sumB; rw [List.getElem?_append_right (by omega), hn, Nat.add_sub_cancel_left]; rfl
set_option maxRecDepth 100000 in
set_option maxHeartbeats 1000000 in
theorem imageBack_yes (gv : Value) (g : G) (w : World) (hg : IsGraph w gv g) :
    Calls Try.prog 3 #[gv] w fun e w' => e = .returned (.bool true) ∧ Below w.heap.size w w' := by
  have Hg := Lib.hid hg
  have HO := Lib.hid hg.ok
  obtain ⟨vo, vr, rfl, hO, hR⟩ := hg
  obtain ⟨ao, co, rfl, hom⟩ := hO.slice
  obtain ⟨ar, cr, rfl, hrm⟩ := hR.slice
  have hM1 := (Mem.start w).alloc #[.slice ao g.objs.length co, .slice ar g.roots.length cr] 25
  obtain ⟨W, hW⟩ : ∃ W, w.alloc (.cells #[.slice ao g.objs.length co, .slice ar g.roots.length cr] 25) = W := ⟨_, rfl⟩
  obtain ⟨bg, hbg⟩ : ∃ bg, w.heap.size = bg := ⟨_, rfl⟩
  rw [hW, hbg] at hM1
  have g0 : W.cell? ⟨bg, 0, none⟩ = some (.slice ao g.objs.length co) := by have := hM1.cell 0 rfl 0; simpa using this
  have g1 : W.cell? ⟨bg, 1, none⟩ = some (.slice ar g.roots.length cr) := by have := hM1.cell 0 rfl 1; simpa using this
  have gz : bg < W.heap.size := (hM1.box 0 rfl).2.1
  have HgW := Lib.hid (Hg.out.later (by have := hM1.below; rw [← hbg] at this; exact this))
  have HM1 := Lib.hid hM1
  have HW := Lib.hid hW
  have Hbg := Lib.hid hbg
  clear hM1 hW hbg hO hR
  by_cases hG : Good g
  · have HP := Lib.hid (put_yes W _ g HgW.out hG)
    have hlen := body_len hG.roots hG.objs hG.fields HO.out
    have hpos := body_pos g
    obtain ⟨n, hn⟩ : ∃ n, (bodyB g).length = n := ⟨_, rfl⟩
    obtain ⟨hgl, hlo, hhi, htk⟩ := graphB_parts hn
    rw [hn] at hlen hpos
    obtain ⟨M, hM⟩ : ∃ M, n + 2 = M := ⟨_, rfl⟩
    have Hgl := Lib.hid hgl
    have Hlo := Lib.hid hlo
    have Hhi := Lib.hid hhi
    have Htk := Lib.hid htk
    have HMn := Lib.hid hM
    have HRd := Lib.hid (graph_read hG HO.out)
    have HGg := Lib.hid hG
    clear HO hG hgl hlo hhi htk hn
    go_enter Try.func3, Try.ntmps3
    go_upto_region 1 with (fail)
    rw [HW.out, Hbg.out]
    go_wp2_with fail
    with_reducible refine HP.out.mono ?_
    rintro e w2 ⟨v2, rfl, hM2⟩
    have hI := hM2.isTup 0 rfl encY_len (by rw [Hgl.out]; omega)
    obtain ⟨gr, cap, rfl, hcap⟩ := own_full (hM2.ownT 0 rfl) (by rw [Hgl.out]; omega)
    rw [Hgl.out] at hcap hI
    have hGet := get_on (graphB g) w2 gr 0 cap n _ _ hI hcap (graphB_byte g) Hgl.out (by omega) Hlo.out Hhi.out (by rw [Htk.out]; omega)
    rw [Htk.out, HRd.out, HMn.out] at hGet
    rw [Hgl.out, HMn.out] at hM2
    rw [Hgl.out, HMn.out]
    have HGet := Lib.hid hGet
    have HM2 := Lib.hid (HM1.out.callMem hM2)
    clear hGet hM2 hI hM HP g0 g1 gz hcap
    go_wp2_with fail
    with_reducible refine HGet.out.mono ?_
    rintro e w3 ⟨gv3, c3, rfl, hb3, hcase⟩
    rcases hcase with ⟨_, _, hno⟩ | ⟨rfl, g2, r2, hgr, hg3, hgood, _⟩
    · exact absurd (hno g [] rfl) (fun h => h ⟨HGg.out, rfl⟩)
    · cases hgr
      have hM3 := HM2.out.call hb3
      obtain ⟨vo3, vr3, rfl, hO3, hR3⟩ := id hg3
      obtain ⟨ao3, co3, rfl, _⟩ := hO3.slice
      obtain ⟨ar3, cr3, rfl, _⟩ := hR3.slice
      have hM4 := hM3.allocAt w3.heap.size rfl #[.slice ao3 g.objs.length co3, .slice ar3 g.roots.length cr3] 25
      obtain ⟨W4, hW4⟩ : ∃ W4, w3.alloc (.cells #[.slice ao3 g.objs.length co3, .slice ar3 g.roots.length cr3] 25) = W4 := ⟨_, rfl⟩
      obtain ⟨bh, hbh⟩ : ∃ bh, w3.heap.size = bh := ⟨_, rfl⟩
      have hb34 : Below w3.heap.size w3 W4 := by rw [← hW4]; exact (Below.refl _ _).alloc (Nat.le_refl _) _
      rw [hW4, hbh] at hM4
      have h0 : W4.cell? ⟨bh, 0, none⟩ = some (.slice ao3 g.objs.length co3) := by have := hM4.cell 0 rfl 0; simpa using this
      have h1 : W4.cell? ⟨bh, 1, none⟩ = some (.slice ar3 g.roots.length cr3) := by have := hM4.cell 0 rfl 1; simpa using this
      have zh : bh < W4.heap.size := (hM4.box 0 rfl).2.1
      have k0 : W4.cell? ⟨bg, 0, none⟩ = some (.slice ao g.objs.length co) := by have := hM4.cell 2 rfl 0; simpa using this
      have k1 : W4.cell? ⟨bg, 1, none⟩ = some (.slice ar g.roots.length cr) := by have := hM4.cell 2 rfl 1; simpa using this
      have kz : bg < W4.heap.size := (hM4.box 2 rfl).2.1
      have q1 : decide ((M : Int) > 3) = true := decide_eq_true (by have := HMn.out; omega)
      have q2 : decide (3 < M) = true := decide_eq_true (by have := HMn.out; omega)
      have HS := Lib.hid (graphs_same _ _ g W4 (hg3.later hb34) (Hg.out.later (by rw [Hbg.out]; exact hM4.below)))
      have HM4 := Lib.hid hM4
      have HW4 := Lib.hid hW4
      have Hbh := Lib.hid hbh
      clear hM3 hM4 hW4 hbh hb34 hb3 hO3 hR3 hg3 hgood HGet HM2
      go_upto_region 5 with (fail)
      rw [HW4.out, Hbh.out]
      go_wp2_with fail
      with_reducible refine HS.out.mono ?_
      rintro e w5 ⟨rfl, hb5⟩
      have HM5 := Lib.hid (HM4.out.call hb5)
      clear hb5
      go_wp2
      go_ret
      exact ⟨rfl, by rw [Hbg.out]; exact HM5.out.below⟩
  · have HP := Lib.hid (put_no W _ g HgW.out hG)
    have HNG := Lib.hid hG
    clear hG HO
    go_enter Try.func3, Try.ntmps3
    go_upto_region 1 with (fail)
    rw [HW.out, Hbg.out]
    go_wp2_with fail
    with_reducible refine HP.out.mono ?_
    rintro e w2 ⟨c, hc, rfl, hb2⟩
    have q1 : (c != 0) = true := by simpa using hc
    have hM2 := HM1.out.call hb2
    have k0 : w2.cell? ⟨bg, 0, none⟩ = some (.slice ao g.objs.length co) := by have := hM2.cell 0 rfl 0; simpa using this
    have k1 : w2.cell? ⟨bg, 1, none⟩ = some (.slice ar g.roots.length cr) := by have := hM2.cell 0 rfl 1; simpa using this
    have kz : bg < w2.heap.size := (hM2.box 0 rfl).2.1
    have HN := Lib.hid (good_no _ g w2 (HgW.out.later hb2) HNG.out)
    have HM2 := Lib.hid hM2
    clear hb2 hM2 hc HP
    go_wp2_with fail
    with_reducible refine HN.out.mono ?_
    rintro e w3 ⟨rfl, hb3⟩
    have HM3 := Lib.hid (HM2.out.call hb3)
    clear hb3 HN
    go_wp2
    go_ret
    exact ⟨rfl, by rw [Hbg.out]; exact HM3.out.below⟩
theorem imageBack_walk (w : World) (v0 : Value) (h0 : ∃ g, IsGraph w v0 g) :
    Calls Try.prog 3 #[v0] w fun e w' => e = .returned (.bool true) ∧ Below w.heap.size w w' := by
  obtain ⟨g, hg⟩ := h0
  exact imageBack_yes v0 g w hg
end Go.Proofs.Ytelhjcifiahahaa
