/- ImageTurned, walked. -/
import Derived.Test.YtelhjcifiahahaaI6
import Derived.Test.YtelhjcifiahahaaG1
namespace Go.Proofs.Ytelhjcifiahahaa
open Go.RowKit

/-- One byte of a graph's bytes turned: the sum tells. -/
theorem turned_off {g : G} (hl : (bodyB g).length < 65521) {i b x n : Nat} (hn : (bodyB g).length = n) (hb : (graphB g)[i]? = some b) (hx : x < 256) (hne : b ≠ x) :
    ∃ lo hi, ((graphB g).set i x)[n]? = some lo ∧ ((graphB g).set i x)[n + 1]? = some hi ∧ a0 (((graphB g).set i x).take n) ≠ lo + 256 * hi := by
  have hlen : (graphB g).length = n + 2 := by unfold graphB sumB; rw [List.length_append, hn]; rfl
  have hi := (List.getElem?_eq_some_iff.1 hb).1
  have hb256 := graphB_byte g b (List.mem_of_getElem? hb)
  have ha := a0_lt (bodyB g)
  have g0 : (graphB g)[n]? = some (a0 (bodyB g) % 256) := by unfold graphB sumB; rw [List.getElem?_append_right (by omega), hn, Nat.sub_self]; rfl
  have g1 : (graphB g)[n + 1]? = some (a0 (bodyB g) / 256) := by unfold graphB sumB; rw [List.getElem?_append_right (by omega), hn, Nat.add_sub_cancel_left]; rfl
  have gt : (graphB g).take n = bodyB g := by unfold graphB; rw [← hn, List.take_left']; rfl
  by_cases h1 : i < n
  · have hbb : (bodyB g)[i]? = some b := by rw [← gt, List.getElem?_take, if_pos h1]; exact hb
    refine ⟨_, _, by rw [List.getElem?_set_ne (by omega)]; exact g0, by rw [List.getElem?_set_ne (by omega)]; exact g1, ?_⟩
    rw [List.take_set, gt]
    have := turned_sum hl hbb hb256 hx hne
    omega
  · have gt2 : ((graphB g).set i x).take n = bodyB g := by rw [List.take_set, gt, List.set_eq_of_length_le (by omega)]
    by_cases h2 : i = n
    · subst h2
      rw [g0] at hb
      cases hb
      refine ⟨x, _, by rw [List.getElem?_set_self hi], by rw [List.getElem?_set_ne (by omega)]; exact g1, ?_⟩
      rw [gt2]; omega
    · obtain rfl : i = n + 1 := by omega
      rw [g1] at hb
      cases hb
      refine ⟨_, x, by rw [List.getElem?_set_ne (by omega)]; exact g0, by rw [List.getElem?_set_self hi], ?_⟩
      rw [gt2]; omega
theorem set_Y {l : List Nat} {i x : Nat} : (l.flatMap encY).set i (.int .u8 (x : Int)) = (l.set i x).flatMap encY := by
  have e : ∀ l : List Nat, l.flatMap encY = l.map fun b : Nat => Value.int .u8 (b : Int) := fun l => by
    induction l with
    | nil => rfl
    | cons x l ih => rw [List.flatMap_cons, ih]; rfl
  rw [e, e, List.map_set]
theorem own_full {B : Nat} {w : World} {e : TypeId} {sz n : Nat} {v : Value} {xs : List Value} (h : w.ownsRow B e sz v n xs) (hn : 0 < n) : ∃ g cap, v = .slice (some ⟨g, 0, none⟩) n cap ∧ n ≤ cap := by
  rcases h.2 with ⟨_, h2⟩ | ⟨g, cap, cur, h1, _, _, h3, _⟩
  · omega
  · exact ⟨g, cap, h1, h3⟩
set_option maxRecDepth 100000 in
set_option maxHeartbeats 1000000 in
theorem imageTurned_yes (gv : Value) (g : G) (k x : Nat) (w : World) (hg : IsGraph w gv g) (hk : k < 65536) (hx : x < 256) :
    Calls Try.prog 5 #[gv, .int .u16 (k : Int), .int .u8 (x : Int)] w fun e w' => e = .returned (.bool true) ∧ Below w.heap.size w w' := by
  have Hg := Lib.hid hg
  have HO := Lib.hid hg.ok
  obtain ⟨vo, vr, rfl, hO, hR⟩ := hg
  obtain ⟨ao, co, rfl, hom⟩ := hO.slice
  obtain ⟨ar, cr, rfl, hrm⟩ := hR.slice
  have hM1 := (Mem.start w).alloc #[.slice ao g.objs.length co, .slice ar g.roots.length cr] 25
  obtain ⟨W, hW⟩ : ∃ W, w.alloc (.cells #[.slice ao g.objs.length co, .slice ar g.roots.length cr] 25) = W := ⟨_, rfl⟩
  obtain ⟨bg, hbg⟩ : ∃ bg, w.heap.size = bg := ⟨_, rfl⟩
  rw [hW, hbg] at hM1
  have g0 : W.cell? ⟨bg, 0, none⟩ = some (.slice ao g.objs.length co) := by have := hM1.cell 0 rfl 0; simpa using this
  have g1 : W.cell? ⟨bg, 1, none⟩ = some (.slice ar g.roots.length cr) := by have := hM1.cell 0 rfl 1; simpa using this
  have gz : bg < W.heap.size := (hM1.box 0 rfl).2.1
  have HgW := Lib.hid (Hg.out.later (by have := hM1.below; rw [← hbg] at this; exact this))
  have HM1 := Lib.hid hM1
  have HW := Lib.hid hW
  have Hbg := Lib.hid hbg
  clear hM1 hW hbg hO hR
  by_cases hG : Good g
  · have HP := Lib.hid (put_yes W _ g HgW.out hG)
    have hlen := body_len hG.roots hG.objs hG.fields HO.out
    have hpos := body_pos g
    obtain ⟨n, hn⟩ : ∃ n, (bodyB g).length = n := ⟨_, rfl⟩
    have hgl : (graphB g).length = n + 2 := by unfold graphB sumB; rw [List.length_append, hn]; rfl
    rw [hn] at hlen hpos
    obtain ⟨M, hM⟩ : ∃ M, n + 2 = M := ⟨_, rfl⟩
    obtain ⟨i, hi⟩ : ∃ i : Nat, (k : Int) % (M : Int) = (i : Int) := ⟨k % M, by simp⟩
    have hiM : i < M := by have := Int.emod_lt_of_pos (k : Int) (show (0 : Int) < (M : Int) by omega); omega
    obtain ⟨b, hb⟩ := get_some (graphB g) i (by omega)
    have Hb := Lib.hid hb
    have Hgl := Lib.hid hgl
    have Hn := Lib.hid hn
    have HMn := Lib.hid hM
    clear HO hG hb hgl hn
    go_enter Try.func5, Try.ntmps5
    go_upto_region 1 with (fail)
    rw [HW.out, Hbg.out]
    go_wp2_with fail
    with_reducible refine HP.out.mono ?_
    rintro e w2 ⟨v2, rfl, hM2⟩
    obtain ⟨gr, cap, rfl, hcap⟩ := own_full (hM2.ownT 0 rfl) (by rw [Hgl.out]; omega)
    rw [Hgl.out, HMn.out] at hcap hM2
    rw [Hgl.out, HMn.out]
    have hcell := hM2.tupAt 0 (i := i) rfl encY_len Hb.out 0 _ rfl
    rw [Nat.mul_one, Nat.add_zero] at hcell
    have c0 := hcell.1
    have f0 := hcell.2
    have zr : gr < w2.heap.size := ((hM2.row 0 rfl).lt gr rfl).2
    have HM2 := Lib.hid (HM1.out.callMem hM2)
    have i0 : (0 : Int) ≤ (i : Int) := by omega
    have i1 : (i : Int) < (M : Int) := by omega
    have q1 : decide ((M : Int) < 4) = false := decide_eq_false (by omega)
    have q1n : decide (M < 4) = false := decide_eq_false (by omega)
    have q2 : ((M : Int) == 0) = false := by simp; omega
    have q3 : ¬ ((M : Int) = 0) := by omega
    clear hcell hM2 hM HP
    by_cases hbx : b = x
    · have e1 : ((b : Int) == (x : Int)) = true := by rw [hbx]; exact beq_self_eq_true _
      have e2 : (b == x) = true := by rw [hbx]; exact beq_self_eq_true _
      clear hbx
      go_wp2
      go_ret
      exact ⟨rfl, by rw [Hbg.out]; exact HM2.out.below⟩
    · have e1 : ((b : Int) == (x : Int)) = false := by simp; omega
      have e2 : (b == x) = false := by simpa using hbx
      have Hbx := Lib.hid hbx
      have hM3 := HM2.out.setT 0 rfl (by rw [Hgl.out, HMn.out]) i (.int .u8 (x : Int)) set_Y (by simp)
      have hl3 : ((graphB g).set i x).length = n + 2 := by rw [List.length_set, Hgl.out]
      have hI := hM3.isTup 0 rfl encY_len (by omega)
      obtain ⟨lo, hi3, o1, o2, o3⟩ := turned_off (by rw [Hn.out]; omega) Hn.out Hb.out hx hbx
      rw [← HMn.out] at hI hcap
      have hbytes : ∀ y ∈ (graphB g).set i x, y < 256 := by
        intro y hy
        rcases List.mem_or_eq_of_mem_set hy with h | rfl
        · exact graphB_byte g y h
        · exact hx
      have hG := get_off _ _ gr 0 cap n lo hi3 hI hcap hbytes hl3 (by omega) o1 o2 o3
      rw [HMn.out] at hG
      have HG := Lib.hid hG
      have HM3 := Lib.hid hM3
      clear hbx hM3 hl3 hI o1 o2 o3 hbytes hG hcap
      go_wp2_with fail
      with_reducible refine HG.out.mono ?_
      rintro e w4 ⟨rfl, hb4⟩
      have HM4 := Lib.hid (HM3.out.call (by simpa using hb4))
      clear hb4 HG
      go_wp2
      go_ret
      exact ⟨rfl, by rw [Hbg.out]; exact HM4.out.below⟩
  · have HP := Lib.hid (put_no W _ g HgW.out hG)
    have HNG := Lib.hid hG
    clear hG HO
    go_enter Try.func5, Try.ntmps5
    go_upto_region 1 with (fail)
    rw [HW.out, Hbg.out]
    go_wp2_with fail
    with_reducible refine HP.out.mono ?_
    rintro e w2 ⟨c, hc, rfl, hb2⟩
    have q1 : (c != 0) = true := by simpa using hc
    have hM2 := HM1.out.call hb2
    have k0 : w2.cell? ⟨bg, 0, none⟩ = some (.slice ao g.objs.length co) := by have := hM2.cell 0 rfl 0; simpa using this
    have k1 : w2.cell? ⟨bg, 1, none⟩ = some (.slice ar g.roots.length cr) := by have := hM2.cell 0 rfl 1; simpa using this
    have kz : bg < w2.heap.size := (hM2.box 0 rfl).2.1
    have HN := Lib.hid (good_no _ g w2 (HgW.out.later hb2) HNG.out)
    have HM2 := Lib.hid hM2
    clear hb2 hM2 hc HP
    go_wp2_with fail
    with_reducible refine HN.out.mono ?_
    rintro e w3 ⟨rfl, hb3⟩
    have HM3 := Lib.hid (HM2.out.call hb3)
    clear hb3 HN
    go_wp2
    go_ret
    exact ⟨rfl, by rw [Hbg.out]; exact HM3.out.below⟩
def IsU16 (v : Value) : Prop := ∃ k : Nat, v = .int .u16 (k : Int) ∧ k < 65536
def IsU8 (v : Value) : Prop := ∃ k : Nat, v = .int .u8 (k : Int) ∧ k < 256
theorem imageTurned_walk (w : World) (v0 v1 v2 : Value) (h0 : ∃ g, IsGraph w v0 g) (h1 : IsU16 v1) (h2 : IsU8 v2) :
    Calls Try.prog 5 #[v0, v1, v2] w fun e w' => e = .returned (.bool true) ∧ Below w.heap.size w w' := by
  obtain ⟨g, hg⟩ := h0
  obtain ⟨k, rfl, hk⟩ := h1
  obtain ⟨x, rfl, hx⟩ := h2
  exact imageTurned_yes v0 g k x w hg hk hx
end Go.Proofs.Ytelhjcifiahahaa
