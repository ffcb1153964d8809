/- ImageOnly, walked. -/
import Derived.Test.YtelhjcifiahahaaK0
import Derived.Test.YtelhjcifiahahaaOpen
namespace Go.Proofs.Ytelhjcifiahahaa
open Go.RowKit

def BytesIn (w : World) (v : Value) : Prop := ∃ a m cl l, v = .slice a m cl ∧ IsTup 1 encY w (.slice a m cl) l ∧ m ≤ cl ∧ (∀ x ∈ l, x < 256) ∧ l.length = m
set_option maxRecDepth 100000 in
open Go.ChangeShapes Go.WideShapes Go.Joins Go.Deep in
theorem open_bytes {H : Type} {enc : TypeId × Value → H} {W : World} {base : Nat} {v : Value} {d : DataW H} {p : List MemPlace}
    (hv : Value.okWide Try.prog W .any base 26 v) (h : DataW.Trod enc Try.prog W 0 (fun _ => true) true 26 v d p) : BytesIn W v := by
  obtain ⟨a, len, cap, rfl⟩ := okWide_slice Try.underlying26 hv
  obtain ⟨fuel, hn⟩ := h
  have hn' : DataW.trod enc Try.prog W 0 (fun _ => true) true fuel 26 [.slice a len cap] = some (d, p) := hn
  rcases open_slice1 Try.underlying26 (by kernel_rfl) hn' with ⟨h1, _⟩ | ⟨a, len, cap, m, n, V, D, P, h1, _, hlc, hcm, rfl, _, hx⟩
  · cases h1
    exact ⟨_, _, _, [], rfl, ⟨none, 0, rfl, by simp, by simp⟩, Nat.le_refl _, by simp, rfl⟩
  · cases h1
    have hm : len ≤ 9223372036854775807 := by simp [maxLen] at hcm; omega
    obtain ⟨f, hf⟩ := choose_lt (n := len) (p := fun i (v : Nat) => W.cell? (a.add i) = some (.int .u8 (v : Int)) ∧ v < 256) (fun i hi => by
      obtain ⟨c0, t0⟩ := hx i (by omega)
      obtain ⟨c, e1, _, wc⟩ := DataW.trod_int Try.underlying5 t0
      simp at e1
      rw [e1] at c0
      have hb := bounds_u8 wc
      exact ⟨c.toNat, by rw [Int.toNat_of_nonneg (by omega)]; exact c0, by omega⟩)
    refine ⟨_, _, _, (List.range len).map f, rfl, ⟨some a, cap, by simp, by simpa using hm, ?_⟩, hlc, ?_, by simp⟩
    · intro k y hy
      have hk : k < len := by have := (List.getElem?_eq_some_iff.1 hy).1; simpa using this
      have hyf : y = f k := by simp [hk] at hy; exact hy.symm
      subst hyf
      obtain ⟨b, off, rfl, hb⟩ := addr_plain (hf 0 (by omega)).1
      obtain ⟨h0, h2⟩ := hf k hk
      rw [add_plain] at h0
      refine ⟨b, off, rfl, hb, fun j u hu => ?_⟩
      match j, hu with
      | 0, hu => cases hu; rw [Nat.mul_one, Nat.add_zero]; exact h0
      | j + 1, hu => simp [encY] at hu
    · intro x hx
      obtain ⟨i, hi, rfl⟩ := List.mem_map.1 hx
      exact (hf i (List.mem_range.1 hi)).2
set_option maxRecDepth 100000 in
set_option maxHeartbeats 1000000 in
theorem imageOnly_walk (w : World) (v0 : Value) (h0 : BytesIn w v0) :
    Calls Try.prog 4 #[v0] w fun e w' => e = .returned (.bool true) ∧ Below w.heap.size w w' := by
  obtain ⟨a, m, cl, l, rfl, hl, hcl, hb, hm⟩ := h0
  have HG := Lib.hid (get_all a m cl l w hl hcl hb hm)
  have HL := Lib.hid hl
  have Hm := Lib.hid hm
  clear hl hb hm
  go_enter Try.func4, Try.ntmps4
  go_wp2_with fail
  with_reducible refine HG.out.mono ?_
  rintro e w2 ⟨gv, c, rfl, hb2, hcase⟩
  rcases hcase with ⟨hc, rfl⟩ | ⟨rfl, g, hg, hG, hgl⟩
  · have hM3 := ((Mem.start w).call hb2).allocAt w2.heap.size rfl #[.slice none 0 0, .slice none 0 0] 25
    obtain ⟨W4, hW4⟩ : ∃ W4, w2.alloc (.cells #[.slice none 0 0, .slice none 0 0] 25) = W4 := ⟨_, rfl⟩
    obtain ⟨bh, hbh⟩ : ∃ bh, w2.heap.size = bh := ⟨_, rfl⟩
    rw [hW4, hbh] at hM3
    have h0 : W4.cell? ⟨bh, 0, none⟩ = some (.slice none 0 0) := by have := hM3.cell 0 rfl 0; simpa using this
    have h1 : W4.cell? ⟨bh, 1, none⟩ = some (.slice none 0 0) := by have := hM3.cell 0 rfl 1; simpa using this
    have zh : bh < W4.heap.size := (hM3.box 0 rfl).2.1
    have q1 : (c != 0) = true := by simpa using hc
    have HM3 := Lib.hid hM3
    have HW4 := Lib.hid hW4
    have Hbh := Lib.hid hbh
    clear hM3 hW4 hbh hc hb2 HG
    go_upto_region 2 with (fail)
    rw [HW4.out, Hbh.out]
    go_wp2
    go_ret
    exact ⟨rfl, HM3.out.below⟩
  · obtain ⟨vo3, vr3, rfl, hO3, hR3⟩ := id hg
    obtain ⟨ao3, co3, rfl, _⟩ := hO3.slice
    obtain ⟨ar3, cr3, rfl, _⟩ := hR3.slice
    have hM3 := ((Mem.start w).call hb2).allocAt w2.heap.size rfl #[.slice ao3 g.objs.length co3, .slice ar3 g.roots.length cr3] 25
    obtain ⟨W4, hW4⟩ : ∃ W4, w2.alloc (.cells #[.slice ao3 g.objs.length co3, .slice ar3 g.roots.length cr3] 25) = W4 := ⟨_, rfl⟩
    obtain ⟨bh, hbh⟩ : ∃ bh, w2.heap.size = bh := ⟨_, rfl⟩
    have hb34 : Below w2.heap.size w2 W4 := by rw [← hW4]; exact (Below.refl _ _).alloc (Nat.le_refl _) _
    rw [hW4, hbh] at hM3
    have h0 : W4.cell? ⟨bh, 0, none⟩ = some (.slice ao3 g.objs.length co3) := by have := hM3.cell 0 rfl 0; simpa using this
    have h1 : W4.cell? ⟨bh, 1, none⟩ = some (.slice ar3 g.roots.length cr3) := by have := hM3.cell 0 rfl 1; simpa using this
    have zh : bh < W4.heap.size := (hM3.box 0 rfl).2.1
    have Hg4 := Lib.hid (hg.later hb34)
    have HP := Lib.hid (put_yes W4 _ g Hg4.out hG)
    have HGd := Lib.hid hG
    have Hgl := Lib.hid hgl
    have HM3 := Lib.hid hM3
    have HW4 := Lib.hid hW4
    have Hbh := Lib.hid hbh
    clear hM3 hW4 hbh hb34 hb2 HG hg hO3 hR3 hG hgl
    go_upto_region 2 with (fail)
    rw [HW4.out, Hbh.out]
    go_wp2_with fail
    with_reducible refine HP.out.mono ?_
    rintro e w5 ⟨v5, rfl, hM5⟩
    rw [Hgl.out] at hM5
    have hlen : l.length ≤ 100000 := by
      have h1 := body_len HGd.out.roots HGd.out.objs HGd.out.fields Hg4.out.ok
      have h2 : (graphB g).length = (bodyB g).length + 2 := by unfold graphB sumB; rw [List.length_append]; rfl
      rw [Hgl.out] at h2; omega
    have hpos : 0 < l.length := by
      have h2 : (graphB g).length = (bodyB g).length + 2 := by unfold graphB sumB; rw [List.length_append]; rfl
      rw [Hgl.out] at h2; omega
    have hI5 := hM5.isTup 0 rfl encY_len (by omega)
    obtain ⟨gr, cap, rfl, _⟩ := own_full (hM5.ownT 0 rfl) hpos
    rw [Hm.out] at hI5
    rw [Hm.out]
    have hM6 := HM3.out.callMem hM5
    have h0 : w5.cell? ⟨bh, 0, none⟩ = some (.slice ao3 g.objs.length co3) := by have := hM6.cell 1 rfl 0; simpa using this
    have h1 : w5.cell? ⟨bh, 1, none⟩ = some (.slice ar3 g.roots.length cr3) := by have := hM6.cell 1 rfl 1; simpa using this
    have zh : bh < w5.heap.size := (hM6.box 1 rfl).2.1
    have HY := Lib.hid (good_yes _ g w5 (Hg4.out.later hM5.below) HGd.out)
    have HM6 := Lib.hid hM6
    have HI5 := Lib.hid hI5
    clear hM5 hM6 hI5 HP HM3
    go_wp2_with fail
    with_reducible refine HY.out.mono ?_
    rintro e w6 ⟨rfl, hb6⟩
    have hM7 := HM6.out.call hb6
    have HB := Lib.hid (bytes_same a (some ⟨gr, 0, none⟩) m cl cap l w6 (HL.out.later hM7.below) (HI5.out.later hb6) Hm.out)
    have HM7 := Lib.hid hM7
    clear hM7 hb6 HY
    go_wp2_with fail
    with_reducible refine HB.out.mono ?_
    rintro e w7 ⟨rfl, hb7⟩
    have HM8 := Lib.hid (HM7.out.call hb7)
    clear hb7 HB
    go_wp2
    go_ret
    exact ⟨rfl, HM8.out.below⟩
end Go.Proofs.Ytelhjcifiahahaa
