/- DomNested at two objects of a good graph. -/
import Derived.Test.YtnpbdabboecpaaaE5
import Derived.Test.YtnpbdabboecpaaaE6
import Derived.Test.YtnpbdabboecpaaaDr
import Derived.Test.YtnpbdabboecpaaaSo
namespace Go.Proofs.Ytnpbdabboecpaaa
open Go.RowKit Go.Shelf

theorem reachR_rch {g : G} (hG : Good g) {L : List Int} (h : ReachR g L) (x : Int) : x ∈ L ↔ Rch g x := by
  constructor
  · intro hx
    have h0 := h.rng x hx
    have h1 := h.sound x hx (fun j => Rch g (j : Int)) ⟨fun j _ hr => by
      have h2 : (⟨true, (j : Int)⟩ : V) ∈ g.roots := by simpa [refersB] using hr
      exact Av.root h2 rfl (fun h => h), fun i j _ _ hi hr => by
      have h2 : (⟨true, (j : Int)⟩ : V) ∈ fieldsAt g (i : Int) := by simpa [refF, refersB] using hr
      exact Av.step hi h2 rfl (fun h => h)⟩
    have h5 : Rch g ((x.toNat : Nat) : Int) := h1
    rwa [show ((x.toNat : Nat) : Int) = x by omega] at h5
  · intro hr
    induction hr with
    | @root y h1 h2 h3 =>
      have hi := Dom.rch_in hG (Av.root h1 h2 h3)
      have h4 := h.closed.1 y.n.toNat (by omega) (by
        rw [show ((y.n.toNat : Nat) : Int) = y.n by omega]
        unfold refersB
        have h9 : (⟨true, y.n⟩ : V) = y := by rw [← h2]
        rw [h9]
        simpa using h1)
      have h5 : ((y.n.toNat : Nat) : Int) ∈ L := h4
      rwa [show ((y.n.toNat : Nat) : Int) = y.n by omega] at h5
    | @step i y h0 h1 h2 h3 ih =>
      have hi := Dom.rch_in hG (Av.step h0 h1 h2 h3)
      have hi0 := Dom.rch_in hG h0
      have h4 := h.closed.2 i.toNat y.n.toNat (by omega) (by omega) (by
        show ((i.toNat : Nat) : Int) ∈ L
        rw [show ((i.toNat : Nat) : Int) = i by omega]; exact ih) (by
        unfold refF
        rw [show ((y.n.toNat : Nat) : Int) = y.n by omega, show ((i.toNat : Nat) : Int) = i by omega]
        unfold refersB
        have h9 : (⟨true, y.n⟩ : V) = y := by rw [← h2]
        rw [h9]
        simpa using h1)
      have h5 : ((y.n.toNat : Nat) : Int) ∈ L := h4
      rwa [show ((y.n.toNat : Nat) : Int) = y.n by omega] at h5

set_option maxRecDepth 100000 in
set_option maxHeartbeats 4000000 in
theorem domNested_in (g : G) (hG : Good g) (v : Value) (x y : Nat) (hx : x < g.objs.length) (hy : y < g.objs.length) (w : World) (hg : IsGraph w v g) :
    Calls Try.prog 5 #[v, .int .i64 (x : Int), .int .i64 (y : Int)] w fun e w' => e = .returned (.bool true) ∧ Below w.heap.size w w' := by
  have hg0 := hg
  obtain ⟨vo, vr, rfl, ho, hr⟩ := hg
  obtain ⟨ao, co, rfl, hlo⟩ := ho.slice
  obtain ⟨ar, cr, rfl, hlr⟩ := hr.slice
  have Hg := Lib.hid hg0
  have HG := Lib.hid hG
  have hn := hG.objs
  clear ho hr hg0 hG
  have hM0 := (Mem.start w).alloc #[.slice ao g.objs.length co, .slice ar g.roots.length cr] 25
  go_enter Try.func5, Try.ntmps5
  go_wp2_with fail
  refine (retained_yes g HG.out _ x hx _ (Hg.out.later hM0.below)).mono ?_
  rintro e w1 ⟨va, up, rfl, hS, hM1⟩
  have hM2 := hM0.callMem hM1
  have p0 : w1.cell? ⟨w.heap.size, 0, none⟩ = some (.slice ao g.objs.length co) := by have := hM2.cell 1 rfl 0; simpa using this
  have p1 : w1.cell? ⟨w.heap.size, 1, none⟩ = some (.slice ar g.roots.length cr) := by have := hM2.cell 1 rfl 1; simpa using this
  obtain ⟨aa, ca, rfl⟩ := hM2.intsSlice 0 rfl
  obtain ⟨a, ha⟩ : ∃ a, Dom.ret up (x : Int) g.objs.length = a := ⟨_, rfl⟩
  rw [ha] at hM2 ⊢
  have HS := Lib.hid hS
  have Ha := Lib.hid ha
  clear hS ha hM1 hM0
  go_wp2_with fail
  refine (retained_yes g HG.out _ y hy _ (Hg.out.later hM2.below)).mono ?_
  rintro e w2 ⟨vb, up2, rfl, hS2, hM3⟩
  obtain rfl := Dom.GrowS.unique hS2 HS.out (fun x hx => (Dom.rch_in HG.out hx).1)
  have hM4 := hM2.callMem hM3
  have q0 : w2.cell? ⟨w.heap.size, 0, none⟩ = some (.slice ao g.objs.length co) := by have := hM4.cell 2 rfl 0; simpa using this
  have q1 : w2.cell? ⟨w.heap.size, 1, none⟩ = some (.slice ar g.roots.length cr) := by have := hM4.cell 2 rfl 1; simpa using this
  obtain ⟨ab, cb, rfl⟩ := hM4.intsSlice 0 rfl
  obtain ⟨b, hb⟩ : ∃ b, Dom.ret up2 (y : Int) g.objs.length = b := ⟨_, rfl⟩
  rw [hb] at hM4 ⊢
  have Hb := Lib.hid hb
  have hax : ∀ z ∈ a, 0 ≤ z ∧ z < g.objs.length := fun z hz => by rw [← Ha.out] at hz; exact Dom.ret_in hz
  have hbx : ∀ z ∈ b, 0 ≤ z ∧ z < g.objs.length := fun z hz => by rw [← Hb.out] at hz; exact Dom.ret_in hz
  have hal : a.length ≤ 24 := by rw [← Ha.out]; have := Dom.ret_len up2 (x : Int) g.objs.length; omega
  have hbl : b.length ≤ 24 := by rw [← Hb.out]; have := Dom.ret_len up2 (y : Int) g.objs.length; omega
  have Hax := Lib.hid hax
  have Hbx := Lib.hid hbx
  clear hS2 hb hM3 hM2 hax hbx
  have hx0 : (0 : Int) ≤ (x : Int) := by omega
  have hx1 : (x : Int) < (g.objs.length : Int) := by omega
  have hy0 : (0 : Int) ≤ (y : Int) := by omega
  have hy1 : (y : Int) < (g.objs.length : Int) := by omega
  go_wp2_with fail
  refine (good_yes _ g _ (Hg.out.later hM4.below) HG.out).mono ?_
  rintro e w3 ⟨rfl, hb3⟩
  have hM5 := hM4.call hb3
  have r0 : w3.cell? ⟨w.heap.size, 0, none⟩ = some (.slice ao g.objs.length co) := by have := hM5.cell 2 rfl 0; simpa using this
  have r1 : w3.cell? ⟨w.heap.size, 1, none⟩ = some (.slice ar g.roots.length cr) := by have := hM5.cell 2 rfl 1; simpa using this
  go_wp2_with fail
  refine (reach_any g HG.out _ w3 (Hg.out.later hM5.below)).mono ?_
  rintro e w4 ⟨vl, l, dist, rfl, hF, hM6⟩
  have hM7 := hM5.callMem hM6
  have s0 : w4.cell? ⟨w.heap.size, 0, none⟩ = some (.slice ao g.objs.length co) := by have := hM7.cell 3 rfl 0; simpa using this
  have s1 : w4.cell? ⟨w.heap.size, 1, none⟩ = some (.slice ar g.roots.length cr) := by have := hM7.cell 3 rfl 1; simpa using this
  obtain ⟨al, cl, rfl⟩ := hM7.intsSlice 0 rfl
  have Hfar := Lib.hid (hF.far HG.out)
  clear hF hM6 hM5 hM4 hb3
  go_wp2_with fail
  refine (reachR_any g (by omega) _ w4 (Hg.out.later hM7.below)).mono ?_
  rintro e w5 ⟨vR, L, rfl, hL, hM8⟩
  have hM9 := hM7.callMem hM8
  have HL := Lib.hid hL
  clear hL hM8 hM7
  have hLl : L.length ≤ 24 := by
    have h1 : L.Nodup := HL.out.rising.imp (fun h => by omega)
    have h3 := h1.length_le_of_subset (l₂ := (List.range g.objs.length).map fun k : Nat => (k : Int)) fun y hy => by
      have h4 := HL.out.rng y hy
      exact List.mem_map.2 ⟨y.toNat, List.mem_range.2 (by omega), by omega⟩
    have h5 : L.length ≤ g.objs.length := by simpa using h3
    omega
  have hsl : (sorted l).length ≤ 24 := by rw [length_sorted]; have h9 : l.length ≤ g.objs.length := Hfar.out.inv.length_le; omega
  have iL := isInts_of_own (hM9.ownI 0 rfl) (by omega) (fun z hz => by have := HL.out.rng z hz; exact ⟨by omega, by omega⟩)
  have iS := isInts_of_own (hM9.ownI 1 rfl) (by omega) (fun z hz => by have := Hfar.out.inv.rng z (mem_sorted.1 hz); exact ⟨by omega, by omega⟩)
  have iB := isInts_of_own (hM9.ownI 2 rfl) (by omega) (fun z hz => by have := Hbx.out z hz; exact ⟨by omega, by omega⟩)
  have iA := isInts_of_own (hM9.ownI 3 rfl) (by omega) (fun z hz => by have := Hax.out z hz; exact ⟨by omega, by omega⟩)
  have hbb : hasB L (x : Int) = hasB a (x : Int) := by
    rw [Bool.eq_iff_iff, hasB_iff, hasB_iff, reachR_rch HG.out HL.out, ← Ha.out, Dom.ret_self HS.out hx0 hx1]
  have hc1 := has_any _ L (x : Int) w5 iL
  have hc2 := has_any _ a (x : Int) w5 iA
  rw [hbb] at hc1
  obtain ⟨bb, hbbe⟩ : ∃ bb, hasB a (x : Int) = bb := ⟨_, rfl⟩
  rw [hbbe] at hc1 hc2
  have hin := inside_yes _ _ a (sorted l) w5 iA iS (fun z hz => mem_sorted.2 (far_rch Hfar.out z (Dom.ret_rch HS.out (by rw [Ha.out]; exact hz))))
  have hab := inside_any _ _ a b w5 iA iB
  have hba := inside_any _ _ b a w5 iB iA
  have hHas := fun z => has_any _ b z w5 iB
  have HM9 := Lib.hid hM9
  have Hc1 := Lib.hid hc1
  have Hc2 := Lib.hid hc2
  have HIn := Lib.hid hin
  have Hab := Lib.hid hab
  have Hba := Lib.hid hba
  have HHas := Lib.hid hHas
  have HiA := Lib.hid iA
  clear hLl hsl iL iS iB iA hbb hc1 hc2 hbbe hin hab hba hHas hM9
  go_wp2_with fail
  refine Hc1.out.mono ?_
  rintro e w6 ⟨rfl, rfl⟩
  go_wp2_with fail
  refine Hc2.out.mono ?_
  rintro e w6 ⟨rfl, rfl⟩
  go_wp2_with fail
  refine HIn.out.mono ?_
  rintro e w6 ⟨rfl, rfl⟩
  go_wp2_with fail
  refine Hab.out.mono ?_
  rintro e w6 ⟨⟨b1, rfl, h1⟩, rfl⟩
  have H1 := Lib.hid h1
  clear h1
  cases b1 with
  | true =>
    go_wp2
    go_ret
    exact ⟨rfl, HM9.out.below⟩
  | false =>
    go_wp2_with fail
    refine Hba.out.mono ?_
    rintro e w6 ⟨⟨b2, rfl, h2⟩, rfl⟩
    have H2 := Lib.hid h2
    clear h2
    cases b2 with
    | true =>
      go_wp2
      go_ret
      exact ⟨rfl, HM9.out.below⟩
    | false =>
      have Hno : Hid (∀ z ∈ a, hasB b z = false) := Lib.hid (fun z hz => by
        cases hbz : hasB b z with
        | false => rfl
        | true =>
          have hzb := hasB_iff.1 hbz
          rw [← Ha.out] at hz
          rw [← Hb.out] at hzb
          rcases Dom.ret_nested HG.out HS.out hz hzb with h | h
          · rw [Ha.out, Hb.out] at h
            have := H1.out.2 h; cases this
          · rw [Ha.out, Hb.out] at h
            have := H2.out.2 h; cases this)
      go_wp2
      go_loop [99] (fun i => ∃ k : Nat, k ≤ a.length ∧ i = .int .i64 k) (fun i => a.length - (intOf i).toNat)
      case atStart => exact ⟨0, Nat.zero_le _, rfl⟩
      case round =>
        obtain ⟨k, hk, rfl⟩ := hrel
        by_cases hlt : k < a.length
        · obtain ⟨z, hz⟩ := get_some _ _ hlt
          obtain ⟨b9, off, cap2, hv, hb9, hn9, c9, _⟩ := HiA.out.at (Below.refl _ _) hz
          cases hv
          have hh := HHas.out z
          rw [Hno.out z (List.mem_of_getElem? hz)] at hh
          have Hh := Lib.hid hh
          clear hz hh
          go_wp2_with fail
          refine Hh.out.mono ?_
          rintro e w6 ⟨rfl, rfl⟩
          go_wp2
          go_round
          case rel => exact ⟨k + 1, by omega, by go_num⟩
          case measure => simp [intOf]; omega
        · obtain rfl : k = a.length := by omega
          go_wp2
          go_ret
          exact ⟨rfl, HM9.out.below⟩
end Go.Proofs.Ytnpbdabboecpaaa
