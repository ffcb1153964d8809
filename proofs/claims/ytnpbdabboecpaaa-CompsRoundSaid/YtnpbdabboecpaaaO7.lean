/- CompsMutual, walked at a good graph. -/
import Derived.Test.YtnpbdabboecpaaaO6
namespace Go.Proofs.Ytnpbdabboecpaaa
open Go.RowKit Go.Shelf Tarj

theorem Mem.rowSlice {B : Nat} {w0 w : World} {L : List Ent} (h : Mem B w0 w L) (k : Nat) {v : Value} {vs : List Value} (hk : L[k]? = some (rowR v vs)) : ∃ a cap, v = .slice a vs.length cap := by
  have hr : w.ownsRow B 27 1 v vs.length vs := h.row k hk
  rcases hr.2 with ⟨h1, h0⟩ | ⟨g, cap, cur, rfl, hB, hg, _⟩
  · exact ⟨none, 0, by rw [h1, h0]⟩
  · exact ⟨_, _, rfl⟩
theorem Mem.rowSliceAt {B : Nat} {w0 w : World} {L : List Ent} (h : Mem B w0 w L) (k : Nat) {a : Option Addr} {m cap : Nat} {vs : List Value} (hk : L[k]? = some (rowR (.slice a m cap) vs)) (hne : vs ≠ []) : ∃ b, a = some ⟨b, 0, none⟩ := by
  have hr : w.ownsRow B 27 1 (.slice a m cap) vs.length vs := h.row k hk
  rcases hr.2 with ⟨h1, h0⟩ | ⟨g, cap, cur, h1, hB, hg, _⟩
  · exact (hne (List.eq_nil_of_length_eq_zero h0)).elim
  · cases h1; exact ⟨g, rfl⟩
theorem rise_rising {c : List Int} (h : c.Pairwise (· < ·)) : Rising c := by
  intro k x y hx hy
  obtain ⟨h1, rfl⟩ := List.getElem?_eq_some_iff.1 hx
  obtain ⟨h2, rfl⟩ := List.getElem?_eq_some_iff.1 hy
  exact List.pairwise_iff_getElem.1 h k (k + 1) h1 h2 (by omega)
theorem flat_take {cs : List (List Int)} {k : Nat} {c : List Int} (h : cs[k]? = some c) : (cs.take (k + 1)).flatten.length = (cs.take k).flatten.length + c.length := by
  rw [take_succ_some _ _ _ h, List.flatten_append]; simp

theorem flat_le (cs : List (List Int)) (k : Nat) : (cs.take k).flatten.length ≤ cs.flatten.length := by
  conv => rhs; rw [← List.take_append_drop k cs, List.flatten_append, List.length_append]
  omega

/-- What Comps hands back, in plain words. -/
theorem comps_told (g : G) (hG : Good g) (v : Value) (w : World) (hg : IsGraph w v g) :
    Calls Try.prog 21 #[v] w fun e w' => ∃ (vl : Value) (vs : List Value) (cs : List (List Int)) (fs : List (Value × List Int)), e = .returned (.tuple #[vl, .int .i64 0]) ∧ Parts g.objs.length cs ∧ Told g cs ∧ vs.length = cs.length ∧
      (∀ (k : Nat) (c : List Int), cs[k]? = some c → ∃ (x : Value) (K : Nat), vs[k]? = some x ∧ fs[K]? = some (x, c)) ∧ Mem w.heap.size w w' (rowR vl vs :: rowsI fs) := by
  refine (comps_any g hG v w hg).mono ?_
  rintro e w' ⟨vl, comp, fs, o, rfl, hR, hT, hol, hM⟩
  have hl : (fs.map (·.2)).length = fs.length := by simp
  have hT2 : Took (EG g) (rd comp (-1)) (fs.map (·.2)).length (o.map fun c : Nat => (c : Int)) := by rw [hl]; exact hT
  have ho2 : o.length = (fs.map (·.2)).length := by rw [hl]; exact hol
  refine ⟨vl, _, _, fs, rfl, parts_of hR hT2 ho2, told_of hR hT2 ho2, by simp, ?_, hM⟩
  intro k c hc
  obtain ⟨K, h1, h2, _⟩ := cs_at hT2 hc
  rw [List.getElem?_map] at h2
  obtain ⟨r, h3, rfl⟩ := Option.map_eq_some_iff.1 h2
  exact ⟨r.1, K, by rw [List.getElem?_map, h1]; simp [List.getD_eq_getElem?_getD, h3], h3⟩

set_option maxRecDepth 100000 in
set_option maxHeartbeats 4000000 in
theorem mutual_good (g : G) (hG : Good g) (v : Value) (w : World) (hg : IsGraph w v g) :
    Calls Try.prog 6 #[v] w fun e w' => e = .returned (.bool true) ∧ Below w.heap.size w w' := by
  have hg0 := hg
  obtain ⟨vo, vr, rfl, ho, hr⟩ := hg
  obtain ⟨ao, co, rfl, hlo⟩ := ho.slice
  obtain ⟨ar, cr, rfl, hlr⟩ := hr.slice
  have Hg := Lib.hid hg0
  have HG := Lib.hid hG
  have hn := hG.objs
  clear ho hr hg0 hG
  have hM0 := (Mem.start w).alloc #[.slice ao g.objs.length co, .slice ar g.roots.length cr] 25
  go_enter Try.func6, Try.ntmps6
  go_wp2_with fail
  refine (good_yes _ g _ (Hg.out.later hM0.below) HG.out).mono ?_
  rintro e w0 ⟨rfl, hb0⟩
  have hM1 := hM0.call hb0
  obtain ⟨o0, o1⟩ := hM1.cells2 0 rfl
  go_wp2_with fail
  refine (comps_told g HG.out _ w0 (Hg.out.later hM1.below)).mono ?_
  rintro e w1 ⟨vl, vs, cs, fs, rfl, hP, hTd, hvl, hat, hMl⟩
  have hM2 := (hM1.callMem hMl).cast (L' := rowR vl vs :: (rowsI fs ++ [ebox w.heap.size #[.slice ao g.objs.length co, .slice ar g.roots.length cr] 25])) (by simp)
  obtain ⟨al, cl, rfl⟩ := hM2.rowSlice 0 rfl
  obtain ⟨q0, q1⟩ := Mem.cells2 (hM2.perm (L' := ebox w.heap.size #[.slice ao g.objs.length co, .slice ar g.roots.length cr] 25 :: (rowR (.slice al vs.length cl) vs :: rowsI fs)) (by exact (List.perm_append_comm (l₁ := [_]) (l₂ := rowR (.slice al vs.length cl) vs :: rowsI fs)))) 0 rfl
  have hM2b := hM2.perm (L' := ebox w.heap.size #[.slice ao g.objs.length co, .slice ar g.roots.length cr] 25 :: (rowR (.slice al vs.length cl) vs :: rowsI fs)) (by exact (List.perm_append_comm (l₁ := [_]) (l₂ := rowR (.slice al vs.length cl) vs :: rowsI fs)))
  have HP := Lib.hid hP
  have HTd := Lib.hid hTd
  have Hat := Lib.hid hat
  have hcn := hP.len
  rw [hvl] at hM2b ⊢
  have Hvl := Lib.hid hvl
  have HM2b := Lib.hid hM2b
  clear hP hTd hat hMl hM0 hM1 hM2 hM2b hb0 hvl o0 o1
  go_wp2_with (at_make; refine Mem.wp_makeI elemInts rfl _ _ rfl HM2b.out _ _ g.objs.length rfl rfl (by go_num) (by go_num) (by omega) ?_; intro w2 hM3 hb2)
  obtain ⟨gO, hgO⟩ : ∃ gO, w1.heap.size = gO := ⟨_, rfl⟩
  rw [hgO] at hM3 ⊢
  have HM3 := Lib.hid (hM3.cast (L' := rowI 3 (.slice (some ⟨gO, 0, none⟩) g.objs.length g.objs.length) (List.replicate g.objs.length 0) :: ebox w.heap.size #[.slice ao g.objs.length co, .slice ar g.roots.length cr] 25 :: rowR (.slice al cs.length cl) vs :: rowsI fs) (by simp))
  clear hM3 hb2 q0 q1 HM2b
  go_wp2
  go_loopw [6, 7, 8, 10, 34] (fun s6 _ _ _ s34 wr => ∃ (k q : Nat) (f : List Int), k ≤ cs.length ∧ s34 = .int .i64 (k : Int) ∧ s6 = .int .i64 (q : Int) ∧ Hid (q = (cs.take k).flatten.length) ∧ Hid (Marks g.objs.length cs k [] f) ∧ Mem w.heap.size w wr (rowI 3 (.slice (some ⟨gO, 0, none⟩) g.objs.length g.objs.length) f :: ebox w.heap.size #[.slice ao g.objs.length co, .slice ar g.roots.length cr] 25 :: rowR (.slice al cs.length cl) vs :: rowsI fs)) (fun _ _ _ _ i _ => cs.length - (intOf i).toNat)
  case atStart => exact ⟨0, 0, _, Nat.zero_le _, rfl, rfl, Lib.hid (by simp), Lib.hid (Marks.start _ _), HM3.out⟩
  case round =>
    clear HM3
    obtain ⟨k, q, f, hk, rfl, rfl, hq, hf, hM⟩ := hrel
    by_cases hlt : k < cs.length
    · obtain ⟨c, hc⟩ := get_some _ _ hlt
      obtain ⟨x, K, hx, hK⟩ := Hat.out k c hc
      have hcm := List.mem_of_getElem? hc
      have hcl := HP.out.clen hcm
      have hqn : q ≤ g.objs.length := by rw [hq.out, ← HP.out.flat_len]; exact flat_le cs k
      have hne : 0 < c.length := List.length_pos_iff.2 (HP.out.ne c hcm)
      have hrg := HP.out.rng c hcm
      have hrow : (rowI 3 (.slice (some ⟨gO, 0, none⟩) g.objs.length g.objs.length) f :: ebox w.heap.size #[.slice ao g.objs.length co, .slice ar g.roots.length cr] 25 :: rowR (.slice al cs.length cl) vs :: rowsI fs)[K + 3]? = some (rowI 3 x c) := rowsI_get hK
      obtain ⟨b, rfl⟩ := hM.rowSliceAt 2 rfl (by rintro rfl; simp at hx)
      obtain ⟨c1, c2, hb⟩ := hM.rowCell 2 rfl hx
      obtain ⟨ax, cx, rfl⟩ := hM.intsSlice (K + 3) hrow
      have iC := isInts_of_own (hM.ownI (K + 3) hrow) (by omega) (fun y hy => by have := hrg y hy; exact ⟨by omega, by omega⟩)
      obtain ⟨q0, q1⟩ := hM.cells2 1 rfl
      have hri := rise_rising (HP.out.rise c hcm)
      have Hc := Lib.hid hc
      have Hrg := Lib.hid hrg
      have Hri := Lib.hid hri
      have HiC := Lib.hid iC
      have HK := Lib.hid hK
      have HM := Lib.hid hM
      have Hf : Hid (Marks g.objs.length cs k (c.take 0) f) := Lib.hid (by simpa using hf.out)
      have hz : ¬ (c.length : Int) = 0 := by omega
      clear hc hx hK hcm hrg hrow hM iC hri hf
      go_wp2_with fail
      refine (within_yes g.objs.length _ c _ HiC.out Hrg.out).mono ?_
      rintro e w1 ⟨rfl, rfl⟩
      go_wp2_with fail
      refine (rising_yes _ c _ HiC.out Hri.out).mono ?_
      rintro e w3 ⟨rfl, hb3⟩
      have HM2 := Lib.hid (HM.out.call hb3)
      clear hb3 HM HiC c1 c2 q0 q1 hb
      go_wp2
      go_loopw [6, 10, 57] (fun s6 _ s57 wi => ∃ (j : Nat) (f2 : List Int), j ≤ c.length ∧ s57 = .int .i64 (j : Int) ∧ s6 = .int .i64 ((q + j : Nat) : Int) ∧ Hid (Marks g.objs.length cs k (c.take j) f2) ∧ Mem w.heap.size w wi (rowI 3 (.slice (some ⟨gO, 0, none⟩) g.objs.length g.objs.length) f2 :: ebox w.heap.size #[.slice ao g.objs.length co, .slice ar g.roots.length cr] 25 :: rowR (.slice (some ⟨b, 0, none⟩) cs.length cl) vs :: rowsI fs)) (fun _ _ i _ => c.length - (intOf i).toNat)
      case atStart => exact ⟨0, f, Nat.zero_le _, rfl, rfl, Hf, HM2.out⟩
      case round =>
        clear HM2 Hf
        obtain ⟨j, f2, hj, rfl, rfl, hf2, hMi⟩ := hrel
        have hrow : (rowI 3 (.slice (some ⟨gO, 0, none⟩) g.objs.length g.objs.length) f2 :: ebox w.heap.size #[.slice ao g.objs.length co, .slice ar g.roots.length cr] 25 :: rowR (.slice (some ⟨b, 0, none⟩) cs.length cl) vs :: rowsI fs)[K + 3]? = some (rowI 3 (.slice ax c.length cx) c) := rowsI_get HK.out
        by_cases hlt2 : j < c.length
        · obtain ⟨y, hy⟩ := get_some _ _ hlt2
          have hyr := Hrg.out y (List.mem_of_getElem? hy)
          obtain ⟨y, rfl⟩ : ∃ y2 : Nat, y = (y2 : Int) := ⟨y.toNat, by omega⟩
          have iC := isInts_of_own (hMi.ownI (K + 3) hrow) (by omega) (fun y hy => by have := Hrg.out y hy; exact ⟨by omega, by omega⟩)
          obtain ⟨b8, off8, cap8, hv, hb8, hn8, c8, _⟩ := iC.at (Below.refl _ _) hy
          cases hv
          obtain ⟨fy, hfy⟩ := get_some f2 y (by rw [hf2.out.len]; omega)
          obtain ⟨g1, g2⟩ := hMi.intAt 0 rfl hfy
          have hM9 := hMi.setI 0 rfl hf2.out.len y ((k : Int) + 1)
          have HM9 := Lib.hid (hM9.cast (L' := rowI 3 (.slice (some ⟨gO, 0, none⟩) g.objs.length g.objs.length) (f2.set y ((k : Int) + 1)) :: ebox w.heap.size #[.slice ao g.objs.length co, .slice ar g.roots.length cr] 25 :: rowR (.slice (some ⟨b, 0, none⟩) cs.length cl) vs :: rowsI fs) (by simp))
          have Hf9 := Lib.hid (Marks.mark HP.out Hc.out hf2.out hy)
          have hyn : y < g.objs.length := by omega
          clear hy hyr iC hfy hMi hM9 hf2 hrow
          go_wp2
          go_roundw
          case rel => exact ⟨j + 1, _, by omega, by go_num, by go_num, Hf9, HM9.out⟩
          case measure => simp [intOf]; omega
        · obtain rfl : j = c.length := by omega
          have Hf9 : Hid (Marks g.objs.length cs (k + 1) [] f2) := Lib.hid (Marks.next Hc.out (by have := hf2.out; rwa [List.take_length] at this))
          have Hq : Hid (q + c.length = (cs.take (k + 1)).flatten.length) := Lib.hid (by rw [flat_take Hc.out, hq.out])
          have HM9 := Lib.hid hMi
          clear hMi hf2 hrow
          go_wp2
          go_roundw
          case rel => exact ⟨k + 1, q + c.length, f2, by omega, by go_num, by go_num, Hq, Hf9, HM9.out⟩
          case measure => simp [intOf]; omega
    · obtain rfl : k = cs.length := by omega
      obtain rfl : q = g.objs.length := by rw [hq.out, List.take_length]; exact HP.out.flat_len
      obtain ⟨q0, q1⟩ := hM.cells2 1 rfl
      have HM := Lib.hid (hM.drop (List.Sublist.cons_cons _ (List.Sublist.cons_cons _ (List.nil_sublist _))))
      obtain ⟨Wf, hWf⟩ : ∃ Wf, Wf = wr := ⟨_, rfl⟩
      subst hWf
      clear hM hq
      go_wp2
      go_loopw [11, 12, 13, 14, 15, 16, 17] (fun s11 _ _ _ _ _ _ wr => ∃ i : Nat, i ≤ g.objs.length ∧ s11 = .int .i64 (i : Int) ∧ Mem w.heap.size w wr [rowI 3 (.slice (some ⟨gO, 0, none⟩) g.objs.length g.objs.length) f, ebox w.heap.size #[.slice ao g.objs.length co, .slice ar g.roots.length cr] 25]) (fun i _ _ _ _ _ _ _ => g.objs.length - (intOf i).toNat)
      case atStart => exact ⟨0, Nat.zero_le _, rfl, HM.out⟩
      case round =>
        clear HM q0 q1
        obtain ⟨i, hi, rfl, hM⟩ := hrel
        obtain ⟨q0, q1⟩ := hM.cells2 1 rfl
        by_cases hlt3 : i < g.objs.length
        · obtain ⟨p, c, hpc, hic⟩ := HP.out.all i hlt3
          have hpl : p < cs.length := (List.getElem?_eq_some_iff.1 hpc).1
          have hfi := hf.out.old p c i hpl hpc hic
          obtain ⟨a, ha⟩ : ∃ a, (p : Int) + 1 = a := ⟨_, rfl⟩
          rw [ha] at hfi
          obtain ⟨g1, g2⟩ := hM.intAt 0 rfl hfi
          have hz : ¬ a = 0 := by omega
          have hLe := Lib.hid (leads_own g HG.out _ i wr (Hg.out.later hM.below) hlt3)
          have Hpc := Lib.hid hpc
          have Hic := Lib.hid hic
          have Ha := Lib.hid ha
          have Hfi := Lib.hid hfi
          have HM := Lib.hid hM
          clear hpc hic ha hfi hM
          go_wp2_with fail
          refine hLe.out.mono ?_
          rintro e w5 ⟨vt, lt, dt, rfl, hFt0, hMt⟩
          have hFt := hFt0.far (fromG_good HG.out (i : Int))
          have hM2 := HM.out.callMem hMt
          obtain ⟨ts, hts⟩ : ∃ ts, sorted lt = ts := ⟨_, rfl⟩
          have hts24 : ts.length ≤ 24 := by rw [← hts, length_sorted]; have h9 : lt.length ≤ g.objs.length := hFt.inv.length_le; omega
          have htm : ∀ x, x ∈ ts ↔ ∃ j, EG' g (i : Int) j ∧ Lead (EG' g) j x := fun x => by rw [← hts, mem_sorted, hFt.iff, from_lead HG.out (by omega)]
          have hti : ∀ x ∈ ts, 0 ≤ x ∧ x < g.objs.length := fun x hx => by rw [← hts] at hx; exact hFt.inv.rng x (mem_sorted.1 hx)
          rw [hts] at hM2
          obtain ⟨at2, ct2, rfl⟩ := hM2.intsSlice 0 rfl
          have Hts := Lib.hid hts24
          have Htm := Lib.hid htm
          have Hti := Lib.hid hti
          have HM2 := Lib.hid hM2
          clear hFt hFt0 hMt hM2 hts hts24 htm hti hLe q0 q1 g1 g2 HM
          go_wp2_with fail
          go_loopw [14, 15, 16, 17] (fun s14 _ _ _ wi => ∃ j : Nat, j ≤ g.objs.length ∧ s14 = .int .i64 (j : Int) ∧ Mem w.heap.size w wi [rowI 3 (.slice at2 ts.length ct2) ts, rowI 3 (.slice (some ⟨gO, 0, none⟩) g.objs.length g.objs.length) f, ebox w.heap.size #[.slice ao g.objs.length co, .slice ar g.roots.length cr] 25]) (fun i _ _ _ _ => g.objs.length - (intOf i).toNat)
          case atStart => exact ⟨0, Nat.zero_le _, rfl, HM2.out⟩
          case round =>
            clear HM2
            obtain ⟨j, hj, rfl, hM⟩ := hrel
            obtain ⟨q0, q1⟩ := hM.cells2 2 rfl
            by_cases hlt4 : j < g.objs.length
            · obtain ⟨q, d, hqd, hjd⟩ := HP.out.all j hlt4
              have hql : q < cs.length := (List.getElem?_eq_some_iff.1 hqd).1
              have hfj := hf.out.old q d j hql hqd hjd
              have hsame := HTd.out.same p q c d i j Hpc.out hqd Hic.out hjd
              have hback := HTd.out.back p q c d i j Hpc.out hqd Hic.out hjd
              obtain ⟨b, hb⟩ : ∃ b, (q : Int) + 1 = b := ⟨_, rfl⟩
              rw [hb] at hfj
              have hLe := Lib.hid (leads_own g HG.out _ j wr (Hg.out.later hM.below) hlt4)
              have HM := Lib.hid hM
              have Hsame := Lib.hid hsame
              have Hback := Lib.hid hback
              have Hb := Lib.hid hb
              have Hfj := Lib.hid hfj
              clear hqd hjd hfj hsame hback hb hM
              go_wp2_with fail
              refine hLe.out.mono ?_
              rintro e w6 ⟨vu, lu, du, rfl, hFu0, hMu⟩
              have hFu := hFu0.far (fromG_good HG.out (j : Int))
              have hM2 := HM.out.callMem hMu
              obtain ⟨us, hus⟩ : ∃ us, sorted lu = us := ⟨_, rfl⟩
              have hus24 : us.length ≤ 24 := by rw [← hus, length_sorted]; have h9 : lu.length ≤ g.objs.length := hFu.inv.length_le; omega
              have hum : ∀ x, x ∈ us ↔ ∃ k, EG' g (j : Int) k ∧ Lead (EG' g) k x := fun x => by rw [← hus, mem_sorted, hFu.iff, from_lead HG.out (by omega)]
              have hui : ∀ x ∈ us, 0 ≤ x ∧ x < g.objs.length := fun x hx => by rw [← hus] at hx; exact hFu.inv.rng x (mem_sorted.1 hx)
              rw [hus] at hM2
              obtain ⟨au2, cu2, rfl⟩ := hM2.intsSlice 0 rfl
              have iT := isInts_of_own (hM2.ownI 1 rfl) (by have := Hts.out; omega) (fun x hx => by have := Hti.out x hx; exact ⟨by omega, by omega⟩)
              have iU := isInts_of_own (hM2.ownI 0 rfl) (by omega) (fun x hx => by have := hui x hx; exact ⟨by omega, by omega⟩)
              obtain ⟨g1, g2⟩ := hM2.intAt 2 rfl Hfi.out
              obtain ⟨g3, g4⟩ := hM2.intAt 2 rfl Hfj.out
              obtain ⟨t1, ht1⟩ : ∃ t1, hasB ts (j : Int) = t1 := ⟨_, rfl⟩
              obtain ⟨t2, ht2⟩ : ∃ t2, hasB us (i : Int) = t2 := ⟨_, rfl⟩
              have k1 : t1 = true ↔ ∃ k, EG' g (i : Int) k ∧ Lead (EG' g) k j := by rw [← ht1, hasB_iff, Htm.out]
              have k2 : t2 = true ↔ ∃ k, EG' g (j : Int) k ∧ Lead (EG' g) k i := by rw [← ht2, hasB_iff, hum]
              have Q1 : Hid (∀ X, Below w6.heap.size w6 X → Calls Try.prog 15 #[.slice at2 ts.length ct2, .int .i64 (j : Int)] X fun e w' => e = .returned (.bool t1) ∧ w' = X) := Lib.hid (fun X hX => by
                have h := has_any _ ts (j : Int) X (iT.later hX)
                rw [ht1] at h
                exact h.mono (by rintro e w' ⟨rfl, rfl⟩; exact ⟨rfl, rfl⟩))
              have Q2 : Hid (∀ X, Below w6.heap.size w6 X → Calls Try.prog 15 #[.slice au2 us.length cu2, .int .i64 (i : Int)] X fun e w' => e = .returned (.bool t2) ∧ w' = X) := Lib.hid (fun X hX => by
                have h := has_any _ us (i : Int) X (iU.later hX)
                rw [ht2] at h
                exact h.mono (by rintro e w' ⟨rfl, rfl⟩; exact ⟨rfl, rfl⟩))
              have hab : (decide (i = j) || (t1 && t2)) = (a == b) := by
                have h1 : a = b ↔ p = q := by have := Ha.out; have := Hb.out; omega
                rw [Bool.eq_iff_iff]
                simp only [Bool.or_eq_true, Bool.and_eq_true, decide_eq_true_eq, beq_iff_eq]
                rw [h1, Hsame.out, k1, k2]
                constructor
                · rintro (h | h)
                  · exact .inl (by omega)
                  · exact .inr h
                · rintro (h | h)
                  · exact .inl (by omega)
                  · exact .inr h
              have hgt : t1 = true → b ≤ a := fun h => by have := Hback.out (k1.1 h); have := Ha.out; have := Hb.out; omega
              have HM9 := Lib.hid (hM2.drop (List.sublist_cons_self _ _))
              clear hFu hFu0 hMu hM2 hus hus24 hum hui hLe q0 q1 HM iT iU ht1 ht2 k1 k2 Hsame Hback Ha Hb Hfi Hfj
              have hj1 : (0 : Int) ≤ (j : Int) := by omega
              have hj2 : (j : Int) < (g.objs.length : Int) := by omega
              have hi1 : (0 : Int) ≤ (i : Int) := by omega
              have hi2 : (i : Int) < (g.objs.length : Int) := by omega
              obtain ⟨bb, hbb⟩ : ∃ bb, (a == b) = bb := ⟨_, rfl⟩
              rw [hbb] at hab
              have x1 : (bb != bb) = false := by simp
              have x2 : bb = bb := rfl
              go_upto_region 32 with (fail)
              go_cut [17] (fun s17 W' => s17 = .bool bb ∧ W' = w6)
              case first =>
                clear x1 x2 hgt g1 g2 g3 g4
                by_cases hij : i = j
                · subst hij
                  obtain rfl : bb = true := by simpa using hab.symm
                  go_wp2_with fail
                  go_meet
                  exact ⟨rfl, rfl⟩
                · have hij2 : ¬ (i : Int) = (j : Int) := by omega
                  have hij3 : decide (i = j) = false := by simpa using hij
                  rw [hij3] at hab
                  clear hij3
                  cases t1
                  · obtain rfl : bb = false := by simpa using hab.symm
                    go_wp2_with fail
                    refine (Q1.out _ (Below.refl _ _)).mono ?_
                    rintro e w7 ⟨rfl, rfl⟩
                    go_wp2_with fail
                    go_meet
                    exact ⟨by simp [hij2], rfl⟩
                  · obtain rfl : bb = t2 := by simpa using hab.symm
                    go_wp2_with fail
                    refine (Q1.out _ (Below.refl _ _)).mono ?_
                    rintro e w7 ⟨rfl, rfl⟩
                    go_wp2_with fail
                    refine (Q2.out _ (Below.refl _ _)).mono ?_
                    rintro e w7 ⟨rfl, rfl⟩
                    go_wp2_with fail
                    go_meet
                    exact ⟨by simp [hij2], rfl⟩
              case rest =>
                obtain ⟨rfl, rfl⟩ := hcut
                clear hab x2
                cases t1
                · clear hgt
                  go_wp2_with fail
                  go_quiet (first | (go_at_call 15; with_reducible exact Calls.quiet_of_same (Q1.out _ (below_drewN (Below.refl _ _) _))) | fail)
                  go_wp2
                  go_roundw
                  case rel => exact ⟨j + 1, by omega, by go_num, HM9.out.drewN _⟩
                  case measure => simp [intOf]; omega
                · have hg : ¬ a < b := by have := hgt rfl; omega
                  have hd : decide (a < b) = false := by simpa using hgt rfl
                  clear hgt
                  go_wp2_with fail
                  go_quiet (first | (go_at_call 15; with_reducible exact Calls.quiet_of_same (Q1.out _ (below_drewN (Below.refl _ _) _))) | fail)
                  go_wp2
                  go_roundw
                  case rel => exact ⟨j + 1, by omega, by go_num, HM9.out.drewN _⟩
                  case measure => simp [intOf]; omega
            · obtain rfl : j = g.objs.length := by omega
              have HM9 := Lib.hid (hM.drop (List.sublist_cons_self _ _))
              clear hM
              go_wp2
              go_roundw
              case rel => exact ⟨i + 1, by omega, by go_num, HM9.out⟩
              case measure => simp [intOf]; omega
        · obtain rfl : i = g.objs.length := by omega
          have HB := Lib.hid hM.below
          clear hM
          go_wp2
          go_ret
          exact ⟨rfl, HB.out⟩
end Go.Proofs.Ytnpbdabboecpaaa
