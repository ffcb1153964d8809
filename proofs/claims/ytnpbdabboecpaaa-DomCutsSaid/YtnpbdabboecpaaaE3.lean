/- DomTree, walked. -/
import Derived.Test.YtnpbdabboecpaaaE2
import Derived.Test.YtnpbdabboecpaaaG2
import Derived.Test.YtnpbdabboecpaaaGr
namespace Go.Proofs.Ytnpbdabboecpaaa
open Go.RowKit Go.Shelf

theorem Mem.rowsAt {B : Nat} {w0 w : World} {L : List Ent} (h : Mem B w0 w L) (k : Nat) {v : Value} {vs : List Value} (hk : L[k]? = some (rowR v vs)) (hne : vs ≠ []) :
    ∃ g cap, v = .slice (some ⟨g, 0, none⟩) vs.length cap ∧ g < w.heap.size ∧ (∀ j x, vs[j]? = some x → w.cell? ⟨g, j, none⟩ = some x) := by
  have hr : w.ownsRow B 27 1 v vs.length vs := h.row k hk
  rcases hr.2 with ⟨_, h0⟩ | ⟨g, cap, cur, rfl, hB, hg, _⟩
  · exact (hne (List.eq_nil_of_length_eq_zero h0)).elim
  · refine ⟨g, cap, rfl, (Array.getElem?_eq_some_iff.1 hg).1, fun j x hx => ?_⟩
    rw [hr.cellAt j (by have := (List.getElem?_eq_some_iff.1 hx).1; omega)]
    exact hx

theorem hasB_iff {l : List Int} {x : Int} : hasB l x = true ↔ x ∈ l := by simp [hasB]
theorem Dom.mem_ret {up : List Int} {v y : Int} {n : Nat} : y ∈ Dom.ret up v n ↔ (0 ≤ y ∧ y < n) ∧ (Dom.upAt up y ≠ -2 ∧ Dom.Anc (Dom.upAt up) v y) := by
  unfold Dom.ret
  rw [List.mem_filter, List.mem_map]
  constructor
  · rintro ⟨⟨k, hk, rfl⟩, h⟩
    have := List.mem_range.1 hk
    exact ⟨⟨by omega, by omega⟩, by simpa using h⟩
  · rintro ⟨⟨h0, h1⟩, h⟩
    exact ⟨⟨y.toNat, List.mem_range.2 (by omega), by omega⟩, by simpa using h⟩
theorem Dom.ret_in {up : List Int} {v y : Int} {n : Nat} (h : y ∈ Dom.ret up v n) : 0 ≤ y ∧ y < n := (Dom.mem_ret.1 h).1

set_option maxRecDepth 100000 in
set_option maxHeartbeats 4000000 in
theorem domTree_good (g : G) (hG : Good g) (v : Value) (w : World) (hg : IsGraph w v g) :
    Calls Try.prog 3 #[v] w fun e w' => e = .returned (.bool true) ∧ Below w.heap.size w w' := by
  have hg0 := hg
  obtain ⟨vo, vr, rfl, ho, hr⟩ := hg
  obtain ⟨ao, co, rfl, hlo⟩ := ho.slice
  obtain ⟨ar, cr, rfl, hlr⟩ := hr.slice
  have Hg := Lib.hid hg0
  have HG := Lib.hid hG
  have hn := hG.objs
  clear ho hr hg0 hG
  have hM0 := (Mem.start w).alloc #[.slice ao g.objs.length co, .slice ar g.roots.length cr] 25
  go_enter Try.func3, Try.ntmps3
  go_wp2_with fail
  refine (good_yes _ g _ (Hg.out.later hM0.below) HG.out).mono ?_
  rintro e w1 ⟨rfl, hb⟩
  have hM1 := hM0.call hb
  have p0 : w1.cell? ⟨w.heap.size, 0, none⟩ = some (.slice ao g.objs.length co) := by have := hM1.cell 0 rfl 0; simpa using this
  have p1 : w1.cell? ⟨w.heap.size, 1, none⟩ = some (.slice ar g.roots.length cr) := by have := hM1.cell 0 rfl 1; simpa using this
  go_wp2_with fail
  refine (idom_yes g HG.out _ w1 (Hg.out.later hM1.below)).mono ?_
  rintro e w2 ⟨vu, up, rfl, hS, hM2⟩
  have hM3 := hM1.callMem hM2
  have q0 : w2.cell? ⟨w.heap.size, 0, none⟩ = some (.slice ao g.objs.length co) := by have := hM3.cell 1 rfl 0; simpa using this
  have HS := Lib.hid hS
  obtain ⟨aU, cU, rfl⟩ := hM3.intsSlice 0 rfl
  rw [hS.len] at hM3 ⊢
  have hM4 := hM3.nil 27 1
  clear hS hM3 hM2 hM1 hM0 hb
  go_wp2
  go_loopg [5, 6] g.objs.length (fun gk s5 s6 wr => ∃ (k : Nat) (fs : List (Value × List Int)), s6 = .int .i64 (k : Int) ∧ g.objs.length - k = gk ∧ k ≤ g.objs.length ∧ fs.map (·.2) = (List.range k).map (fun (v : Nat) => Dom.ret up (v : Int) g.objs.length) ∧ Mem w.heap.size w wr (rowR s5 (fs.map (·.1)) :: rowI 3 (.slice aU g.objs.length cU) up :: ebox w.heap.size #[.slice ao g.objs.length co, .slice ar g.roots.length cr] 25 :: rowsI fs))
  case atStart => exact ⟨0, [], rfl, by omega, Nat.zero_le _, rfl, hM4⟩
  case round =>
    clear hM4
    obtain ⟨k, fs, rfl, hgk, hk, hfs, hM⟩ := hrel
    have HM := Lib.hid hM
    have Hgk := Lib.hid hgk
    have Hfs := Lib.hid hfs
    clear hM hgk hfs
    obtain ⟨aK, nK, cK, rfl⟩ := HM.out.isSlice 0 rfl
    have hfl : fs.length = k := by have h := congrArg List.length Hfs.out; simpa using h
    by_cases hkn : k < g.objs.length
    · have c0 : wr.cell? ⟨w.heap.size, 0, none⟩ = some (.slice ao g.objs.length co) := by have := HM.out.cell 2 rfl 0; simpa using this
      have c1 : wr.cell? ⟨w.heap.size, 1, none⟩ = some (.slice ar g.roots.length cr) := by have := HM.out.cell 2 rfl 1; simpa using this
      have Hfl := Lib.hid hfl
      clear hfl
      go_wp2_with fail
      refine (retained_yes g HG.out _ k hkn _ (Hg.out.later HM.out.below)).mono ?_
      rintro e w3 ⟨vl, up2, rfl, hS2, hM3⟩
      obtain rfl := Dom.GrowS.unique hS2 HS.out (fun x hx => (Dom.rch_in HG.out hx).1)
      obtain ⟨al, cl, rfl⟩ := hM3.intsSlice 0 rfl
      obtain ⟨ml, hml⟩ : ∃ ml, (Dom.ret up2 (k : Int) g.objs.length).length = ml := ⟨_, rfl⟩
      rw [hml] at hM3 ⊢
      have hM4 := HM.out.callMem hM3
      have Hml := Lib.hid hml
      clear hS2 hM3 hml
      go_wp2_with (refine Mem.wp_app1 elemRows rfl (.tmp 47) (.tmp 49) rfl hM4 1 rfl rfl _ #[.slice al ml cl] _ _ rfl rfl rfl rfl (by decide) (by rw [List.length_map, Hfl.out]; omega) ?_; intro ad cp w4 hM5 hs5 hk5 ha5)
      have hM5b : Mem w.heap.size w w4 (rowI 3 (.slice al ml cl) (Dom.ret up2 (k : Int) g.objs.length) :: (([rowR (.slice ad ((fs.map (·.1)).length + 1) cp) ((fs ++ [((.slice al ml cl : Value), Dom.ret up2 (k : Int) g.objs.length)]).map (·.1)), rowI 3 (.slice aU g.objs.length cU) up2, ebox w.heap.size #[.slice ao g.objs.length co, .slice ar g.roots.length cr] 25] ++ rowsI fs) ++ [])) := hM5.cast (by simp [rowR])
      have hM6 := Mem.tailDef hM5b
      go_roundg (g.objs.length - (k + 1))
      case rel => exact ⟨k + 1, fs ++ [((.slice al ml cl : Value), Dom.ret up2 (k : Int) g.objs.length)], by go_num, rfl, by omega, by rw [List.map_append, Hfs.out, List.range_succ, List.map_append]; rfl, hM6.cast (by simp [rowsI])⟩
      case measure => have := Hgk.out; omega
    · obtain rfl : k = g.objs.length := by omega
      have Hfl := Lib.hid hfl
      clear hfl
      obtain ⟨R, hRn, hRs⟩ := HS.out.rank
      have HRn := Lib.hid hRn
      have HRs := Lib.hid hRs
      clear hRn hRs
      go_wp2
      go_loopg [9] g.objs.length (fun gi s9 wi => ∃ i : Nat, s9 = .int .i64 (i : Int) ∧ g.objs.length - i = gi ∧ i ≤ g.objs.length ∧ Mem w.heap.size w wi (rowR (.slice aK nK cK) (fs.map (·.1)) :: rowI 3 (.slice aU g.objs.length cU) up :: ebox w.heap.size #[.slice ao g.objs.length co, .slice ar g.roots.length cr] 25 :: rowsI fs))
      case atStart => exact ⟨0, rfl, by omega, Nat.zero_le _, HM.out⟩
      case round =>
        clear HM
        obtain ⟨i, rfl, hgi, hi, hM⟩ := hrel
        have HM := Lib.hid hM
        have Hgi := Lib.hid hgi
        clear hM hgi
        by_cases hin : i < g.objs.length
        · obtain ⟨gU, cU', hvU, _, _, _, _⟩ := HM.out.intsAt 1 rfl (by rintro e; have h := HS.out.len; rw [e] at h; have h2 : (0 : Nat) = g.objs.length := h; omega)
          simp only [Value.slice.injEq] at hvU
          obtain ⟨rfl, hxa, hxb⟩ := hvU
          clear hxa hxb
          obtain ⟨gK, cK', hvK, _, _⟩ := HM.out.rowsAt 0 rfl (by intro e; have h := congrArg List.length e; rw [List.length_map, Hfl.out] at h; have h2 : g.objs.length = 0 := h; omega)
          simp only [Value.slice.injEq] at hvK
          obtain ⟨rfl, hxa, hxb⟩ := hvK
          rw [List.length_map, Hfl.out] at hxa
          subst hxa
          clear hxb
          have hyi := Dom.upAt_get (up := up) (i := i) (by rw [HS.out.len]; exact hin)
          obtain ⟨yi, hyie⟩ : ∃ yi, Dom.upAt up (i : Int) = yi := ⟨_, rfl⟩
          rw [hyie] at hyi
          have Hyi := Lib.hid hyie
          have Hyi2 := Lib.hid hyi
          have Hri : Hid (yi ≠ -2 → Rch g (i : Int)) := Lib.hid (fun hy => by
            apply Classical.byContradiction
            intro h
            exact hy (by rw [← hyie]; exact (HS.out.out _ (by omega) (by omega)).2 h))
          clear hyi hyie
          go_wp2
          go_loopg [10, 11] (if yi = -2 ∨ (i : Int) = -1 then 0 else R (i : Int) + 1) (fun gj s10 s11 wj => ∃ (kk : Int) (l : List Int), s11 = .int .i64 kk ∧ (if yi = -2 ∨ kk = -1 then 0 else R kk + 1) = gj ∧ (yi = -2 → kk = (i : Int) ∧ l = []) ∧ (yi ≠ -2 → (kk = -1 ∨ Rch g kk) ∧ (∀ v : Nat, Dom.Anc (Dom.upAt up) (v : Int) (i : Int) ↔ (v : Int) ∈ l ∨ Dom.Anc (Dom.upAt up) (v : Int) kk) ∧ l.length + (if kk = -1 then 0 else R kk + 1) ≤ g.objs.length) ∧ l.length ≤ g.objs.length ∧ (∀ y ∈ l, i64ok y) ∧
            Mem w.heap.size w wj (rowI 3 s10 l :: (rowR (.slice (some ⟨gK, 0, none⟩) g.objs.length cK) (fs.map (·.1)) :: rowI 3 (.slice (some ⟨gU, 0, none⟩) g.objs.length cU) up :: ebox w.heap.size #[.slice ao g.objs.length co, .slice ar g.roots.length cr] 25 :: rowsI fs)))
          case atStart =>
            refine ⟨(i : Int), [], rfl, rfl, fun _ => ⟨rfl, rfl⟩, fun hy => ⟨.inr (Hri.out hy), fun v => by simp, ?_⟩, Nat.zero_le _, by simp, HM.out.nilI _⟩
            rw [if_neg (by omega)]
            have := HRn.out _ (Hri.out hy)
            simp
            omega
          case round =>
            clear HM
            obtain ⟨kk, l, rfl, hgj, hc1, hc2, hll, hli, hM⟩ := hrel
            obtain ⟨a1, c1, rfl⟩ := hM.intsSlice 0 rfl
            obtain ⟨nl, hnl⟩ : ∃ nl, l.length = nl := ⟨_, rfl⟩
            rw [hnl] at hM hll ⊢
            have HMl := Lib.hid hM
            have Hgj := Lib.hid hgj
            have Hc1 := Lib.hid hc1
            have Hc2 := Lib.hid hc2
            have Hli := Lib.hid hli
            have Hnl := Lib.hid hnl
            obtain ⟨d2, _⟩ := hM.intAt 2 rfl Hyi2.out
            have hll2 : (nl : Int) ≤ (g.objs.length : Int) := by omega
            clear hM hgj hc1 hc2 hli hnl
            by_cases hy : yi = -2
            · obtain ⟨rfl, rfl⟩ := Hc1.out hy
              have Hin : Hid (∀ q : Nat, (Dom.upAt up (i : Int) ≠ -2 ∧ Dom.Anc (Dom.upAt up) (q : Int) (i : Int)) ↔ (q : Int) ∈ ([] : List Int)) := Lib.hid (fun q => ⟨fun h => absurd (Hyi.out.trans hy) h.1, fun h => by simp at h⟩)
              obtain ⟨l, hl0⟩ : ∃ l : List Int, l = [] := ⟨_, rfl⟩
              rw [← hl0] at HMl Hin Hli Hnl
              subst hy
              clear Hc1 Hc2 hl0
              go_wp2
              go_loopg [12] g.objs.length (fun gq s12 wq => ∃ q : Nat, s12 = .int .i64 (q : Int) ∧ g.objs.length - q = gq ∧ q ≤ g.objs.length ∧ Mem w.heap.size w wq (rowI 3 (.slice a1 nl c1) l :: (rowR (.slice (some ⟨gK, 0, none⟩) g.objs.length cK) (fs.map (·.1)) :: rowI 3 (.slice (some ⟨gU, 0, none⟩) g.objs.length cU) up :: ebox w.heap.size #[.slice ao g.objs.length co, .slice ar g.roots.length cr] 25 :: rowsI fs)))
              case atStart => exact ⟨0, rfl, by omega, Nat.zero_le _, HMl.out⟩
              case round =>
                obtain ⟨q, rfl, hgq, hq, hM7⟩ := hrel
                have HM7 := Lib.hid hM7
                have Hgq := Lib.hid hgq
                clear hM7 hgq
                by_cases hqn : q < g.objs.length
                · obtain ⟨⟨vq, lq⟩, hrq⟩ := get_some fs q (by rw [Hfl.out]; exact hqn)
                  have hlq : lq = Dom.ret up (q : Int) g.objs.length := by
                    have h := congrArg (fun z : List (List Int) => z[q]?) Hfs.out
                    simp only [List.getElem?_map, hrq, Option.map_some] at h
                    rw [List.getElem?_range hqn] at h
                    simpa using h
                  have hlqi : ∀ y ∈ lq, i64ok y := by
                    intro y hy
                    rw [hlq] at hy
                    have := Dom.ret_in hy
                    exact ⟨by omega, by omega⟩
                  have hlql : lq.length ≤ 24 := by rw [hlq]; have := Dom.ret_len up (q : Int) g.objs.length; omega
                  have hrow : (rowI 3 (.slice a1 nl c1) l :: (rowR (.slice (some ⟨gK, 0, none⟩) g.objs.length cK) (fs.map (·.1)) :: rowI 3 (.slice (some ⟨gU, 0, none⟩) g.objs.length cU) up :: ebox w.heap.size #[.slice ao g.objs.length co, .slice ar g.roots.length cr] 25 :: rowsI fs))[q + 4]? = some (rowI 3 vq lq) := rowsI_get hrq
                  obtain ⟨aq, cq, rfl⟩ := HM7.out.intsSlice (q + 4) hrow
                  have d1 := (HM7.out.rowCell 1 rfl (j := q) (x := .slice aq lq.length cq) (by rw [List.getElem?_map, hrq]; rfl)).1
                  have hbb : hasB lq (i : Int) = hasB l (q : Int) := by
                    rw [Bool.eq_iff_iff, hasB_iff, hasB_iff, hlq, Dom.mem_ret, Hin.out]
                    constructor
                    · exact fun h => h.2
                    · exact fun h => ⟨⟨by omega, by omega⟩, h⟩
                  have hc1 := has_any _ lq (i : Int) wr (isInts_of_own (HM7.out.ownI (q + 4) hrow) (by omega) hlqi)
                  have hc2 := has_any _ l (q : Int) wr (isInts_of_own (HM7.out.ownI 0 rfl) (by rw [Hnl.out]; omega) Hli.out)
                  rw [hbb] at hc1
                  obtain ⟨bb, hbbe⟩ : ∃ bb, hasB l (q : Int) = bb := ⟨_, rfl⟩
                  rw [hbbe] at hc1 hc2
                  have Hc1 := Lib.hid hc1
                  have Hc2 := Lib.hid hc2
                  clear hc1 hc2 hbb hbbe hlqi hlql hrow hlq hrq
                  go_wp2_with fail
                  refine Hc1.out.mono ?_
                  rintro e w8 ⟨rfl, rfl⟩
                  go_wp2_with fail
                  refine Hc2.out.mono ?_
                  rintro e w8 ⟨rfl, rfl⟩
                  go_wp2
                  go_roundg (g.objs.length - (q + 1))
                  case rel => exact ⟨q + 1, by go_num, rfl, by omega, HM7.out⟩
                  case measure => have := Hgq.out; omega
                · go_wp2
                  go_roundg (g.objs.length - (i + 1))
                  case rel => exact ⟨i + 1, by go_num, rfl, by omega, HM7.out.drop (List.sublist_cons_self _ _)⟩
                  case measure => have := Hgi.out; omega
            · obtain ⟨hk1, hk2, hk3⟩ := Hc2.out hy
              have hy2 : (yi != -2) = true := by simpa using hy
              have Hk1 := Lib.hid hk1
              have Hk2 := Lib.hid hk2
              have Hk3 := Lib.hid hk3
              clear hk1 hk2 hk3 Hc1 Hc2
              by_cases hkm : kk = -1
              · subst hkm
                have Hin : Hid (∀ q : Nat, (Dom.upAt up (i : Int) ≠ -2 ∧ Dom.Anc (Dom.upAt up) (q : Int) (i : Int)) ↔ (q : Int) ∈ l) := Lib.hid (fun q => by
                  rw [Hk2.out q]
                  constructor
                  · rintro ⟨_, h | h⟩
                    · exact h
                    · exact absurd h (Dom.no_anc (by omega))
                  · exact fun h => ⟨fun e => hy (by rw [← Hyi.out]; exact e), .inl h⟩)
                go_wp2
                go_loopg [12] g.objs.length (fun gq s12 wq => ∃ q : Nat, s12 = .int .i64 (q : Int) ∧ g.objs.length - q = gq ∧ q ≤ g.objs.length ∧ Mem w.heap.size w wq (rowI 3 (.slice a1 nl c1) l :: (rowR (.slice (some ⟨gK, 0, none⟩) g.objs.length cK) (fs.map (·.1)) :: rowI 3 (.slice (some ⟨gU, 0, none⟩) g.objs.length cU) up :: ebox w.heap.size #[.slice ao g.objs.length co, .slice ar g.roots.length cr] 25 :: rowsI fs)))
                case atStart => exact ⟨0, rfl, by omega, Nat.zero_le _, HMl.out⟩
                case round =>
                  obtain ⟨q, rfl, hgq, hq, hM7⟩ := hrel
                  have HM7 := Lib.hid hM7
                  have Hgq := Lib.hid hgq
                  clear hM7 hgq
                  by_cases hqn : q < g.objs.length
                  · obtain ⟨⟨vq, lq⟩, hrq⟩ := get_some fs q (by rw [Hfl.out]; exact hqn)
                    have hlq : lq = Dom.ret up (q : Int) g.objs.length := by
                      have h := congrArg (fun z : List (List Int) => z[q]?) Hfs.out
                      simp only [List.getElem?_map, hrq, Option.map_some] at h
                      rw [List.getElem?_range hqn] at h
                      simpa using h
                    have hlqi : ∀ y ∈ lq, i64ok y := by
                      intro y hy
                      rw [hlq] at hy
                      have := Dom.ret_in hy
                      exact ⟨by omega, by omega⟩
                    have hlql : lq.length ≤ 24 := by rw [hlq]; have := Dom.ret_len up (q : Int) g.objs.length; omega
                    have hrow : (rowI 3 (.slice a1 nl c1) l :: (rowR (.slice (some ⟨gK, 0, none⟩) g.objs.length cK) (fs.map (·.1)) :: rowI 3 (.slice (some ⟨gU, 0, none⟩) g.objs.length cU) up :: ebox w.heap.size #[.slice ao g.objs.length co, .slice ar g.roots.length cr] 25 :: rowsI fs))[q + 4]? = some (rowI 3 vq lq) := rowsI_get hrq
                    obtain ⟨aq, cq, rfl⟩ := HM7.out.intsSlice (q + 4) hrow
                    have d1 := (HM7.out.rowCell 1 rfl (j := q) (x := .slice aq lq.length cq) (by rw [List.getElem?_map, hrq]; rfl)).1
                    have hbb : hasB lq (i : Int) = hasB l (q : Int) := by
                      rw [Bool.eq_iff_iff, hasB_iff, hasB_iff, hlq, Dom.mem_ret, Hin.out]
                      constructor
                      · exact fun h => h.2
                      · exact fun h => ⟨⟨by omega, by omega⟩, h⟩
                    have hc1 := has_any _ lq (i : Int) wr (isInts_of_own (HM7.out.ownI (q + 4) hrow) (by omega) hlqi)
                    have hc2 := has_any _ l (q : Int) wr (isInts_of_own (HM7.out.ownI 0 rfl) (by rw [Hnl.out]; omega) Hli.out)
                    rw [hbb] at hc1
                    obtain ⟨bb, hbbe⟩ : ∃ bb, hasB l (q : Int) = bb := ⟨_, rfl⟩
                    rw [hbbe] at hc1 hc2
                    have Hc1 := Lib.hid hc1
                    have Hc2 := Lib.hid hc2
                    clear hc1 hc2 hbb hbbe hlqi hlql hrow hlq hrq
                    go_wp2_with fail
                    refine Hc1.out.mono ?_
                    rintro e w8 ⟨rfl, rfl⟩
                    go_wp2_with fail
                    refine Hc2.out.mono ?_
                    rintro e w8 ⟨rfl, rfl⟩
                    go_wp2
                    go_roundg (g.objs.length - (q + 1))
                    case rel => exact ⟨q + 1, by go_num, rfl, by omega, HM7.out⟩
                    case measure => have := Hgq.out; omega
                  · go_wp2
                    go_roundg (g.objs.length - (i + 1))
                    case rel => exact ⟨i + 1, by go_num, rfl, by omega, HM7.out.drop (List.sublist_cons_self _ _)⟩
                    case measure => have := Hgi.out; omega
              · have hkr := Hk1.out.resolve_left hkm
                have hki := Dom.rch_in HG.out hkr
                obtain ⟨j, rfl⟩ : ∃ j : Nat, kk = (j : Int) := ⟨kk.toNat, by omega⟩
                have hjn : j < g.objs.length := by omega
                have hyj := Dom.upAt_get (up := up) (i := j) (by rw [HS.out.len]; exact hjn)
                obtain ⟨yj, hyje⟩ : ∃ yj, Dom.upAt up (j : Int) = yj := ⟨_, rfl⟩
                rw [hyje] at hyj
                have Hyj := Lib.hid hyje
                have Hyj2 := Lib.hid hyj
                have hst := HRs.out _ hkr
                rw [hyje] at hst
                have hk3 := Hk3.out
                rw [if_neg hkm] at hk3
                have Hst := Lib.hid hst
                have Hk4 := Lib.hid hk3
                clear hyj hyje hkr hst hk3
                go_wp2_with (at_builtin; refine Mem.wp_appI elemInts rfl (.tmp 82) (.tmp 84) rfl HMl.out 0 rfl rfl _ (j : Int) _ _ rfl (by simp) (by rw [Hnl.out]; omega) ?_; intro ad n1 cp w6 hn1 hM6 hs6 hk6 ha6; obtain ⟨r1, _⟩ := hM6.intAt 2 rfl Hyj2.out)
                go_roundg (if yi = -2 ∨ yj = -1 then 0 else R yj + 1)
                case rel =>
                  have hk4 := Hk4.out
                  have hnl := Hnl.out
                  refine ⟨yj, l ++ [(j : Int)], rfl, rfl, fun h => absurd h hy, fun _ => ⟨?_, ?_, ?_⟩, ?_, ?_, hM6⟩
                  · rcases Hst.out with h | ⟨h, _⟩
                    · exact .inl h
                    · exact .inr h
                  · intro v
                    rw [Hk2.out v, List.mem_append, List.mem_singleton, or_assoc]
                    refine or_congr Iff.rfl ?_
                    rw [← Hyj.out]
                    constructor
                    · exact Dom.anc_cases
                    · rintro (h | h)
                      · rw [h]; exact .here (by omega)
                      · exact .up (by omega) h
                  · rw [List.length_append]
                    simp only [List.length_cons, List.length_nil]
                    split
                    · omega
                    · rcases Hst.out with h | ⟨_, h⟩
                      · contradiction
                      · omega
                  · rw [List.length_append]
                    simp only [List.length_cons, List.length_nil]
                    omega
                  · intro y hy3
                    rcases List.mem_append.1 hy3 with h | h
                    · exact Hli.out y h
                    · rw [List.mem_singleton.1 h]; exact ⟨by omega, by omega⟩
                case measure =>
                  have h1 := Hgj.out
                  rw [if_neg (by omega)] at h1
                  split
                  · omega
                  · rcases Hst.out with h | ⟨_, h⟩
                    · omega
                    · omega
        · go_wp2
          go_ret
          exact ⟨rfl, HM.out.below⟩
end Go.Proofs.Ytnpbdabboecpaaa
